/- Part of the proof: Dkf, Dkr, Dkl, Dkm, Dkn, Move, Soz, So0, So1, StT, So2, So3. -/
import Derived.Test.YtnlkkgpcikkpoaaGreatJAf
import Derived.KernelRfl
import Derived.Test.YtnlkkgpcikkpoaaGreatJAe
import Derived.Lib.Bytealg
import Derived.Test.YtnlkkgpcikkpoaaGreatChecked
import Derived.Lib.Strings
import Derived.Lib.Walk
import Derived.WalkKit
import Derived.Lib.BytesEntry
open Array renaming toArray_toList→aqq
open Bool renaming and_eq_true→apt,not_eq_true'→arm
open ByteArray renaming empty→apj
open Classical renaming propDecidable→apF
open Go renaming Calls→asL,Code→apV,FuncId→apQ,MapEntry→apM,Value→ape,World→aps,run_callFunc_extern→ats
open Go.Extern.BytealgCompare renaming compare→ava
open Go.Extern.BytealgIndexByte renaming indexByte→arz
open Go.Extern.Bytes renaming asByte→auC,bytesOf→atm
open Go.IntKind renaming i64→apr,wrap→apc
open Go.Lib renaming bytesOf→aue,compareBytes→aqD,indexByte→avo
open Go.MapEntry renaming mk→aqE
open Go.Oper renaming upon_value→aua
open Go.Proofs.Tryz renaming func104→avD,func80→avO,ntmps80→avC,prog→av9
open Go.Result renaming andThen→asM
open Go.Value renaming int→apm,map→arD,pointer→aqo,string→apJ
open Int renaming toNat→apd
open List renaming all→aph,all_append→atl,all_eq_true→apR,any_eq_false→ar0,append_nil→aqF,drop→aqV,drop_drop→aqu,filter_append→auI,foldl_cons→ari,getElem?_append_right→apZ,getElem?_cons_succ→aqt,getElem?_cons_zero→ap3,getElem?_drop→aqz,getElem?_eq_getElem→apl,getElem?_eq_some_iff→app,getElem?_map→aqJ,getElem?_of_mem→aqG,getElem?_take_of_lt→asG,length→apb,length_append→apv,length_cons→ap1,length_drop→aqp,length_take→ap8,map→apS,map_append→aqa,map_congr_left→arc,map_id→atG,map_map→arT,mem_cons→apx,mem_cons_of_mem→apB,mem_cons_self→apC,mem_map_of_mem→arn,mem_of_getElem?→apX,mem_singleton→aqd,nodup_append→aqk,pairwise_append→asv,pairwise_cons→asl,range→arO,replicate→aum,set_append_right→as9,take→apE,take_append_drop→aqv,zip_cons_cons→asi,zip_nil_right→asF
open Nat renaming beq→apw,ble→apG,blt→apy,eq_of_beq_eq_true→apz,zero_add→aqR
open Option.some renaming injEq→api
open Prod.mk renaming injEq→apn
open UInt8 renaming le_antisymm→atP
set_option linter.unusedVariables false
set_option linter.unusedSimpArgs false
set_option maxRecDepth 100000
namespace Go.Proofs.YtnlkkgpcikkpoaaGreat
open Go Vm Go.RowKit
noncomputable section
def ZN(sc:List (Int×Int))(x0:List ape)(es:List apM)(ck:Nat)(f5:List ape)(dm dc dr:Int):List (apQ×Sum):=[(69,Sum.one (fun _ _=>some dX) [ao 0] (fE sc x0 es ck 0 f5 dm dc dr) (.ret (aa (cE sc dc))) (fE sc x0 es ck 0 f5 dm (apc .i64 (dc+1)) (cR sc dc dr)))]
theorem ZO(sc:List (Int×Int))(x0:List ape)(es:List apM)(ck:Nat)(f5:List ape)(dm dc dr:Int)(hs:(apb sc)≤1000000)(h0:x0.all af=true)(he:b9 es=true)(h5:f5.all af=true):dw av9 (dM av9 (dN (ZN sc x0 es ck f5 dm dc dr)) 50 40):=
 dR du mixed (ed (.cons (bp.one (N1 sc x0 es ck 0 f5 dm dc dr hs h0 he h5)) .nil)) 50 40
theorem ZP{es:List apM}{x:Int}{f:Option (Nat×ape)}(hf:fh (aa x) es 0=some f)(sc:List (Int×Int))(x0:List ape)(ck:Nat)(f5:List ape)(dm dc dr:Int):aE av9 68 [ao 0,aa x] (fE sc x0 es ck 0 f5 dm dc dr) fun r o=>r=.ret (v8 f)∧o=fE sc x0 es ck 0 f5 dm dc dr:=GM rfl rfl (by simp[fE]) hf
theorem ZQ{es:List apM}{x:Int}{f:Option (Nat×ape)}(hf:fh (aa x) es 0=some f)(sc:List (Int×Int))(b:ByteArray)(ck:Nat)(fb:ByteArray)(dm dc dr:Int):aE av9 68 [ao 0,aa x] (fI sc (ai b) es ck fb.size (ai fb) dm dc dr) fun r o=>r=.ret (v8 f)∧o=fI sc (ai b) es ck fb.size (ai fb) dm dc dr:=GM rfl rfl (by simp[fI]) hf
def ZR(sc:List (Int×Int))(x0:List ape)(es:List apM)(ck:Nat)(f5:List ape)(dm dc dr:Int)(no:Int)(v:ape):List (apQ×Sum):=[(68,Sum.one (fun _ _=>some dX) [ao 0,aa no] (fE sc x0 es ck 0 f5 dm dc dr) (.ret v) (fE sc x0 es ck 0 f5 dm dc dr)),(69,Sum.one (fun _ _=>some dX) [ao 0] (fE sc x0 es ck 0 f5 dm dc dr) (.ret (aa (cE sc dc))) (fE sc x0 es ck 0 f5 dm (apc .i64 (dc+1)) (cR sc dc dr)))]
theorem Bp(sc:List (Int×Int))(x0:List ape)(es:List apM)(ck:Nat)(f5:List ape)(dm dc dr no:Int)(v:ape)(hs:(apb sc)≤1000000)(h0:x0.all af=true)(he:b9 es=true)(h5:f5.all af=true){f:Option (Nat×ape)}(hf:fh (aa no) es 0=some f)(hv:v=v8 f):dw av9 (dM av9 (dN (ZR sc x0 es ck f5 dm dc dr no v)) 50 40):=by
 subst hv
 exact dR du mixed (ed (.cons (bp.one (ZP hf sc x0 ck f5 dm dc dr)) (.cons (bp.one (N1 sc x0 es ck 0 f5 dm dc dr hs h0 he h5)) .nil))) 50 40
def ZS(sc:List (Int×Int))(b:ByteArray)(es:List apM)(ck:Nat)(fb:ByteArray)(dm dc dr:Int)(no:Int):List (apQ×Sum):=[(68,Sum.one (fun _ _=>some dX) [ao 0,aa no] (fI sc (ai b) es ck fb.size (ai fb) dm dc dr) (.ret (ao 4)) (fI sc (ai b) es ck fb.size (ai fb) dm dc dr)),(69,Sum.one (fun _ _=>some dX) [ao 0] (fI sc (ai b) es ck fb.size (ai fb) dm dc dr) (.ret (aa (cE sc dc))) (fI sc (ai b) es ck fb.size (ai fb) dm (apc .i64 (dc+1)) (cR sc dc dr)))]
theorem ZT(sc:List (Int×Int))(b:ByteArray)(es:List apM)(ck:Nat)(fb:ByteArray)(dm dc dr no:Int)(hs:(apb sc)≤1000000)(he:b9 es=true){i:Nat}(hf:fh (aa no) es 0=some (some (i,ao 4))):dw av9 (dM av9 (dN (ZS sc b es ck fb dm dc dr no)) 50 40):=
 dR du mixed (ed (.cons (bp.one (ZQ hf sc b ck fb dm dc dr)) (.cons (bp.one (N0 sc (ai b) es ck fb.size (ai fb) dm dc dr hs (by simp) he (by simp))) .nil))) 50 40
noncomputable def ZU:List apV:=aY (dz av9 97)
noncomputable def N4:List apV:=aY (dz av9 43)
noncomputable def N5:List apV:=aY (dz av9 98)
noncomputable def ZV:List apV:=aY (dz av9 71)
noncomputable def ZW:List apV:=aY (dz av9 20)
open Tree renaming aN→mN,dj→mF,eT→mL,fz→mQ,dB→mR,fH→mE
def N6:Nat→Bool→Bool→Tree→Tree
 |0,_,_,t=>t
 |n+1,d,b,t=>.cD d b (N6 n d b t)
theorem N7{R:bd→aj→Prop}{c v:Bool}{t:Tree}(n:Nat)(h1:c=v)(h2:t.ok R):(N6 n c v t).ok R:=by
 induction n with
 |zero=>exact h2
 |succ n ih=>exact⟨h1,ih⟩
abbrev sr:=fun(sc:List (Int×Int)) x0 es (ck:Nat) f5 (dm dc dr:Int)=>([ab ([ah 2 (apb sc),.map (some 3),aa dm,aa dc,aa dr]) 80,ab x0 5,ab (aD sc) 77,.map es ck,ab [] 173,ab f5 5]:List ag)
abbrev N8:=fun(sc:List (Int×Int)) x0 es (ck:Nat) f5 (dm dc dr:Int)=>(⟨[(2,aa 0),(3,aa 17)],sr sc x0 es ck f5 dm dc dr⟩:aj)
theorem ZX(sc:List (Int×Int))(x0 es)(ck:Nat)(f5)(dm dc dr:Int){Q:bg}(aR:aph x0 af=true)(cq:aph (bt [0,1,2,3,4,5] es) af=true)(br:aph f5 af=true)(hq:Q (.ret (.tuple #[aa 0,aa 17])) (sr sc x0 es ck f5 dm dc dr)):aF av9 97 47 6 Q .ret (N8 sc x0 es ck f5 dm dc dr):=aF.ret (vs:=[aa 0,aa 17]) (l:=[]) (bs:=[0,1,2,3,4,5]) (pl:=[1,2,3,5]) (q:=[x0,aD sc,bt [0,1,2,3,4,5] es,f5]) (fun u=>by kernel_rfl) (by kernel_rfl) (aC aR (aC (aW sc) (aC cq (aC br bc)))) hq
abbrev N9:=fun(sc:List (Int×Int)) x0 es (ck:Nat) f5 (dm dc dr:Int)=>(⟨[(2,aa 0),(3,aa (cE sc dc))],[ab ([ah 2 (apb sc),.map (some 3),aa dm,.int .i64 (apc .i64 (dc+1)),aa (cR sc dc dr)]) 80,ab x0 5,ab (aD sc) 77,.map es ck,ab [] 173,ab f5 5]⟩:aj)
theorem ZY(sc:List (Int×Int))(x0 es)(ck:Nat)(f5)(dm dc dr:Int){Q:bg}(aR:aph x0 af=true)(cq:aph (bt [0,1,2,3,4,5] es) af=true)(br:aph f5 af=true)(hq:Q (.ret (.tuple #[aa 0,aa (cE sc dc)])) [ab ([ah 2 (apb sc),.map (some 3),aa dm,.int .i64 (apc .i64 (dc+1)),aa (cR sc dc dr)]) 80,ab x0 5,ab (aD sc) 77,.map es ck,ab [] 173,ab f5 5]):aF av9 97 47 6 Q .ret (N9 sc x0 es ck f5 dm dc dr):=aF.ret (vs:=[aa 0,aa (cE sc dc)]) (l:=[]) (bs:=[0,1,2,3,4,5]) (pl:=[1,2,3,5]) (q:=[x0,aD sc,bt [0,1,2,3,4,5] es,f5]) (fun u=>by kernel_rfl) (by kernel_rfl) (aC aR (aC (aW sc) (aC cq (aC br bc)))) hq
abbrev Oa:=fun(sc:List (Int×Int)) x0 es (ck:Nat) f5 (dm dc dr:Int)=>(⟨[(2,.int .i64 (apc .i64 (dm+1))),(3,aa 0)],[ab ([ah 2 (apb sc),.map (some 3),.int .i64 (apc .i64 (dm+1)),.int .i64 (apc .i64 (dc+1)),aa (cR sc dc dr)]) 80,ab x0 5,ab (aD sc) 77,.map (es++[aqE (apm apr (apc .i64 (dm+1))) (ao 6) ck]) (ck+1),ab [] 173,ab f5 5,ab [b8] 173]⟩:aj)
theorem ZZ(sc:List (Int×Int))(x0 es)(ck:Nat)(f5)(dm dc dr:Int){Q:bg}(aR:aph x0 af=true)(cq:aph (bt [0,1,2,3,4,5,6] (es++[aqE (apm apr (apc .i64 (dm+1))) (ao 6) ck])) af=true)(br:aph f5 af=true)(hq:Q (.ret (.tuple #[.int .i64 (apc .i64 (dm+1)),aa 0])) [ab ([ah 2 (apb sc),.map (some 3),.int .i64 (apc .i64 (dm+1)),.int .i64 (apc .i64 (dc+1)),aa (cR sc dc dr)]) 80,ab x0 5,ab (aD sc) 77,.map (es++[aqE (apm apr (apc .i64 (dm+1))) (ao 6) ck]) (ck+1),ab [] 173,ab f5 5,ab [b8] 173]):aF av9 97 47 6 Q .ret (Oa sc x0 es ck f5 dm dc dr):=aF.ret (vs:=[.int .i64 (apc .i64 (dm+1)),aa 0]) (l:=[]) (bs:=[0,1,2,3,4,5,6]) (pl:=[1,2,3,5]) (q:=[x0,aD sc,bt [0,1,2,3,4,5,6] (es++[aqE (apm apr (apc .i64 (dm+1))) (ao 6) ck]),f5]) (fun u=>by kernel_rfl) (by kernel_rfl) (aC aR (aC (aW sc) (aC cq (aC br bc)))) hq
theorem Z0(sc:List (Int×Int))(x0:List ape)(es:List apM)(ck:Nat)(f5:List ape)(dm dc dr:Int)(hs:(apb sc)≤1000000)(h0:x0.all af=true)(he:b9 es=true)(h5:f5.all af=true)(vJ:0≤dm)(lY:dm≤64)(hw:apc .i64 (dm+1)=dm+1)(hp:(aD sc).all af=true)(h6:(bt dX es).all af=true)(h4:(es.map (dW fun i=>(dX++ff 6 0)[i]?)).all af=true){Q:aQ}(aR:aph x0 af=true)(be:aph (aD sc) af=true)(bB:aph (bt [0,1,2,3,4,5] es) af=true)(br:aph f5 af=true)(l4:(dm==64)=true→Q .ret (N8 sc x0 es ck f5 dm dc dr))(n5:(dm==64)=false→(eD [ao 0] [ao 0] [ab [ah 2 (apb sc),arD (some (0+1+1+1)),aa dm,aa dc,aa dr] 80,ab x0 5,ab (aD sc) 77,ag.map es ck,ab [] 173,ab f5 5] (fE sc x0 es ck 0 f5 dm dc dr))=true)(l6:(dm==64)=false→(cE sc dc != 0)=true→Q .ret (N9 sc x0 es ck f5 dm dc dr))(n7:(dm==64)=false→(cE sc dc != 0)=false→(x7 es (apm apr (apc .i64 (dm+1))))=true)(jG:aph (bt [0,1,2,3,4,5,6] (es++[aqE (apm apr (apc .i64 (dm+1))) (ao 6) ck])) af=true)(l9:(dm==64)=false→(cE sc dc != 0)=false→Q .ret (Oa sc x0 es ck f5 dm dc dr)):an av9 47 6 ZU ⟨[(0,ao 0)],[ab [ah 2 (apb sc),.map (some 3),aa dm,aa dc,aa dr] 80,ab x0 5,ab (aD sc) 77,.map es ck,ab [] 173,ab f5 5]⟩ Q:=
 aS (ZO sc x0 es ck f5 dm dc dr hs h0 he h5) 1000 (.fork 9 (.leaf [2,3] [0,1,2,3,4,5] [1,2,3,5]) (aA [3,1,1,1,1,1,1,1,1] (.fork 0 (.leaf [2,3] [0,1,2,3,4,5] [1,2,3,5]) (aA [8,1] (.leaf [2,3] [0,1,2,3,4,5,6] [1,2,3,5]))))) (fun u=>by kernel_rfl) (mF (c:=dm==64) (fun h0=>(mN aR (mN (aW sc) (mN bB (mN br (mR (l4 h0))))))) (fun h0=>(mN (show(aph x0 af)=true by assumption) (mN (aW sc) (mN (show(aph (apS (dW (eX dX)) es) af)=true by assumption) (mN (show(aph f5 af)=true by assumption) (mN (n5 h0) (mN (show(aph x0 af)=true by assumption) (mN (aW sc) (mN (show(aph (apS (dW fun i=>(dX++ff 6 (apb (fE sc x0 es ck 0 f5 dm (apc .i64 (dc+1)) (cR sc dc dr))-6))[i]?) es) af)=true by assumption) (mN (show(aph f5 af)=true by assumption) (mF (c:=cE sc dc != 0) (fun h1=>(mN aR (mN (aW sc) (mN bB (mN br (mR (l6 h0 h1))))))) (fun h1=>(mN (n7 h0 h1) (mN aR (mN (aW sc) (mN jG (mN br (mR (l9 h0 h1))))))))))))))))))))
abbrev Ob:=fun(sc:List (Int×Int)) x0 es (ck:Nat) f5 (dm dc dr no:Int) (kb ks i:Nat)=>(⟨[(4,aa (cE sc dc))],[ab ([ah 2 (apb sc),.map (some 3),aa dm,.int .i64 (apc .i64 (dc+1)),aa (cR sc dc dr)]) 80,ab x0 5,ab (aD sc) 77,.map (oK es (aa no)) ck,ab [] 173,ab f5 5]⟩:aj)
theorem Z1(sc:List (Int×Int))(x0 es)(ck:Nat)(f5)(dm dc dr no:Int)(kb ks i:Nat){Q:bg}(aR:aph x0 af=true)(cq:aph (bt [0,1,2,3,4,5] (oK es (aa no))) af=true)(br:aph f5 af=true)(hq:Q (.ret (aa (cE sc dc))) [ab ([ah 2 (apb sc),.map (some 3),aa dm,.int .i64 (apc .i64 (dc+1)),aa (cR sc dc dr)]) 80,ab x0 5,ab (aD sc) 77,.map (oK es (aa no)) ck,ab [] 173,ab f5 5]):aF av9 43 20 6 Q .ret (Ob sc x0 es ck f5 dm dc dr no kb ks i):=aF.ret (vs:=[aa (cE sc dc)]) (l:=[]) (bs:=[0,1,2,3,4,5]) (pl:=[1,2,3,5]) (q:=[x0,aD sc,bt [0,1,2,3,4,5] (oK es (aa no)),f5]) (fun u=>by kernel_rfl) (by kernel_rfl) (aC aR (aC (aW sc) (aC cq (aC br bc)))) hq
abbrev Oc:=fun(sc:List (Int×Int)) x0 es (ck:Nat) f5 (dm dc dr no:Int) (kb ks i:Nat)=>(⟨[(4,aa (cE sc dc))],[ab ([ah 2 (apb sc),.map (some 3),aa dm,.int .i64 (apc .i64 (dc+1)),aa (cR sc dc dr)]) 80,ab x0 5,ab (aD sc) 77,.map es ck,ab [] 173,ab f5 5]⟩:aj)
theorem Z2(sc:List (Int×Int))(x0 es)(ck:Nat)(f5)(dm dc dr no:Int)(kb ks i:Nat){Q:bg}(aR:aph x0 af=true)(cq:aph (bt [0,1,2,3,4,5] es) af=true)(br:aph f5 af=true)(hq:Q (.ret (aa (cE sc dc))) [ab ([ah 2 (apb sc),.map (some 3),aa dm,.int .i64 (apc .i64 (dc+1)),aa (cR sc dc dr)]) 80,ab x0 5,ab (aD sc) 77,.map es ck,ab [] 173,ab f5 5]):aF av9 43 20 6 Q .ret (Oc sc x0 es ck f5 dm dc dr no kb ks i):=aF.ret (vs:=[aa (cE sc dc)]) (l:=[]) (bs:=[0,1,2,3,4,5]) (pl:=[1,2,3,5]) (q:=[x0,aD sc,bt [0,1,2,3,4,5] es,f5]) (fun u=>by kernel_rfl) (by kernel_rfl) (aC aR (aC (aW sc) (aC cq (aC br bc)))) hq
theorem Z3(sc:List (Int×Int))(x0:List ape)(es:List apM)(ck:Nat)(f5:List ape)(dm dc dr no:Int)(kb ks i:Nat)(hs:(apb sc)≤1000000)(h0:x0.all af=true)(he:b9 es=true)(h5:f5.all af=true)(hf:fh (aa no) es 0=some (some (i,.pointer (some ⟨kb,ks,some 0⟩))))(hk:vw es (aa no)=true)(hp:(aD sc).all af=true)(h6:(bt dX es).all af=true)(h4:(es.map (dW fun i=>(dX++ff 6 0)[i]?)).all af=true){Q:aQ}(n0:(eD [ao 0,aa no] [ao 0,aa no] [ab [ah 2 (apb sc),arD (some (0+1+1+1)),aa dm,aa dc,aa dr] 80,ab x0 5,ab (aD sc) 77,ag.map es ck,ab [] 173,ab f5 5] (fE sc x0 es ck 0 f5 dm dc dr))=true)(n1:(eD [ao 0] [ao 0] [ab [ah 2 (apb sc),arD (some (0+1+1+1)),aa dm,aa dc,aa dr] 80,ab x0 5,ab (aD sc) 77,ag.map es ck,ab [] 173,ab f5 5] (fE sc x0 es ck 0 f5 dm dc dr))=true)(aR:aph x0 af=true)(be:aph (aD sc) af=true)(bB:aph (bt [0,1,2,3,4,5] (oK es (aa no))) af=true)(br:aph f5 af=true)(l6:(cE sc dc==0)=true→Q .ret (Ob sc x0 es ck f5 dm dc dr no kb ks i))(jG:aph (bt [0,1,2,3,4,5] es) af=true)(l8:(cE sc dc==0)=false→Q .ret (Oc sc x0 es ck f5 dm dc dr no kb ks i)):an av9 20 6 N4 ⟨[(0,ao 0),(1,aa no)],[ab [ah 2 (apb sc),.map (some 3),aa dm,aa dc,aa dr] 80,ab x0 5,ab (aD sc) 77,.map es ck,ab [] 173,ab f5 5]⟩ Q:=
 aS (Bp sc x0 es ck f5 dm dc dr no (.pointer (some ⟨kb,ks,some 0⟩)) hs h0 he h5 hf rfl) 1000 (aA [3,1,1,1,1,1,1,1,1,5,1,1,1,1,1,1,1,1] (.fork 0 (aA [2,1] (.leaf [4] [0,1,2,3,4,5] [1,2,3,5])) (.leaf [4] [0,1,2,3,4,5] [1,2,3,5]))) (fun u=>by kernel_rfl) (mN (show(aph x0 af)=true by assumption) (mN (aW sc) (mN (show(aph (apS (dW (eX dX)) es) af)=true by assumption) (mN (show(aph f5 af)=true by assumption) (mN n0 (mN (show(aph x0 af)=true by assumption) (mN (aW sc) (mN (show(aph (apS (dW fun i=>(dX++ff 6 (apb (fE sc x0 es ck 0 f5 dm dc dr)-6))[i]?) es) af)=true by assumption) (mN (show(aph f5 af)=true by assumption) (mN (show(aph x0 af)=true by assumption) (mN (aW sc) (mN (show(aph (apS (dW (eX dX)) es) af)=true by assumption) (mN (show(aph f5 af)=true by assumption) (mN n1 (mN (show(aph x0 af)=true by assumption) (mN (aW sc) (mN (show(aph (apS (dW fun i=>(dX++ff 6 (apb (fE sc x0 es ck 0 f5 dm (apc .i64 (dc+1)) (cR sc dc dr))-6))[i]?) es) af)=true by assumption) (mN (show(aph f5 af)=true by assumption) (mF (c:=cE sc dc==0) (fun h0=>(mN (show(vw es (aa no))=true by assumption) (mN aR (mN (aW sc) (mN bB (mN br (mR (l6 h0)))))))) (fun h0=>(mN aR (mN (aW sc) (mN jG (mN br (mR (l8 h0))))))))))))))))))))))))))
abbrev Od:=fun(sc:List (Int×Int)) x0 es (ck:Nat) f5 (dm dc dr no:Int)=>(⟨[(4,aa 1)],sr sc x0 es ck f5 dm dc dr⟩:aj)
theorem Z4(sc:List (Int×Int))(x0 es)(ck:Nat)(f5)(dm dc dr no:Int){Q:bg}(aR:aph x0 af=true)(cq:aph (bt [0,1,2,3,4,5] es) af=true)(br:aph f5 af=true)(hq:Q (.ret (aa 1)) (sr sc x0 es ck f5 dm dc dr)):aF av9 43 20 6 Q .ret (Od sc x0 es ck f5 dm dc dr no):=aF.ret (vs:=[aa 1]) (l:=[]) (bs:=[0,1,2,3,4,5]) (pl:=[1,2,3,5]) (q:=[x0,aD sc,bt [0,1,2,3,4,5] es,f5]) (fun u=>by kernel_rfl) (by kernel_rfl) (aC aR (aC (aW sc) (aC cq (aC br bc)))) hq
theorem Z5(sc:List (Int×Int))(x0:List ape)(es:List apM)(ck:Nat)(f5:List ape)(dm dc dr no:Int)(hs:(apb sc)≤1000000)(h0:x0.all af=true)(he:b9 es=true)(h5:f5.all af=true)(hf:fh (aa no) es 0=some none)(hp:(aD sc).all af=true)(h6:(bt dX es).all af=true)(h4:(es.map (dW fun i=>(dX++ff 6 0)[i]?)).all af=true){Q:aQ}(n0:(eD [ao 0,aa no] [ao 0,aa no] [ab [ah 2 (apb sc),arD (some (0+1+1+1)),aa dm,aa dc,aa dr] 80,ab x0 5,ab (aD sc) 77,ag.map es ck,ab [] 173,ab f5 5] (fE sc x0 es ck 0 f5 dm dc dr))=true)(aR:aph x0 af=true)(be:aph (aD sc) af=true)(bB:aph (bt [0,1,2,3,4,5] es) af=true)(br:aph f5 af=true)(l5:Q .ret (Od sc x0 es ck f5 dm dc dr no)):an av9 20 6 N4 ⟨[(0,ao 0),(1,aa no)],[ab [ah 2 (apb sc),.map (some 3),aa dm,aa dc,aa dr] 80,ab x0 5,ab (aD sc) 77,.map es ck,ab [] 173,ab f5 5]⟩ Q:=
 aS (Bp sc x0 es ck f5 dm dc dr no (.pointer none) hs h0 he h5 hf rfl) 1000 (aA [3,1,1,1,1,1,1,1,1] (.leaf [4] [0,1,2,3,4,5] [1,2,3,5])) (fun u=>by kernel_rfl) (mN (show(aph x0 af)=true by assumption) (mN (aW sc) (mN (show(aph (apS (dW (eX dX)) es) af)=true by assumption) (mN (show(aph f5 af)=true by assumption) (mN n0 (mN (show(aph x0 af)=true by assumption) (mN (aW sc) (mN (show(aph (apS (dW fun i=>(dX++ff 6 (apb (fE sc x0 es ck 0 f5 dm dc dr)-6))[i]?) es) af)=true by assumption) (mN (show(aph f5 af)=true by assumption) (mN aR (mN (aW sc) (mN bB (mN br (mR l5))))))))))))))
abbrev Bq:=fun(sc:List (Int×Int)) b es (ck:Nat) (fb:ByteArray) (dm dc dr:Int)=>([ab ([ah 2 (apb sc),.map (some 3),aa dm,aa dc,aa dr]) 80,ab (ai b) 5,ab (aD sc) 77,.map es ck,ab [ah 5 fb.size] 173,ab (ai fb) 5]:List ag)
abbrev Oe:=fun(sc:List (Int×Int)) b es (ck:Nat) fb (dm dc dr no:Int) (i:Nat)=>(⟨[(6,aa 1)],Bq sc b es ck fb dm dc dr⟩:aj)
theorem Z6(sc:List (Int×Int))(b es)(ck:Nat)(fb)(dm dc dr no:Int)(i:Nat){Q:bg}(cq:aph (bt [0,1,2,3,4,5] es) af=true)(hq:Q (.ret (aa 1)) (Bq sc b es ck fb dm dc dr)):aF av9 98 40 6 Q .ret (Oe sc b es ck fb dm dc dr no i):=aF.ret (vs:=[aa 1]) (l:=[]) (bs:=[0,1,2,3,4,5]) (pl:=[1,2,3,5]) (q:=[ai b,aD sc,bt [0,1,2,3,4,5] es,ai fb]) (fun u=>by kernel_rfl) (by kernel_rfl) (aC (aH b) (aC (aW sc) (aC cq (aC (aH fb) bc)))) hq
abbrev Of:=fun(sc:List (Int×Int)) b es (ck:Nat) fb (dm dc dr no:Int) (i:Nat)=>(⟨[(6,aa 1)],Bq sc b es ck fb dm dc dr⟩:aj)
theorem Z7(sc:List (Int×Int))(b es)(ck:Nat)(fb)(dm dc dr no:Int)(i:Nat){Q:bg}(cq:aph (bt [0,1,2,3,4,5] es) af=true)(hq:Q (.ret (aa 1)) (Bq sc b es ck fb dm dc dr)):aF av9 98 40 6 Q .ret (Of sc b es ck fb dm dc dr no i):=aF.ret (vs:=[aa 1]) (l:=[]) (bs:=[0,1,2,3,4,5]) (pl:=[1,2,3,5]) (q:=[ai b,aD sc,bt [0,1,2,3,4,5] es,ai fb]) (fun u=>by kernel_rfl) (by kernel_rfl) (aC (aH b) (aC (aW sc) (aC cq (aC (aH fb) bc)))) hq
abbrev Og:=fun(sc:List (Int×Int)) (b:ByteArray) es (ck:Nat) (fb:ByteArray) (dm dc dr no:Int) (i:Nat)=>(⟨[(6,aa (cE sc dc))],[ab ([ah 2 (apb sc),.map (some 3),aa dm,.int .i64 (apc .i64 (dc+1)),aa (cR sc dc dr)]) 80,ab (ai b) 5,ab (aD sc) 77,.map es ck,ab [ah 6 (fb.size+b.size)] 173,.dead,ab (ai fb++apE (b.size*1) (ai b)) 5]⟩:aj)
theorem Z8(sc:List (Int×Int))(b:ByteArray)(es)(ck:Nat)(fb:ByteArray)(dm dc dr no:Int)(i:Nat){Q:bg}(aR:aph (ai b) af=true)(be:aph (aD sc) af=true)(cq:aph (bt [0,1,2,3,4,5,6] es) af=true)(hq:Q (.ret (aa (cE sc dc))) [ab ([ah 2 (apb sc),.map (some 3),aa dm,.int .i64 (apc .i64 (dc+1)),aa (cR sc dc dr)]) 80,ab (ai b) 5,ab (aD sc) 77,.map es ck,ab [ah 6 (fb.size+b.size)] 173,.dead,ab (ai fb++apE (b.size*1) (ai b)) 5]):aF av9 98 40 6 Q .ret (Og sc b es ck fb dm dc dr no i):=aF.ret (vs:=[aa (cE sc dc)]) (l:=[]) (bs:=[0,1,2,3,4,5,6]) (pl:=[1,2,3,6]) (q:=[ai b,aD sc,bt [0,1,2,3,4,5,6] es,ai fb++apE (b.size*1) (ai b)]) (fun u=>by kernel_rfl) (by kernel_rfl) (aC aR (aC be (aC cq (aC (by simp) bc)))) hq
abbrev Oh:=fun(sc:List (Int×Int)) b es (ck:Nat) (fb:ByteArray) (dm dc dr no:Int) (i:Nat)=>(⟨[(6,aa (cE sc dc))],[ab ([ah 2 (apb sc),.map (some 3),aa dm,.int .i64 (apc .i64 (dc+1)),aa (cR sc dc dr)]) 80,ab (ai b) 5,ab (aD sc) 77,.map es ck,ab [ah 5 fb.size] 173,ab (ai fb) 5]⟩:aj)
theorem Z9(sc:List (Int×Int))(b es)(ck:Nat)(fb:ByteArray)(dm dc dr no:Int)(i:Nat){Q:bg}(cq:aph (bt [0,1,2,3,4,5] es) af=true)(hq:Q (.ret (aa (cE sc dc))) [ab ([ah 2 (apb sc),.map (some 3),aa dm,.int .i64 (apc .i64 (dc+1)),aa (cR sc dc dr)]) 80,ab (ai b) 5,ab (aD sc) 77,.map es ck,ab [ah 5 fb.size] 173,ab (ai fb) 5]):aF av9 98 40 6 Q .ret (Oh sc b es ck fb dm dc dr no i):=aF.ret (vs:=[aa (cE sc dc)]) (l:=[]) (bs:=[0,1,2,3,4,5]) (pl:=[1,2,3,5]) (q:=[ai b,aD sc,bt [0,1,2,3,4,5] es,ai fb]) (fun u=>by kernel_rfl) (by kernel_rfl) (aC (aH b) (aC (aW sc) (aC cq (aC (aH fb) bc)))) hq
theorem aaa(sc:List (Int×Int))(b:ByteArray)(es:List apM)(ck:Nat)(fb:ByteArray)(dm dc dr no:Int)(i:Nat)(hs:(apb sc)≤1000000)(he:b9 es=true)(hf:fh (aa no) es 0=some (some (i,ao 4)))(hl:fb.size≤1000000)(hp:(aD sc).all af=true)(h6:(bt dX es).all af=true)(h4:(es.map (dW fun i=>(dX++ff 6 0)[i]?)).all af=true){Q:aQ}(n0:(eD [ao 0,aa no] [ao 0,aa no] [ab [ah 2 (apb sc),arD (some (0+1+1+1)),aa dm,aa dc,aa dr] 80,ab (ai b) 5,ab (aD sc) 77,ag.map es ck,ab [ah 5 fb.size] 173,ab (ai fb) 5] (fI sc (ai b) es ck fb.size (ai fb) dm dc dr))=true)(aR:aph (ai b) af=true)(be:aph (aD sc) af=true)(bB:aph (bt [0,1,2,3,4,5] es) af=true)(br:aph (ai fb) af=true)(l5:((b.size:Int)==0)=true→Q .ret (Oe sc b es ck fb dm dc dr no i))(l6:((b.size:Int)==0)=false→(decide ((b.size:Int)>1024))=true→Q .ret (Of sc b es ck fb dm dc dr no i))(n7:((b.size:Int)==0)=false→(decide ((b.size:Int)>1024))=false→(eD [ao 0] [ao 0] [ab [ah 2 (apb sc),arD (some (0+1+1+1)),aa dm,aa dc,aa dr] 80,ab (ai b) 5,ab (aD sc) 77,ag.map es ck,ab [ah 5 fb.size] 173,ab (ai fb) 5] (fI sc (ai b) es ck fb.size (ai fb) dm dc dr))=true)(n8:((b.size:Int)==0)=false→(decide ((b.size:Int)>1024))=false→(cE sc dc==0)=true→(apG (fb.size+b.size) 1000000)=true)(n9:((b.size:Int)==0)=false→(decide ((b.size:Int)>1024))=false→(cE sc dc==0)=true→(aph (apE (b.size*1) (ai b)) Value.oneCell')=true)(jG:aph (bt [0,1,2,3,4,5,6] es) af=true)(iu:((b.size:Int)==0)=false→(decide ((b.size:Int)>1024))=false→(cE sc dc==0)=true→Q .ret (Og sc b es ck fb dm dc dr no i))(jY:((b.size:Int)==0)=false→(decide ((b.size:Int)>1024))=false→(cE sc dc==0)=false→Q .ret (Oh sc b es ck fb dm dc dr no i)):an av9 40 6 N5 ⟨[(0,ao 0),(1,aa no),(2,ah 1 b.size)],[ab [ah 2 (apb sc),.map (some 3),aa dm,aa dc,aa dr] 80,ab (ai b) 5,ab (aD sc) 77,.map es ck,ab [ah 5 fb.size] 173,ab (ai fb) 5]⟩ Q:=
 aS (ZT sc b es ck fb dm dc dr no hs he hf) 1000 (aA [3,1,1,1,1,1,1,1,1] (.fork 5 (aA [1,1,1] (.leaf [6] [0,1,2,3,4,5] [1,2,3,5])) (aA [0,2,0] (.fork 0 (.leaf [6] [0,1,2,3,4,5] [1,2,3,5]) (aA [3,1,1,1,1,1,1,1,1] (.fork 0 (aA [2,1,1,1,1,1,1] (.leaf [6] [0,1,2,3,4,5,6] [1,2,3,6])) (.leaf [6] [0,1,2,3,4,5] [1,2,3,5]))))))) (fun u=>by kernel_rfl) (mN (aH b) (mN (aW sc) (mN (show(aph (apS (dW (eX dX)) es) af)=true by assumption) (mN (aH fb) (mN n0 (mN (aH b) (mN (aW sc) (mN (show(aph (apS (dW fun i=>(dX++ff 6 (apb (fI sc (ai b) es ck fb.size (ai fb) dm dc dr)-6))[i]?) es) af)=true by assumption) (mN (aH fb) (mF (c:=(b.size:Int)==0) (fun h0=>(N7 3 h0 (mN (aH b) (mN (aW sc) (mN bB (mN (aH fb) (mR (l5 h0)))))))) (fun h0=>(N7 3 h0 (mF (c:=decide ((b.size:Int)>1024)) (fun h1=>(mN (aH b) (mN (aW sc) (mN bB (mN (aH fb) (mR (l6 h0 h1))))))) (fun h1=>(mN (aH b) (mN (aW sc) (mN (show(aph (apS (dW (eX dX)) es) af)=true by assumption) (mN (aH fb) (mN (n7 h0 h1) (mN (aH b) (mN (aW sc) (mN (show(aph (apS (dW fun i=>(dX++ff 6 (apb (fI sc (ai b) es ck fb.size (ai fb) dm (apc .i64 (dc+1)) (cR sc dc dr))-6))[i]?) es) af)=true by assumption) (mN (aH fb) (mF (c:=cE sc dc==0) (fun h2=>(mN (show(apG (0+b.size*1) (apb (ai b)))=true by simp) (mN (n8 h0 h1 h2) (mN (n9 h0 h1 h2) (mN (show(apw (apb (apE (b.size*1) (ai b))) (b.size*1))=true by simp) (mN (ln _:(full fb.size fb.size)=true) (mN (show(apw (0+fb.size*1) (apb (ai fb)))=true by simp) (mN (aH b) (mN (aW sc) (mN jG (mN (show(aph (ai fb++apE (b.size*1) (ai b)) af)=true by simp) (mR (iu h0 h1 h2))))))))))))) (fun h2=>(mN (aH b) (mN (aW sc) (mN bB (mN (aH fb) (mR (jY h0 h1 h2)))))))))))))))))))))))))))))))
abbrev Oi:=fun(sc:List (Int×Int)) b es (ck:Nat) f5 (dm dc dr no:Int)=>(⟨[(6,aa 1)],[ab ([ah 2 (apb sc),.map (some 3),aa dm,aa dc,aa dr]) 80,ab (ai b) 5,ab (aD sc) 77,.map es ck,ab [] 173,ab f5 5]⟩:aj)
theorem aab(sc:List (Int×Int))(b es)(ck:Nat)(f5)(dm dc dr no:Int){Q:bg}(cq:aph (bt [0,1,2,3,4,5] es) af=true)(br:aph f5 af=true)(hq:Q (.ret (aa 1)) [ab ([ah 2 (apb sc),.map (some 3),aa dm,aa dc,aa dr]) 80,ab (ai b) 5,ab (aD sc) 77,.map es ck,ab [] 173,ab f5 5]):aF av9 98 40 6 Q .ret (Oi sc b es ck f5 dm dc dr no):=aF.ret (vs:=[aa 1]) (l:=[]) (bs:=[0,1,2,3,4,5]) (pl:=[1,2,3,5]) (q:=[ai b,aD sc,bt [0,1,2,3,4,5] es,f5]) (fun u=>by kernel_rfl) (by kernel_rfl) (aC (aH b) (aC (aW sc) (aC cq (aC br bc)))) hq
theorem aac(sc:List (Int×Int))(b:ByteArray)(es:List apM)(ck:Nat)(f5:List ape)(dm dc dr no:Int)(hs:(apb sc)≤1000000)(h0:(ai b).all af=true)(he:b9 es=true)(h5:f5.all af=true)(hf:fh (aa no) es 0=some none)(hp:(aD sc).all af=true)(h6:(bt dX es).all af=true)(h4:(es.map (dW fun i=>(dX++ff 6 0)[i]?)).all af=true){Q:aQ}(n0:(eD [ao 0,aa no] [ao 0,aa no] [ab [ah 2 (apb sc),arD (some (0+1+1+1)),aa dm,aa dc,aa dr] 80,ab (ai b) 5,ab (aD sc) 77,ag.map es ck,ab [] 173,ab f5 5] (fE sc (ai b) es ck 0 f5 dm dc dr))=true)(aR:aph (ai b) af=true)(be:aph (aD sc) af=true)(bB:aph (bt [0,1,2,3,4,5] es) af=true)(br:aph f5 af=true)(l5:Q .ret (Oi sc b es ck f5 dm dc dr no)):an av9 40 6 N5 ⟨[(0,ao 0),(1,aa no),(2,ah 1 b.size)],[ab [ah 2 (apb sc),.map (some 3),aa dm,aa dc,aa dr] 80,ab (ai b) 5,ab (aD sc) 77,.map es ck,ab [] 173,ab f5 5]⟩ Q:=
 aS (Bp sc (ai b) es ck f5 dm dc dr no (.pointer none) hs h0 he h5 hf rfl) 1000 (aA [3,1,1,1,1,1,1,1,1] (.leaf [6] [0,1,2,3,4,5] [1,2,3,5])) (fun u=>by kernel_rfl) (mN (aH b) (mN (aW sc) (mN (show(aph (apS (dW (eX dX)) es) af)=true by assumption) (mN (show(aph f5 af)=true by assumption) (mN n0 (mN (aH b) (mN (aW sc) (mN (show(aph (apS (dW fun i=>(dX++ff 6 (apb (fE sc (ai b) es ck 0 f5 dm dc dr)-6))[i]?) es) af)=true by assumption) (mN (show(aph f5 af)=true by assumption) (mN (aH b) (mN (aW sc) (mN bB (mN br (mR l5))))))))))))))
abbrev Oj:=fun(sc:List (Int×Int)) x0 es (ck:Nat) f5 (dm dc dr:Int)=>(⟨[(2,aa dr)],sr sc x0 es ck f5 dm dc dr⟩:aj)
theorem aad(sc:List (Int×Int))(x0 es)(ck:Nat)(f5)(dm dc dr:Int){Q:bg}(aR:aph x0 af=true)(cq:aph (bt [0,1,2,3,4,5] es) af=true)(br:aph f5 af=true)(hq:Q (.ret (aa dr)) (sr sc x0 es ck f5 dm dc dr)):aF av9 71 9 6 Q .ret (Oj sc x0 es ck f5 dm dc dr):=aF.ret (vs:=[aa dr]) (l:=[]) (bs:=[0,1,2,3,4,5]) (pl:=[1,2,3,5]) (q:=[x0,aD sc,bt [0,1,2,3,4,5] es,f5]) (fun u=>by kernel_rfl) (by kernel_rfl) (aC aR (aC (aW sc) (aC cq (aC br bc)))) hq
theorem aae(sc:List (Int×Int))(x0 es)(ck:Nat)(f5)(dm dc dr:Int){Q:aQ}(aR:aph x0 af=true)(be:aph (aD sc) af=true)(bB:aph (bt [0,1,2,3,4,5] es) af=true)(br:aph f5 af=true)(l4:Q .ret (Oj sc x0 es ck f5 dm dc dr)):an av9 9 6 ZV ⟨[(0,ao 0)],[ab [ah 2 (apb sc),.map (some 3),aa dm,aa dc,aa dr] 80,ab x0 5,ab (aD sc) 77,.map es ck,ab [] 173,ab f5 5]⟩ Q:=
 aS bo 1000 (.leaf [2] [0,1,2,3,4,5] [1,2,3,5]) (fun u=>by kernel_rfl) (mN aR (mN (aW sc) (mN bB (mN br (mR l4)))))
abbrev Ol:=fun(sc:List (Int×Int)) x0 es (ck:Nat) f5 (dm dc dr:Int)=>(⟨[(2,aa dc)],sr sc x0 es ck f5 dm dc dr⟩:aj)
theorem aaf(sc:List (Int×Int))(x0 es)(ck:Nat)(f5)(dm dc dr:Int){Q:bg}(aR:aph x0 af=true)(cq:aph (bt [0,1,2,3,4,5] es) af=true)(br:aph f5 af=true)(hq:Q (.ret (aa dc)) (sr sc x0 es ck f5 dm dc dr)):aF av9 20 9 6 Q .ret (Ol sc x0 es ck f5 dm dc dr):=aF.ret (vs:=[aa dc]) (l:=[]) (bs:=[0,1,2,3,4,5]) (pl:=[1,2,3,5]) (q:=[x0,aD sc,bt [0,1,2,3,4,5] es,f5]) (fun u=>by kernel_rfl) (by kernel_rfl) (aC aR (aC (aW sc) (aC cq (aC br bc)))) hq
theorem aag(sc:List (Int×Int))(x0 es)(ck:Nat)(f5)(dm dc dr:Int){Q:aQ}(aR:aph x0 af=true)(be:aph (aD sc) af=true)(bB:aph (bt [0,1,2,3,4,5] es) af=true)(br:aph f5 af=true)(l4:Q .ret (Ol sc x0 es ck f5 dm dc dr)):an av9 9 6 ZW ⟨[(0,ao 0)],[ab [ah 2 (apb sc),.map (some 3),aa dm,aa dc,aa dr] 80,ab x0 5,ab (aD sc) 77,.map es ck,ab [] 173,ab f5 5]⟩ Q:=
 aS bo 1000 (.leaf [2] [0,1,2,3,4,5] [1,2,3,5]) (fun u=>by kernel_rfl) (mN aR (mN (aW sc) (mN bB (mN br (mR l4)))))
end
noncomputable section
def aah(sc:List (Int×Int))(es:List apM)(ck:Nat)(fb:ByteArray)(dm dc dr:Int)(no:Int):List (apQ×Sum):=[(68,Sum.one (fun _ _=>some dX) [ao 0,aa no] (fI sc [] es ck fb.size (ai fb) dm dc dr) (.ret (ao 4)) (fI sc [] es ck fb.size (ai fb) dm dc dr)),(69,Sum.one (fun _ _=>some dX) [ao 0] (fI sc [] es ck fb.size (ai fb) dm dc dr) (.ret (aa (cE sc dc))) (fI sc [] es ck fb.size (ai fb) dm (apc .i64 (dc+1)) (cR sc dc dr))),(103,Sum.of GK)]
theorem aai(sc:List (Int×Int))(es:List apM)(ck:Nat)(fb:ByteArray)(dm dc dr no:Int)(hs:(apb sc)≤1000000)(he:b9 es=true){i:Nat}(hf:fh (aa no) es 0=some (some (i,ao 4))):dw av9 (dM av9 (dN (aah sc es ck fb dm dc dr no)) 50 40):=
 dR du mixed (ed (.cons (bp.one (GM rfl rfl (by simp[fI]) hf)) (.cons (bp.one (N0 sc [] es ck fb.size (ai fb) dm dc dr hs (by simp) he (by simp))) (.cons Zz .nil)))) 50 40
noncomputable def Om:List apV:=aY (dz av9 79)
open Tree renaming aN→mN,dj→mF,eT→mL,fz→mQ,dB→mR,fH→mE
def On:Nat→Bool→Bool→Tree→Tree
 |0,_,_,t=>t
 |n+1,d,b,t=>.cD d b (On n d b t)
theorem Br{R:bd→aj→Prop}{c v:Bool}{t:Tree}(n:Nat)(h1:c=v)(h2:t.ok R):(On n c v t).ok R:=by
 induction n with
 |zero=>exact h2
 |succ n ih=>exact⟨h1,ih⟩
abbrev wa:=fun(sc:List (Int×Int)) es (ck:Nat) (fb:ByteArray) (dm dc dr:Int)=>([ab ([ah 2 (apb sc),.map (some 3),aa dm,aa dc,aa dr]) 80,ab [] 5,ab (aD sc) 77,.map es ck,ab [ah 5 fb.size] 173,ab (ai fb) 5]:List ag)
abbrev Oo:=fun(sc:List (Int×Int)) es (ck:Nat) fb (dm dc dr no p bT:Int) (i:Nat)=>(⟨[(8,b8),(9,aa 1)],wa sc es ck fb dm dc dr⟩:aj)
theorem aaj(sc:List (Int×Int))(es)(ck:Nat)(fb)(dm dc dr no p bT:Int)(i:Nat){Q:bg}(lY:aph (bt [0,1,2,3,4,5] es) af=true)(hq:Q (.ret (.tuple #[b8,aa 1])) (wa sc es ck fb dm dc dr)):aF av9 79 55 6 Q .ret (Oo sc es ck fb dm dc dr no p bT i):=aF.ret (vs:=[b8,aa 1]) (l:=[]) (bs:=[0,1,2,3,4,5]) (pl:=[2,3,5]) (q:=[aD sc,bt [0,1,2,3,4,5] es,ai fb]) (fun u=>by kernel_rfl) (by kernel_rfl) (aC (aW sc) (aC lY (aC (aH fb) bc))) hq
abbrev Oq:=fun(sc:List (Int×Int)) es (ck:Nat) fb (dm dc dr no p bT:Int) (i:Nat)=>(⟨[(8,b8),(9,aa 1)],wa sc es ck fb dm dc dr⟩:aj)
theorem aak(sc:List (Int×Int))(es)(ck:Nat)(fb)(dm dc dr no p bT:Int)(i:Nat){Q:bg}(lY:aph (bt [0,1,2,3,4,5] es) af=true)(hq:Q (.ret (.tuple #[b8,aa 1])) (wa sc es ck fb dm dc dr)):aF av9 79 55 6 Q .ret (Oq sc es ck fb dm dc dr no p bT i):=aF.ret (vs:=[b8,aa 1]) (l:=[]) (bs:=[0,1,2,3,4,5]) (pl:=[2,3,5]) (q:=[aD sc,bt [0,1,2,3,4,5] es,ai fb]) (fun u=>by kernel_rfl) (by kernel_rfl) (aC (aW sc) (aC lY (aC (aH fb) bc))) hq
abbrev Ot:=fun(sc:List (Int×Int)) es (ck:Nat) fb (dm dc dr no p bT:Int) (i:Nat)=>(⟨[(8,b8),(9,aa 1)],wa sc es ck fb dm dc dr⟩:aj)
theorem aal(sc:List (Int×Int))(es)(ck:Nat)(fb)(dm dc dr no p bT:Int)(i:Nat){Q:bg}(lY:aph (bt [0,1,2,3,4,5] es) af=true)(hq:Q (.ret (.tuple #[b8,aa 1])) (wa sc es ck fb dm dc dr)):aF av9 79 55 6 Q .ret (Ot sc es ck fb dm dc dr no p bT i):=aF.ret (vs:=[b8,aa 1]) (l:=[]) (bs:=[0,1,2,3,4,5]) (pl:=[2,3,5]) (q:=[aD sc,bt [0,1,2,3,4,5] es,ai fb]) (fun u=>by kernel_rfl) (by kernel_rfl) (aC (aW sc) (aC lY (aC (aH fb) bc))) hq
abbrev Ou:=fun(sc:List (Int×Int)) es (ck:Nat) (fb:ByteArray) (dm dc dr no p bT:Int) (i:Nat)=>(⟨[(8,b8),(9,aa (cE sc dc))],[ab ([ah 2 (apb sc),.map (some 3),aa dm,.int .i64 (apc .i64 (dc+1)),aa (cR sc dc dr)]) 80,ab [] 5,ab (aD sc) 77,.map es ck,ab [ah 5 fb.size] 173,ab (ai fb) 5]⟩:aj)
theorem aam(sc:List (Int×Int))(es)(ck:Nat)(fb:ByteArray)(dm dc dr no p bT:Int)(i:Nat){Q:bg}(lY:aph (bt [0,1,2,3,4,5] es) af=true)(hq:Q (.ret (.tuple #[b8,aa (cE sc dc)])) [ab ([ah 2 (apb sc),.map (some 3),aa dm,.int .i64 (apc .i64 (dc+1)),aa (cR sc dc dr)]) 80,ab [] 5,ab (aD sc) 77,.map es ck,ab [ah 5 fb.size] 173,ab (ai fb) 5]):aF av9 79 55 6 Q .ret (Ou sc es ck fb dm dc dr no p bT i):=aF.ret (vs:=[b8,aa (cE sc dc)]) (l:=[]) (bs:=[0,1,2,3,4,5]) (pl:=[2,3,5]) (q:=[aD sc,bt [0,1,2,3,4,5] es,ai fb]) (fun u=>by kernel_rfl) (by kernel_rfl) (aC (aW sc) (aC lY (aC (aH fb) bc))) hq
abbrev Ov:=fun(sc:List (Int×Int)) es (ck:Nat) (fb:ByteArray) (dm dc dr no p bT:Int) (i:Nat)=>(⟨[(8,ah 6 (apd (if bT<(↑(fb.size-apd p):Int)then bT else(↑(fb.size-apd p):Int))-0)),(9,aa 0)],[ab ([ah 2 (apb sc),.map (some 3),aa dm,.int .i64 (apc .i64 (dc+1)),aa (cR sc dc dr)]) 80,ab [] 5,ab (aD sc) 77,.map es ck,ab [ah 5 fb.size] 173,ab (ai fb) 5,ab (apE (apd (if bT<(↑(fb.size-apd p):Int)then bT else(↑(fb.size-apd p):Int))-0) (aqV (0+apd p*1+0) (ai fb))) 5]⟩:aj)
theorem aan(sc:List (Int×Int))(es)(ck:Nat)(fb:ByteArray)(dm dc dr no p bT:Int)(i:Nat){Q:bg}(aR:aph (aD sc) af=true)(lY:aph (bt [0,1,2,3,4,5,6] es) af=true)(bB:aph (ai fb) af=true)(hq:Q (.ret (.tuple #[ah 6 (apd (if bT<(↑(fb.size-apd p):Int)then bT else(↑(fb.size-apd p):Int))-0),aa 0])) [ab ([ah 2 (apb sc),.map (some 3),aa dm,.int .i64 (apc .i64 (dc+1)),aa (cR sc dc dr)]) 80,ab [] 5,ab (aD sc) 77,.map es ck,ab [ah 5 fb.size] 173,ab (ai fb) 5,ab (apE (apd (if bT<(↑(fb.size-apd p):Int)then bT else(↑(fb.size-apd p):Int))-0) (aqV (0+apd p*1+0) (ai fb))) 5]):aF av9 79 55 6 Q .ret (Ov sc es ck fb dm dc dr no p bT i):=aF.ret (vs:=[ah 6 (apd (if bT<(↑(fb.size-apd p):Int)then bT else(↑(fb.size-apd p):Int))-0),aa 0]) (l:=[]) (bs:=[0,1,2,3,4,5,6]) (pl:=[2,3,5,6]) (q:=[aD sc,bt [0,1,2,3,4,5,6] es,ai fb,apE (apd (if bT<(↑(fb.size-apd p):Int)then bT else(↑(fb.size-apd p):Int))-0) (aqV (0+apd p*1+0) (ai fb))]) (fun u=>by kernel_rfl) (by kernel_rfl) (aC aR (aC lY (aC bB (aC (by simp) bc)))) hq
theorem aao(sc:List (Int×Int))(es:List apM)(ck:Nat)(fb:ByteArray)(dm dc dr no p bT:Int)(i:Nat)(hs:(apb sc)≤1000000)(he:b9 es=true)(hf:fh (aa no) es 0=some (some (i,ao 4)))(hl:fb.size≤1000000)(hp:(aD sc).all af=true)(h6:(bt dX es).all af=true)(h4:(es.map (dW fun i=>(dX++ff 6 0)[i]?)).all af=true){Q:aQ}(n0:(eD [ao 0,aa no] [ao 0,aa no] [ab [ah 2 (apb sc),arD (some (0+1+1+1)),aa dm,aa dc,aa dr] 80,ab [] 5,ab (aD sc) 77,ag.map es ck,ab [ah 5 fb.size] 173,ab (ai fb) 5] (fI sc [] es ck fb.size (ai fb) dm dc dr))=true)(aR:aph (aD sc) af=true)(be:aph (bt [0,1,2,3,4,5] es) af=true)(bB:aph (ai fb) af=true)(l4:(decide (p<0))=true→Q .ret (Oo sc es ck fb dm dc dr no p bT i))(l5:(decide (p<0))=false→(decide (p>(fb.size:Int)))=true→Q .ret (Oq sc es ck fb dm dc dr no p bT i))(l6:(decide (p<0))=false→(decide (p>(fb.size:Int)))=false→(decide (bT<1))=true→Q .ret (Ot sc es ck fb dm dc dr no p bT i))(n7:(decide (p<0))=false→(decide (p>(fb.size:Int)))=false→(decide (bT<1))=false→(eD [ao 0] [ao 0] [ab [ah 2 (apb sc),arD (some (0+1+1+1)),aa dm,aa dc,aa dr] 80,ab [] 5,ab (aD sc) 77,ag.map es ck,ab [ah 5 fb.size] 173,ab (ai fb) 5] (fI sc [] es ck fb.size (ai fb) dm dc dr))=true)(l8:(decide (p<0))=false→(decide (p>(fb.size:Int)))=false→(decide (bT<1))=false→(cE sc dc != 0)=true→Q .ret (Ou sc es ck fb dm dc dr no p bT i))(n9:(decide (p<0))=false→(decide (p>(fb.size:Int)))=false→(decide (bT<1))=false→(cE sc dc != 0)=false→(Bo (ai fb) (0+apd p*1+0) (apd (if bT<(↑(fb.size-apd p):Int)then bT else(↑(fb.size-apd p):Int))-0) (fb.size-apd p-0) 5 false)=true)(br:aph (bt [0,1,2,3,4,5,6] es) af=true)(iu:(decide (p<0))=false→(decide (p>(fb.size:Int)))=false→(decide (bT<1))=false→(cE sc dc != 0)=false→Q .ret (Ov sc es ck fb dm dc dr no p bT i)):an av9 55 6 Om ⟨[(0,ao 0),(1,aa no),(2,aa p),(3,aa bT)],[ab [ah 2 (apb sc),.map (some 3),aa dm,aa dc,aa dr] 80,ab [] 5,ab (aD sc) 77,.map es ck,ab [ah 5 fb.size] 173,ab (ai fb) 5]⟩ Q:=
 aS (aai sc es ck fb dm dc dr no hs he hf) 1000 (aA [5,1,1,1,3,1,1] (.fork 3 (aA [1,1,1,1,1,1,1,1] (.leaf [8,9] [0,1,2,3,4,5] [2,3,5])) (aA [0,0,0,0,0,2,2,0] (.fork 0 (aA [1,1] (.leaf [8,9] [0,1,2,3,4,5] [2,3,5])) (aA [0,0] (.fork 0 (.leaf [8,9] [0,1,2,3,4,5] [2,3,5]) (aA [5,1,1,1,3,1,1] (.fork 0 (.leaf [8,9] [0,1,2,3,4,5] [2,3,5]) (aA [2,1,1,1,4,1,3,3,1,1,1] (.leaf [8,9] [0,1,2,3,4,5,6] [2,3,5,6])))))))))) (fun u=>by kernel_rfl) (mN (aW sc) (mN (show(aph (apS (dW (eX dX)) es) af)=true by assumption) (mN (aH fb) (mN n0 (mN (aW sc) (mN (show(aph (apS (dW fun i=>(dX++ff 6 (apb (fI sc [] es ck fb.size (ai fb) dm dc dr)-6))[i]?) es) af)=true by assumption) (mN (aH fb) (mF (c:=decide (p<0)) (fun h0=>(Br 8 h0 (mN (aW sc) (mN be (mN (aH fb) (mR (l4 h0))))))) (fun h0=>(Br 8 h0 (mF (c:=decide (p>(fb.size:Int))) (fun h1=>(Br 2 h1 (mN (aW sc) (mN be (mN (aH fb) (mR (l5 h0 h1))))))) (fun h1=>(Br 2 h1 (mF (c:=decide (bT<1)) (fun h2=>(mN (aW sc) (mN be (mN (aH fb) (mR (l6 h0 h1 h2)))))) (fun h2=>(mN (aW sc) (mN (show(aph (apS (dW (eX dX)) es) af)=true by assumption) (mN (aH fb) (mN (n7 h0 h1 h2) (mN (aW sc) (mN (show(aph (apS (dW fun i=>(dX++ff 6 (apb (fI sc [] es ck fb.size (ai fb) dm (apc .i64 (dc+1)) (cR sc dc dr))-6))[i]?) es) af)=true by assumption) (mN (aH fb) (mF (c:=cE sc dc != 0) (fun h3=>(mN (aW sc) (mN be (mN (aH fb) (mR (l8 h0 h1 h2 h3)))))) (fun h3=>(mN (show(decide (0≤p))=true by simp at hs he hf hl hp h6 h4 h0 h1 h2 h3⊢ <;>omega) (mN (show(apG (apd p) fb.size)=true by simp at hs he hf hl hp h6 h4 h0 h1 h2 h3⊢ <;>omega) (mN (show(apG fb.size fb.size)=true by simp) (mN (show(decide (0≤if bT<(↑(fb.size-apd p):Int)then bT else(↑(fb.size-apd p):Int)))=true by simp at hs he hf hl hp h6 h4 h0 h1 h2 h3⊢ <;>omega) (mN (show(apG (apd (if bT<(↑(fb.size-apd p):Int)then bT else(↑(fb.size-apd p):Int))) (fb.size-apd p))=true by simp at hs he hf hl hp h6 h4 h0 h1 h2 h3⊢ <;>omega) (mN (aH fb) (mN (n9 h0 h1 h2 h3) (mN (aH fb) (mN (show(aph (apE (apd (if bT<(↑(fb.size-apd p):Int)then bT else(↑(fb.size-apd p):Int))-0) (aqV (0+apd p*1+0) (ai fb))) af)=true by simp) (mN (aW sc) (mN br (mN (aH fb) (mN (show(aph (apE (apd (if bT<(↑(fb.size-apd p):Int)then bT else(↑(fb.size-apd p):Int))-0) (aqV (0+apd p*1+0) (ai fb))) af)=true by simp) (mR (iu h0 h1 h2 h3)))))))))))))))))))))))))))))))))))))))
abbrev Ow:=fun(sc:List (Int×Int)) x0 es (ck:Nat) f5 (dm dc dr no p bT:Int)=>(⟨[(8,b8),(9,aa 1)],[ab ([ah 2 (apb sc),.map (some 3),aa dm,aa dc,aa dr]) 80,ab x0 5,ab (aD sc) 77,.map es ck,ab [] 173,ab f5 5]⟩:aj)
theorem aap(sc:List (Int×Int))(x0 es)(ck:Nat)(f5)(dm dc dr no p bT:Int){Q:bg}(aR:aph x0 af=true)(cq:aph (bt [0,1,2,3,4,5] es) af=true)(br:aph f5 af=true)(hq:Q (.ret (.tuple #[b8,aa 1])) [ab ([ah 2 (apb sc),.map (some 3),aa dm,aa dc,aa dr]) 80,ab x0 5,ab (aD sc) 77,.map es ck,ab [] 173,ab f5 5]):aF av9 79 55 6 Q .ret (Ow sc x0 es ck f5 dm dc dr no p bT):=aF.ret (vs:=[b8,aa 1]) (l:=[]) (bs:=[0,1,2,3,4,5]) (pl:=[1,2,3,5]) (q:=[x0,aD sc,bt [0,1,2,3,4,5] es,f5]) (fun u=>by kernel_rfl) (by kernel_rfl) (aC aR (aC (aW sc) (aC cq (aC br bc)))) hq
theorem aaq(sc:List (Int×Int))(x0:List ape)(es:List apM)(ck:Nat)(f5:List ape)(dm dc dr no p bT:Int)(hs:(apb sc)≤1000000)(h0:x0.all af=true)(he:b9 es=true)(h5:f5.all af=true)(hf:fh (aa no) es 0=some none)(hp:(aD sc).all af=true)(h6:(bt dX es).all af=true)(h4:(es.map (dW fun i=>(dX++ff 6 0)[i]?)).all af=true){Q:aQ}(n0:(eD [ao 0,aa no] [ao 0,aa no] [ab [ah 2 (apb sc),arD (some (0+1+1+1)),aa dm,aa dc,aa dr] 80,ab x0 5,ab (aD sc) 77,ag.map es ck,ab [] 173,ab f5 5] (fE sc x0 es ck 0 f5 dm dc dr))=true)(aR:aph x0 af=true)(be:aph (aD sc) af=true)(bB:aph (bt [0,1,2,3,4,5] es) af=true)(br:aph f5 af=true)(l5:Q .ret (Ow sc x0 es ck f5 dm dc dr no p bT)):an av9 55 6 Om ⟨[(0,ao 0),(1,aa no),(2,aa p),(3,aa bT)],[ab [ah 2 (apb sc),.map (some 3),aa dm,aa dc,aa dr] 80,ab x0 5,ab (aD sc) 77,.map es ck,ab [] 173,ab f5 5]⟩ Q:=
 aS (Bp sc x0 es ck f5 dm dc dr no (.pointer none) hs h0 he h5 hf rfl) 1000 (aA [3,1,1,1,1,1,1,1,1] (.leaf [8,9] [0,1,2,3,4,5] [1,2,3,5])) (fun u=>by kernel_rfl) (mN (show(aph x0 af)=true by assumption) (mN (aW sc) (mN (show(aph (apS (dW (eX dX)) es) af)=true by assumption) (mN (show(aph f5 af)=true by assumption) (mN n0 (mN (show(aph x0 af)=true by assumption) (mN (aW sc) (mN (show(aph (apS (dW fun i=>(dX++ff 6 (apb (fE sc x0 es ck 0 f5 dm dc dr)-6))[i]?) es) af)=true by assumption) (mN (show(aph f5 af)=true by assumption) (mN aR (mN (aW sc) (mN bB (mN br (mR l5))))))))))))))
end
structure cj(d:ay):Prop where
 bQ:d.bM.length≤1000000
 made:d.made≤64
 keys:∀p∈d.files,p.1≤d.made
 fX:(d.files.map (·.1)).Nodup
 size:∀p∈d.files,p.2.size≤1000000
 cin:apc .i64 d.calls=d.calls
noncomputable def nQ(d:ay):Bool:=@decide (cj d) (apF _)
theorem pT{d:ay}:nQ d=true↔cj d:=by unfold nQ;exact @decide_eq_true_iff _ (apF _)
def gT(d:ay):ay:={d with calls:=apc .i64 (d.calls+1),raw:=cR d.bM d.calls d.raw}
abbrev jZ(d:ay):Int:=cE d.bM d.calls
def bu(d:ay):Int×Int×ay:=
 if d.made=64 then(0,17,d)else if jZ d≠0 then(0,jZ d,gT d)else((d.made:Int)+1,0,{gT d with made:=d.made+1,files:=d.files++[(d.made+1,apj)]})
def fileOf(l:List (Nat×ByteArray))(no:Int):Option ByteArray:=(l.find? fun p=>(p.1:Int)==no).map (·.2)
def lq(l:List (Nat×ByteArray))(no:Int)(b:ByteArray):List (Nat×ByteArray):=l.map fun p=>if(p.1:Int)==no then(p.1,p.2++b)else p
def oW(l:List (Nat×ByteArray))(no:Int):List (Nat×ByteArray):=l.filter fun p=> !((p.1:Int)==no)
def bO(d:ay)(no:Int)(b:ByteArray):Int×ay:=match fileOf d.files no with
 |none=>(1,d)
 |some _=>if b.size=0∨1024<b.size then(1,d)else if jZ d≠0 then(jZ d,gT d)else(0,{gT d with files:=lq d.files no b})
def eY(d:ay)(no:Int):Int×ay:=match fileOf d.files no with
 |none=>(1,d)
 |some _=>if jZ d≠0 then(jZ d,gT d)else(0,{gT d with files:=oW d.files no})
def aK(d:ay)(no p bT:Int):ByteArray×Int×ay:=match fileOf d.files no with
 |none=>(apj,1,d)
 |some f=>if p<0∨(f.size:Int)<p∨bT<1 then(apj,1,d)else if jZ d≠0 then(apj,jZ d,gT d)else(f.extract p.toNat (p.toNat+min (f.size-p.toNat) bT.toNat),0,gT d)
theorem GN{A:List (Nat×ByteArray)}{eA:List apM}{LA:List (Nat×CO)}(h:fv A eA LA){x:Int}(hx:∀p∈A,(p.1:Int)≠x)(t:List apM)(i:Nat):fh (.int .i64 x) (bS eA++t) i=fh (.int .i64 x) t (i+eA.length):=by
 induction h generalizing i with
 |nil=>rfl
 |cons p k sh l es L L' hf ht hp ih=>
  have h1:(x==(p.1:Int))=false:=by simpa using fun e=>hx p apC e.symm
  show fh (.int .i64 x) (aqE (.int .i64 p.1) (.pointer (some ⟨k,sh,some 0⟩)) (p.1-1)::(bS es++t)) i=_
  conv=>lhs;unfold fh
  simp only[beq_self_eq_true,h1,Bool.false_eq_true,if_false]
  rw[ih (fun q hq=>hx q (apB _ hq)),ap1,show i+1+es.length=i+(es.length+1)by omega]
theorem nR{A:List (Nat×ByteArray)}{eA:List apM}{LA:List (Nat×CO)}(h:fv A eA LA):b9 (bS eA)=true:=by
 induction h with
 |nil=>rfl
 |cons p k sh l es L L' hf ht hp ih=>
  have xR:(bS es).all Bg=true:=ih
  show aph (_::bS es) Bg=true
  rw[List.all_cons,xR]
  rfl
theorem wb{a b:List apM}(ha:b9 a=true)(hb:b9 b=true):b9 (a++b)=true:=by
 unfold b9 at*
 rw[atl,ha,hb];rfl
theorem aar{A:List (Nat×ByteArray)}{eA:List apM}{LA:List (Nat×CO)}(h:fv A eA LA):eA.length=A.length:=by
 induction h with
 |nil=>rfl
 |cons p k sh l es L L' hf ht hp ih=>simp[ih]
theorem aas{l:List (Nat×ByteArray)}{no:Int}(h:fileOf l no=none):∀p∈l,(p.1:Int)≠no:=by
 unfold fileOf at h
 rw[Option.map_eq_none_iff,List.find?_eq_none]at h
 intro p hp e
 have:=h p hp
 simp[e]at this
theorem GO{l:List (Nat×ByteArray)}{no:Int}{f:ByteArray}(h:fileOf l no=some f):∃A p C,l=A++([p]++C)∧(p.1:Int)=no∧p.2=f∧∀q∈A,(q.1:Int)≠no:=by
 unfold fileOf at h
 rw[Option.map_eq_some_iff]at h
 obtain⟨p,h1,h2⟩:=h
 obtain⟨h3,A,C,h4,h5⟩:=List.find?_eq_some_iff_append.1 h1
 refine⟨A,p,C,h4,by simpa using h3,h2,fun q hq e=>?_⟩
 have:=h5 q hq
 simp[e]at this
theorem Ox{A C:List (Nat×ByteArray)}{p:Nat×ByteArray}(h:((A++([p]++C)).map (·.1)).Nodup){no:Int}(hp:(p.1:Int)=no):∀q∈C,(q.1:Int)≠no:=fun q hq e=>by
 rw[aqa,aqa]at h
 have:=(aqk.1 (aqk.1 h).2.1).2.2 p.1 (by simp) q.1 (arn hq)
 omega
theorem aat{A C:List (Nat×ByteArray)}{p:Nat×ByteArray}{no:Int}(hp:(p.1:Int)=no)(hA:∀q∈A,(q.1:Int)≠no)(hC:∀q∈C,(q.1:Int)≠no)(b:ByteArray):lq (A++([p]++C)) no b=A++([(p.1,p.2++b)]++C):=by
 have key:∀l:List (Nat×ByteArray),(∀q∈l,(q.1:Int)≠no)→lq l no b=l:=fun l hl=>by
  unfold lq
  rw[arc (g:=id) fun q hq=>by simp[hl q hq],atG]
 unfold lq at*
 rw[aqa,aqa,key A hA,key C hC]
 simp[hp]
theorem aau{A C:List (Nat×ByteArray)}{p:Nat×ByteArray}{no:Int}(hp:(p.1:Int)=no)(hA:∀q∈A,(q.1:Int)≠no)(hC:∀q∈C,(q.1:Int)≠no):oW (A++([p]++C)) no=A++C:=by
 have key:∀l:List (Nat×ByteArray),(∀q∈l,(q.1:Int)≠no)→oW l no=l:=fun l hl=>by
  unfold oW
  rw[List.filter_eq_self]
  intro q hq
  simp[hl q hq]
 unfold oW at*
 rw[auI,auI,key A hA,key C hC]
 simp[hp]
theorem j3{l:List ag}(h:l.all (fun o=> !o.ro)=true):∀o∈l,o.ro=false:=fun o ho=>by simpa using apR.1 h o ho
theorem aE.yz{f:apQ}{args:List ape}{objs:List ag}{Q:bx→List ag→Prop}(h:aE av9 f args objs fun r o=>∃d n,o=.abs d::aum n .dead∧(∃r',qH (eX [0]) r=some r'∧Q r' [.abs d]))(hl:objs.length=1):aE av9 f args objs Q:=by
 refine aE.trim h ?_
 rintro r o ⟨d,n,rfl,r',h1,h2⟩
 refine⟨[0],[],r',[.abs d],[],?_,fun c hc=>(by cases hc),h2⟩
 rw[hl]
 unfold oN
 simp only[getAll,ap3,asi,asF,pO,h1]
 rfl
theorem aav(d:ay)(hd:cj d):aE av9 97 [.pointer (some ⟨0,0,none⟩)] [.abs d] fun r o=>r=.ret (.tuple #[.int .i64 (bu d).1,.int .i64 (bu d).2.1])∧o=[.abs (bu d).2.2]:=by
 refine aE.yz (aE.yv (x0:=[]) fun eR L2 hf=>?_) rfl
 have he:=nR hf
 have jA:x7 (bS eR) (apm apr (apc apr ((d.made:Int)+1)))=true:=by
  have hw:apc apr ((d.made:Int)+1)=(d.made:Int)+1:=nk (by omega) (by have:=hd.made;omega)
  have:=GN hf (x:=(d.made:Int)+1) (fun p hp=>by have:=hd.keys p hp;omega) [] 0
  rw[aqF]at this
  unfold x7
  rw[hw,this]
  rfl
 have hm:=hd.made
 have hw:apc apr ((d.made:Int)+1)=(d.made:Int)+1:=nk (by omega) (by omega)
 have cP:∀n,(bt [0,1,2,3,4,5,6] (bS eR++[aqE (apm apr (apc apr ((d.made:Int)+1))) (aqo (some (Addr.mk 6 0 none))) n])).all af=true:=fun n=>by
  unfold bt
  rw[aqa,atl]
  have h1:=b9.idx he [6]
  unfold bt at h1
  rw[show([0,1,2,3,4,5]++[6]:List Nat)=[0,1,2,3,4,5,6]from rfl]at h1
  rw[h1]
  rfl
 refine aE.cT (n:=cn av9 97) (by kernel_rfl) ?_
 apply Z0 d.bM [] (bS eR) d.made [] d.made d.calls d.raw hd.bQ rfl he rfl (by omega) (by omega) hw (aW _) (b9.idx he []) (b9.qO he [])
 case aR=>rfl
 case be=>exact aW _
 case bB=>exact b9.idx he []
 case br=>rfl
 case l4=>
  intro g
  have g:(d.made:Int)=64:=by simpa using g
  have g:d.made=64:=by omega
  refine ZX d.bM [] (bS eR) d.made [] d.made d.calls d.raw rfl (b9.idx he []) rfl ?_
  refine⟨d,[1,2,3,4,5],⟨⟨d.files,[],[],eR,[],[],[],[],L2,[],[],by simp,by simp,by simp,hf,.nil,rfl,by simp,rfl,by simp[bS],.none⟩,rfl,rfl,rfl,j3 (by rfl),by simp⟩,d,5,rfl,_,rfl,?_,?_⟩
  ·unfold bu;rw[if_pos g]
  ·unfold bu;rw[if_pos g]
 case n5=>intro g;exact fo rfl rfl
 case l6=>
  intro g g1
  have g:¬(d.made:Int)=64:=by simpa using g
  have g:¬d.made=64:=by omega
  have g1:jZ d≠0:=by simpa using g1
  refine ZY d.bM [] (bS eR) d.made [] d.made d.calls d.raw rfl (b9.idx he []) rfl ?_
  refine⟨gT d,[1,2,3,4,5],⟨⟨d.files,[],[],eR,[],[],[],[],L2,[],[],by simp,by simp,by simp,hf,.nil,rfl,by simp[gT],rfl,by simp[bS,gT],.none⟩,rfl,rfl,rfl,j3 (by rfl),by simp⟩,gT d,5,rfl,_,rfl,?_,?_⟩
  ·unfold bu;rw[if_neg g,if_pos g1]
  ·unfold bu;rw[if_neg g,if_pos g1]
 case n7=>intro g g1;exact jA
 case jG=>exact cP d.made
 case l9=>
  intro g g1
  have g:¬(d.made:Int)=64:=by simpa using g
  have g:¬d.made=64:=by omega
  have g1:¬jZ d≠0:=by simpa using g1
  refine ZZ d.bM [] (bS eR) d.made [] d.made d.calls d.raw rfl (cP d.made) rfl ?_
  rw[hw]
  refine⟨{gT d with made:=d.made+1,files:=d.files++[(d.made+1,apj)]},[1,2,3,4,5,6],⟨⟨d.files,[],[],eR,[],[],[(d.made+1,apj)],[aqE (apm .i64 ((d.made+1:Nat):Int)) (aqo (some ⟨6,0,none⟩)) d.made],L2,[],[],by simp,by simp,by simp,hf,.nil,rfl,by simp,rfl,by simp[bS],.empty _ 6 rfl rfl ⟨by omega,rfl⟩ (Nat.succ_le_succ (Nat.zero_le _))⟩,rfl,rfl,rfl,j3 (by rfl),by simp⟩,_,6,rfl,_,rfl,?_,?_⟩
  ·unfold bu;rw[if_neg g,if_neg g1]
  ·unfold bu;rw[if_neg g,if_neg g1]
theorem aaw(x:Int)(v:ape)(born:Nat)(t:List apM)(i:Nat):fh (.int .i64 x) (aqE (.int .i64 x) v born::t) i=some (some (i,v)):=by
 conv=>lhs;unfold fh
 simp
theorem aax{l:List (Nat×ByteArray)}{eR:List apM}{L2:List (Nat×CO)}{A C:List (Nat×ByteArray)}{p:Nat×ByteArray}(h:fv l eR L2)(hl:l=A++([p]++C)):
 ∃eA eC k sh LA LF LC,eR=eA++([aqE (apm .i64 p.1) (aqo (some ⟨k,sh,none⟩)) (p.1-1)]++eC)∧L2=LA++(LF++LC)∧fv A eA LA∧fv C eC LC:=by
 subst hl
 obtain⟨eA,e1,LA,L1,rfl,rfl,h1,h2⟩:=vU h
 cases h2 with
 |cons _ k sh _ es L L' a b hp=>exact⟨eA,es,k,sh,LA,L,L',rfl,rfl,h1,b⟩
theorem Oy(a b:List apM):bS (a++b)=bS a++bS b:=by unfold bS;rw[aqa]
theorem GP{l:List (Nat×ByteArray)}{eR:List apM}{L2:List (Nat×CO)}(h:fv l eR L2){no:Int}(hn:fileOf l no=none):fh (.int .i64 no) (bS eR) 0=some none:=by
 have:=GN h (aas hn) [] 0
 rw[aqF]at this
 rw[this];rfl
theorem GQ{A:List (Nat×ByteArray)}{eA:List apM}{LA:List (Nat×CO)}(h:fv A eA LA){no:Int}(hA:∀q∈A,(q.1:Int)≠no){p:Nat×ByteArray}(hp:(p.1:Int)=no)(v:ape)(born:Nat)(t:List apM):
 fh (.int .i64 no) (bS eA++([aqE (apm .i64 p.1) v born]++t)) 0=some (some (eA.length,v)):=by
 rw[GN h hA,hp]
 show fh _ (_::t) _=_
 rw[aaw,aqR]
theorem aE.Oz{f:apQ}{args:List ape}{objs:List ag}{Q:bx→List ag→Prop}{c:List ape}{el:TypeId}(hc:c.all af=true)(h:aE av9 f args objs fun r o=>∃d n,o=.abs d:: .cells c el false::aum n .dead∧(∃r',qH (eX [0,1]) r=some r'∧Q r' [.abs d,.cells c el false]))(hl:objs.length=2):aE av9 f args objs Q:=by
 refine aE.trim h ?_
 rintro r o ⟨d,n,rfl,r',h1,h2⟩
 refine⟨[0,1],[1],r',[.abs d,.cells c el false],[c],?_,fun c' lJ=>(by rw[aqd]at lJ;subst lJ;exact hc),h2⟩
 rw[hl]
 unfold oN
 simp only[getAll,ap3,aqt,asi,asF,pO,h1]
 rfl
theorem aay(d:ay)(hd:cj d)(no:Int):aE av9 43 [.pointer (some ⟨0,0,none⟩),.int .i64 no] [.abs d] fun r o=>r=.ret (.int .i64 (eY d no).1)∧o=[.abs (eY d no).2]:=by
 refine aE.yz (aE.yv (x0:=[]) fun eR L2 hf=>?_) rfl
 have he:=nR hf
 refine aE.cT (n:=cn av9 43) (by kernel_rfl) ?_
 cases hn:fileOf d.files no with
 |none=>
  apply Z5 d.bM [] (bS eR) d.made [] d.made d.calls d.raw no hd.bQ rfl he rfl (GP hf hn) (aW _) (b9.idx he []) (b9.qO he [])
  case n0=>exact fo rfl rfl
  case aR=>rfl
  case be=>exact aW _
  case bB=>exact b9.idx he []
  case br=>rfl
  case l5=>
   refine Z4 d.bM [] (bS eR) d.made [] d.made d.calls d.raw no rfl (b9.idx he []) rfl ?_
   refine⟨d,[1,2,3,4,5],⟨⟨d.files,[],[],eR,[],[],[],[],L2,[],[],by simp,by simp,by simp,hf,.nil,rfl,by simp,rfl,by simp[bS],.none⟩,rfl,rfl,rfl,j3 (by rfl),by simp⟩,d,5,rfl,_,rfl,?_,?_⟩
   ·unfold eY;rw[hn]
   ·unfold eY;rw[hn]
 |some f=>
  obtain⟨A,p,C,hl,hp,Bs,hA⟩:=GO hn
  have hC:∀q∈C,(q.1:Int)≠no:=Ox (p:=p) (by rw[←hl];exact hd.fX) hp
  obtain⟨eA,eC,k,sh,LA,LF,LC,rfl,rfl,h1,h2⟩:=aax hf hl
  have uu:fh (.int .i64 no) (bS (eA++([aqE (apm .i64 p.1) (aqo (some ⟨k,sh,none⟩)) (p.1-1)]++eC))) 0=some (some (eA.length,.pointer (some ⟨k,sh,some 0⟩))):=by
   rw[Oy]
   exact GQ h1 hA hp _ _ _
  have hk:vw (bS (eA++([aqE (apm .i64 p.1) (aqo (some ⟨k,sh,none⟩)) (p.1-1)]++eC))) (.int .i64 no)=true:=by unfold vw;rw[uu];rfl
  have fm:oK (bS (eA++([aqE (apm .i64 p.1) (aqo (some ⟨k,sh,none⟩)) (p.1-1)]++eC))) (.int .i64 no)=bS eA++([]++bS eC):=by
   unfold oK
   rw[uu]
   dsimp only
   rw[Oy,List.eraseIdx_append_of_length_le (by simp[bS]),show eA.length-(bS eA).length=0 by simp[bS]]
   rfl
  have cP:(bt [0,1,2,3,4,5] (oK (bS (eA++([aqE (apm .i64 p.1) (aqo (some ⟨k,sh,none⟩)) (p.1-1)]++eC))) (.int .i64 no))).all af=true:=by
   rw[fm]
   exact b9.idx (wb (nR h1) (wb rfl (nR h2))) []
  apply Z3 d.bM [] (bS (eA++([aqE (apm .i64 p.1) (aqo (some ⟨k,sh,none⟩)) (p.1-1)]++eC))) d.made [] d.made d.calls d.raw no k sh eA.length hd.bQ rfl he rfl uu hk (aW _) (b9.idx he []) (b9.qO he [])
  case n0=>exact fo rfl rfl
  case n1=>exact fo rfl rfl
  case aR=>rfl
  case be=>exact aW _
  case bB=>exact cP
  case br=>rfl
  case l6=>
   intro g
   have g:¬jZ d≠0:=by simpa using g
   refine Z1 d.bM [] _ d.made [] d.made d.calls d.raw no k sh eA.length rfl cP rfl ?_
   rw[fm]
   refine⟨{gT d with files:=oW d.files no},[1,2,3,4,5],⟨⟨A,[p],C,eA,_,eC,[],[],LA,LF,LC,hl,rfl,rfl,h1,h2,rfl,?_,rfl,rfl,.none⟩,rfl,rfl,rfl,j3 (by rfl),by simp⟩,_,5,rfl,_,rfl,?_,?_⟩
   ·dsimp only;rw[hl,aau hp hA hC];rfl
   ·unfold eY;rw[hn];dsimp only;rw[if_neg g]
    have:cE d.bM d.calls=0:=by simpa using g
    rw[this]
   ·unfold eY;rw[hn];dsimp only;rw[if_neg g]
  case jG=>exact b9.idx he []
  case l8=>
   intro g
   have g:jZ d≠0:=by simpa using g
   refine Z2 d.bM [] _ d.made [] d.made d.calls d.raw no k sh eA.length rfl (b9.idx he []) rfl ?_
   refine⟨gT d,[1,2,3,4,5],⟨⟨d.files,[],[],_,[],[],[],[],_,[],[],by simp,by simp,by simp,hf,.nil,rfl,by simp[gT],rfl,by simp[bS,gT],.none⟩,rfl,rfl,rfl,j3 (by rfl),by simp⟩,_,5,rfl,_,rfl,?_,?_⟩
   ·unfold eY;rw[hn];dsimp only;rw[if_pos g]
   ·unfold eY;rw[hn];dsimp only;rw[if_pos g]
theorem aaz(d:ay):aE av9 71 [.pointer (some ⟨0,0,none⟩)] [.abs d] fun r o=>r=.ret (.int .i64 d.raw)∧o=[.abs d]:=by
 refine aE.yz (aE.yv (x0:=[]) fun eR L2 hf=>?_) rfl
 have he:=nR hf
 refine aE.cT (n:=cn av9 71) (by kernel_rfl) ?_
 refine aae d.bM [] (bS eR) d.made [] d.made d.calls d.raw rfl (aW _) (b9.idx he []) rfl ?_
 refine aad d.bM [] (bS eR) d.made [] d.made d.calls d.raw rfl (b9.idx he []) rfl ?_
 exact⟨d,[1,2,3,4,5],⟨⟨d.files,[],[],eR,[],[],[],[],L2,[],[],by simp,by simp,by simp,hf,.nil,rfl,by simp,rfl,by simp[bS],.none⟩,rfl,rfl,rfl,j3 (by rfl),by simp⟩,d,5,rfl,_,rfl,rfl,rfl⟩
theorem aaA(d:ay):aE av9 20 [.pointer (some ⟨0,0,none⟩)] [.abs d] fun r o=>r=.ret (.int .i64 d.calls)∧o=[.abs d]:=by
 refine aE.yz (aE.yv (x0:=[]) fun eR L2 hf=>?_) rfl
 have he:=nR hf
 refine aE.cT (n:=cn av9 20) (by kernel_rfl) ?_
 refine aag d.bM [] (bS eR) d.made [] d.made d.calls d.raw rfl (aW _) (b9.idx he []) rfl ?_
 refine aaf d.bM [] (bS eR) d.made [] d.made d.calls d.raw rfl (b9.idx he []) rfl ?_
 exact⟨d,[1,2,3,4,5],⟨⟨d.files,[],[],eR,[],[],[],[],L2,[],[],by simp,by simp,by simp,hf,.nil,rfl,by simp,rfl,by simp[bS],.none⟩,rfl,rfl,rfl,j3 (by rfl),by simp⟩,d,5,rfl,_,rfl,rfl,rfl⟩
theorem aaB(d:ay)(hd:cj d)(no:Int)(b:ByteArray)(hn:fileOf d.files no=none):aE av9 98 [.pointer (some ⟨0,0,none⟩),.int .i64 no,.slice (some ⟨1,0,none⟩) b.size b.size] [.abs d,.cells (ai b) 5 false]
 fun r o=>r=.ret (.int .i64 (bO d no b).1)∧o=[.abs (bO d no b).2,.cells (ai b) 5 false]:=by
 refine aE.Oz (c:=ai b) (el:=5) (aH _) (aE.Yy fun eR L2 hf=>?_) rfl
 have he:=nR hf
 refine aE.cT (n:=cn av9 98) (by kernel_rfl) ?_
 apply aac d.bM b (bS eR) d.made [] d.made d.calls d.raw no hd.bQ (aH _) he rfl (GP hf hn) (aW _) (b9.idx he []) (b9.qO he [])
 case n0=>exact fo rfl rfl
 case aR=>exact aH _
 case be=>exact aW _
 case bB=>exact b9.idx he []
 case br=>rfl
 case l5=>
  refine aab d.bM b (bS eR) d.made [] d.made d.calls d.raw no (b9.idx he []) rfl ?_
  refine⟨d,[2,3,4,5],⟨⟨d.files,[],[],eR,[],[],[],[],L2,[],[],by simp,by simp,by simp,hf,.nil,rfl,by simp,rfl,by simp[bS],.none⟩,rfl,rfl,rfl,j3 (by rfl),by simp⟩,d,4,rfl,_,rfl,?_,?_⟩
  ·unfold bO;rw[hn]
  ·unfold bO;rw[hn]
theorem aaC(fb b:ByteArray):ai fb++apE (b.size*1) (ai b)=ai (fb++b):=by
 rw[NT,Nat.mul_one,List.take_of_length_le (by rw[nj];exact Nat.le_refl _)]
theorem aaD(d:ay)(hd:cj d)(no:Int)(b:ByteArray)(cf:∀f,fileOf d.files no=some f→f.size+b.size≤1000000):aE av9 98 [.pointer (some ⟨0,0,none⟩),.int .i64 no,.slice (some ⟨1,0,none⟩) b.size b.size] [.abs d,.cells (ai b) 5 false]
 fun r o=>r=.ret (.int .i64 (bO d no b).1)∧o=[.abs (bO d no b).2,.cells (ai b) 5 false]:=by
 cases hn:fileOf d.files no with
 |none=>exact aaB d hd no b hn
 |some f=>
  obtain⟨A,p,C,hl,hp,Bs,hA⟩:=GO hn
  have hC:∀q∈C,(q.1:Int)≠no:=Ox (p:=p) (by rw[←hl];exact hd.fX) hp
  have jN:=hd.size p (by rw[hl];simp)
  have aaE:p.2.size+b.size≤1000000:=by rw[Bs];exact cf f hn
  refine aE.Oz (c:=ai b) (el:=5) (aH _) (aE.YA hl fun eA eC kf sf LA LF LC h1 h2 h3 jF=>?_) rfl
  have he:b9 (bS eA++([aqE (apm .i64 p.1) (aqo (some ⟨4,0,none⟩)) (p.1-1)]++bS eC))=true:=wb (nR h1) (wb rfl (nR h2))
  have uu:=GQ h1 hA hp (aqo (some ⟨4,0,none⟩)) (p.1-1) (bS eC)
  refine aE.cT (n:=cn av9 98) (by kernel_rfl) ?_
  apply aaa d.bM b (bS eA++([aqE (apm .i64 p.1) (aqo (some ⟨4,0,none⟩)) (p.1-1)]++bS eC)) d.made p.2 d.made d.calls d.raw no eA.length hd.bQ he uu jN (aW _) (b9.idx he []) (b9.qO he [])
  case n0=>exact fo rfl rfl
  case n7=>intros;exact fo rfl rfl
  case n8=>intros;exact Nat.ble_eq_true_of_le aaE
  case n9=>intros;exact tX (oL (aH _) _)
  case aR=>exact aH _
  case be=>exact aW _
  case bB=>exact b9.idx he []
  case br=>exact aH _
  case jG=>exact b9.idx he [6]
  case l5=>
   intro g
   have g:b.size=0:=by simpa using g
   refine Z6 d.bM b _ d.made p.2 d.made d.calls d.raw no eA.length (b9.idx he []) ?_
   refine⟨d,[2,3,4,5],[p],_,rfl,hl,rfl,rfl,.full p 4 5 rfl rfl ⟨by omega,rfl⟩ ⟨by omega,rfl⟩ (by omega) jF,rfl,rfl,rfl,j3 (by rfl),by simp,d,4,rfl,_,rfl,?_,?_⟩
   ·unfold bO;rw[hn];dsimp only;rw[if_pos (.inl g)]
   ·unfold bO;rw[hn];dsimp only;rw[if_pos (.inl g)]
  case l6=>
   intro g g1
   have g1:1024<b.size:=by have:=of_decide_eq_true g1;omega
   refine Z7 d.bM b _ d.made p.2 d.made d.calls d.raw no eA.length (b9.idx he []) ?_
   refine⟨d,[2,3,4,5],[p],_,rfl,hl,rfl,rfl,.full p 4 5 rfl rfl ⟨by omega,rfl⟩ ⟨by omega,rfl⟩ (by omega) jF,rfl,rfl,rfl,j3 (by rfl),by simp,d,4,rfl,_,rfl,?_,?_⟩
   ·unfold bO;rw[hn];dsimp only;rw[if_pos (.inr g1)]
   ·unfold bO;rw[hn];dsimp only;rw[if_pos (.inr g1)]
  case iu=>
   intro g g1 g2
   have g:¬(b.size=0∨1024<b.size):=by
    have h1:¬(b.size=0):=by simpa using g
    have:=of_decide_eq_false g1
    omega
   have g2:¬jZ d≠0:=by simpa using g2
   refine Z8 d.bM b _ d.made p.2 d.made d.calls d.raw no eA.length (aH _) (aW _) (b9.idx he [6]) ?_
   rw[aaC,←ByteArray.size_append]
   refine⟨{gT d with files:=lq d.files no b},[2,3,4,5,6],[(p.1,p.2++b)],_,rfl,?_,rfl,rfl,.full (p.1,p.2++b) 4 6 rfl rfl ⟨by omega,rfl⟩ ⟨by omega,rfl⟩ (by omega) jF,rfl,rfl,rfl,j3 (by rfl),by simp,_,5,rfl,_,rfl,?_,?_⟩
   ·dsimp only;rw[hl,aat hp hA hC]
   ·unfold bO;rw[hn];dsimp only;rw[if_neg g,if_neg g2]
    have:cE d.bM d.calls=0:=by simpa using g2
    rw[this]
   ·unfold bO;rw[hn];dsimp only;rw[if_neg g,if_neg g2]
  case jY=>
   intro g g1 g2
   have g:¬(b.size=0∨1024<b.size):=by
    have h1:¬(b.size=0):=by simpa using g
    have:=of_decide_eq_false g1
    omega
   have g2:jZ d≠0:=by simpa using g2
   refine Z9 d.bM b _ d.made p.2 d.made d.calls d.raw no eA.length (b9.idx he []) ?_
   refine⟨gT d,[2,3,4,5],[p],_,rfl,hl,rfl,rfl,.full p 4 5 rfl rfl ⟨by omega,rfl⟩ ⟨by omega,rfl⟩ (by omega) jF,rfl,rfl,rfl,j3 (by rfl),by simp,_,4,rfl,_,rfl,?_,?_⟩
   ·unfold bO;rw[hn];dsimp only;rw[if_neg g,if_pos g2]
   ·unfold bO;rw[hn];dsimp only;rw[if_neg g,if_pos g2]
def yA(x:ByteArray×Int×ay):bx×List ag:=if x.2.1=0 then(.ret (.tuple #[.slice (some ⟨1,0,none⟩) x.1.size x.1.size,.int .i64 0]),[.abs x.2.2,.cells (ai x.1) 5 false])else(.ret (.tuple #[.slice none 0 0,.int .i64 x.2.1]),[.abs x.2.2])
theorem aE.aaF{f:apQ}{args:List ape}{objs:List ag}{Q:bx→List ag→Prop}(h:aE av9 f args objs fun r o=>(∃d n,o=.abs d::aum n .dead∧(∃r',qH (eX [0]) r=some r'∧Q r' [.abs d]))∨
 ∃d b,o=[.abs d,.dead,.dead,.dead,.dead,.dead,.cells (ai b) 5 false]∧(∃r',qH (eX [0,6]) r=some r'∧Q r' [.abs d,.cells (ai b) 5 false]))(hl:objs.length=1):aE av9 f args objs Q:=by
 refine aE.trim h ?_
 rintro r o (⟨d,n,rfl,r',h1,h2⟩|⟨d,b,rfl,r',h1,h2⟩)
 ·refine⟨[0],[],r',[.abs d],[],?_,fun c hc=>(by cases hc),h2⟩
  rw[hl]
  unfold oN
  simp only[getAll,ap3,asi,asF,pO,h1]
  rfl
 ·refine⟨[0,6],[6],r',[.abs d,.cells (ai b) 5 false],[ai b],?_,fun c' lJ=>(by rw[aqd]at lJ;subst lJ;exact aH _),h2⟩
  rw[hl]
  unfold oN
  simp only[getAll,ap3,aqt,asi,asF,pO,h1]
  rfl
theorem aaG(d:ay)(hd:cj d)(no p bT:Int):aE av9 79 [.pointer (some ⟨0,0,none⟩),.int .i64 no,.int .i64 p,.int .i64 bT] [.abs d]
 fun r o=>r=(yA (aK d no p bT)).1∧o=(yA (aK d no p bT)).2:=by
 cases hn:fileOf d.files no with
 |none=>
  refine aE.yz (aE.yv (x0:=[]) fun eR L2 hf=>?_) rfl
  have he:=nR hf
  refine aE.cT (n:=cn av9 79) (by kernel_rfl) ?_
  apply aaq d.bM [] (bS eR) d.made [] d.made d.calls d.raw no p bT hd.bQ rfl he rfl (GP hf hn) (aW _) (b9.idx he []) (b9.qO he [])
  case n0=>exact fo rfl rfl
  case aR=>rfl
  case be=>exact aW _
  case bB=>exact b9.idx he []
  case br=>rfl
  case l5=>
   refine aap d.bM [] (bS eR) d.made [] d.made d.calls d.raw no p bT rfl (b9.idx he []) rfl ?_
   have e:aK d no p bT=(apj,1,d):=by unfold aK;rw[hn]
   exact⟨d,[1,2,3,4,5],⟨⟨d.files,[],[],eR,[],[],[],[],L2,[],[],by simp,by simp,by simp,hf,.nil,rfl,by simp,rfl,by simp[bS],.none⟩,rfl,rfl,rfl,j3 (by rfl),by simp⟩,d,5,rfl,_,rfl,by rw[e];rfl,by rw[e];rfl⟩
 |some f=>
  obtain⟨A,q,C,hl,hp,Bs,hA⟩:=GO hn
  have jN:=hd.size q (by rw[hl];simp)
  subst Bs
  refine aE.aaF (aE.Yz (x0:=[]) hl fun eA eC kf sf LA LF LC h1 h2 h3 jF=>?_) rfl
  have he:b9 (bS eA++([aqE (apm .i64 q.1) (aqo (some ⟨4,0,none⟩)) (q.1-1)]++bS eC))=true:=wb (nR h1) (wb rfl (nR h2))
  have uu:=GQ h1 hA hp (aqo (some ⟨4,0,none⟩)) (q.1-1) (bS eC)
  refine aE.cT (n:=cn av9 79) (by kernel_rfl) ?_
  apply aao d.bM (bS eA++([aqE (apm .i64 q.1) (aqo (some ⟨4,0,none⟩)) (q.1-1)]++bS eC)) d.made q.2 d.made d.calls d.raw no p bT eA.length hd.bQ he uu jN (aW _) (b9.idx he []) (b9.qO he [])
  case n0=>exact fo rfl rfl
  case n7=>intros;exact fo rfl rfl
  case aR=>exact aW _
  case be=>exact b9.idx he []
  case bB=>exact aH _
  case br=>exact b9.idx he [6]
  case n9=>
   intro g g1 g2 g3
   have g:=of_decide_eq_false g
   have g1:=of_decide_eq_false g1
   have g2:=of_decide_eq_false g2
   refine ZA ?_ (by omega) jN
   split<;>omega
  case l4=>
   intro g
   have g:=of_decide_eq_true g
   have e:aK d no p bT=(apj,1,d):=by unfold aK;rw[hn];dsimp only;rw[if_pos (.inl g)]
   refine aaj d.bM _ d.made q.2 d.made d.calls d.raw no p bT eA.length (b9.idx he []) ?_
   exact⟨d,[1,2,3,4,5],[q],_,rfl,hl,rfl,rfl,.full q 4 5 rfl rfl ⟨by omega,rfl⟩ ⟨by omega,rfl⟩ (by omega) jF,rfl,rfl,rfl,j3 (by rfl),by simp,.inl ⟨d,5,rfl,_,rfl,by rw[e];rfl,by rw[e];rfl⟩⟩
  case l5=>
   intro g g1
   have g1:=of_decide_eq_true g1
   have e:aK d no p bT=(apj,1,d):=by unfold aK;rw[hn];dsimp only;rw[if_pos (.inr (.inl (by omega)))]
   refine aak d.bM _ d.made q.2 d.made d.calls d.raw no p bT eA.length (b9.idx he []) ?_
   exact⟨d,[1,2,3,4,5],[q],_,rfl,hl,rfl,rfl,.full q 4 5 rfl rfl ⟨by omega,rfl⟩ ⟨by omega,rfl⟩ (by omega) jF,rfl,rfl,rfl,j3 (by rfl),by simp,.inl ⟨d,5,rfl,_,rfl,by rw[e];rfl,by rw[e];rfl⟩⟩
  case l6=>
   intro g g1 g2
   have g2:=of_decide_eq_true g2
   have e:aK d no p bT=(apj,1,d):=by unfold aK;rw[hn];dsimp only;rw[if_pos (.inr (.inr g2))]
   refine aal d.bM _ d.made q.2 d.made d.calls d.raw no p bT eA.length (b9.idx he []) ?_
   exact⟨d,[1,2,3,4,5],[q],_,rfl,hl,rfl,rfl,.full q 4 5 rfl rfl ⟨by omega,rfl⟩ ⟨by omega,rfl⟩ (by omega) jF,rfl,rfl,rfl,j3 (by rfl),by simp,.inl ⟨d,5,rfl,_,rfl,by rw[e];rfl,by rw[e];rfl⟩⟩
  case l8=>
   intro g g1 g2 g3
   have g:=of_decide_eq_false g
   have g1:=of_decide_eq_false g1
   have g2:=of_decide_eq_false g2
   have g3:jZ d≠0:=by simpa using g3
   have e:aK d no p bT=(apj,jZ d,gT d):=by unfold aK;rw[hn];dsimp only;rw[if_neg (by omega),if_pos g3]
   refine aam d.bM _ d.made q.2 d.made d.calls d.raw no p bT eA.length (b9.idx he []) ?_
   exact⟨gT d,[1,2,3,4,5],[q],_,rfl,hl,rfl,rfl,.full q 4 5 rfl rfl ⟨by omega,rfl⟩ ⟨by omega,rfl⟩ (by omega) jF,rfl,rfl,rfl,j3 (by rfl),by simp,.inl ⟨gT d,5,rfl,_,rfl,by rw[e];unfold yA;rw[if_neg g3],by rw[e];unfold yA;rw[if_neg g3]⟩⟩
  case iu=>
   intro g g1 g2 g3
   have g:=of_decide_eq_false g
   have g1:=of_decide_eq_false g1
   have g2:=of_decide_eq_false g2
   have g3:¬jZ d≠0:=by simpa using g3
   have hm:(apd (if bT<((q.2.size-apd p:Nat):Int)then bT else((q.2.size-apd p:Nat):Int))-0)=min (q.2.size-p.toNat) bT.toNat:=by split<;>omega
   let out:=q.2.extract p.toNat (p.toNat+min (q.2.size-p.toNat) bT.toNat)
   have e:aK d no p bT=(out,0,gT d):=by unfold aK;rw[hn];dsimp only;rw[if_neg (by omega),if_neg g3]
   have ho:out.size=min (q.2.size-p.toNat) bT.toNat:=by show(q.2.extract _ _).size=_;rw[ByteArray.size_extract];omega
   have hb:apE (min (q.2.size-p.toNat) bT.toNat) (aqV (0+apd p*1+0) (ai q.2))=ai out:=by
    show _=ai (q.2.extract _ _)
    rw[ZB,show 0+apd p*1+0=p.toNat by omega,show p.toNat+min (q.2.size-p.toNat) bT.toNat-p.toNat=min (q.2.size-p.toNat) bT.toNat by omega]
   refine aan d.bM _ d.made q.2 d.made d.calls d.raw no p bT eA.length (aW _) (b9.idx he [6]) (aH _) ?_
   rw[hm,hb,←ho]
   exact⟨gT d,[1,2,3,4,5],[q],_,rfl,hl,rfl,rfl,.full q 4 5 rfl rfl ⟨by omega,rfl⟩ ⟨by omega,rfl⟩ (by omega) jF,rfl,rfl,rfl,j3 (by rfl),by simp,.inr ⟨gT d,out,rfl,_,rfl,by rw[e];rfl,by rw[e];rfl⟩⟩
end Go.Proofs.YtnlkkgpcikkpoaaGreat
namespace Go.Proofs.YtnlkkgpcikkpoaaGreat.Vm
open Go.RowKit
def qQ:List (Option Nat)→Nat→Option Nat
 | [],_=>none
 |some y::l,x=>match apw y x with
  |true=>some 0
  |false=>match qQ l x with
   |some i=>some (i+1)
   |none=>none
 |none::l,x=>match qQ l x with
  |some i=>some (i+1)
  |none=>none
theorem GR:∀{σ:List (Option Nat)} {x i:Nat},qQ σ x=some i→σ[i]?=some (some x)
 | [],x,i,h=>by cases h
 |some y::l,x,i,h=>by
  unfold qQ at h
  split at h
  ·rename_i hb;cases h;rw[apz hb];rfl
  ·split at h
   ·rename_i j hj;cases h;simpa using GR hj
   ·cases h
 |none::l,x,i,h=>by
  unfold qQ at h
  split at h
  ·rename_i j hj;cases h;simpa using GR hj
  ·cases h
def we:Nat→List (Option Nat)→Nat→Bool
 |0,_,_=>true
 |k+1,some y::l,i=>apw y i&&we k l (i+1)
 |k+1,none::l,i=>we k l (i+1)
 |_+1,[],_=>false
theorem GS:∀{k i:Nat} {l:List (Option Nat)},we k l i=true→∀x,x<k→l[x]?=some (some (i+x))∨l[x]?=some none
 |0,i,l,h,x,hx=>by omega
 |k+1,i,some y::l,h,x,hx=>by
  simp only[we,apt]at h
  cases x with
  |zero=>simp[apz h.1]
  |succ x=>simpa[show i+1+x=i+(x+1)by omega]using GS h.2 x (by omega)
 |k+1,i,none::l,h,x,hx=>by
  simp only[we]at h
  cases x with
  |zero=>simp
  |succ x=>simpa[show i+1+x=i+(x+1)by omega]using GS h x (by omega)
 |k+1,i,[],h,x,hx=>by cases h
def yB:List (Option Nat)→Bool
 | []=>true
 |some y::l=> !(l.any fun z=>match z with|some z=>apw y z|none=>false)&&yB l
 |none::l=>yB l
theorem GU:∀{l:List (Option Nat)},yB l=true→∀{x y z:Nat},l[x]?=some (some z)→l[y]?=some (some z)→x=y
 | [],h,x,y,z,hx,hy=>by simp at hx
 |none::l,h,x,y,z,hx,hy=>by
  cases x with
  |zero=>simp at hx
  |succ x=>
   cases y with
   |zero=>simp at hy
   |succ y=>exact congrArg (· +1) (GU (l:=l) h (by simpa using hx) (by simpa using hy))
 |some a::l,h,x,y,z,hx,hy=>by
  simp only[yB,apt,arm,ar0]at h
  have bk:∀i,l[i]? ≠some (some a):=fun i hi=>by
   have:=h.1 _ (apX hi)
   simp at this
  cases x with
  |zero=>
   simp only[ap3,api]at hx
   subst hx
   cases y with
   |zero=>rfl
   |succ y=>exact absurd (by simpa using hy) (bk y)
  |succ x=>
   cases y with
   |zero=>
    simp only[ap3,api]at hy
    subst hy
    exact absurd (by simpa using hx) (bk x)
   |succ y=>exact congrArg (· +1) (GU h.2 (by simpa using hx) (by simpa using hy))
def Bt(τ:Nat→Option Nat):List (Nat×ape)→Option (List (Nat×ape))
 | []=>some []
 |(i,v)::l=>match ij τ 6 v,Bt τ l with
  |some u,some r=>some ((i,u)::r)
  |_,_=>none
theorem OA{τ:Nat→Option Nat}:∀{sl r:List (Nat×ape)},Bt τ sl=some r→∀p∈r,∃v,(p.1,v)∈sl∧ij τ 6 v=some p.2
 | [],r,h,p,hp=>by cases h;cases hp
 |(i,v)::l,r,h,p,hp=>by
  unfold Bt at h
  split at h
  ·rename_i u q hu hq
   cases h
   rcases apx.1 hp with rfl|hp
   ·exact⟨v,apC,hu⟩
   ·obtain⟨v',h1,h2⟩:=OA hq p hp
    exact⟨v',apB _ h1,h2⟩
  ·cases h
def GV(objs:List ag)(σ:List (Option Nat)):List (Nat×ag):=σ.map fun y=>match y with
 |some y=>(y,(objs[y]?).getD .dead)
 |none=>(262144,.dead)
def OB(pl:List Nat)(σ:List (Option Nat))(d:aj):Option (aj×List (List ape)):=match Bt (qQ σ) d.sl,pO pl (qQ σ) (GV d.objs σ)with
 |some sl,some (objs,q)=>some (⟨sl,objs⟩,q)
 |_,_=>none
theorem OC:∀(l:List (Nat×ape)) (L:List ape) {i:Nat},(∀p∈l,p.1≠i)→(l.foldl (fun L p=>L.set p.1 p.2) L)[i]?=L[i]?
 | [],L,i,_=>rfl
 |p::l,L,i,h=>by
  rw[ari,OC l _ fun q hq=>h q (apB _ hq),List.getElem?_set_ne (h p apC)]
theorem OD:∀(l:List (Nat×ape)) (L:List ape),iK (l.map (·.1))=true→∀p∈l,p.1<L.length→(l.foldl (fun L p=>L.set p.1 p.2) L)[p.1]?=some p.2
 | [],L,_,p,hp,_=>by cases hp
 |q::l,L,hn,p,hp,hlt=>by
  simp only[List.map_cons,iK,apt,arm,ar0]at hn
  rw[ari]
  rcases apx.1 hp with rfl|hp
  ·rw[OC,List.getElem?_set_self hlt]
   intro r hr e
   have:=hn.1 r.1 (arn hr)
   rw[e]at this
   simp at this
  ·exact OD l _ hn.2 p hp (by rw[List.length_set];exact hlt)
theorem aaH{im:List ape}{i:Nat}{v:ape}(hn:im.length≤1024)(h:im[i]?=some v):(AO im).at i=v:=by
 have hi:i<im.length:=(app.1 h).1
 show Fr.at ⟨Fr.rj im 0 .nil,im.length,[],[]⟩ i=v
 unfold Fr.at
 dsimp only
 rw[dQ.2 hi]
 dsimp only
 rw[Fr.xX (by omega) (by omega),if_pos (by omega),Nat.sub_zero,h]
theorem an.move{P:Program}{n k:Nat}{l:List apV}{d d':aj}{Q:bd→aj→Prop}(σ:List (Option Nat))(pl:List Nat){q:List (List ape)}(hm:OB pl σ d=some (d',q))(hq:∀c∈q,c.all af=true)
 (hc:(we k σ 0&&yB σ&&apG σ.length 262144&&iK (d.sl.map (·.1))&&d.sl.all (fun p=>apy p.1 n)&&d'.sl.all (fun p=>apy p.1 n))=true)(hex:σ.all (fun y=>match y with|some y=>apy y d.objs.length|none=>true)=true)
 (h:an P n k l d' Q):an P n k l d Q:=by
 intro X hn hk a w py
 refine h X hn hk a w ?_
 obtain⟨ρ,u,M,hd⟩:=py
 simp only[apt]at hc
 obtain⟨⟨⟨⟨⟨c1,c2⟩,c3⟩,c4⟩,c5⟩,c6⟩:=hc
 have c3:=Nat.le_of_ble_eq_true c3
 unfold OB at hm
 split at hm
 ·rename_i aaI jj q2 h1 h2
  simp only[api,apn]at hm
  obtain⟨rfl,rfl⟩:=hm
  have e7:=nP h2 hq
  have hlen:σ.length=jj.length:=by have:=e7.len;simpa[GV]using this
  let ρ2:Ren:=fun x=>match small x with
   |true=>match σ[x]?with
    |some (some y)=>ρ y
    |some none=>ρ x
    |none=>none
   |false=>ρ x
  have lg:∀x,small x=false→ρ2 x=ρ x:=fun x h=>by show(match small x with|true=>_|false=>_)=_;rw[h]
  have eo:∀x,small x=true→ρ2 x=match σ[x]?with|some (some y)=>ρ y|some none=>ρ x|none=>none:=fun x h=>by show(match small x with|true=>_|false=>_)=_;rw[h]
  have tR:∀i y,σ[i]?=some y→small i=true:=fun i y h=>gX.2 (by
   have:i<σ.length:=(app.1 h).1
   have:(2:Nat)^18=262144:=rfl
   omega)
  have hσ:∀i y r,σ[i]?=some (some y)→ρ y=some r→ρ2 i=some r:=fun i y r h1 h2=>by rw[eo i (tR i _ h1),h1];exact h2
  have rR:∀y i r,qQ σ y=some i→ρ y=some r→ρ2 i=some r:=fun y i r h1 h2=>hσ i y r (GR h1) h2
  have pD:Full ρ2:=fun r=>by
   obtain⟨y,h1,h2⟩:=hd.full r
   exact⟨y,h1,by rw[lg y h1];exact h2⟩
  obtain⟨u2,tx⟩:∃u2:Nat→ape,FR ρ2 ((eH X.n u2 aaI).dH (M.map eQ)) a:=by
   have cf:a.tmps.size=X.n:=by rw[hd.fr.size];show(gB X.n u d.sl).length=_;unfold gB;rw[lN];simp
   have OE:X.n≤1024:=by have:=hd.fr.small;have e:((eH X.n u d.sl).dH (M.map eQ)).n=X.n:=by show(gB X.n u d.sl).length=_;unfold gB;rw[lN];simp
                        rw[e]at this;exact this
   refine FR.make cf OE (hd.fr.rK rfl) (fun i=>(hd.fr.at_ i).full pD) fun p hp=>?_
   have jF:p.1<X.n:=by rw[hn];exact dQ.1 (apR.1 c6 p hp)
   obtain⟨v,hv,jH⟩:=OA h1 p hp
   refine⟨jF,qE rR 6 _ _ _ jH ?_⟩
   have ca:=hd.fr.at_ p.1
   have hg:=OD d.sl ((arO X.n).map u) c4 (p.1,v) hv (by simpa using jF)
   have D3:(gB X.n u d.sl).length≤1024:=by unfold gB;rw[lN];simpa using OE
   have:((eH X.n u d.sl).dH (M.map eQ)).at p.1=v:=aaH D3 hg
   rw[this]at ca
   exact ca
  refine⟨ρ2,u2,M,{full:=pD,kept:=fun x hx=>?_,fr:=tx,mem:=?_,bQ:=by rw[←hlen];exact c3,quiet:=hd.quiet,fX:=hd.fX,outside:=hd.outside}⟩
  ·rw[hk]at hx
   rcases GS c1 x hx with h3|h3
   ·rw[aqR]at h3
    rw[eo x (tR x _ h3),h3];exact hd.kept x (by rw[hk];exact hx)
   ·rw[eo x (tR x _ h3),h3];exact hd.kept x (by rw[hk];exact hx)
  ·have tz:∀(i:Nat) (o:ag),jj[i]?=some o→(∃y ob,σ[i]?=some (some y)∧d.objs[y]?=some ob∧ON (qQ σ) ob o)∨(σ[i]?=some none∧o=.dead):=fun i o hi=>by
    obtain⟨ob,h3,h4⟩:=e7.get hi
    unfold GV at h3
    rw[arT,aqJ]at h3
    cases hb:σ[i]?with
    |none=>rw[hb]at h3;cases h3
    |some y=>
     rw[hb]at h3
     simp only[Option.map_some,api,Function.comp_apply]at h3
     cases y with
     |none=>
      dsimp only at h3
      subst h3
      right
      refine⟨rfl,?_⟩
      cases h4;rfl
     |some y=>
      dsimp only at h3
      have hy:y<d.objs.length:=by
       have:=apR.1 hex (some y) (apX hb)
       exact dQ.1 this
      rw[apl hy]at h3
      simp only[Option.getD_some]at h3
      subst h3
      exact .inl ⟨y,_,rfl,apl hy,h4⟩
   have aaJ:∀y ob,d.objs[y]?=some ob→cm d.objs y=some ob:=fun y ob hy=>by
    rw[cx];exact hy
    exact gX.2 (by have:=(app.1 hy).1;have:=hd.bQ;have:(2:Nat)^18=262144:=rfl;omega)
   refine hd.mem.FH (fun x=>match small x with
    |true=>(σ[x]?).join
    |false=>none) (fun x o hx bk=>?_) (fun x y z hx hy=>?_) fun x hx=>?_
   ·cases hs:small x with
    |false=>rw[il hs]at hx;cases hx;exact absurd rfl bk
    |true=>
     rw[cx hs]at hx
     rcases tz x o hx with⟨y,ob,h1,h2,h3⟩|⟨_,rfl⟩
     ·refine⟨y,ob,by dsimp only;rw[h1];rfl,aaJ y ob h2,h3.ne bk,?_,fun r hl=>⟨(h3.live hl).1,(h3.live hl).2,h3.or rR hl⟩,fun n size row e=>?_,fun el ro e=>?_,fun d e=>?_⟩
      ·rw[eo x hs,h1]
      ·subst e;cases h3;rfl
      ·subst e
       cases h3 with
       |plain=>rfl
       |cells c _ _ _ h=>
        cases c with
        |nil=>rfl
        |cons v c=>have:=tN h;simp at this
      ·subst e;cases h3;rfl
     ·exact absurd rfl bk
   ·have key:∀q,(match small q with|true=>(σ[q]?).join|false=>none)=some z→σ[q]?=some (some z):=fun q hq=>by
     cases hs:small q with
     |true=>
      rw[hs]at hq
      cases hc:σ[q]?with
      |none=>rw[hc]at hq;cases hq
      |some y=>rw[hc]at hq;simp only[Option.join_some]at hq;rw[hq]
     |false=>rw[hs]at hq;cases hq
    exact GU c2 (key x hx) (key y hy)
   ·cases hs:small x with
    |false=>rw[il hs]at hx;cases hx
    |true=>
     rw[cx hs]at hx
     rw[eo x hs]
     have:σ[x]?=none:=by
      rw[List.getElem?_eq_none_iff]at hx⊢
      rw[hlen];exact hx
     rw[this]
 ·cases hm
end Go.Proofs.YtnlkkgpcikkpoaaGreat.Vm
namespace Go.Proofs.YtnlkkgpcikkpoaaGreat
open Go Vm Go.RowKit
structure ad where
 at_:Int
 more:Bool
 bq:Bool
 B:Nat→Int
 n:Int
 failed:Bool
 aB:Bool
 ro:Nat
 rn:Nat
 bH:Int
 sn:Nat
 hn:Nat
 ee:Bool
 raw:Int
 closed:Bool
def yC(B:Nat→Int):List ape:=[.int .u8 (B 0),.int .u8 (B 1),.int .u8 (B 2),.int .u8 (B 3),.int .u8 (B 4),.int .u8 (B 5),.int .u8 (B 6),.int .u8 (B 7),.int .u8 (B 8),.int .u8 (B 9),.int .u8 (B 10),.int .u8 (B 11),.int .u8 (B 12),.int .u8 (B 13),.int .u8 (B 14),.int .u8 (B 15),.int .u8 (B 16),.int .u8 (B 17),.int .u8 (B 18),.int .u8 (B 19),.int .u8 (B 20),.int .u8 (B 21),.int .u8 (B 22),.int .u8 (B 23),.int .u8 (B 24),.int .u8 (B 25),.int .u8 (B 26),.int .u8 (B 27),.int .u8 (B 28),.int .u8 (B 29),.int .u8 (B 30),.int .u8 (B 31),.int .u8 (B 32),.int .u8 (B 33),.int .u8 (B 34),.int .u8 (B 35),.int .u8 (B 36),.int .u8 (B 37),.int .u8 (B 38),.int .u8 (B 39),.int .u8 (B 40),.int .u8 (B 41),.int .u8 (B 42),.int .u8 (B 43),.int .u8 (B 44),.int .u8 (B 45),.int .u8 (B 46),.int .u8 (B 47),.int .u8 (B 48),.int .u8 (B 49),.int .u8 (B 50),.int .u8 (B 51),.int .u8 (B 52),.int .u8 (B 53),.int .u8 (B 54),.int .u8 (B 55),.int .u8 (B 56),.int .u8 (B 57),.int .u8 (B 58),.int .u8 (B 59),.int .u8 (B 60),.int .u8 (B 61),.int .u8 (B 62),.int .u8 (B 63)]
def aJ(S:ad)(a b c e:Nat):List ape:=[.int .i64 S.at_,.bool S.more,.bool S.bq]++yC S.B++[.int .i64 S.n,.bool S.failed,.pointer (some ⟨a,0,none⟩),.bool S.aB,.slice (some ⟨b,S.ro,none⟩) S.rn S.rn,.int .i64 S.bH,.slice (some ⟨c,0,none⟩) S.sn S.sn,.slice (some ⟨e,0,none⟩) S.hn S.hn,.bool S.ee,.int .i64 S.raw,.bool S.closed]
structure au where
 no:Int
 at_:Int
 line:ByteArray
 there:Bool
def kr(h:au):List ape:=[.int .i64 h.no,.int .i64 h.at_,.string h.line,.bool h.there]
def ak(l:List au):List ape:=(l.map kr).flatten
def aO(S:ad)(L:List ByteArray)(R:List Int)(H:List au)(d:ay):List ag:=[.cells (aJ S 1 2 3 4) 89 false,.abs d,.cells (ap L) 9 false,.cells (aq R) 3 false,.cells (ak H) 114 false]
theorem aU(l:List au):(ak l).all af=true:=by
 induction l with
 |nil=>rfl
 |cons x l ih=>show(kr x++ak l).all af=true;rw[atl,ih];rfl
theorem yD(l:List au):(ak l).length=l.length*4:=by
 induction l with
 |nil=>rfl
 |cons x l ih=>show(kr x++ak l).length=_;rw[apv,ih,ap1];show 4+_=_;omega
def bZ(a b:ByteArray):Int:=aqD a.data.toList b.data.toList
theorem aM{R0:bd→aj→Prop}{t:Tree}(L:List ByteArray)(R:List Int)(H:List au)(h:t.ok R0):(Tree.cD (aph (ap L) af) true (.cD (aph (aq R) af) true (.cD (aph (ak H) af) true t))).ok R0:=Tree.aN (aZ L) (Tree.aN (aG R) (Tree.aN (aU H) h))
theorem gL{q:List (List ape)}(L:List ByteArray)(R:List Int)(H:List au)(h:∀c∈q,c.all af=true):∀c∈ap L::aq R::ak H::q,c.all af=true:=aC (aZ L) (aC (aG R) (aC (aU H) h))
end Go.Proofs.YtnlkkgpcikkpoaaGreat
namespace Go.Proofs.YtnlkkgpcikkpoaaGreat
open Go Vm Go.RowKit
set_option maxHeartbeats 1000000
theorem aaK(a b:ByteArray)(w:aps):asL av9 123 #[.string a,.string b] w fun e w'=>e=.returned (.int .i64 (bZ a b))∧w'=w:=by
 go_enter Tryz.func123,Tryz.ntmps123
 go_wp2
 rw[ats Tryz.func135 (by kernel_rfl) (by kernel_rfl) (by kernel_rfl) (e:=ava) (by kernel_rfl),Lib.run_compareString]
 simp only[asM]
 rw[aua]
 go_wp2
 go_ret
 exact⟨rfl,rfl⟩
theorem aaL(a b:ByteArray)(w:aps):asL av9 100 #[.string a,.string b] w fun e w'=>e=.returned (.int .i64 (bZ a b))∧w'=w:=by
 go_enter Tryz.func100,Tryz.ntmps100
 go_wp2_with (go_at_call 123;refine(aaK a b _).mono ?_;rintro e w1 ⟨rfl,rfl⟩)
 go_ret
 exact⟨rfl,rfl⟩
theorem aaM(b o n c:Nat)(xs:List Int)(cv:Int)(w:aps)(hx:xs.length=n)(hc:∀i,i<n→w.cell? ⟨b,o+i,none⟩=some (.int .u8 (xs.getD i 0))):
 asL av9 80 #[.slice (some ⟨b,o,none⟩) n c,.int .u8 cv] w fun e w'=>e=.returned (.int .i64 (avo (aue xs) cv.toNat.toUInt8))∧w'=w:=by
 go_enter avO,avC
 go_wp2
 rw[ats avD (by kernel_rfl) (by kernel_rfl) (by kernel_rfl) (e:=arz) (by kernel_rfl),Lib.run_indexByteSlice w b o n c xs hx hc cv]
 simp only[asM]
 rw[aua]
 go_wp2
 go_ret
 exact⟨rfl,rfl⟩
theorem aaN{P:Program}(p:Addr)(c:Nat)(cv:Int)(w:aps):(arz #[.slice (some p) 0 c,.int .u8 cv]).run P w=.ok (.int .i64 (-1)) w:=by
 have hl:=Lib.run_loadBytesX (P:=P) w [] p .empty (fun j x hj=>by simp at hj)
 have hs:=Lib.run_indexByteString (P:=P) .empty cv w
 have he:(⟨apj.data++(aue []).toArray⟩:ByteArray)=.empty:=by
  apply ByteArray.ext
  rfl
 rw[he]at hl
 change Sem.run P (do
  let b ←atm (.slice (some p) 0 c)
  let c ←auC (.int .u8 cv)
  match(arO b.size).find? fun i=>b[i]! ==c with
  |some i=>pure (goInt i)
  |none=>pure (goInt (-1))) w=_
 change Sem.run P (do
  let b ←atm (.string .empty)
  let c ←auC (.int .u8 cv)
  match(arO b.size).find? fun i=>b[i]! ==c with
  |some i=>pure (goInt i)
  |none=>pure (goInt (-1))) w=_ at hs
 simp only[atm,Sem.run_bind,Sem.run_pure,hl,asM]at hs⊢
 exact hs
theorem aaO(cv:Int)(w:aps)(a:Option Addr)(c:Nat):asL av9 80 #[.slice a 0 c,.int .u8 cv] w fun e w'=>e=.returned (.int .i64 (-1))∧w'=w:=by
 have key:(arz #[.slice a 0 c,.int .u8 cv]).run av9 w=.ok (.int .i64 (-1)) w:=by
  cases a with
  |none=>exact Lib.run_indexByteNil w 0 c cv
  |some p=>exact aaN p c cv w
 go_enter avO,avC
 go_wp2
 rw[ats avD (by kernel_rfl) (by kernel_rfl) (by kernel_rfl) (e:=arz) (by kernel_rfl),key]
 simp only[asM]
 rw[aua]
 go_wp2
 go_ret
 exact⟨rfl,rfl⟩
theorem aaP(a b:ByteArray):aE av9 100 [.string a,.string b] [] fun r o=>r=.ret (.int .i64 (bZ a b))∧o=[]:=by
 intro B w₀ ρ w args' gK hn ha hw
 obtain⟨v1,l,e1,h1,h2⟩:=ha.gI
 obtain⟨v2,l2,e2,h3,h4⟩:=h2.gI
 have:=h1.pq;subst this
 have:=h3.pq;subst this
 have:=h4.kD;subst this
 have ea:args'= #[.string a,.string b]:=by rw[←aqq (xs:=args'),e1,e2]
 rw[ea]
 refine(aaL a b w).mono fun e w' he=>?_
 obtain⟨rfl,rfl⟩:=he
 exact⟨.ret (.int .i64 (bZ a b)),[],ρ,⟨rfl,rfl⟩,.bG _ rfl,gK,hw,by simp,fun _ _=>rfl⟩
def GW(a:List ape)(o:List ag):Option (Bool×bx×List ag):=match a,o with
 | [.string x,.string y],[]=>some (true,.ret (.int .i64 (bZ x y)),[])
 |_,_=>none
theorem aaQ:bp av9 100 (Sum.of GW):=bp.of fun a o r o' hg=>by
 unfold GW at hg
 split at hg
 ·cases hg;exact aaP _ _
 ·cases hg
def a7(b:ByteArray)(c:Int):Int:=avo b.data.toList c.toNat.toUInt8
theorem aaR(b:ByteArray)(c:Int)(ro:Bool):aE av9 80 [.slice (some ⟨0,0,none⟩) b.size b.size,.int .u8 c] [.cells (ai b) 5 ro] fun r o=>r=.ret (.int .i64 (a7 b c))∧o=[.cells (ai b) 5 ro]:=by
 intro B w₀ ρ w args' gK hn ha hw
 obtain⟨v1,l,e1,h1,h2⟩:=ha.gI
 obtain⟨v2,l2,e2,h3,h4⟩:=h2.gI
 have:=h3.jL;subst this
 have:=h4.kD;subst this
 have ea:args'= #[v1,.int .u8 c]:=by rw[←aqq (xs:=args'),e1,e2]
 rw[ea]
 have fin:∀{k:Int},a7 b c=k→asL av9 80 #[v1,.int .u8 c] w (fun e w'=>e=.returned (.int .i64 k)∧w'=w)→
  asL av9 80 #[v1,.int .u8 c] w fun e w'=>∃r ji ρ',(r=.ret (.int .i64 (a7 b c))∧ji=[.cells (ai b) 5 ro])∧CR ρ' r e∧Full ρ'∧WR av9 B w₀ ρ' (cm ji) w'∧ji.length≤262144∧∀x,x< [ag.cells (ai b) 5 ro].length→ρ' x=ρ x:=fun hk h=>h.mono fun e w' he=>by
  obtain⟨rfl,rfl⟩:=he
  subst hk
  exact⟨_,_,ρ,⟨rfl,rfl⟩,.bG _ rfl,gK,hw,by simp,fun _ _=>rfl⟩
 by_cases h0:b.size=0
 ·have hb:b=apj:=by
   cases b with|mk d=>
   have:d= #[]:=Array.eq_empty_of_size_eq_zero h0
   rw[this];rfl
  have hk:a7 b c= -1:=by subst hb;rfl
  have hv:∃a' c',v1=.slice a' 0 c':=by
   rw[h0]at h1
   exact h1.MW
  obtain⟨a',c',rfl⟩:=hv
  exact fin hk (aaO c w a' c')
 ·have bk:ai b≠[]:=by intro e;have:=congrArg apb e;rw[nj]at this;exact h0 this
  obtain⟨n,hn⟩:∃n,b.size=n:=⟨_,rfl⟩
  rw[hn]at h1 h0
  cases h1 with
  |bG _ h=>cases h
  |eh=>exact absurd rfl h0
  |sl _ _ _ _ bw q hq hc=>
   obtain⟨o',k1,k2,_⟩:=hw.live 0 _ q (by rw[cx rfl];rfl) hq (om bk)
   cases k2 with
   |cells _ _ bU _ a fr g1 g2 g3 g4 g5 g6=>
   refine fin rfl ?_
   have:=aaM q.aI (q.sh+0) n bw (b.data.toList.map fun x=>(x.toNat:Int)) c w (by rw[List.length_map];exact hn) (fun i hi=>by
    have fj:i<b.data.toList.length:=by rw[←hn]at hi;exact hi
    obtain⟨v',g7,g8⟩:=g6 i (.int .u8 (b.data.toList[i].toNat)) (by unfold ai;rw[aqJ,apl fj];rfl)
    have:=g8.jL
    subst this
    simp only[World.cell?,k1,Nat.add_zero,g7]
    rw[List.getD_eq_getElem?_getD,aqJ,apl fj]
    rfl)
   have e:aue (b.data.toList.map fun x=>(x.toNat:Int))=b.data.toList:=by
    unfold aue
    rw[arT]
    conv=>rhs;rw[←atG b.data.toList]
    refine arc fun x _=>?_
    simp
   rw[e]at this
   exact this
end Go.Proofs.YtnlkkgpcikkpoaaGreat
namespace Go.Proofs.YtnlkkgpcikkpoaaGreat
open Go Vm Go.RowKit
noncomputable section
noncomputable def aaS:List (apQ×Sum):=[(100,Sum.of GW)]
theorem Bu:dw av9 (dM av9 (dN aaS) 50 40):=dR du mixed (ed (.cons aaQ .nil)) 50 40
noncomputable def aaT:List apV:=aY (dz av9 74)
open Tree renaming aN→mN,dj→mF,eT→mL,fz→mQ,dB→mR,fH→mE
abbrev yE:=fun S L R H d=>([ab (aJ S 1 2 3 4) 89,.abs d,ab (ap L) 9,ab (aq R) 3,ab (ak H) 114]:List ag)
abbrev OF:=fun S L R H d a b=>(⟨[(6,aa (bZ b a))],yE S L R H d⟩:aj)
theorem aaU(S L R H d a b){Q:bg}(hq:Q (.ret (aa (bZ b a))) (yE S L R H d)):aF av9 74 17 5 Q .ret (OF S L R H d a b):=aF.ret (vs:=[aa (bZ b a)]) (l:=[]) (bs:=[0,1,2,3,4]) (pl:=[2,3,4]) (q:=[ap L,aq R,ak H]) (fun u=>by kernel_rfl) (by kernel_rfl) (gL L R H bc) hq
abbrev OG:=fun S L R H d a b=>(⟨[(6,aa (bZ a b))],yE S L R H d⟩:aj)
theorem aaV(S L R H d a b){Q:bg}(hq:Q (.ret (aa (bZ a b))) (yE S L R H d)):aF av9 74 17 5 Q .ret (OG S L R H d a b):=aF.ret (vs:=[aa (bZ a b)]) (l:=[]) (bs:=[0,1,2,3,4]) (pl:=[2,3,4]) (q:=[ap L,aq R,ak H]) (fun u=>by kernel_rfl) (by kernel_rfl) (gL L R H bc) hq
abbrev aaW:=fun S L R H d a b=>(⟨[(0,ao 0),(1,.string a),(2,.string b)],yE S L R H d⟩:aj)
theorem aaX(S L R H d a b)(pH:(ak H).all af=true){Q:aQ}(l3:(ad.aB S)=true→Q .ret (OF S L R H d a b))(l4:(ad.aB S)=false→Q .ret (OG S L R H d a b)):an av9 17 5 aaT (aaW S L R H d a b) Q:=
 aS Bu 1000 (.fork 1 (.leaf [6] [0,1,2,3,4] [2,3,4]) (.leaf [6] [0,1,2,3,4] [2,3,4])) (fun u=>by kernel_rfl) (mF (c:=ad.aB S) (fun h0=>(aM L R H (mR (l3 h0)))) (fun h0=>(aM L R H (mR (l4 h0)))))
end
end Go.Proofs.YtnlkkgpcikkpoaaGreat
namespace Go.Proofs.YtnlkkgpcikkpoaaGreat
structure TO{α:Type}(c:α→α→Int):Prop where
 asym:∀a b,c a b<0→¬c b a<0
 trans:∀a b x,¬c b a<0→¬c x b<0→¬c x a<0
 aaY:∀a b,¬c a b<0→¬c b a<0→a=b
section
variable {α:Type} {c:α→α→Int}
def fJ(c:α→α→Int)(a b:α):Bool:= !decide (c b a<0)
theorem pU{a b:α}:fJ c a b=true↔¬c b a<0:=by unfold fJ;simp
theorem TO.le_trans(h:TO c){a b x:α}(h1:fJ c a b=true)(h2:fJ c b x=true):fJ c a x=true:=by
 rw[pU]at*;exact h.trans a b x h1 h2
theorem TO.total(h:TO c)(a b:α):fJ c a b=true∨fJ c b a=true:=by
 rw[pU,pU]
 by_cases h1:c b a<0
 ·exact .inr (h.asym b a h1)
 ·exact .inl h1
theorem TO.aaZ(h:TO c){a b:α}(h1:fJ c a b=true)(h2:fJ c b a=true):a=b:=by
 rw[pU]at*;exact h.aaY a b h2 h1
theorem TO.refl(h:TO c)(a:α):fJ c a a=true:=by rcases h.total a a with h|h<;>exact h
abbrev dC(c:α→α→Int)(l:List α):Prop:=l.Pairwise fun a b=>fJ c a b=true
def bE(c:α→α→Int)(l:List α):List α:=l.mergeSort (fJ c)
theorem kR(l:List α):(bE c l).Perm l:=List.mergeSort_perm l _
theorem pV(h:TO c)(l:List α):dC c (bE c l):=by
 refine List.pairwise_mergeSort (le:=fJ c) (fun a b x h1 h2=>h.le_trans h1 h2) (fun a b=>?_) l
 rcases h.total a b with h|h<;>simp[h]
theorem OH(h:TO c):∀{l l':List α},l.Perm l'→dC c l→dC c l'→l=l'
 | [],l',hp,_,_=>(List.nil_perm.1 hp).symm
 |a::l,[],hp,_,_=>absurd hp.length_eq (by simp)
 |a::l,b::l',hp,h1,h2=>by
  have jA:a=b:=by
   have ha:a∈b::l':=hp.mem_iff.1 apC
   have hb:b∈a::l:=hp.mem_iff.2 apC
   rcases apx.1 ha with e|ha
   ·exact e
   rcases apx.1 hb with e|hb
   ·exact e.symm
   exact h.aaZ ((asl.1 h1).1 b hb) ((asl.1 h2).1 a ha)
  subst jA
  rw[OH h ((List.perm_cons a).1 hp) (asl.1 h1).2 (asl.1 h2).2]
theorem yF(h:TO c){l l':List α}(hp:l'.Perm l)(hs:dC c l'):l'=bE c l:=OH h (hp.trans (kR l).symm) hs (pV h l)
theorem GX(h:TO c){l:List α}(hs:dC c l):bE c l=l:=(yF h (List.Perm.refl l) hs).symm
theorem nS(l:List α):(bE c l).length=l.length:=(kR l).length_eq
theorem GY(h:TO c){l l':List α}(hp:l.Perm l'):bE c l=bE c l':=yF h ((kR l).trans hp) (pV h l)
theorem aa0(h:TO c){X Y:List α}(nJ:∀x∈X,∀y∈Y,fJ c x y=true):bE c (X++Y)=bE c X++bE c Y:=by
 refine(yF h ((kR X).append (kR Y)) ?_).symm
 refine asv.2 ⟨pV h X,pV h Y,fun x hx y hy=>nJ x ((kR X).mem_iff.1 hx) y ((kR Y).mem_iff.1 hy)⟩
def aL(L:List α)(a b:Nat):List α:=(L.drop a).take (b-a)
def bV(c:α→α→Int)(L:List α)(a b:Nat):List α:=L.take a++(bE c (aL L a b)++L.drop b)
theorem jt{L:List α}{a b:Nat}(h1:a≤b)(h2:b≤L.length):(aL L a b).length=b-a:=by unfold aL;rw[ap8,aqp];omega
theorem np(L:List α){a m b:Nat}(h1:a≤m)(h2:m≤b):aL L a b=aL L a m++aL L m b:=by
 unfold aL
 rw[show b-a=(m-a)+(b-m)by omega,List.take_add,aqu,show a+(m-a)=m by omega]
theorem su(L:List α){a b:Nat}(h:a≤b):L=L.take a++(aL L a b++L.drop b):=by
 unfold aL
 have:L.drop b=(L.drop a).drop (b-a):=by rw[aqu,show a+(b-a)=b by omega]
 rw[this,aqv,aqv]
theorem OI{L:List α}{a b:Nat}(h1:a≤b)(h2:b≤L.length):(bV c L a b).length=L.length:=by
 unfold bV
 rw[apv,apv,nS,jt h1 h2,ap8,aqp];omega
theorem GZ{T X:List α}{n:Nat}(h:T.length=n):(T++X).take n=T:=by rw[←h];simp
theorem G0{T X:List α}{n:Nat}(h:T.length=n):(T++X).drop n=X:=by rw[←h];simp
theorem nT{T X D:List α}{a b:Nat}(h:T.length=a)(h2:X.length=b-a):aL (T++(X++D)) a b=X:=by
 unfold aL;rw[G0 h,GZ h2]
theorem wg{T X D:List α}{a b:Nat}(h:T.length=a)(h1:a≤b)(h2:X.length=b-a):bV c (T++(X++D)) a b=T++(bE c X++D):=by
 unfold bV
 have:(T++(X++D)).drop b=D:=by rw[←List.append_assoc];exact G0 (by rw[apv];omega)
 rw[GZ h,nT h h2,this]
def dn(T S D:List α)(x:α)(j:Nat):List α:=T++(S.take j++(x::(S.drop j++D)))
theorem G1{T S D:List α}{x:α}{j:Nat}(h:j≤S.length):(dn T S D x j).length=T.length+S.length+1+D.length:=by
 unfold dn;simp;omega
theorem G2{T S D:List α}{x:α}{j:Nat}(h:j≤S.length):(dn T S D x j)[T.length+j]?=some x:=by
 unfold dn
 rw[apZ (by omega),show T.length+j-T.length=j by omega,apZ (by simp;omega)]
 simp[Nat.min_eq_left h]
theorem OJ{T S D:List α}{x:α}{j:Nat}(h:j<S.length):(dn T S D x (j+1))[T.length+j]?=S[j]? :=by
 unfold dn
 rw[apZ (by omega),show T.length+j-T.length=j by omega,List.getElem?_append_left (by simp;omega),asG (by omega)]
theorem aa1{P Z:List α}{x y:α}{n:Nat}(h:P.length=n):((P++(y::x::Z)).set (n+1) y).set n x=P++(x::y::Z):=by
 subst h
 rw[as9 _ _ (by omega),as9 _ _ (by omega),show P.length+1-P.length=1 by omega,Nat.sub_self]
 rfl
theorem pW{S:List α}{y:α}{j:Nat}(hy:S[j]?=some y):S.take (j+1)=S.take j++[y]∧S.drop j=y::S.drop (j+1):=by
 obtain⟨hj,rfl⟩:=app.1 hy
 exact⟨by rw[List.take_succ_eq_append_getElem hj],by rw[List.drop_eq_getElem_cons hj]⟩
theorem OK{T S D:List α}{x y:α}{j:Nat}(h:j<S.length)(hy:S[j]?=some y):((dn T S D x (j+1)).set (T.length+(j+1)) y).set (T.length+j) x=dn T S D x j:=by
 obtain⟨e1,e2⟩:=pW hy
 have a1:dn T S D x (j+1)=(T++S.take j)++(y::x::(S.drop (j+1)++D)):=by unfold dn;rw[e1];simp
 have a2:dn T S D x j=(T++S.take j)++(x::y::(S.drop (j+1)++D)):=by unfold dn;rw[e2];simp
 rw[a1,a2,show T.length+(j+1)=T.length+j+1 by omega]
 exact aa1 (by rw[apv,ap8];omega)
theorem OL(h:TO c){S:List α}{x:α}{j:Nat}(hS:dC c S)(hj:j≤S.length)(h1:∀k y,k<j→S[k]?=some y→fJ c y x=true)(h2:∀k y,j≤k→S[k]?=some y→fJ c x y=true):S.take j++(x::S.drop j)=bE c (S++[x]):=by
 refine yF h ?_ ?_
 ·have:(S.take j++(x::S.drop j)).Perm (x::(S.take j++S.drop j)):=List.perm_middle
  rw[aqv]at this
  exact this.trans (List.perm_append_comm (l₁:=[x]) (l₂:=S))
 ·refine asv.2 ⟨hS.sublist (List.take_sublist _ _),asl.2 ⟨fun y hy=>?_,hS.sublist (List.drop_sublist _ _)⟩,fun y hy z hz=>?_⟩
  ·obtain⟨k,hk⟩:=aqG hy
   rw[aqz]at hk
   exact h2 _ y (by omega) hk
  ·have qM:fJ c y x=true:=by
    obtain⟨k,hk⟩:=aqG hy
    have OM:k<j:=by
     have:=(app.1 hk).1
     rw[ap8]at this;omega
    rw[asG OM]at hk
    exact h1 k y OM hk
   rcases apx.1 hz with rfl|hz
   ·exact qM
   ·obtain⟨k,hk⟩:=aqG hz
    rw[aqz]at hk
    exact h.le_trans qM (h2 _ z (by omega) hk)
theorem Bv{S:List α}(hS:dC c S)(h:TO c){i j:Nat}{a b:α}(iI:i≤j)(ha:S[i]?=some a)(hb:S[j]?=some b):fJ c a b=true:=by
 obtain⟨hi,rfl⟩:=app.1 ha
 obtain⟨hj,rfl⟩:=app.1 hb
 rcases Nat.lt_or_eq_of_le iI with hlt|rfl
 ·exact List.pairwise_iff_getElem.1 hS i j hi hj hlt
 ·exact h.refl _
end
end Go.Proofs.YtnlkkgpcikkpoaaGreat
namespace Go.Proofs.YtnlkkgpcikkpoaaGreat
open Go Vm Go.RowKit
def aV(f:Bool)(a b:ByteArray):Int:=match f with
 |true=>bZ b a
 |false=>bZ a b
theorem aa2(S:ad)(L:List ByteArray)(R:List Int)(H:List au)(d:ay)(a b:ByteArray):aE av9 74 [.pointer (some ⟨0,0,none⟩),.string a,.string b] (aO S L R H d) fun r o=>r=.ret (.int .i64 (aV S.aB a b))∧o=aO S L R H d:=by
 refine aE.cT (n:=cn av9 74) (by kernel_rfl) ?_
 have pH:=aU H
 apply aaX S L R H d a b pH
 case l3=>intro g;exact aaU S L R H d a b ⟨by unfold aV;rw[g],rfl⟩
 case l4=>intro g;exact aaV S L R H d a b ⟨by unfold aV;rw[g],rfl⟩
noncomputable def qR(o:List ag):Bool:=@decide (∃S L R H d,o=aO S L R H d) (apF _)
theorem wh{S:ad}{L:List ByteArray}{R:List Int}{H:List au}{d:ay}{o:List ag}(h:o=aO S L R H d):qR o=true:=by
 unfold qR
 exact(@decide_eq_true_iff _ (apF _)).2 ⟨S,L,R,H,d,h⟩
noncomputable def G3(a:List ape)(o:List ag):Option (Bool×bx×List ag):=match a,o with
 | [.pointer (some ⟨0,0,none⟩),.string x,.string y],ag.cells c t r::l=>match(c[70]?:Option ape)with
  |some (Value.bool f)=>some (qR (.cells c t r::l),.ret (.int .i64 (aV f x y)),.cells c t r::l)
  |_=>none
 |_,_=>none
theorem aa3:bp av9 74 (Sum.dq av9 G3):=bp.dq fun a o r o' hg=>by
 unfold G3 at hg
 split at hg
 ·split at hg
  ·rename_i f hf
   rename_i x y c t ro l _
   simp only[api,apn]at hg
   obtain⟨h1,rfl,rfl⟩:=hg
   obtain⟨S,L,R,H,d,he⟩:=@of_decide_eq_true _ (apF _) h1
   have hc:c=aJ S 1 2 3 4:=by unfold aO at he;injection he with h1 _;injection h1
   have uv:f=S.aB:=by
    rw[hc]at hf
    have:(aJ S 1 2 3 4)[70]?=some (.bool S.aB):=rfl
    rw[this]at hf
    cases hf;rfl
   subst uv
   rw[he]
   exact aa2 S L R H d x y
  ·cases hg
 ·cases hg
theorem OO:∀a b:List UInt8,aqD a b<0↔0<aqD b a
 | [],[]=>by simp[aqD]
 | [],_::_=>by simp[aqD]
 |_::_,[]=>by simp[aqD]
 |a::l,b::m=>by
  unfold aqD
  by_cases h1:a<b
  ·rw[if_pos h1,if_neg (by simpa using UInt8.le_of_lt h1),if_pos h1];simp
  ·rw[if_neg h1]
   by_cases h2:b<a
   ·rw[if_pos h2,if_pos h2];simp
   ·rw[if_neg h2,if_neg h2,if_neg h1]
    exact OO l m
theorem cmpL_eq:∀a b:List UInt8,aqD a b=0→a=b
 | [],[],_=>rfl
 | [],_::_,h=>by simp[aqD]at h
 |_::_,[],h=>by simp[aqD]at h
 |a::l,b::m,h=>by
  unfold aqD at h
  split at h
  ·cases h
  ·split at h
   ·cases h
   ·rename_i h1 h2
    have:a=b:=atP (by simpa using h2) (by simpa using h1)
    rw[this,cmpL_eq l m h]
theorem OP:∀a b x:List UInt8,aqD a b≤0→aqD b x≤0→aqD a x≤0
 | [],b,x,_,_=>by cases x<;>simp[aqD]
 |_::_,[],x,h,_=>by simp[aqD]at h
 |a::l,b::m,[],_,h=>by simp[aqD]at h
 |a::l,b::m,x::n,h1,h2=>by
  unfold aqD at h1 h2⊢
  by_cases e1:a<b
  ·by_cases e2:b<x
   ·rw[if_pos (UInt8.lt_trans e1 e2)];simp
   ·rw[if_neg e2]at h2
    by_cases e3:x<b
    ·rw[if_pos e3]at h2;omega
    ·have:b=x:=atP (by simpa using e3) (by simpa using e2)
     subst this
     rw[if_pos e1];simp
  ·rw[if_neg e1]at h1
   by_cases e2:b<a
   ·rw[if_pos e2]at h1;omega
   ·have:a=b:=atP (by simpa using e2) (by simpa using e1)
    subst this
    rw[if_neg e2]at h1
    by_cases e3:a<x
    ·rw[if_pos e3];simp
    ·rw[if_neg e3]at h2⊢
     by_cases e4:x<a
     ·rw[if_pos e4]at h2;omega
     ·rw[if_neg e4]at h2⊢
      exact OP l m n h1 h2
theorem wj(f:Bool):TO (aV f):=by
 have neg:∀a b,bZ a b<0↔0<bZ b a:=fun a b=>OO _ _
 have tr:∀a b x,bZ a b≤0→bZ b x≤0→bZ a x≤0:=fun a b x=>OP _ _ _
 have eq:∀a b,bZ a b=0→a=b:=fun a b h=>by
  have:=cmpL_eq _ _ h
  cases a with|mk a=>cases b with|mk b=>
  have:=congrArg List.toArray this
  simp only[aqq]at this
  rw[this]
 cases f with
 |true=>
  refine⟨fun a b h h'=>?_,fun a b x h1 h2=>?_,fun a b h1 h2=>?_⟩
  ·have:=(neg b a).1 h;have h':bZ a b<0:=h';omega
  ·have h1:¬bZ a b<0:=h1
   have h2:¬bZ b x<0:=h2
   show¬bZ a x<0
   have a1:bZ b a≤0:=by have:=neg a b;have:=neg b a;omega
   have a2:bZ x b≤0:=by have:=neg b x;have:=neg x b;omega
   have:=tr x b a a2 a1
   have:=neg a x;have:=neg x a;omega
  ·have h1:¬bZ b a<0:=h1
   have h2:¬bZ a b<0:=h2
   exact eq a b (by have:=neg a b;have:=neg b a;omega)
 |false=>
  refine⟨fun a b h h'=>?_,fun a b x h1 h2=>?_,fun a b h1 h2=>?_⟩
  ·have:=(neg a b).1 h;have h':bZ b a<0:=h';omega
  ·have h1:¬bZ b a<0:=h1
   have h2:¬bZ x b<0:=h2
   show¬bZ x a<0
   have a1:bZ a b≤0:=by have:=neg a b;have:=neg b a;omega
   have a2:bZ b x≤0:=by have:=neg b x;have:=neg x b;omega
   have:=tr a b x a1 a2
   have:=neg a x;have:=neg x a;omega
  ·have h1:¬bZ a b<0:=h1
   have h2:¬bZ b a<0:=h2
   exact eq a b (by have:=neg a b;have:=neg b a;omega)
noncomputable section
noncomputable def aa4:List (apQ×Sum):=[(74,Sum.dq av9 G3)]
theorem sw:dw av9 (dM av9 (dN aa4) 50 40):=dR du mixed (ed (.cons aa3 .nil)) 50 40
noncomputable def yG:List apV:=aY (dz av9 121)
open Tree renaming aN→mN,dj→mF,eT→mL,fz→mQ,dB→mR,fH→mE
noncomputable abbrev Bw:List apV:=(aY (inner (aY (inner (yG.drop 1)))))
noncomputable abbrev G4:List apV:=(aY (inner (Bw.drop 2)))
noncomputable abbrev aa5:List apV:=(aY (inner (aY (inner (G4.drop 1)))))
def OQ:Nat→Bool→Bool→Tree→Tree
 |0,_,_,t=>t
 |n+1,d,b,t=>.cD d b (OQ n d b t)
theorem Bx{R:bd→aj→Prop}{c v:Bool}{t:Tree}(n:Nat)(h1:c=v)(h2:t.ok R):(OQ n c v t).ok R:=by
 induction n with
 |zero=>exact h2
 |succ n ih=>exact⟨h1,ih⟩
abbrev pY:=fun S R H d L=>([ab (ap L) 9,ab (aJ S 2 0 3 4) 89,.abs d,ab (aq R) 3,ab (ak H) 114]:List ag)
abbrev G5:=fun S R H d (n:Nat) L (a b:Int)=>(⟨[(0,ah 0 n),(1,aa a),(2,aa b),(3,.func (.func 74) #[ao 1] #[]),(8,.int .i64 (apc .i64 (a+1)))],pY S R H d L⟩:aj)
abbrev aa6:=fun S R H d (n:Nat) L (a b:Int)=>(⟨[(0,ah 0 n),(1,aa a),(2,aa b),(3,.func (.func 74) #[ao 1] #[])],pY S R H d L⟩:aj)
theorem aa7(S R H d)(n:Nat)(L)(a b:Int)(pH:(ak H).all af=true)(hn:(apb L)=n)(hw:apc .i64 (a+1)=a+1){Q:aQ}(l3:an av9 53 5 (yG.drop 1) (G5 S R H d n L a b) Q):an av9 53 5 yG (aa6 S R H d n L a b) Q:=
 aS bo 1 (.leaf [0,1,2,3,8] [0,1,2,3,4] [0,3,4]) (fun u=>by kernel_rfl) (aM L R H (mQ l3))
abbrev aa8:=fun S R H d (n:Nat) L (a b i:Int)=>(⟨[(0,ah 0 n),(1,aa a),(2,aa b),(3,.func (.func 74) #[ao 1] #[]),(8,aa i)],pY S R H d L⟩:aj)
noncomputable abbrev aa9(S:ad)(R:List Int)(H:List au)(d:ay)(n:Nat)(L:List ByteArray)(a b i:Int):aj:=⟨[],pY S R H d L⟩
abbrev G6:=fun S R H d (n:Nat) L (a b i:Int)=>(⟨[(0,ah 0 n),(1,aa a),(2,aa b),(3,.func (.func 74) #[ao 1] #[]),(8,aa i)],pY S R H d L⟩:aj)
theorem aba(S R H d)(n:Nat)(L)(a b i:Int)(pH:(ak H).all af=true)(hn:(apb L)=n){Q:aQ}(l3:(decide (i<b))=true→an av9 53 5 (Bw.drop 2) (aa8 S R H d n L a b i) Q)(l4:(decide (i<b))=false→Q (.exit 0) (aa9 S R H d n L a b i)):an av9 53 5 Bw (G6 S R H d n L a b i) Q:=
 aS bo 2 (.fork 0 (.leaf [0,1,2,3,8] [0,1,2,3,4] [0,3,4]) (.leaf [] [0,1,2,3,4] [0,3,4])) (fun u=>by kernel_rfl) (mF (c:=decide (i<b)) (fun h0=>(aM L R H (mQ (l3 h0)))) (fun h0=>(aM L R H (mE 0 (l4 h0)))))
abbrev G7:=fun S R H d (n:Nat) L (a b i:Int)=>(⟨[(0,ah 0 n),(1,aa a),(2,aa b),(3,.func (.func 74) #[ao 1] #[]),(8,aa i),(9,aa i)],pY S R H d L⟩:aj)
theorem abb(S R H d)(n:Nat)(L)(a b i:Int)(pH:(ak H).all af=true)(hn:(apb L)=n){Q:aQ}(l3:an av9 53 5 (G4.drop 1) (G7 S R H d n L a b i) Q):an av9 53 5 G4 (G6 S R H d n L a b i) Q:=
 aS bo 1 (.leaf [0,1,2,3,8,9] [0,1,2,3,4] [0,3,4]) (fun u=>by kernel_rfl) (aM L R H (mQ l3))
abbrev OS:=fun S R H d (n:Nat) L (a b i j:Int)=>(⟨[(0,ah 0 n),(1,aa a),(2,aa b),(3,.func (.func 74) #[ao 1] #[]),(8,aa i),(9,.int .i64 (apc .i64 (j-1)))],[ab (a8 (a8 (ap L) (0+apd j*1) [apJ (aX (ap L) (0+apd (apc .i64 (j-1))*1))]) (0+apd (apc .i64 (j-1))*1) [apJ (aX (ap L) (0+apd j*1))]) 9,ab (aJ S 2 0 3 4) 89,.abs d,ab (aq R) 3,ab (ak H) 114]⟩:aj)
abbrev abc:=fun S R H d (n:Nat) L (a b i j:Int)=>(⟨[(0,ah 0 n),(1,aa a),(2,aa b),(3,.func (.func 74) #[ao 1] #[]),(8,aa i)],pY S R H d L⟩:aj)
abbrev abd:=fun S R H d (n:Nat) L (a b i j:Int)=>(⟨[(0,ah 0 n),(1,aa a),(2,aa b),(3,.func (.func 74) #[ao 1] #[]),(8,aa i)],pY S R H d L⟩:aj)
abbrev abe:=fun S R H d (n:Nat) L (a b i j:Int)=>(⟨[(0,ah 0 n),(1,aa a),(2,aa b),(3,.func (.func 74) #[ao 1] #[]),(8,aa i),(9,aa j)],pY S R H d L⟩:aj)
theorem abf(S R H d)(n:Nat)(L)(a b i j:Int)(pH:(ak H).all af=true)(hn:(apb L)=n)(ha:0≤a)(hj:a≤j)(hl:j<n)(hL:n≤1000000)(hw:apc .i64 (j-1)=j-1){Q:aQ}(n0:(decide (j>a))=true→(eS (ap L) (0+apd j*1))=true)(n1:(decide (j>a))=true→(eS (ap L) (0+apd (apc .i64 (j-1))*1))=true)(n2:(decide (j>a))=true→(qR [ab (aJ S 1 2 3 4) 89,ag.abs d,ab (ap L) 9,ab (aq R) 3,ab (ak H) 114])=true)(n3:(decide (j>a))=true→(decide (aV (ad.aB S) (aX (ap L) (0+apd j*1)) (aX (ap L) (0+apd (apc .i64 (j-1))*1))<0))=true→(apG (0+apd (apc .i64 (j-1))*1+1) (apb (a8 (ap L) (0+apd j*1) [apJ (aX (ap L) (0+apd (apc .i64 (j-1))*1))])))=true)(aR:aph (aq R) af=true)(be:aph (ak H) af=true)(l6:(decide (j>a))=true→(decide (aV (ad.aB S) (aX (ap L) (0+apd j*1)) (aX (ap L) (0+apd (apc .i64 (j-1))*1))<0))=true→Q .normal (OS S R H d n L a b i j))(bB:aph (ap L) af=true)(l8:(decide (j>a))=true→(decide (aV (ad.aB S) (aX (ap L) (0+apd j*1)) (aX (ap L) (0+apd (apc .i64 (j-1))*1))<0))=false→Q (.exit 2) (abc S R H d n L a b i j))(l9:(decide (j>a))=false→Q (.exit 2) (abd S R H d n L a b i j)):an av9 53 5 aa5 (abe S R H d n L a b i j) Q:=
 aS sw 1000 (.fork 0 (aA [1,1,1,0,1,1,1,0,1,1,1,1,1,0,1,1,1,0,1,1,3,1,1,1,1,1,1,1,1] (.fork 0 (aA [0,1,1,0,1,0,1,1,0,1,0,1,1,0,1,0,1,1,0,1] (.leaf [0,1,2,3,8,9] [0,1,2,3,4] [0,3,4])) (.leaf [0,1,2,3,8] [0,1,2,3,4] [0,3,4]))) (aA [0,0,0,0,0,0,0,0,0,0,0,0] (.leaf [0,1,2,3,8] [0,1,2,3,4] [0,3,4]))) (fun u=>by kernel_rfl) (mF (c:=decide (j>a)) (fun h0=>(Bx 3 h0 (mN (decide_eq_true (by omega):(decide (0≤j))=true) (mN (show(apy (apd j) n)=true by simp at pH hn ha hj hl hL hw h0⊢ <;>omega) (mN h0 (mN (n0 h0) (Bx 4 h0 (mN (show(decide (0≤apc .i64 (j-1)))=true by simp at pH hn ha hj hl hL hw h0⊢ <;>omega) (mN (show(apy (apd (apc .i64 (j-1))) n)=true by simp at pH hn ha hj hl hL hw h0⊢ <;>omega) (mN h0 (mN (n1 h0) (mN h0 (aM L R H (mN (n2 h0) (aM L R H (Bx 2 h0 (mF (c:=decide (aV (ad.aB S) (aX (ap L) (0+apd j*1)) (aX (ap L) (0+apd (apc .i64 (j-1))*1))<0)) (fun h1=>(mN (show(decide (0≤apc .i64 (j-1)))=true by simp at pH hn ha hj hl hL hw h0 h1⊢ <;>omega) (mN (show(apy (apd (apc .i64 (j-1))) n)=true by simp at pH hn ha hj hl hL hw h0 h1⊢ <;>omega) (mN (n1 h0) (mN (decide_eq_true (by omega):(decide (0≤j))=true) (mN (show(apy (apd j) n)=true by simp at pH hn ha hj hl hL hw h0 h1⊢ <;>omega) (mN (n0 h0) (mN (decide_eq_true (by omega):(decide (0≤j))=true) (mN (show(apy (apd j) n)=true by simp at pH hn ha hj hl hL hw h0 h1⊢ <;>omega) (mN (show(apG (0+apd j*1+1) (apb (ap L)))=true by simp at pH hn ha hj hl hL hw h0 h1⊢ <;>omega) (mN (show(decide (0≤apc .i64 (j-1)))=true by simp at pH hn ha hj hl hL hw h0 h1⊢ <;>omega) (mN (show(apy (apd (apc .i64 (j-1))) n)=true by simp at pH hn ha hj hl hL hw h0 h1⊢ <;>omega) (mN (n3 h0 h1) (mN (show(aph (a8 (a8 (ap L) (0+apd j*1) [apJ (aX (ap L) (0+apd (apc .i64 (j-1))*1))]) (0+apd (apc .i64 (j-1))*1) [apJ (aX (ap L) (0+apd j*1))]) af)=true by simp) (mN (aG R) (mN (aU H) (mQ (an.done (by kernel_rfl) (l6 h0 h1))))))))))))))))))) (fun h1=>(aM L R H (mE 2 (l8 h0 h1))))))))))))))))))))) (fun h0=>(Bx 12 h0 (aM L R H (mE 2 (l9 h0))))))
abbrev OT:=fun S R H d (n:Nat) L (a b i:Int)=>(⟨[(0,ah 0 n),(1,aa a),(2,aa b),(3,.func (.func 74) #[ao 1] #[]),(8,.int .i64 (apc .i64 (i+1)))],pY S R H d L⟩:aj)
theorem abg(S R H d)(n:Nat)(L)(a b i:Int)(pH:(ak H).all af=true)(hn:(apb L)=n)(hw:apc .i64 (i+1)=i+1){Q:aQ}(l3:Q .normal (OT S R H d n L a b i)):an av9 53 5 (Bw.drop 3) (G6 S R H d n L a b i) Q:=
 aS bo 1000 (.leaf [0,1,2,3,8] [0,1,2,3,4] [0,3,4]) (fun u=>by kernel_rfl) (aM L R H (mQ (an.done (by kernel_rfl) l3)))
end
end Go.Proofs.YtnlkkgpcikkpoaaGreat
