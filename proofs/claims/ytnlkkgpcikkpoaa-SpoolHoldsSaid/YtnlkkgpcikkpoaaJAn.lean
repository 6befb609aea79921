/- Part of the proof: Lck, Lct, Spw, Dks, Dkt, Dku, Dkv, Zqm, Zqn, Sva, SvI, SvP, Shut. -/
import Derived.Test.YtnlkkgpcikkpoaaJAm
import Derived.KernelRfl
import Derived.Test.YtnlkkgpcikkpoaaJAe
import Derived.Test.YtnlkkgpcikkpoaaJAg
import Derived.ProofKit
import Derived.ChangeArms
import Derived.SizedLaws
import Derived.Deep.Slices
import Derived.DataReads
import Derived.Test.YtnlkkgpcikkpoaaChecked
import Derived.Test.YtnlkkgpcikkpoaaJAl
import Derived.Test.YtnlkkgpcikkpoaaRows
import Derived.WalkKit
import Derived.OpenShut
import Derived.ShutString
import Derived.ChangeOld
import Derived.Below
import Derived.Deep.Fields
import Derived.ChangeSame
open Array renaming getElem?_eq_some_iff→anq,length_toList→aot
open Bool renaming and_eq_true→amB
open ByteArray renaming size→ams
open Classical renaming propDecidable→amR
open Go renaming Code→am3,DataW→aru,Field→apt,FuncId→amY,MemPlace→are,Program→amF,TypeId→amz,Value→amn,World→amC
open Go.Addr renaming add→ar5
open Go.DataW renaming TrodAll→ark,trod→apQ,weights→apX,weightsAll→apd,weightsEach→apr
open Go.IntKind renaming i64→amA,wrap→aml
open Go.Proofs.Try renaming prog→anm,prog→asz,underlying3→aoJ
open Go.Value renaming agg→aon,int→amu
open Go.World renaming cells?_some→arx
open List renaming all→amq,drop_drop→anE,drop_of_length_le→an3,eq_nil_of_length_eq_zero→ant,flatten_cons→apR,getD_eq_getElem?_getD→an7,getElem?_append_left→ane,getElem?_append_right→am5,getElem?_eq_getElem→amt,getElem?_eq_none→anH,getElem?_eq_some_iff→amy,getElem?_of_mem→anQ,length→mM,length_append→amD,length_cons→am9,length_take→anf,map_cons→ani,mem_append_left→anR,mem_append_right→anu,mem_cons→amH,mem_cons_of_mem→amK,mem_cons_self→amN,mem_map→aoq,mem_range→aq5,range→aoO,take→amM,take_append_drop→anF
open List.cons renaming injEq→arO
open Nat renaming beq→amE,ble→amO,blt→amG,eq_of_beq_eq_true→amI,le_refl→amX,le_trans→apF,mul_le_mul_right→ao2,mul_one→aoQ,succ_mul→aqa,zero_add→an8,zero_mul→aqb
open Option renaming map_some→anL
open Option.some renaming injEq→amr
open Prod.mk renaming injEq→amv
open UInt8 renaming ofNat→ao5
set_option linter.unusedVariables false
set_option linter.unusedSimpArgs false
namespace Go.Proofs.Ytnlkkgpcikkpoaa
noncomputable section
open Go Vm Go.RowKit
set_option maxRecDepth 100000
set_option maxHeartbeats 8000000
def RT(P:amF)(n k:Nat)(l:List am3)(Q:bf→aj→Prop)(x:bf)(d:aj):Prop:=match x with
 | .normal=>al P n k l d Q
 |x=>Q x d
theorem al.ai4{P:amF}(hP:hI P=true)(fh:P.follows .mixedOrders=true){cO:fo}(hc:dg P cO){lf n k m:Nat}{l:List am3}{d:aj}{s:ST}{T:Tree}
 (h:∀u,(sO P cO lf (l.take m) (ee n u d.sl) (kE d.objs)).sym (uO n k) s=some T){Q:Int→bf→aj→Prop}(hT:∃e,T.ok (RT P n k (l.drop m) (Q e))):∃e,al P n k l d (Q e):=by
 obtain⟨e,he⟩:=hT
 exact⟨e,al.tree hP fh hc h (Tree.zY (fun x d h=>by cases x<;>exact h) he)⟩
theorem ae{R:Int→bf→aj→Prop}{c v:Bool}{t:Tree}(h1:c=v)(h2:∃e,t.ok (R e)):∃e,(Tree.cD c v t).ok (R e):=by
 obtain⟨e,he⟩:=h2
 exact⟨e,h1,he⟩
theorem bj{R:Int→bf→aj→Prop}{c:Bool}{a b:Tree}(h1:c=true→∃e,a.ok (R e))(h2:c=false→∃e,b.ok (R e)):∃e,(Tree.fork c a b).ok (R e):=by
 cases c with
 |true=>obtain⟨e,he⟩:=h1 rfl;exact⟨e,fun _=>he,fun h=>by cases h⟩
 |false=>obtain⟨e,he⟩:=h2 rfl;exact⟨e,(fun h=>by cases h),fun _=>he⟩
theorem BB{R:Int→bf→aj→Prop}(A B:ByteArray)(e:Int){d:aj}(h:R e .ret d):∃e,(Tree.cD (amq (ag A) af) true (.cD (amq (ag B) af) true (.leaf .ret d))).ok (R e):=⟨e,aI A,aI B,h⟩
theorem vL{A:ByteArray}(h:((A.size:Int)==1)=true):cy .u8 (ag A) 0=true:=by
 have h:(A.size:Int)=1:=by simpa using h
 exact z9 (d:=A.data) (p:=0) (by show 0<A.size;omega)
theorem vM{A:ByteArray}(h:((A.size:Int)==1)=true):amG 0 A.size=true:=by
 have h:(A.size:Int)=1:=by simpa using h
 exact Nat.ble_eq_true_of_le (by omega)
theorem bc{K:Int}(a b:Int)(h:(K==a)=true)(jg:(a==b)=false:=by decide):(K==b)=false:=by
 have h:K=a:=by simpa using h
 rw[h];exact jg
theorem BC{A:ByteArray}{P:Prop}(h:P):pf (ag A) P=true:=WH (d:=A.data) h
noncomputable def ai5:List (amY×Sum):=[(22,Sum.of Fh),(23,Sum.of Fi)]
theorem RC:dg asz (dE asz (dF ai5) 50 40):=dJ cZ mixed (dQ (.cons Xt (.cons Xu .nil))) 50 40
theorem ai6:aG asz 27 [] [] fun r o=>r=.ret Mb∧o=[]:=by
 refine aG.cM (n:=ct asz 27) (by kernel_rfl) ?_
 apply rv
 refine ai3 ?_
 exact⟨rfl,rfl⟩
theorem ai7:bp asz 27 (Sum.of Fj):=bp.of fun a o r o' hg=>by
 unfold Fj at hg
 split at hg
 ·simp only[amr,amv,true_and]at hg
  obtain⟨rfl,rfl⟩:=hg
  exact ai6
 ·cases hg
noncomputable def ai8:List (amY×Sum):=[(27,Sum.of Fj)]
theorem ai9:dg asz (dE asz (dF ai8) 50 40):=dJ cZ mixed (dQ (.cons ai7 .nil)) 50 40
noncomputable def vN:List am3:=ba (dy asz 7)
noncomputable def aja:List am3:=ba (dy asz 25)
abbrev rT:=fun A B=>([.cells (ag A) 5 true,.cells (ag B) 5 true]:List ai)
abbrev RD:=fun(K N:Int) A B=>(⟨[(2,aa 10)],rT A B⟩:aj)
theorem ajb(K N:Int)(A B){Q:bk}(hq:Q (.ret (aa 10)) (RD K N A B).objs):aH asz 7 17 2 Q .ret (RD K N A B):=aH.ret (vs:=[aa 10]) (l:=[]) (bs:=[0,1]) (pl:=[0,1]) (q:=[ag A,ag B]) (fun u=>by kernel_rfl) (by kernel_rfl) (aE (aI A) (aE (aI B) bd)) hq
abbrev RE:=fun(K N:Int) A B=>(⟨[(2,aa 11)],rT A B⟩:aj)
theorem ajc(K N:Int)(A B){Q:bk}(hq:Q (.ret (aa 11)) (RE K N A B).objs):aH asz 7 17 2 Q .ret (RE K N A B):=aH.ret (vs:=[aa 11]) (l:=[]) (bs:=[0,1]) (pl:=[0,1]) (q:=[ag A,ag B]) (fun u=>by kernel_rfl) (by kernel_rfl) (aE (aI A) (aE (aI B) bd)) hq
abbrev RF:=fun(K N:Int) A B=>(⟨[(2,aa 0)],rT A B⟩:aj)
theorem ajd(K N:Int)(A B){Q:bk}(hq:Q (.ret (aa 0)) (RF K N A B).objs):aH asz 7 17 2 Q .ret (RF K N A B):=aH.ret (vs:=[aa 0]) (l:=[]) (bs:=[0,1]) (pl:=[0,1]) (q:=[ag A,ag B]) (fun u=>by kernel_rfl) (by kernel_rfl) (aE (aI A) (aE (aI B) bd)) hq
abbrev RG:=fun(K N:Int) A B=>(⟨[(2,aa 12)],rT A B⟩:aj)
theorem aje(K N:Int)(A B){Q:bk}(hq:Q (.ret (aa 12)) (RG K N A B).objs):aH asz 7 17 2 Q .ret (RG K N A B):=aH.ret (vs:=[aa 12]) (l:=[]) (bs:=[0,1]) (pl:=[0,1]) (q:=[ag A,ag B]) (fun u=>by kernel_rfl) (by kernel_rfl) (aE (aI A) (aE (aI B) bd)) hq
theorem ajf(K N:Int)(A B:ByteArray)(hA:A.size≤1000)(hB:B.size≤1000)(hK:¬K=11):∃e,al asz 17 2 vN ⟨[(0,.agg #[aa K,aa N,ah 0 A.size,ah 1 B.size])],[.cells (ag A) 5 true,.cells (ag B) 5 true]⟩ ((fun e=>aH asz 7 17 2 (fun r o=>r=.ret (aa e)∧o=[.cells (ag A) 5 true,.cells (ag B) 5 true])) e):=by
 have q0:=BB (R:=fun e=>RT asz 17 2 (vN.drop 1000) ((fun e=>aH asz 7 17 2 (fun r o=>r=.ret (.int .i64 e)∧o=[.cells (ag A) 5 true,.cells (ag B) 5 true])) e)) A B 10 (ajb K N A B ⟨rfl,rfl⟩)
 have q2:=BB (R:=fun e=>RT asz 17 2 (vN.drop 1000) ((fun e=>aH asz 7 17 2 (fun r o=>r=.ret (.int .i64 e)∧o=[.cells (ag A) 5 true,.cells (ag B) 5 true])) e)) A B 11 (ajc K N A B ⟨rfl,rfl⟩)
 have q3:=BB (R:=fun e=>RT asz 17 2 (vN.drop 1000) ((fun e=>aH asz 7 17 2 (fun r o=>r=.ret (.int .i64 e)∧o=[.cells (ag A) 5 true,.cells (ag B) 5 true])) e)) A B 0 (ajd K N A B ⟨rfl,rfl⟩)
 have rU:=BB (R:=fun e=>RT asz 17 2 (vN.drop 1000) ((fun e=>aH asz 7 17 2 (fun r o=>r=.ret (.int .i64 e)∧o=[.cells (ag A) 5 true,.cells (ag B) 5 true])) e)) A B 12 (aje K N A B ⟨rfl,rfl⟩)
 exact al.ai4 cZ mixed RC (lf:=50) (m:=1000) (s:=(.fork 1 (av [1,1,1] (.leaf [2] [0,1] [0,1])) (av [0,2,0] (.fork 0 (.leaf [2] [0,1] [0,1]) (.fork 4 (av [1,3,3,1] (.fork 1 (av [1] (.fork 0 (av [1,3] (.fork 1 (av [1,1,1,1] (.fork 0 (.leaf [2] [0,1] [0,1]) (av [6,0,2,0,0,0,0,0,4,0,0,0,0,0,0,0,0,0] (.leaf [2] [0,1] [0,1])))) (av [0,0,0,1] (.leaf [2] [0,1] [0,1])))) (av [0,0,0] (.leaf [2] [0,1] [0,1])))) (.fork 0 (.fork 0 (av [1,3] (.fork 1 (av [1,1,1,1] (.fork 0 (.leaf [2] [0,1] [0,1]) (av [6,0,2,0,0,0,0,0,4,0,0,0,0,0,0,0,0,0] (.leaf [2] [0,1] [0,1])))) (av [0,0,0,1] (.leaf [2] [0,1] [0,1])))) (av [0,0,0] (.leaf [2] [0,1] [0,1]))) (.fork 0 (av [1] (.fork 0 (av [1,3] (.fork 1 (av [1,1,1,1] (.fork 0 (.leaf [2] [0,1] [0,1]) (av [6,0,2,0,0,0,0,0,5,1] (.leaf [2] [0,1] [0,1])))) (av [0,0,0,1] (.leaf [2] [0,1] [0,1])))) (av [0,0,0] (.leaf [2] [0,1] [0,1])))) (.fork 0 (.fork 0 (av [1,3] (.fork 1 (av [1,1,1,1] (.fork 0 (.leaf [2] [0,1] [0,1]) (av [6,0,2,0,0,0,0,0,4,0,0,1,1] (.leaf [2] [0,1] [0,1])))) (av [0,0,0,1] (.leaf [2] [0,1] [0,1])))) (av [0,0,0] (.leaf [2] [0,1] [0,1]))) (.fork 0 (.fork 0 (av [1,3,1] (.fork 0 (.leaf [2] [0,1] [0,1]) (av [7,1,1,1] (.fork 5 (.leaf [2] [0,1] [0,1]) (av [2,0,0,0,0,1] (.fork 1 (.leaf [2] [0,1] [0,1]) (.leaf [2] [0,1] [0,1]))))))) (av [0,0,0] (.leaf [2] [0,1] [0,1]))) (.fork 0 (.fork 2 (av [1,3] (.fork 1 (av [1,1,1,1] (.fork 0 (av [1,3,3] (.fork 1 (av [1,1,1,1] (.fork 0 (av [1,3,3,1,1,1] (.fork 0 (.leaf [2] [0,1] [0,1]) (av [6,0,2,0,0,0,0,0,4,1,1] (.leaf [2] [0,1] [0,1])))) (av [0,0,0,0] (.leaf [2] [0,1] [0,1])))) (av [0,0,0,1] (.leaf [2] [0,1] [0,1])))) (av [0,0,0,0] (.leaf [2] [0,1] [0,1])))) (av [0,0,0,1] (.leaf [2] [0,1] [0,1])))) (av [0,0,0] (.leaf [2] [0,1] [0,1]))) (.fork 0 (.fork 1 (av [1,3,3] (.fork 1 (av [1,1,1,1] (.fork 0 (av [1,3,3,1,1] (.fork 0 (av [1,3,3,1,3,3,1] (.fork 0 (.leaf [2] [0,1] [0,1]) (av [6,0,2,0,0,0,0,0,4,0,0,0,0,0,0,0,0,0] (.leaf [2] [0,1] [0,1])))) (av [0,0,0,0,0,0,0] (.leaf [2] [0,1] [0,1])))) (av [0,0,0] (.leaf [2] [0,1] [0,1])))) (av [0,0,0,1] (.leaf [2] [0,1] [0,1])))) (av [0,0,0,0] (.leaf [2] [0,1] [0,1]))) (.fork 0 (.fork 2 (av [1,3] (.fork 2 (av [1,0,3,1,0,1,1,1,1] (.fork 0 (av [1,3] (.fork 1 (av [1,1,1,1] (.fork 0 (.leaf [2] [0,1] [0,1]) (av [6,0,2,0,0,0,0,0,4,0,1,1] (.leaf [2] [0,1] [0,1])))) (av [0,0,0,1] (.leaf [2] [0,1] [0,1])))) (av [0,0,0] (.leaf [2] [0,1] [0,1])))) (av [0,0,0,0,1] (.leaf [2] [0,1] [0,1])))) (av [0,0,0] (.leaf [2] [0,1] [0,1]))) (.fork 0 (av [1] (.fork 0 (av [1,3] (.fork 1 (av [1,1,1,1] (.fork 0 (.leaf [2] [0,1] [0,1]) (av [6,0,2,0,0,0,0,0,4,0,0,0,0,0,1] (.leaf [2] [0,1] [0,1])))) (av [0,0,0,1] (.leaf [2] [0,1] [0,1])))) (av [0,0,0] (.leaf [2] [0,1] [0,1])))) (av [0] (.fork 0 (.fork 0 (av [1,3,1] (.fork 0 (.leaf [2] [0,1] [0,1]) (av [6,0,2,0,0,0,0,0,4,0,0,0,0,0,0,0,0,0] (.leaf [2] [0,1] [0,1])))) (av [0,0,0] (.leaf [2] [0,1] [0,1]))) (.fork 0 (av [1] (.fork 0 (av [1,3] (.fork 1 (av [1,1,1,1] (.fork 0 (.leaf [2] [0,1] [0,1]) (av [6,0,2,0,0,0,0,0,4,0,0,0,0,0,0,0,0,0] (.leaf [2] [0,1] [0,1])))) (av [0,0,0,1] (.leaf [2] [0,1] [0,1])))) (av [0,0,0] (.leaf [2] [0,1] [0,1])))) (.fork 0 (av [1] (.fork 0 (av [1,3] (.fork 1 (av [1,1,1,1] (.fork 0 (.leaf [2] [0,1] [0,1]) (av [6,0,2,0,0,0,0,0,4,0,0,0,0,0,0,0,0,0] (.leaf [2] [0,1] [0,1])))) (av [0,0,0,1] (.leaf [2] [0,1] [0,1])))) (av [0,0,0] (.leaf [2] [0,1] [0,1])))) (.fork 0 (.fork 0 (av [1,3] (.fork 1 (av [1,1,1,1] (.fork 0 (.leaf [2] [0,1] [0,1]) (av [6,0,2,0,0,0,0,0,4,0,0,0,1] (.leaf [2] [0,1] [0,1])))) (av [0,0,0,1] (.leaf [2] [0,1] [0,1])))) (av [0,0,0] (.leaf [2] [0,1] [0,1]))) (.fork 0 (.fork 2 (av [1,3] (.fork 2 (av [1,0,3,1,0,1,1,1,1] (.fork 0 (av [1,3] (.fork 1 (av [1,1,1,1] (.fork 0 (.leaf [2] [0,1] [0,1]) (av [6,0,2,0,0,0,0,0,4,0,0,0,0,0,0,0,1] (.fork 1 (.leaf [2] [0,1] [0,1]) (.leaf [2] [0,1] [0,1]))))) (av [0,0,0,1] (.leaf [2] [0,1] [0,1])))) (av [0,0,0] (.leaf [2] [0,1] [0,1])))) (av [0,0,0,0,1] (.leaf [2] [0,1] [0,1])))) (av [0,0,0] (.leaf [2] [0,1] [0,1]))) (av [1] (.fork 2 (av [1,3] (.fork 2 (av [1,0,3,1,0,1,1,1,1] (.fork 0 (av [1,3,1] (.fork 0 (.leaf [2] [0,1] [0,1]) (av [6,0,2,0,1,1,3,1] (.fork 0 (.leaf [2] [0,1] [0,1]) (av [2,0,0,0,0,0,0,0,0,1] (.fork 1 (.leaf [2] [0,1] [0,1]) (.leaf [2] [0,1] [0,1]))))))) (av [0,0,0] (.leaf [2] [0,1] [0,1])))) (av [0,0,0,0,1] (.leaf [2] [0,1] [0,1])))) (av [0,0,0] (.leaf [2] [0,1] [0,1])))))))))))))))))))) (av [0,0,0,0] (.fork 1 (av [1] (.leaf [2] [0,1] [0,1])) (.fork 0 (.leaf [2] [0,1] [0,1]) (.fork 0 (av [1] (.leaf [2] [0,1] [0,1])) (.fork 0 (.leaf [2] [0,1] [0,1]) (.fork 0 (.leaf [2] [0,1] [0,1]) (.fork 0 (.fork 2 (av [1,3] (.fork 1 (av [1,1,1,1] (.fork 0 (av [1,3,3] (.fork 1 (av [1,1,1,1] (.fork 0 (av [1,3,3,1,1,1] (.fork 0 (.leaf [2] [0,1] [0,1]) (av [6,0,2,0,0,0,0,0,4,1,1] (.leaf [2] [0,1] [0,1])))) (av [0,0,0,0] (.leaf [2] [0,1] [0,1])))) (av [0,0,0,1] (.leaf [2] [0,1] [0,1])))) (av [0,0,0,0] (.leaf [2] [0,1] [0,1])))) (av [0,0,0,1] (.leaf [2] [0,1] [0,1])))) (av [0,0,0] (.leaf [2] [0,1] [0,1]))) (.fork 0 (.fork 1 (av [1,3,3] (.fork 1 (av [1,1,1,1] (.fork 0 (av [1,3,3,1,1] (.fork 0 (av [1,3,3,1,3,3,1] (.fork 0 (.leaf [2] [0,1] [0,1]) (av [6,0,2,0,0,0,0,0,4,0,0,0,0,0,0,0,0,0] (.leaf [2] [0,1] [0,1])))) (av [0,0,0,0,0,0,0] (.leaf [2] [0,1] [0,1])))) (av [0,0,0] (.leaf [2] [0,1] [0,1])))) (av [0,0,0,1] (.leaf [2] [0,1] [0,1])))) (av [0,0,0,0] (.leaf [2] [0,1] [0,1]))) (.fork 0 (.fork 2 (av [1,3] (.fork 2 (av [1,0,3,1,0,1,1,1,1] (.fork 0 (av [1,3] (.fork 1 (av [1,1,1,1] (.fork 0 (.leaf [2] [0,1] [0,1]) (av [6,0,2,0,0,0,0,0,4,0,1,1] (.leaf [2] [0,1] [0,1])))) (av [0,0,0,1] (.leaf [2] [0,1] [0,1])))) (av [0,0,0] (.leaf [2] [0,1] [0,1])))) (av [0,0,0,0,1] (.leaf [2] [0,1] [0,1])))) (av [0,0,0] (.leaf [2] [0,1] [0,1]))) (.fork 0 (av [1] (.leaf [2] [0,1] [0,1])) (av [0] (.fork 0 (.leaf [2] [0,1] [0,1]) (.fork 0 (av [1] (.leaf [2] [0,1] [0,1])) (.fork 0 (av [1] (.leaf [2] [0,1] [0,1])) (.fork 0 (.leaf [2] [0,1] [0,1]) (.fork 0 (.fork 2 (av [1,3] (.fork 2 (av [1,0,3,1,0,1,1,1,1] (.fork 0 (av [1,3] (.fork 1 (av [1,1,1,1] (.fork 0 (.leaf [2] [0,1] [0,1]) (av [6,0,2,0,0,0,0,0,4,0,0,0,0,0,0,0,1] (.fork 1 (.leaf [2] [0,1] [0,1]) (.leaf [2] [0,1] [0,1]))))) (av [0,0,0,1] (.leaf [2] [0,1] [0,1])))) (av [0,0,0] (.leaf [2] [0,1] [0,1])))) (av [0,0,0,0,1] (.leaf [2] [0,1] [0,1])))) (av [0,0,0] (.leaf [2] [0,1] [0,1]))) (av [1] (.fork 2 (av [1,3] (.fork 2 (av [1,0,3,1,0,1,1,1,1] (.fork 0 (av [1,3,1] (.fork 0 (.leaf [2] [0,1] [0,1]) (av [6,0,2,0,1,1,3,1] (.fork 0 (.leaf [2] [0,1] [0,1]) (av [2,0,0,0,0,0,0,0,0,1] (.fork 1 (.leaf [2] [0,1] [0,1]) (.leaf [2] [0,1] [0,1]))))))) (av [0,0,0] (.leaf [2] [0,1] [0,1])))) (av [0,0,0,0,1] (.leaf [2] [0,1] [0,1])))) (av [0,0,0] (.leaf [2] [0,1] [0,1]))))))))))))))))))))))))) (fun u=>by kernel_rfl) (bj (c:=decide (K<1)) (fun h0=>(ae h0 (ae h0 (ae h0 q0)))) (fun h0=>(ae h0 (ae h0 (ae h0 (bj (c:=decide (K>16)) (fun h1=>q0) (fun h1=>(bj (c:=(↑(ams A):Int)==0) (fun h2=>(ae h2 (ae h2 (ae h2 (ae h2 (bj (c:=K==1) (fun h3=>(ae h3 (bj (c:=(↑(ams B):Int)==0) (fun h4=>(ae h4 (ae h4 (bj (c:=decide (N ≥ 0)) (fun h5=>(ae h5 (ae h5 (ae h5 (ae h4 (bj (c:= !decide (N≤15)) (fun h6=>q2) (fun h6=>(ae (bc 1 4 h3) (ae (bc 1 4 h3) (ae (bc 1 4 h3) (ae (bc 1 4 h3) (ae (bc 1 14 h3) (ae (bc 1 14 h3) (ae (bc 1 14 h3) (ae (bc 1 14 h3) (ae (bc 1 3 h3) (ae (bc 1 5 h3) (ae (bc 1 7 h3) (ae (bc 1 10 h3) (ae (bc 1 16 h3) (ae (bc 1 4 h3) (ae (bc 1 8 h3) (ae (bc 1 11 h3) (ae (bc 1 13 h3) (ae (bc 1 14 h3) q3))))))))))))))))))))))))) (fun h5=>(ae h5 (ae h5 (ae h5 (ae h4 q2))))))))) (fun h4=>(ae h4 (ae h4 (ae h4 q2))))))) (fun h3=>(bj (c:=K==2) (fun h4=>(bj (c:=(↑(ams B):Int)==0) (fun h5=>(ae h5 (ae h5 (bj (c:=decide (N ≥ 0)) (fun h6=>(ae h6 (ae h6 (ae h6 (ae h5 (bj (c:= !decide (N≤15)) (fun h7=>q2) (fun h7=>(ae (bc 2 4 h4) (ae (bc 2 4 h4) (ae (bc 2 4 h4) (ae (bc 2 4 h4) (ae (bc 2 14 h4) (ae (bc 2 14 h4) (ae (bc 2 14 h4) (ae (bc 2 14 h4) (ae (bc 2 3 h4) (ae (bc 2 5 h4) (ae (bc 2 7 h4) (ae (bc 2 10 h4) (ae (bc 2 16 h4) (ae (bc 2 4 h4) (ae (bc 2 8 h4) (ae (bc 2 11 h4) (ae (bc 2 13 h4) (ae (bc 2 14 h4) q3))))))))))))))))))))))))) (fun h6=>(ae h6 (ae h6 (ae h6 (ae h5 q2))))))))) (fun h5=>(ae h5 (ae h5 (ae h5 q2)))))) (fun h4=>(bj (c:=K==3) (fun h5=>(ae h5 (bj (c:=(↑(ams B):Int)==0) (fun h6=>(ae h6 (ae h6 (bj (c:=decide (N ≥ 0)) (fun h7=>(ae h7 (ae h7 (ae h7 (ae h6 (bj (c:= !decide (N≤1000000000)) (fun h8=>q2) (fun h8=>(ae (bc 3 4 h5) (ae (bc 3 4 h5) (ae (bc 3 4 h5) (ae (bc 3 4 h5) (ae (bc 3 14 h5) (ae (bc 3 14 h5) (ae (bc 3 14 h5) (ae (bc 3 14 h5) (ae h5 (ae h5 q3))))))))))))))))) (fun h7=>(ae h7 (ae h7 (ae h7 (ae h6 q2))))))))) (fun h6=>(ae h6 (ae h6 (ae h6 q2))))))) (fun h5=>(bj (c:=K==10) (fun h6=>(bj (c:=(↑(ams B):Int)==0) (fun h7=>(ae h7 (ae h7 (bj (c:=decide (N ≥ 0)) (fun h8=>(ae h8 (ae h8 (ae h8 (ae h7 (bj (c:= !decide (N≤1000000000)) (fun h9=>q2) (fun h9=>(ae (bc 10 4 h6) (ae (bc 10 4 h6) (ae (bc 10 4 h6) (ae (bc 10 4 h6) (ae (bc 10 14 h6) (ae (bc 10 14 h6) (ae (bc 10 14 h6) (ae (bc 10 14 h6) (ae h5 (ae (bc 10 5 h6) (ae (bc 10 7 h6) (ae h6 (ae h6 q3)))))))))))))))))))) (fun h8=>(ae h8 (ae h8 (ae h8 (ae h7 q2))))))))) (fun h7=>(ae h7 (ae h7 (ae h7 q2)))))) (fun h6=>(bj (c:=K==4) (fun h7=>(bj (c:=(↑(ams B):Int)==0) (fun h8=>(ae h8 (ae h8 (ae h8 (bj (c:= !decide (N ≥ 0)) (fun h9=>q2) (fun h9=>(ae h7 (ae h7 (ae h7 (ae h7 (bj (c:=decide (N>100)) (fun bI=>rU) (fun bI=>(ae h5 (ae (bc 4 5 h7) (ae (bc 4 7 h7) (ae h6 (ae (bc 4 16 h7) (ae h7 (bj (c:=decide (aml amA (64+aml amA (64*N))>2048)) (fun bJ=>rU) (fun bJ=>q3)))))))))))))))))))) (fun h8=>(ae h8 (ae h8 (ae h8 q2)))))) (fun h7=>(bj (c:=K==5) (fun h8=>(bj (c:=(↑(ams B):Int)==0) (fun h9=>(ae h9 (ae h9 (bj (c:=decide (N ≥ 0)) (fun bI=>(ae bI (ae bI (ae bI (ae h9 (bj (c:=decide (N≤1)) (fun bJ=>(ae bJ (ae bJ (ae bJ (bj (c:=decide ((↑(ams A):Int) ≥ 1)) (fun bx=>(ae bx (ae bx (ae bx (ae bJ (bj (c:=decide ((↑(ams A):Int)≤16)) (fun bg=>(ae bg (ae bg (ae (show(amq (ag A) af)=true by exact aI _) (ae (show(pf (ag A) (ams A=ams A∧5=5∧mM (ag A)=ams A∧ams A≤10000))=true by exact BC ⟨rfl,rfl,mB _,by omega⟩) (ae bg (ae bg (bj (c:= !!rq (rl (ag A)) 10) (fun cB=>q2) (fun cB=>(ae h7 (ae h7 (ae h7 (ae h7 (ae (bc 5 14 h8) (ae (bc 5 14 h8) (ae (bc 5 14 h8) (ae (bc 5 14 h8) (ae h5 (ae h8 (ae h8 q3)))))))))))))))))))) (fun bg=>(ae bg (ae bg (ae bg (ae bg q2))))))))))) (fun bx=>(ae bx (ae bx (ae bx (ae bJ q2)))))))))) (fun bJ=>(ae bJ (ae bJ (ae bJ (ae bJ q2))))))))))) (fun bI=>(ae bI (ae bI (ae bI (ae h9 q2))))))))) (fun h9=>(ae h9 (ae h9 (ae h9 q2)))))) (fun h8=>(bj (c:=K==6) (fun h9=>(bj (c:=N==0) (fun bI=>(ae bI (ae bI (ae bI (bj (c:=decide ((↑(ams A):Int) ≥ 1)) (fun bJ=>(ae bJ (ae bJ (ae bJ (ae bI (bj (c:=decide ((↑(ams A):Int)≤64)) (fun bx=>(ae bx (ae bx (ae (show(amq (ag A) af)=true by exact aI _) (ae (show(pf (ag A) (ams A=ams A∧5=5∧mM (ag A)=ams A∧ams A≤10000))=true by exact BC ⟨rfl,rfl,mB _,by omega⟩) (ae bx (bj (c:=rp (rl (ag A))) (fun bg=>(ae bg (ae bg (ae bg (ae bg (ae bg (ae bg (ae bg (bj (c:= !decide ((↑(ams B):Int)≤(↑(ams A):Int))) (fun cB=>q2) (fun cB=>(ae h7 (ae h7 (ae h7 (ae h7 (ae (bc 6 14 h9) (ae (bc 6 14 h9) (ae (bc 6 14 h9) (ae (bc 6 14 h9) (ae h5 (ae h8 (ae (bc 6 7 h9) (ae h6 (ae (bc 6 16 h9) (ae h7 (ae (bc 6 8 h9) (ae (bc 6 11 h9) (ae (bc 6 13 h9) (ae (bc 6 14 h9) q3)))))))))))))))))))))))))))) (fun bg=>(ae bg (ae bg (ae bg (ae bg (ae bg (ae bg (ae bg q2))))))))))))))) (fun bx=>(ae bx (ae bx (ae bx q2)))))))))) (fun bJ=>(ae bJ (ae bJ (ae bJ (ae bI q2)))))))))) (fun bI=>(ae bI (ae bI (ae bI (ae bI q2))))))) (fun h9=>(bj (c:=K==7) (fun bI=>(bj (c:=(↑(ams B):Int)==0) (fun bJ=>(ae bJ (ae bJ (bj (c:=(↑(ams A):Int)==1) (fun bx=>(ae bx (ae (vM bx) (ae bx (ae (vL bx) (ae bx (ae bx (ae bJ (bj (c:=au (ag A) 0 != 10) (fun bg=>(ae bg (ae bg (bj (c:=decide (N ≥ 1)) (fun cB=>(ae cB (ae cB (ae cB (ae bg (bj (c:= !decide (N≤65535)) (fun dP=>q2) (fun dP=>(ae h7 (ae h7 (ae h7 (ae h7 (ae (bc 7 14 bI) (ae (bc 7 14 bI) (ae (bc 7 14 bI) (ae (bc 7 14 bI) (ae h5 (ae h8 (ae bI (ae bI q3))))))))))))))))))) (fun cB=>(ae cB (ae cB (ae cB (ae bg q2))))))))) (fun bg=>(ae bg (ae bg (ae bg q2))))))))))))) (fun bx=>(ae bx (ae bx (ae bx (ae bx (ae bJ q2)))))))))) (fun bJ=>(ae bJ (ae bJ (ae bJ q2)))))) (fun bI=>(bj (c:=K==8) (fun bJ=>(ae bJ (bj (c:=(↑(ams B):Int)==0) (fun bx=>(ae bx (ae bx (bj (c:=decide (N ≥ 0)) (fun bg=>(ae bg (ae bg (ae bg (ae bx (bj (c:= !decide (N≤1)) (fun cB=>q2) (fun cB=>(ae h7 (ae h7 (ae h7 (ae h7 (ae (bc 8 14 bJ) (ae (bc 8 14 bJ) (ae (bc 8 14 bJ) (ae (bc 8 14 bJ) (ae h5 (ae h8 (ae bI (ae h6 (ae (bc 8 16 bJ) (ae h7 (ae bJ q3)))))))))))))))))))))) (fun bg=>(ae bg (ae bg (ae bg (ae bx q2))))))))) (fun bx=>(ae bx (ae bx (ae bx q2))))))) (fun bJ=>(ae (show(K==11)=false by exact(decide_eq_false (by omega))) (bj (c:=K==9) (fun bx=>(bj (c:=(↑(ams B):Int)==0) (fun bg=>(ae bg (ae bg (ae bg (bj (c:= !N==0) (fun cB=>q2) (fun cB=>(ae h7 (ae h7 (ae h7 (ae h7 (ae (bc 9 14 bx) (ae (bc 9 14 bx) (ae (bc 9 14 bx) (ae (bc 9 14 bx) (ae h5 (ae h8 (ae bI (ae h6 (ae (bc 9 16 bx) (ae h7 (ae bJ (ae (bc 9 11 bx) (ae (bc 9 13 bx) (ae (bc 9 14 bx) q3)))))))))))))))))))))))) (fun bg=>(ae bg (ae bg (ae bg q2)))))) (fun bx=>(bj (c:=K==12) (fun bg=>(ae bg (bj (c:=(↑(ams B):Int)==0) (fun cB=>(ae cB (ae cB (bj (c:=decide (N ≥ 1)) (fun dP=>(ae dP (ae dP (ae dP (ae cB (bj (c:= !decide (N≤4)) (fun dB=>q2) (fun dB=>(ae h7 (ae h7 (ae h7 (ae h7 (ae (bc 12 14 bg) (ae (bc 12 14 bg) (ae (bc 12 14 bg) (ae (bc 12 14 bg) (ae h5 (ae h8 (ae bI (ae h6 (ae (bc 12 16 bg) (ae h7 (ae bJ (ae (bc 12 11 bg) (ae (bc 12 13 bg) (ae (bc 12 14 bg) q3))))))))))))))))))))))))) (fun dP=>(ae dP (ae dP (ae dP (ae cB q2))))))))) (fun cB=>(ae cB (ae cB (ae cB q2))))))) (fun bg=>(bj (c:=K==15) (fun cB=>(ae cB (bj (c:=(↑(ams B):Int)==0) (fun dP=>(ae dP (ae dP (bj (c:=decide (N ≥ 1)) (fun dB=>(ae dB (ae dB (ae dB (ae dP (bj (c:= !decide (N≤4)) (fun cQ=>q2) (fun cQ=>(ae h7 (ae h7 (ae h7 (ae h7 (ae (bc 15 14 cB) (ae (bc 15 14 cB) (ae (bc 15 14 cB) (ae (bc 15 14 cB) (ae h5 (ae h8 (ae bI (ae h6 (ae (bc 15 16 cB) (ae h7 (ae bJ (ae (bc 15 11 cB) (ae (bc 15 13 cB) (ae (bc 15 14 cB) q3))))))))))))))))))))))))) (fun dB=>(ae dB (ae dB (ae dB (ae dP q2))))))))) (fun dP=>(ae dP (ae dP (ae dP q2))))))) (fun cB=>(bj (c:=K==16) (fun dP=>(bj (c:=(↑(ams B):Int)==0) (fun dB=>(ae dB (ae dB (bj (c:=decide (N ≥ 1)) (fun cQ=>(ae cQ (ae cQ (ae cQ (ae dB (bj (c:= !decide (N≤4)) (fun cK=>q2) (fun cK=>(ae h7 (ae h7 (ae h7 (ae h7 (ae (bc 16 14 dP) (ae (bc 16 14 dP) (ae (bc 16 14 dP) (ae (bc 16 14 dP) (ae h5 (ae h8 (ae bI (ae h6 (ae dP q3)))))))))))))))))))) (fun cQ=>(ae cQ (ae cQ (ae cQ (ae dB q2))))))))) (fun dB=>(ae dB (ae dB (ae dB q2)))))) (fun dP=>(bj (c:=K==13) (fun dB=>(bj (c:=(↑(ams B):Int)==0) (fun cQ=>(ae cQ (ae cQ (bj (c:=(↑(ams A):Int)==1) (fun cK=>(ae cK (ae (vM cK) (ae cK (ae (vL cK) (ae cK (ae cK (ae cQ (bj (c:=au (ag A) 0 != 10) (fun dZ=>(ae dZ (ae dZ (bj (c:=decide (N ≥ 1)) (fun fX=>(ae fX (ae fX (ae fX (ae dZ (bj (c:= !decide (N≤4)) (fun qw=>q2) (fun qw=>(ae h7 (ae h7 (ae h7 (ae h7 (ae (bc 13 14 dB) (ae (bc 13 14 dB) (ae (bc 13 14 dB) (ae (bc 13 14 dB) (ae h5 (ae h8 (ae bI (ae h6 (ae dP (ae h7 (ae bJ (ae (bc 13 11 dB) (ae dB (bj (c:=decide (aml amA (96*N)>2048)) (fun tS=>rU) (fun tS=>q3)))))))))))))))))))))))))) (fun fX=>(ae fX (ae fX (ae fX (ae dZ q2))))))))) (fun dZ=>(ae dZ (ae dZ (ae dZ q2))))))))))))) (fun cK=>(ae cK (ae cK (ae cK (ae cK (ae cQ q2)))))))))) (fun cQ=>(ae cQ (ae cQ (ae cQ q2)))))) (fun dB=>(ae (show(K==14)=true by simp at hA hB hK h0 h1 h2 h3 h4 h5 h6 h7 h8 h9 bI bJ bx bg cB dP dB⊢ <;>omega) (bj (c:=(↑(ams B):Int)==0) (fun cQ=>(ae cQ (ae cQ (bj (c:=(↑(ams A):Int)==1) (fun cK=>(ae cK (ae (vM cK) (ae cK (ae (vL cK) (ae cK (ae cK (ae cQ (bj (c:=au (ag A) 0 != 10) (fun dZ=>(ae dZ (ae dZ (ae dZ (bj (c:= !decide (N ≥ 1)) (fun fX=>q2) (fun fX=>(ae h7 (ae h7 (ae h7 (ae h7 (ae (show(K==14)=true by simp at hA hB hK h0 h1 h2 h3 h4 h5 h6 h7 h8 h9 bI bJ bx bg cB dP dB cQ cK dZ fX⊢ <;>omega) (ae (show(K==14)=true by simp at hA hB hK h0 h1 h2 h3 h4 h5 h6 h7 h8 h9 bI bJ bx bg cB dP dB cQ cK dZ fX⊢ <;>omega) (ae (show(K==14)=true by simp at hA hB hK h0 h1 h2 h3 h4 h5 h6 h7 h8 h9 bI bJ bx bg cB dP dB cQ cK dZ fX⊢ <;>omega) (ae (show(K==14)=true by simp at hA hB hK h0 h1 h2 h3 h4 h5 h6 h7 h8 h9 bI bJ bx bg cB dP dB cQ cK dZ fX⊢ <;>omega) (bj (c:=decide (N>100)) (fun qw=>rU) (fun qw=>(ae h5 (ae h8 (ae bI (ae h6 (ae dP (ae h7 (ae bJ (ae (show(K==11)=false by exact(decide_eq_false (by omega))) (ae dB (ae (show(K==14)=true by simp at hA hB hK h0 h1 h2 h3 h4 h5 h6 h7 h8 h9 bI bJ bx bg cB dP dB cQ cK dZ fX qw⊢ <;>omega) (bj (c:=decide (aml amA (2*aml amA (aml amA (64*N)+96))>2048)) (fun tS=>rU) (fun tS=>q3)))))))))))))))))))))))))))) (fun dZ=>(ae dZ (ae dZ (ae dZ q2))))))))))))) (fun cK=>(ae cK (ae cK (ae cK (ae cK (ae cQ q2)))))))))) (fun cQ=>(ae cQ (ae cQ (ae cQ q2)))))))))))))))))))))))))))))))))))))))) (fun h2=>(ae h2 (ae h2 (ae h2 (ae h2 (bj (c:=K==1) (fun h3=>(ae h3 q2)) (fun h3=>(bj (c:=K==2) (fun h4=>q2) (fun h4=>(bj (c:=K==3) (fun h5=>(ae h5 q2)) (fun h5=>(bj (c:=K==10) (fun h6=>q2) (fun h6=>(bj (c:=K==4) (fun h7=>q2) (fun h7=>(bj (c:=K==5) (fun h8=>(bj (c:=(↑(ams B):Int)==0) (fun h9=>(ae h9 (ae h9 (bj (c:=decide (N ≥ 0)) (fun bI=>(ae bI (ae bI (ae bI (ae h9 (bj (c:=decide (N≤1)) (fun bJ=>(ae bJ (ae bJ (ae bJ (bj (c:=decide ((↑(ams A):Int) ≥ 1)) (fun bx=>(ae bx (ae bx (ae bx (ae bJ (bj (c:=decide ((↑(ams A):Int)≤16)) (fun bg=>(ae bg (ae bg (ae (show(amq (ag A) af)=true by exact aI _) (ae (show(pf (ag A) (ams A=ams A∧5=5∧mM (ag A)=ams A∧ams A≤10000))=true by exact BC ⟨rfl,rfl,mB _,by omega⟩) (ae bg (ae bg (bj (c:= !!rq (rl (ag A)) 10) (fun cB=>q2) (fun cB=>(ae h7 (ae h7 (ae h7 (ae h7 (ae (bc 5 14 h8) (ae (bc 5 14 h8) (ae (bc 5 14 h8) (ae (bc 5 14 h8) (ae h5 (ae h8 (ae h8 q3)))))))))))))))))))) (fun bg=>(ae bg (ae bg (ae bg (ae bg q2))))))))))) (fun bx=>(ae bx (ae bx (ae bx (ae bJ q2)))))))))) (fun bJ=>(ae bJ (ae bJ (ae bJ (ae bJ q2))))))))))) (fun bI=>(ae bI (ae bI (ae bI (ae h9 q2))))))))) (fun h9=>(ae h9 (ae h9 (ae h9 q2)))))) (fun h8=>(bj (c:=K==6) (fun h9=>(bj (c:=N==0) (fun bI=>(ae bI (ae bI (ae bI (bj (c:=decide ((↑(ams A):Int) ≥ 1)) (fun bJ=>(ae bJ (ae bJ (ae bJ (ae bI (bj (c:=decide ((↑(ams A):Int)≤64)) (fun bx=>(ae bx (ae bx (ae (show(amq (ag A) af)=true by exact aI _) (ae (show(pf (ag A) (ams A=ams A∧5=5∧mM (ag A)=ams A∧ams A≤10000))=true by exact BC ⟨rfl,rfl,mB _,by omega⟩) (ae bx (bj (c:=rp (rl (ag A))) (fun bg=>(ae bg (ae bg (ae bg (ae bg (ae bg (ae bg (ae bg (bj (c:= !decide ((↑(ams B):Int)≤(↑(ams A):Int))) (fun cB=>q2) (fun cB=>(ae h7 (ae h7 (ae h7 (ae h7 (ae (bc 6 14 h9) (ae (bc 6 14 h9) (ae (bc 6 14 h9) (ae (bc 6 14 h9) (ae h5 (ae h8 (ae (bc 6 7 h9) (ae h6 (ae (bc 6 16 h9) (ae h7 (ae (bc 6 8 h9) (ae (bc 6 11 h9) (ae (bc 6 13 h9) (ae (bc 6 14 h9) q3)))))))))))))))))))))))))))) (fun bg=>(ae bg (ae bg (ae bg (ae bg (ae bg (ae bg (ae bg q2))))))))))))))) (fun bx=>(ae bx (ae bx (ae bx q2)))))))))) (fun bJ=>(ae bJ (ae bJ (ae bJ (ae bI q2)))))))))) (fun bI=>(ae bI (ae bI (ae bI (ae bI q2))))))) (fun h9=>(bj (c:=K==7) (fun bI=>(bj (c:=(↑(ams B):Int)==0) (fun bJ=>(ae bJ (ae bJ (bj (c:=(↑(ams A):Int)==1) (fun bx=>(ae bx (ae (vM bx) (ae bx (ae (vL bx) (ae bx (ae bx (ae bJ (bj (c:=au (ag A) 0 != 10) (fun bg=>(ae bg (ae bg (bj (c:=decide (N ≥ 1)) (fun cB=>(ae cB (ae cB (ae cB (ae bg (bj (c:= !decide (N≤65535)) (fun dP=>q2) (fun dP=>(ae h7 (ae h7 (ae h7 (ae h7 (ae (bc 7 14 bI) (ae (bc 7 14 bI) (ae (bc 7 14 bI) (ae (bc 7 14 bI) (ae h5 (ae h8 (ae bI (ae bI q3))))))))))))))))))) (fun cB=>(ae cB (ae cB (ae cB (ae bg q2))))))))) (fun bg=>(ae bg (ae bg (ae bg q2))))))))))))) (fun bx=>(ae bx (ae bx (ae bx (ae bx (ae bJ q2)))))))))) (fun bJ=>(ae bJ (ae bJ (ae bJ q2)))))) (fun bI=>(bj (c:=K==8) (fun bJ=>(ae bJ q2)) (fun bJ=>(ae (show(K==11)=false by exact(decide_eq_false (by omega))) (bj (c:=K==9) (fun bx=>q2) (fun bx=>(bj (c:=K==12) (fun bg=>(ae bg q2)) (fun bg=>(bj (c:=K==15) (fun cB=>(ae cB q2)) (fun cB=>(bj (c:=K==16) (fun dP=>q2) (fun dP=>(bj (c:=K==13) (fun dB=>(bj (c:=(↑(ams B):Int)==0) (fun cQ=>(ae cQ (ae cQ (bj (c:=(↑(ams A):Int)==1) (fun cK=>(ae cK (ae (vM cK) (ae cK (ae (vL cK) (ae cK (ae cK (ae cQ (bj (c:=au (ag A) 0 != 10) (fun dZ=>(ae dZ (ae dZ (bj (c:=decide (N ≥ 1)) (fun fX=>(ae fX (ae fX (ae fX (ae dZ (bj (c:= !decide (N≤4)) (fun qw=>q2) (fun qw=>(ae h7 (ae h7 (ae h7 (ae h7 (ae (bc 13 14 dB) (ae (bc 13 14 dB) (ae (bc 13 14 dB) (ae (bc 13 14 dB) (ae h5 (ae h8 (ae bI (ae h6 (ae dP (ae h7 (ae bJ (ae (bc 13 11 dB) (ae dB (bj (c:=decide (aml amA (96*N)>2048)) (fun tS=>rU) (fun tS=>q3)))))))))))))))))))))))))) (fun fX=>(ae fX (ae fX (ae fX (ae dZ q2))))))))) (fun dZ=>(ae dZ (ae dZ (ae dZ q2))))))))))))) (fun cK=>(ae cK (ae cK (ae cK (ae cK (ae cQ q2)))))))))) (fun cQ=>(ae cQ (ae cQ (ae cQ q2)))))) (fun dB=>(ae (show(K==14)=true by simp at hA hB hK h0 h1 h2 h3 h4 h5 h6 h7 h8 h9 bI bJ bx bg cB dP dB⊢ <;>omega) (bj (c:=(↑(ams B):Int)==0) (fun cQ=>(ae cQ (ae cQ (bj (c:=(↑(ams A):Int)==1) (fun cK=>(ae cK (ae (vM cK) (ae cK (ae (vL cK) (ae cK (ae cK (ae cQ (bj (c:=au (ag A) 0 != 10) (fun dZ=>(ae dZ (ae dZ (ae dZ (bj (c:= !decide (N ≥ 1)) (fun fX=>q2) (fun fX=>(ae h7 (ae h7 (ae h7 (ae h7 (ae (show(K==14)=true by simp at hA hB hK h0 h1 h2 h3 h4 h5 h6 h7 h8 h9 bI bJ bx bg cB dP dB cQ cK dZ fX⊢ <;>omega) (ae (show(K==14)=true by simp at hA hB hK h0 h1 h2 h3 h4 h5 h6 h7 h8 h9 bI bJ bx bg cB dP dB cQ cK dZ fX⊢ <;>omega) (ae (show(K==14)=true by simp at hA hB hK h0 h1 h2 h3 h4 h5 h6 h7 h8 h9 bI bJ bx bg cB dP dB cQ cK dZ fX⊢ <;>omega) (ae (show(K==14)=true by simp at hA hB hK h0 h1 h2 h3 h4 h5 h6 h7 h8 h9 bI bJ bx bg cB dP dB cQ cK dZ fX⊢ <;>omega) (bj (c:=decide (N>100)) (fun qw=>rU) (fun qw=>(ae h5 (ae h8 (ae bI (ae h6 (ae dP (ae h7 (ae bJ (ae (show(K==11)=false by exact(decide_eq_false (by omega))) (ae dB (ae (show(K==14)=true by simp at hA hB hK h0 h1 h2 h3 h4 h5 h6 h7 h8 h9 bI bJ bx bg cB dP dB cQ cK dZ fX qw⊢ <;>omega) (bj (c:=decide (aml amA (2*aml amA (aml amA (64*N)+96))>2048)) (fun tS=>rU) (fun tS=>q3)))))))))))))))))))))))))))) (fun dZ=>(ae dZ (ae dZ (ae dZ q2))))))))))))) (fun cK=>(ae cK (ae cK (ae cK (ae cK (ae cQ q2)))))))))) (fun cQ=>(ae cQ (ae cQ (ae cQ q2))))))))))))))))))))))))))))))))))))))))))))))))
abbrev vO:=fun(N:Int) A B=>(⟨[(2,aa 11)],rT A B⟩:aj)
theorem ajg(N:Int)(A B){Q:bk}(hq:Q (.ret (aa 11)) (vO N A B).objs):aH anm 7 17 2 Q .ret (vO N A B):=aH.ret (vs:=[aa 11]) (l:=[]) (bs:=[0,1]) (pl:=[0,1]) (q:=[ag A,ag B]) (fun u=>by kernel_rfl) (by kernel_rfl) (aE (aI A) (aE (aI B) bd)) hq
abbrev Ik:=fun(N:Int) A B=>(⟨[(2,aa 0)],rT A B⟩:aj)
theorem ajh(N:Int)(A B){Q:bk}(hq:Q (.ret (aa 0)) (Ik N A B).objs):aH anm 7 17 2 Q .ret (Ik N A B):=aH.ret (vs:=[aa 0]) (l:=[]) (bs:=[0,1]) (pl:=[0,1]) (q:=[ag A,ag B]) (fun u=>by kernel_rfl) (by kernel_rfl) (aE (aI A) (aE (aI B) bd)) hq
theorem RH(N:Int)(A B:ByteArray)(hA:A.size≤1000)(hB:B.size≤1000){Q:aV}(l2:((↑(ams A):Int)==0)=true→((↑(ams B):Int)==0)=true→(decide (N ≥ 0))=true→(!decide (N≤1))=true→Q .ret (vO N A B))(l3:((↑(ams A):Int)==0)=true→((↑(ams B):Int)==0)=true→(decide (N ≥ 0))=true→(!decide (N≤1))=false→Q .ret (Ik N A B))(l4:((↑(ams A):Int)==0)=true→((↑(ams B):Int)==0)=true→(decide (N ≥ 0))=false→Q .ret (vO N A B))(l5:((↑(ams A):Int)==0)=true→((↑(ams B):Int)==0)=false→Q .ret (vO N A B))(l6:((↑(ams A):Int)==0)=false→Q .ret (vO N A B)):al anm 17 2 vN ⟨[(0,.agg #[aa 11,aa N,ah 0 A.size,ah 1 B.size])],[.cells (ag A) 5 true,.cells (ag B) 5 true]⟩ Q:=
 aZ RC 1000 (.fork 11 (av [1,3,3,1] (.fork 11 (av [1,3] (.fork 1 (av [1,1,1,1] (.fork 0 (.leaf [2] [0,1] [0,1]) (.leaf [2] [0,1] [0,1]))) (av [0,0,0,1] (.leaf [2] [0,1] [0,1])))) (av [0,0,0] (.leaf [2] [0,1] [0,1])))) (av [0,0,0,0] (.leaf [2] [0,1] [0,1]))) (fun u=>by kernel_rfl) (Tree.dh (c:=(↑(ams A):Int)==0) (fun h0=>(Tree.aU h0 (Tree.aU h0 (Tree.aU h0 (Tree.aU h0 (Tree.dh (c:=(↑(ams B):Int)==0) (fun h1=>(Tree.aU h1 (Tree.aU h1 (Tree.dh (c:=decide (N ≥ 0)) (fun h2=>(Tree.aU h2 (Tree.aU h2 (Tree.aU h2 (Tree.aU h1 (Tree.dh (c:= !decide (N≤1)) (fun h3=>(Tree.aU (aI A) (Tree.aU (aI B) (Tree.dz (l2 h0 h1 h2 h3))))) (fun h3=>(Tree.aU (aI A) (Tree.aU (aI B) (Tree.dz (l3 h0 h1 h2 h3))))))))))) (fun h2=>(Tree.aU h2 (Tree.aU h2 (Tree.aU h2 (Tree.aU h1 (Tree.aU (aI A) (Tree.aU (aI B) (Tree.dz (l4 h0 h1 h2))))))))))))) (fun h1=>(Tree.aU h1 (Tree.aU h1 (Tree.aU h1 (Tree.aU (aI A) (Tree.aU (aI B) (Tree.dz (l5 h0 h1)))))))))))))) (fun h0=>(Tree.aU h0 (Tree.aU h0 (Tree.aU h0 (Tree.aU h0 (Tree.aU (aI A) (Tree.aU (aI B) (Tree.dz (l6 h0))))))))))
abbrev BD:=fun(N:Int) A B=>(⟨[(2,aa 11)],rT A B⟩:aj)
abbrev Il:=fun(N:Int) A B=>(⟨[(2,aa 0)],rT A B⟩:aj)
theorem aji(N:Int)(A B){Q:bk}(hq:Q (.ret (aa 0)) (Il N A B).objs):aH anm 25 11 2 Q .ret (Il N A B):=aH.ret (vs:=[aa 0]) (l:=[]) (bs:=[0,1]) (pl:=[0,1]) (q:=[ag A,ag B]) (fun u=>by kernel_rfl) (by kernel_rfl) (aE (aI A) (aE (aI B) bd)) hq
theorem ajj(N:Int)(A B:ByteArray)(hA:A.size≤1000)(hB:B.size≤1000){Q:aV}(l2:(decide (N<0))=true→Q .ret (BD N A B))(l3:(decide (N<0))=false→(decide (N>1))=true→Q .ret (BD N A B))(l4:(decide (N<0))=false→(decide (N>1))=false→((↑(ams A):Int)==0)=true→(!(↑(ams B):Int)==0)=true→Q .ret (BD N A B))(l5:(decide (N<0))=false→(decide (N>1))=false→((↑(ams A):Int)==0)=true→(!(↑(ams B):Int)==0)=false→Q .ret (Il N A B))(l6:(decide (N<0))=false→(decide (N>1))=false→((↑(ams A):Int)==0)=false→Q .ret (BD N A B)):al anm 11 2 aja ⟨[(0,.agg #[aa 11,aa N,ah 0 A.size,ah 1 B.size])],[.cells (ag A) 5 true,.cells (ag B) 5 true]⟩ Q:=
 aZ ai9 1000 (.fork 15 (av [1,1,1,1,1] (.leaf [2] [0,1] [0,1])) (av [0,2,0,2,0] (.fork 0 (av [1,1,1,1] (.leaf [2] [0,1] [0,1])) (av [2,2] (.fork 7 (av [1,3,3,1,0,0] (.fork 0 (.leaf [2] [0,1] [0,1]) (.leaf [2] [0,1] [0,1]))) (av [0,0,0,0,0,0] (.leaf [2] [0,1] [0,1]))))))) (fun u=>by kernel_rfl) (Tree.dh (c:=decide (N<0)) (fun h0=>(Tree.aU h0 (Tree.aU h0 (Tree.aU h0 (Tree.aU h0 (Tree.aU h0 (Tree.aU (aI A) (Tree.aU (aI B) (Tree.dz (l2 h0)))))))))) (fun h0=>(Tree.aU h0 (Tree.aU h0 (Tree.aU h0 (Tree.aU h0 (Tree.aU h0 (Tree.dh (c:=decide (N>1)) (fun h1=>(Tree.aU h1 (Tree.aU h1 (Tree.aU h1 (Tree.aU h1 (Tree.aU (aI A) (Tree.aU (aI B) (Tree.dz (l3 h0 h1))))))))) (fun h1=>(Tree.aU h1 (Tree.aU h1 (Tree.dh (c:=(↑(ams A):Int)==0) (fun h2=>(Tree.aU h2 (Tree.aU h2 (Tree.aU h2 (Tree.aU h2 (Tree.aU h1 (Tree.aU h1 (Tree.dh (c:= !(↑(ams B):Int)==0) (fun h3=>(Tree.aU (aI A) (Tree.aU (aI B) (Tree.dz (l4 h0 h1 h2 h3))))) (fun h3=>(Tree.aU (aI A) (Tree.aU (aI B) (Tree.dz (l5 h0 h1 h2 h3))))))))))))) (fun h2=>(Tree.aU h2 (Tree.aU h2 (Tree.aU h2 (Tree.aU h2 (Tree.aU h1 (Tree.aU h1 (Tree.aU (aI A) (Tree.aU (aI B) (Tree.dz (l6 h0 h1 h2)))))))))))))))))))))))
end
end Go.Proofs.Ytnlkkgpcikkpoaa
namespace Go.Proofs.Ytnlkkgpcikkpoaa
open Go Vm Go.RowKit
set_option maxRecDepth 100000
abbrev BE(K N:Int)(A B:ByteArray):List amn:=[.agg #[.int .i64 K,.int .i64 N,.slice (some ⟨0,0,none⟩) A.size A.size,.slice (some ⟨1,0,none⟩) B.size B.size]]
abbrev rV(A B:ByteArray):List ai:=[.cells (ag A) 5 true,.cells (ag B) 5 true]
theorem ajk(N:Int)(A B:ByteArray)(hA:A.size≤1000)(hB:B.size≤1000):
 ∃e,aG asz 7 (BE 11 N A B) (rV A B) (fun r o=>r=.ret (.int .i64 e)∧o=rV A B)∧(e=0→A.size=0∧B.size=0∧0≤N∧N≤1):=by
 by_cases h:A.size=0∧B.size=0∧0≤N∧N≤1
 ·refine⟨0,?_,fun _=>h⟩
  obtain⟨h1,h2,h3,h4⟩:=h
  refine aG.cM (n:=ct asz 7) (by kernel_rfl) ?_
  apply RH N A B hA hB
  case l2=>intro _ _ _ g;have g:¬N≤1:=by simpa using g
           exact absurd h4 g
  case l3=>intros;exact ajh N A B ⟨rfl,rfl⟩
  case l4=>intro _ _ g;have g:=of_decide_eq_false g;exact absurd h3 g
  case l5=>intro _ g;rw[h2]at g;cases g
  case l6=>intro g;rw[h1]at g;cases g
 ·refine⟨11,?_,fun h=>by cases h⟩
  refine aG.cM (n:=ct asz 7) (by kernel_rfl) ?_
  apply RH N A B hA hB
  case l3=>
   intro g1 g2 g3 g4
   have g1:(A.size:Int)=0:=by simpa using g1
   have g2:(B.size:Int)=0:=by simpa using g2
   have g3:=of_decide_eq_true g3
   have g4:N≤1:=by simpa using g4
   exact absurd ⟨by omega,by omega,by omega,g4⟩ h
  all_goals intros;exact ajg N A B ⟨rfl,rfl⟩
theorem ajl(K N:Int)(A B:ByteArray)(hA:A.size≤1000)(hB:B.size≤1000):
 ∃e,aG asz 7 (BE K N A B) (rV A B) (fun r o=>r=.ret (.int .i64 e)∧o=rV A B)∧(e=0→K=11→A.size=0∧B.size=0∧0≤N∧N≤1):=by
 by_cases hK:K=11
 ·subst hK
  obtain⟨e,h1,h2⟩:=ajk N A B hA hB
  exact⟨e,h1,fun h _=>h2 h⟩
 ·obtain⟨e,he⟩:=ajf K N A B hA hB hK
  exact⟨e,aG.cM (n:=ct asz 7) (by kernel_rfl) he,fun _ h=>absurd h hK⟩
theorem ajm(N:Int)(A B:ByteArray)(hA:A.size≤1000)(hB:B.size≤1000)(h1:A.size=0)(h2:B.size=0)(h3:0≤N)(h4:N≤1):
 aG asz 25 (BE 11 N A B) (rV A B) (fun r o=>r=.ret (.int .i64 0)∧o=rV A B):=by
 refine aG.cM (n:=ct asz 25) (by kernel_rfl) ?_
 apply ajj N A B hA hB
 case l2=>intro g;have g:=of_decide_eq_true g;omega
 case l3=>intro _ g;have g:=of_decide_eq_true g;omega
 case l4=>intro _ _ _ g;rw[h2]at g;cases g
 case l5=>intros;exact aji N A B ⟨rfl,rfl⟩
 case l6=>intro _ _ g;rw[h1]at g;cases g
end Go.Proofs.Ytnlkkgpcikkpoaa
namespace Go.Proofs.Ytnlkkgpcikkpoaa
noncomputable section
open Go Vm Go.RowKit
set_option maxRecDepth 100000
noncomputable def ajn:List am3:=ba (dy asz 6)
abbrev Im:aj:=⟨[(0,.bool true)],[]⟩
theorem ajo{Q:bk}(hq:Q (.ret (.bool true)) (Im).objs):aH anm 6 45 0 Q .ret (Im):=aH.ret (vs:=[.bool true]) (l:=[]) (bs:=[]) (pl:=[]) (q:=[]) (fun u=>by kernel_rfl) (by kernel_rfl) bd hq
theorem aw{Q:aV}(l0:Q .ret (Im)):al anm 45 0 ajn ⟨[],[]⟩ Q:=
 al.tree cZ mixed (V4 1000) (lf:=1000) (m:=1000) (s:=(.leaf [0] [] [])) (fun u=>by kernel_rfl) (Tree.dz (l0))
end
end Go.Proofs.Ytnlkkgpcikkpoaa
namespace Go.Proofs.Ytnlkkgpcikkpoaa
noncomputable section
open Go Vm Go.RowKit
set_option maxRecDepth 100000
noncomputable def BF:List am3:=ba (dy asz 18)
open Tree renaming aU→mN,dh→mF,eQ→mL,fw→mQ,dz→mR,fI→mE
noncomputable abbrev RI:List am3:=(BF.drop 2)
abbrev RJ(sc:List (Int×Int))(ro:Bool):aj:=⟨[(2,ah 1 (0+mM sc))],[.cells (aF sc) 67 ro,ab ([]++amM (mM sc*2) (aF sc)) 67]⟩
theorem ajp(sc:List (Int×Int))(ro:Bool){Q:bk}(aW:amq (aF sc) af=true)(hq:Q (.ret (ah 1 (0+mM sc))) [.cells (aF sc) 67 ro,ab ([]++amM (mM sc*2) (aF sc)) 67]):aH asz 18 8 1 Q .ret (RJ sc ro):=aH.ret (vs:=[ah 1 (0+mM sc)]) (l:=[]) (bs:=[0,1]) (pl:=[0,1]) (q:=[aF sc,[]++amM (mM sc*2) (aF sc)]) (fun u=>by kernel_rfl) (by kernel_rfl) (aE aW (aE (by first|exact aP _|assumption|exact aD (by assumption) rfl _|exact aD (aD (aD (by assumption) rfl _) rfl _) rfl _|exact aD (aP _) (cg (by rfl) _) _|exact aA (aO (aN _) _) _|(simp;done)|exact aB (by assumption) rfl|exact aB (aP _) rfl|exact aB rfl (aA (by assumption) _)|exact aB (by assumption) (aA (by assumption) _)|exact aB rfl (aA (aO (by assumption) _) _)|exact aA (aO (by assumption) _) _) bd)) hq
theorem ajq(sc:List (Int×Int))(ro:Bool)(h1:0<(mM sc))(h2:(mM sc)≤100000)(h3:(aF sc).length=(mM sc)*2){Q:aV}(n0:(amq (amM (mM sc*2) (aF sc)) Value.oneCell')=true)(aW:amq (aF sc) af=true)(l2:Q .ret (RJ sc ro)):al asz 8 1 BF ⟨[(0,ah 0 (mM sc))],[.cells (aF sc) 67 ro]⟩ Q:=
 aZ bo 1000 (av [0,1,2,1,1,1,1] (.leaf [2] [0,2] [0,2])) (fun u=>by kernel_rfl) (mN (show(amG 0 (mM sc))=true by simp at h1 h2 h3⊢ <;>omega) (mN (show(amO (0+mM sc*2) (mM (aF sc)))=true by simp at h1 h2 h3⊢ <;>omega) (mN (show(amO (0+mM sc) 1000000)=true by simp at h1 h2 h3⊢ <;>omega) (mN n0 (mN (show(amE (mM (amM (mM sc*2) (aF sc))) (mM sc*2))=true by simp at h1 h2 h3⊢ <;>omega) (mN (a9 sc) (mN (show(amq ([]++amM (mM sc*2) (aF sc)) af)=true by first|exact aP _|assumption|exact aD (by assumption) rfl _|exact aD (aD (aD (by assumption) rfl _) rfl _) rfl _|exact aD (aP _) (cg (by rfl) _) _|exact aA (aO (aN _) _) _|(simp;done)|exact aB (by assumption) rfl|exact aB (aP _) rfl|exact aB rfl (aA (by assumption) _)|exact aB (by assumption) (aA (by assumption) _)|exact aB rfl (aA (aO (by assumption) _) _)|exact aA (aO (by assumption) _) _) (mR l2))))))))
abbrev vP(ro:Bool):List ai:=[.cells [] 67 ro]
abbrev ajr(x ro:Bool):aj:=⟨[(0,ah 0 0)],vP ro⟩
abbrev ajs(x ro:Bool):aj:=⟨[(0,ah 0 0)],vP ro⟩
theorem ajt(x ro:Bool){Q:aV}(l0:al asz 8 1 (BF.drop 1) (ajr x ro) Q):al asz 8 1 BF (ajs x ro) Q:=
 aZ bo 1 (.leaf [0] [0] []) (fun u=>by kernel_rfl) (mQ l0)
abbrev RK(ro:Bool):aj:=⟨[(2,cd)],vP ro⟩
theorem aju(ro:Bool){Q:bk}(hq:Q (.ret (cd)) (vP ro)):aH asz 18 8 1 Q .ret (RK ro):=aH.ret (vs:=[cd]) (l:=[]) (bs:=[0]) (pl:=[]) (q:=[]) (fun u=>by kernel_rfl) (by kernel_rfl) bd hq
abbrev ajv(ro:Bool):aj:=⟨[(0,ah 0 0),(4,.bool true)],vP ro⟩
theorem ajw(ro:Bool){Q:aV}(l0:Q .ret (RK ro)):al asz 8 1 RI (ajv ro) Q:=
 aZ bo 1000 (.leaf [2] [0] []) (fun u=>by kernel_rfl) (mR l0)
abbrev RL(ro:Bool):aj:=⟨[(2,ah 1 0)],[.cells [] 67 ro,ab [] 67]⟩
theorem ajx(ro:Bool){Q:bk}(hq:Q (.ret (ah 1 0)) [.cells [] 67 ro,ab [] 67]):aH asz 18 8 1 Q .ret (RL ro):=aH.ret (vs:=[ah 1 0]) (l:=[]) (bs:=[0,1]) (pl:=[]) (q:=[]) (fun u=>by kernel_rfl) (by kernel_rfl) bd hq
abbrev ajy(ro:Bool):aj:=⟨[(0,ah 0 0),(4,.bool false)],vP ro⟩
theorem ajz(ro:Bool){Q:aV}(l0:Q .ret (RL ro)):al asz 8 1 RI (ajy ro) Q:=
 aZ bo 1000 (.leaf [2] [0,2] []) (fun u=>by kernel_rfl) (mR l0)
end
end Go.Proofs.Ytnlkkgpcikkpoaa
namespace Go.Proofs.Ytnlkkgpcikkpoaa
open Go Vm Go.RowKit
set_option maxRecDepth 100000
theorem ajA(ro:Bool):aG asz 18 [.slice (some ⟨0,0,none⟩) 0 0] [.cells [] 67 ro] fun r o=>r=.ret (.slice (some ⟨1,0,none⟩) 0 0)∧o=[.cells [] 67 ro,.cells [] 67 false]:=by
 refine aG.Mc (Q:=fun r o=>(r=.ret (.slice (some ⟨1,0,none⟩) 0 0)∧o=[.cells [] 67 ro,.cells [] 67 false])∨(r=.ret (.slice none 0 0)∧o=[.cells [] 67 ro])) 67 (s:=2) (by kernel_rfl) (by simp) ?_ ?_
 ·refine aG.cM (n:=ct asz 18) (by kernel_rfl) ?_
  apply ajt true ro
  refine al.Le ⟨0,3,4,37⟩ 67 ⟨0,0,none⟩ (by kernel_rfl) (by kernel_rfl) (by rfl) (by rfl) ?_
  intro b
  cases b with
  |true=>exact ajw ro (aju ro (.inr ⟨rfl,rfl⟩))
  |false=>exact ajz ro (ajx ro (.inl ⟨rfl,rfl⟩))
 ·rintro r o (⟨rfl,rfl⟩|⟨rfl,rfl⟩)
  ·exact⟨by simp,by simp,.inl ⟨rfl,rfl⟩⟩
  ·exact⟨by simp,by simp,.inr ⟨rfl,rfl,rfl⟩⟩
theorem ajB(sc:List (Int×Int))(ro:Bool)(hs:sc.length≤100000):aG asz 18 [.slice (some ⟨0,0,none⟩) sc.length sc.length] [.cells (aF sc) 67 ro] fun r o=>r=.ret (.slice (some ⟨1,0,none⟩) sc.length sc.length)∧o=[.cells (aF sc) 67 ro,.cells (aF sc) 67 false]:=by
 by_cases h0:sc.length=0
 ·have e:sc=[]:=ant h0
  subst e
  exact ajA ro
 ·refine aG.cM (n:=ct asz 18) (by kernel_rfl) ?_
  have e:([]:List amn)++amM (sc.length*2) (aF sc)=aF sc:=by
   rw[List.nil_append,List.take_of_length_le (by rw[oc];exact amX _)]
  apply ajq sc ro (by omega) hs (oc _)
  case n0=>exact sS (aA (a9 _) _)
  case aW=>exact a9 _
  case l2=>
   refine ajp sc ro (a9 _) ⟨by rw[an8],?_⟩
   rw[e]
noncomputable def tT(l:List amn)(n m:Nat)(el:amz):Bool:=@decide (∃sc:List (Int×Int),l=aF sc∧n=sc.length∧m=n∧n≤100000∧el=67) (amR _)
noncomputable def Ip(a:List amn)(o:List ai):Option (Bool×bL×List ai):=match a,o with
 | [.slice (some ⟨0,0,none⟩) n m],[.cells l el ro]=>some (tT l n m el,.ret (.slice (some ⟨1,0,none⟩) n n),[.cells l el ro,.cells l el false])
 |_,_=>none
theorem ajC:bp asz 18 (Sum.of Ip):=bp.of fun a o r o' hg=>by
 unfold Ip at hg
 split at hg
 ·rename_i n m l el ro
  simp only[amr,amv]at hg
  obtain⟨h1,rfl,rfl⟩:=hg
  obtain⟨sc,rfl,rfl,rfl,h2,rfl⟩:=@of_decide_eq_true _ (amR _) h1
  exact ajB sc ro h2
 ·cases hg
theorem RM{sc:List (Int×Int)}(h:sc.length≤100000):tT (aF sc) sc.length sc.length 67=true:=by
 unfold tT
 exact(@decide_eq_true_iff _ (amR _)).2 ⟨sc,rfl,rfl,rfl,h,rfl⟩
noncomputable def ajD:List (amY×Sum):=[(18,Sum.of Ip)]
theorem RN:dg asz (dE asz (dF ajD) 50 40):=dJ cZ mixed (dQ (.cons ajC .nil)) 50 40
end Go.Proofs.Ytnlkkgpcikkpoaa
namespace Go.Proofs.Ytnlkkgpcikkpoaa
noncomputable section
open Go Vm Go.RowKit
set_option maxRecDepth 100000
noncomputable def RO:List am3:=ba (dy asz 10)
open Tree renaming aU→mN,dh→mF,eQ→mL,fw→mQ,dz→mR,fI→mE
def RP:Nat→Bool→Bool→Tree→Tree
 |0,_,_,t=>t
 |n+1,d,b,t=>.cD d b (RP n d b t)
theorem RQ{R:bf→aj→Prop}{c v:Bool}{t:Tree}(n:Nat)(h1:c=v)(h2:t.ok R):(RP n c v t).ok R:=by
 induction n with
 |zero=>exact h2
 |succ n ih=>exact⟨h1,ih⟩
abbrev Iq(sc:List (Int×Int)):aj:=⟨[(2,an 1)],[.cells (aF sc) 67 true,ab ([ah 2 (mM sc),.map (some 3),aa 0,aa 0,aa 0]) 70,ab (aF sc) 67,.map ([]) 0]⟩
theorem ajE(sc:List (Int×Int)){Q:bk}(aW:amq (aF sc) af=true)(lp:amq (bu [0,1,2,3] ([])) af=true)(hq:Q (.ret (an 1)) (Iq sc).objs):aH asz 10 8 1 Q .ret (Iq sc):=aH.ret (vs:=[an 1]) (l:=[]) (bs:=[0,1,2,3]) (pl:=[0,2,3]) (q:=[aF sc,aF sc,bu [0,1,2,3] ([])]) (fun u=>by kernel_rfl) (by kernel_rfl) (aE aW (aE (by first|exact aP _|assumption|exact aD (by assumption) rfl _|exact aD (aD (aD (by assumption) rfl _) rfl _) rfl _|exact aD (aP _) (cg (by rfl) _) _|exact aA (aO (aN _) _) _|(simp;done)|exact aB (by assumption) rfl|exact aB (aP _) rfl|exact aB rfl (aA (by assumption) _)|exact aB (by assumption) (aA (by assumption) _)|exact aB rfl (aA (aO (by assumption) _) _)|exact aA (aO (by assumption) _) _) (aE lp bd))) hq
theorem ajF(sc:List (Int×Int))(h2:tT (aF sc) (mM sc) (mM sc) 67=true){Q:aV}(n0:(amq (aF sc) af)=true)(aW:amq (aF sc) af=true)(be:amq (bu [0,3,1,2] ([])) af=true)(l3:Q .ret (Iq sc)):al asz 8 1 RO ⟨[(0,ah 0 (mM sc))],[.cells (aF sc) 67 true]⟩ Q:=
 aZ RN 1000 (av [3,1,1] (.leaf [2] [0,3,1,2] [0,1,2])) (fun u=>by kernel_rfl) (mN (a9 sc) (mN (show(tT (aF sc) (mM sc) (mM sc) 67)=true by assumption) (mN (a9 sc) (mN (a9 sc) (mN (a9 sc) (mN be (mR l3)))))))
abbrev Ir(sc:List (Int×Int)):aj:=⟨[(2,an 1)],[ab (aF sc) 67,ab ([ah 2 (mM sc),.map (some 3),aa 0,aa 0,aa 0]) 70,ab (aF sc) 67,.map ([]) 0]⟩
theorem ajG(sc:List (Int×Int)){Q:bk}(cj:amq (bu [0,1,2,3] ([])) af=true)(hq:Q (.ret (an 1)) (Ir sc).objs):aH asz 10 8 1 Q .ret (Ir sc):=aH.ret (vs:=[an 1]) (l:=[]) (bs:=[0,1,2,3]) (pl:=[0,2,3]) (q:=[aF sc,aF sc,bu [0,1,2,3] ([])]) (fun u=>by kernel_rfl) (by kernel_rfl) (aE (a9 sc) (aE (a9 sc) (aE cj bd))) hq
theorem ajH(sc:List (Int×Int))(h2:tT (aF sc) (mM sc) (mM sc) 67=true){Q:aV}(n0:(amq (aF sc) af)=true)(aW:amq (aF sc) af=true)(be:amq (bu [0,3,1,2] ([])) af=true)(l3:Q .ret (Ir sc)):al asz 8 1 RO ⟨[(0,ah 0 (mM sc))],[ab (aF sc) 67]⟩ Q:=
 aZ RN 1000 (av [3,1,1,1] (.leaf [2] [0,3,1,2] [0,1,2])) (fun u=>by kernel_rfl) (mN (a9 sc) (mN (show(tT (aF sc) (mM sc) (mM sc) 67)=true by assumption) (RQ 2 (a9 sc) (RQ 2 (a9 sc) (mN be (mR l3))))))
end
end Go.Proofs.Ytnlkkgpcikkpoaa
namespace Go.Proofs.Ytnlkkgpcikkpoaa
open Go Vm Go.RowKit
set_option maxRecDepth 100000
theorem ajI(sc:List (Int×Int))(ro:Bool)(hs:sc.length≤100000):aG asz 10 [.slice (some ⟨0,0,none⟩) sc.length sc.length] [.cells (aF sc) 67 ro] fun r o=>r=.ret (.pointer (some ⟨1,0,none⟩))∧o=[.cells (aF sc) 67 ro,.abs ⟨sc,[],0,0,0⟩]:=by
 refine aG.trim (Q:=fun r o=>r=.ret (.pointer (some ⟨1,0,none⟩))∧o=[.cells (aF sc) 67 ro,.abs ⟨sc,[],0,0,0⟩,.dead,.dead]) (aG.V2 (Q1:=fun r o=>r=.ret (.pointer (some ⟨1,0,none⟩))∧o=[.cells (aF sc) 67 ro,.cells [.slice (some ⟨2,0,none⟩) sc.length sc.length,.map (some 3),.int .i64 0,.int .i64 0,.int .i64 0] 70 false,.cells (aF sc) 67 false,.map [] 0]) ?_ ?_) ?_
 ·refine aG.cM (n:=ct asz 10) (by kernel_rfl) ?_
  cases ro with
  |true=>exact ajF sc (RM hs) (a9 _) (a9 _) (by rfl) (ajE sc (a9 _) (by rfl) ⟨rfl,rfl⟩)
  |false=>exact ajH sc (RM hs) (a9 _) (a9 _) (by rfl) (ajG sc (by rfl) ⟨rfl,rfl⟩)
 ·rintro v o' ⟨rfl,rfl⟩ B w₀ ρ w' hw
  obtain⟨r,S,h1,h2,h3⟩:=Wc hw (by simp) rfl rfl (a9 _) (oc _) rfl
  refine⟨1,r,_,S,[1,2,3],by simp,h1,h2,rfl,fun k hk=>?_,rfl,rfl⟩
  obtain⟨y,hy,o,q,a,b,c,e,f⟩:=h3 k hk
  exact⟨y,o,q,by rcases hy with rfl|rfl|rfl<;>rfl,a,b,c,e,f⟩
 ·rintro r o ⟨rfl,rfl⟩
  exact⟨[0,1],[0],_,_,[aF sc],rfl,fun c hc=>by rw[List.mem_singleton]at hc;subst hc;exact a9 _,rfl,rfl⟩
end Go.Proofs.Ytnlkkgpcikkpoaa
namespace Go.Proofs.Ytnlkkgpcikkpoaa
noncomputable section
open Go Vm Go.RowKit
set_option maxRecDepth 100000
theorem BG:aG asz 6 [] [] fun r' o'=>r'=.ret (.bool true)∧o'=[]:=by
 refine aG.cM (n:=ct asz 6) (by kernel_rfl) ?_
 exact aw (ajo ⟨rfl,rfl⟩)
def ajJ(kd pn:Int)(A B:ByteArray)(l:List bD)(sc:List (Int×Int))(C:List Int):List (amY×Sum):=[(5,Sum.one (lh asz) [.agg #[aa kd,aa pn,ah 0 A.size,ah 1 B.size],ah 2 l.length,ah 3 sc.length,ah 4 1] (mf A B l sc C) (.ret (.bool (gB A B l sc C))) (mf A B l sc C)),(6,⟨uQ,fun a o=>match a,o with
 | [],[]=>.done (.ret (.bool true),[])
 |_,_=>.fail⟩)]
theorem ajK(kd pn:Int)(A B:ByteArray)(l:List bD)(sc:List (Int×Int))(C:List Int):dg asz (dE asz (dF (ajJ kd pn A B l sc C)) 50 40):=dJ cZ mixed (dQ (.cons (bp.one (Ij kd pn A B l sc C)) (.cons (bp.closed BG) .nil))) 50 40
def ajL(kd pn:Int)(A B:ByteArray)(l:List bD)(sc:List (Int×Int))(C:List Int)(e:Int):List (amY×Sum):=[(5,Sum.one (lh asz) [.agg #[aa kd,aa pn,ah 0 A.size,ah 1 B.size],ah 2 l.length,ah 3 sc.length,ah 4 1] (mf A B l sc C) (.ret (.bool (gB A B l sc C))) (mf A B l sc C)),(7,Sum.one (lh asz) [.agg #[aa kd,aa pn,ah 0 A.size,ah 1 B.size]] [.cells (ag A) 5 true,.cells (ag B) 5 true] (.ret (aa e)) [.cells (ag A) 5 true,.cells (ag B) 5 true]),(6,⟨uQ,fun a o=>match a,o with
 | [],[]=>.done (.ret (.bool true),[])
 |_,_=>.fail⟩)]
theorem It(kd pn:Int)(A B:ByteArray)(l:List bD)(sc:List (Int×Int))(C:List Int)(e:Int)(jV:aG asz 7 [.agg #[aa kd,aa pn,ah 0 A.size,ah 1 B.size]] [.cells (ag A) 5 true,.cells (ag B) 5 true] fun r q=>r=.ret (aa e)∧q=[.cells (ag A) 5 true,.cells (ag B) 5 true]):dg asz (dE asz (dF (ajL kd pn A B l sc C e)) 50 40):=dJ cZ mixed (dQ (.cons (bp.one (Ij kd pn A B l sc C)) (.cons (bp.one jV) (.cons (bp.closed BG) .nil)))) 50 40
def ajM(pn:Int)(A B:ByteArray)(sc:List (Int×Int))(C:List Int)(s:bD)(S:ad)(L:List ByteArray)(R:List Int)(H:List ap)(d:ay)(f:Bool)(o:ByteArray)(nd er hd t:Int):List (amY×Sum):=[(5,Sum.one (lh asz) [.agg #[aa 11,aa pn,ah 0 A.size,ah 1 B.size],ah 2 1,ah 3 sc.length,ah 4 1] (mf A B [s] sc C) (.ret (.bool (gB A B [s] sc C))) (mf A B [s] sc C)),(25,Sum.one (lh asz) [.agg #[aa 11,aa pn,ah 0 A.size,ah 1 B.size]] [.cells (ag A) 5 true,.cells (ag B) 5 true] (.ret (aa 0)) [.cells (ag A) 5 true,.cells (ag B) 5 true]),(7,Sum.one (lh asz) [.agg #[aa 11,aa pn,ah 0 A.size,ah 1 B.size]] [.cells (ag A) 5 true,.cells (ag B) 5 true] (.ret (aa 0)) [.cells (ag A) 5 true,.cells (ag B) 5 true]),(6,⟨uQ,fun a o=>match a,o with
 | [],[]=>.done (.ret (.bool true),[])
 |_,_=>.fail⟩),(10,Sum.one (lh asz) [.slice (some ⟨0,0,none⟩) sc.length sc.length] [.cells (aF sc) 67 true] (.ret (.pointer (some ⟨1,0,none⟩))) [.cells (aF sc) 67 true,.abs (lD sc)]),(13,Sum.one (lh asz) [.iface 29 (.pointer (some ⟨0,0,none⟩)),.slice (some ⟨5,0,none⟩) 1 1,.slice (some ⟨6,0,none⟩) C.length C.length] (aR (pz f) [] [] [] (lD sc)++[cL [s],.cells (aq C) 3 true]) (.ret (.agg (kp o nd er hd t).toArray)) (rS ⟨S,L,R,H,d⟩ s C))]
theorem ajN(pn:Int)(A B:ByteArray)(sc:List (Int×Int))(C:List Int)(s:bD)(S:ad)(L:List ByteArray)(R:List Int)(H:List ap)(d:ay)(f:Bool)(o:ByteArray)(nd er hd t:Int)(ym:aG asz 25 [.agg #[aa 11,aa pn,ah 0 A.size,ah 1 B.size]] [.cells (ag A) 5 true,.cells (ag B) 5 true] fun r q=>r=.ret (aa 0)∧q=[.cells (ag A) 5 true,.cells (ag B) 5 true])(yn:aG asz 7 [.agg #[aa 11,aa pn,ah 0 A.size,ah 1 B.size]] [.cells (ag A) 5 true,.cells (ag B) 5 true] fun r q=>r=.ret (aa 0)∧q=[.cells (ag A) 5 true,.cells (ag B) 5 true])(oW:aG asz 10 [ah 0 (mM sc)] [.cells (aF sc) 67 true] fun r q=>r=.ret (an 1)∧q=[.cells (aF sc) 67 true,.abs (lD sc)])(jT:aG asz 13 [.iface 29 (an 0),ah 5 1,ah 6 (mM C)] (aR (pz f) [] [] [] (lD sc)++[cL [s],.cells (aq C) 3 true]) fun r q=>r=.ret (.agg (kp o nd er hd t).toArray)∧q=(rS ⟨S,L,R,H,d⟩ s C)):dg asz (dE asz (dF (ajM pn A B sc C s S L R H d f o nd er hd t)) 50 40):=dJ cZ mixed (dQ (.cons (bp.one (Ij 11 pn A B [s] sc C)) (.cons (bp.one ym) (.cons (bp.one yn) (.cons (bp.closed BG) (.cons (bp.one oW) (.cons (bp.one jT) .nil))))))) 50 40
def ajO(pn:Int)(A B:ByteArray)(sc:List (Int×Int))(C:List Int)(s:bD)(S:ad)(L:List ByteArray)(R:List Int)(H:List ap)(d:ay)(f:Bool)(o:ByteArray)(nd er hd t:Int):List (amY×Sum):=[(13,Sum.one (fun _ _=>some [5,6,7,8,9,2,4]) [.iface 29 (an 0),ah 5 1,ah 6 C.length] (aR (pz f) [] [] [] (lD sc)++[cL [s],.cells (aq C) 3 true]) (.ret (.agg (kp o nd er hd t).toArray)) (rS ⟨S,L,R,H,d⟩ s C)),(6,⟨uQ,fun a o=>match a,o with
 | [],[]=>.done (.ret (.bool true),[])
 |_,_=>.fail⟩)]
theorem ajP(pn:Int)(A B:ByteArray)(sc:List (Int×Int))(C:List Int)(s:bD)(S:ad)(L:List ByteArray)(R:List Int)(H:List ap)(d:ay)(f:Bool)(o:ByteArray)(nd er hd t:Int)(jT:aG asz 13 [.iface 29 (an 0),ah 5 1,ah 6 (mM C)] (aR (pz f) [] [] [] (lD sc)++[cL [s],.cells (aq C) 3 true]) fun r q=>r=.ret (.agg (kp o nd er hd t).toArray)∧q=(rS ⟨S,L,R,H,d⟩ s C)):dg asz (dE asz (dF (ajO pn A B sc C s S L R H d f o nd er hd t)) 50 40):=dJ cZ mixed (dQ (.cons (bp.one jT) (.cons (bp.closed BG) .nil))) 50 40
noncomputable def vQ:List am3:=ba (dy asz 4)
open Tree renaming aU→mN,dh→mF,eQ→mL,fw→mQ,dz→mR,fI→mE
noncomputable abbrev RS:List am3:=(vQ.drop 7)
def RU:Nat→Bool→Bool→Tree→Tree
 |0,_,_,t=>t
 |n+1,d,b,t=>.cD d b (RU n d b t)
theorem kq{R:bf→aj→Prop}{c v:Bool}{t:Tree}(n:Nat)(h1:c=v)(h2:t.ok R):(RU n c v t).ok R:=by
 induction n with
 |zero=>exact h2
 |succ n ih=>exact⟨h1,ih⟩
abbrev vR:=fun A B l (sc:List (Int×Int)) C=>([.cells (ag A) 5 true,.cells (ag B) 5 true,cL l,.cells (aF sc) 67 true,.cells (aq C) 3 true]:List ai)
noncomputable abbrev Iu(kd pn:Int)(A B:ByteArray)(l:List bD)(sc:List (Int×Int))(C:List Int):aj:=⟨[(8,.bool true)],vR A B l sc C⟩
theorem ajQ(kd pn:Int)(A B l)(sc:List (Int×Int))(C){Q:bk}(hq:Q (.ret (.bool true)) (Iu kd pn A B l sc C).objs):aH asz 4 61 5 Q .ret (Iu kd pn A B l sc C):=aH.ret (vs:=[.bool true]) (l:=[]) (bs:=[0,1,2,3,4]) (pl:=[0,1,3,4]) (q:=[ag A,ag B,aF sc,aq C]) (fun u=>by kernel_rfl) (by kernel_rfl) (aE (aI A) (aE (aI B) (aE (a9 sc) (aE (aS C) bd)))) hq
theorem ajR(kd pn:Int)(A B:ByteArray)(l)(sc:List (Int×Int))(C)(pp:(aF sc).all af=true)(h0:gB A B l sc C=true){Q:aV}(n0:(dX [aon #[aa kd,aa pn,ah 0 A.size,ah 1 B.size],ah 2 (mM l),ah 3 (mM sc),ah 4 1] [aon #[aa kd,aa pn,ah 0 A.size,ah 1 B.size],ah 2 (mM l),ah 3 (mM sc),ah 4 1] [ai.cells (ag A) 5 true,ai.cells (ag B) 5 true,cL l,ai.cells (aF sc) 67 true,ab [ah 5 (mM C)] 38,ai.cells (aq C) 3 true] (mf A B l sc C))=true)(aW:amq (ag A) af=true)(be:amq (ag B) af=true)(bB:amq (aF sc) af=true)(br:amq (aq C) af=true)(l5:Q .ret (Iu kd pn A B l sc C)):al asz 61 5 vQ ⟨[(0,.agg #[aa kd,aa pn,ah 0 A.size,ah 1 B.size]),(1,ah 2 (mM l)),(2,ah 3 (mM sc)),(3,ah 4 (mM C))],[.cells (ag A) 5 true,.cells (ag B) 5 true,cL l,.cells (aF sc) 67 true,.cells (aq C) 3 true]⟩ Q:=
 aZ (ajK kd pn A B l sc C) 1000 (av [5,1,1,1,1,1,1,1,1,1] (.leaf [8] [0,1,2,3,4] [0,1,3,4])) (fun u=>by kernel_rfl) (mN (aI A) (mN (aI B) (mN (a9 sc) (mN (aS C) (mN n0 (kq 5 (show(gB A B l sc C)=true by assumption) (mN (aI A) (mN (aI B) (mN (a9 sc) (mN (aS C) (mR l5)))))))))))
noncomputable abbrev Iv(kd pn:Int)(A B:ByteArray)(l:List bD)(sc:List (Int×Int))(C:List Int)(e:Int):aj:=⟨[(8,.bool true)],vR A B l sc C⟩
theorem ajS(kd pn:Int)(A B l)(sc:List (Int×Int))(C)(e:Int){Q:bk}(hq:Q (.ret (.bool true)) (Iv kd pn A B l sc C e).objs):aH asz 4 61 5 Q .ret (Iv kd pn A B l sc C e):=aH.ret (vs:=[.bool true]) (l:=[]) (bs:=[0,1,2,3,4]) (pl:=[0,1,3,4]) (q:=[ag A,ag B,aF sc,aq C]) (fun u=>by kernel_rfl) (by kernel_rfl) (aE (aI A) (aE (aI B) (aE (a9 sc) (aE (aS C) bd)))) hq
theorem ajT(kd pn:Int)(A B:ByteArray)(l)(sc:List (Int×Int))(C)(e:Int)(pp:(aF sc).all af=true)(jV:aG asz 7 [.agg #[aa kd,aa pn,ah 0 A.size,ah 1 B.size]] [.cells (ag A) 5 true,.cells (ag B) 5 true] fun r q=>r=.ret (aa e)∧q=[.cells (ag A) 5 true,.cells (ag B) 5 true])(h0:gB A B l sc C=false)(h1:¬e=0){Q:aV}(n0:(dX [aon #[aa kd,aa pn,ah 0 A.size,ah 1 B.size],ah 2 (mM l),ah 3 (mM sc),ah 4 1] [aon #[aa kd,aa pn,ah 0 A.size,ah 1 B.size],ah 2 (mM l),ah 3 (mM sc),ah 4 1] [ai.cells (ag A) 5 true,ai.cells (ag B) 5 true,cL l,ai.cells (aF sc) 67 true,ab [ah 5 (mM C)] 38,ai.cells (aq C) 3 true] (mf A B l sc C))=true)(n1:(dX [aon #[aa kd,aa pn,ah 0 A.size,ah 1 B.size]] [aon #[aa kd,aa pn,ah 0 A.size,ah 1 B.size]] [ai.cells (ag A) 5 true,ai.cells (ag B) 5 true] [ai.cells (ag A) 5 true,ai.cells (ag B) 5 true])=true)(aW:amq (ag A) af=true)(be:amq (ag B) af=true)(bB:amq (aF sc) af=true)(br:amq (aq C) af=true)(l6:Q .ret (Iv kd pn A B l sc C e)):al asz 61 5 vQ ⟨[(0,.agg #[aa kd,aa pn,ah 0 A.size,ah 1 B.size]),(1,ah 2 (mM l)),(2,ah 3 (mM sc)),(3,ah 4 (mM C))],[.cells (ag A) 5 true,.cells (ag B) 5 true,cL l,.cells (aF sc) 67 true,.cells (aq C) 3 true]⟩ Q:=
 aZ (It kd pn A B l sc C e jV) 1000 (av [5,1,1,1,1,0,2,0,7,1,1,0,0,0,0,8,0] (.leaf [8] [0,1,2,3,4] [0,1,3,4])) (fun u=>by kernel_rfl) (mN (aI A) (mN (aI B) (mN (a9 sc) (mN (aS C) (mN n0 (kq 3 (show(gB A B l sc C)=false by assumption) (mN (aI A) (mN (aI B) (mN n1 (kq 4 (decide_eq_false (by omega):(e==0)=false) (kq 2 (show(gB A B l sc C)=false by assumption) (mN (aI A) (mN (aI B) (mN (a9 sc) (mN (aS C) (mR l6))))))))))))))))
noncomputable abbrev Iw(kd pn:Int)(A B:ByteArray)(l:List bD)(sc:List (Int×Int))(C:List Int)(e:Int):aj:=⟨[(8,.bool true)],vR A B l sc C⟩
theorem ajU(kd pn:Int)(A B l)(sc:List (Int×Int))(C)(e:Int){Q:bk}(hq:Q (.ret (.bool true)) (Iw kd pn A B l sc C e).objs):aH asz 4 61 5 Q .ret (Iw kd pn A B l sc C e):=aH.ret (vs:=[.bool true]) (l:=[]) (bs:=[0,1,2,3,4]) (pl:=[0,1,3,4]) (q:=[ag A,ag B,aF sc,aq C]) (fun u=>by kernel_rfl) (by kernel_rfl) (aE (aI A) (aE (aI B) (aE (a9 sc) (aE (aS C) bd)))) hq
noncomputable abbrev Ix(kd pn:Int)(A B:ByteArray)(l:List bD)(sc:List (Int×Int))(C:List Int)(e:Int):aj:=⟨[(8,.bool true)],vR A B l sc C⟩
theorem ajV(kd pn:Int)(A B l)(sc:List (Int×Int))(C)(e:Int){Q:bk}(hq:Q (.ret (.bool true)) (Ix kd pn A B l sc C e).objs):aH asz 4 61 5 Q .ret (Ix kd pn A B l sc C e):=aH.ret (vs:=[.bool true]) (l:=[]) (bs:=[0,1,2,3,4]) (pl:=[0,1,3,4]) (q:=[ag A,ag B,aF sc,aq C]) (fun u=>by kernel_rfl) (by kernel_rfl) (aE (aI A) (aE (aI B) (aE (a9 sc) (aE (aS C) bd)))) hq
theorem ajW(kd pn:Int)(A B:ByteArray)(l)(sc:List (Int×Int))(C)(e:Int)(pp:(aF sc).all af=true)(jV:aG asz 7 [.agg #[aa kd,aa pn,ah 0 A.size,ah 1 B.size]] [.cells (ag A) 5 true,.cells (ag B) 5 true] fun r q=>r=.ret (aa e)∧q=[.cells (ag A) 5 true,.cells (ag B) 5 true])(h0:gB A B l sc C=false)(h1:¬kd=11){Q:aV}(n0:(dX [aon #[aa kd,aa pn,ah 0 A.size,ah 1 B.size],ah 2 (mM l),ah 3 (mM sc),ah 4 1] [aon #[aa kd,aa pn,ah 0 A.size,ah 1 B.size],ah 2 (mM l),ah 3 (mM sc),ah 4 1] [ai.cells (ag A) 5 true,ai.cells (ag B) 5 true,cL l,ai.cells (aF sc) 67 true,ab [ah 5 (mM C)] 38,ai.cells (aq C) 3 true] (mf A B l sc C))=true)(n1:(dX [aon #[aa kd,aa pn,ah 0 A.size,ah 1 B.size]] [aon #[aa kd,aa pn,ah 0 A.size,ah 1 B.size]] [ai.cells (ag A) 5 true,ai.cells (ag B) 5 true] [ai.cells (ag A) 5 true,ai.cells (ag B) 5 true])=true)(aW:amq (ag A) af=true)(be:amq (ag B) af=true)(bB:amq (aF sc) af=true)(br:amq (aq C) af=true)(l6:(e==0)=true→Q .ret (Iw kd pn A B l sc C e))(l7:(e==0)=false→Q .ret (Ix kd pn A B l sc C e)):al asz 61 5 vQ ⟨[(0,.agg #[aa kd,aa pn,ah 0 A.size,ah 1 B.size]),(1,ah 2 (mM l)),(2,ah 3 (mM sc)),(3,ah 4 (mM C))],[.cells (ag A) 5 true,.cells (ag B) 5 true,cL l,.cells (aF sc) 67 true,.cells (aq C) 3 true]⟩ Q:=
 aZ (It kd pn A B l sc C e jV) 1000 (av [5,1,1,1,1,0,2,0,7,1,1] (.fork 0 (av [1,3,1,0,0,0,0,0,0] (.leaf [8] [0,1,2,3,4] [0,1,3,4])) (av [0,0,0,8,0] (.leaf [8] [0,1,2,3,4] [0,1,3,4])))) (fun u=>by kernel_rfl) (mN (aI A) (mN (aI B) (mN (a9 sc) (mN (aS C) (mN n0 (kq 3 (show(gB A B l sc C)=false by assumption) (mN (aI A) (mN (aI B) (mN n1 (mF (c:=e==0) (fun h0=>(kq 3 h0 (kq 4 (decide_eq_false (by omega):(kd==11)=false) (kq 2 (show(gB A B l sc C)=false by assumption) (mN (aI A) (mN (aI B) (mN (a9 sc) (mN (aS C) (mR (l6 h0)))))))))) (fun h0=>(kq 3 h0 (kq 2 (show(gB A B l sc C)=false by assumption) (mN (aI A) (mN (aI B) (mN (a9 sc) (mN (aS C) (mR (l7 h0)))))))))))))))))))
noncomputable abbrev Iy(pn:Int)(A B:ByteArray)(l:List bD)(sc:List (Int×Int))(C:List Int)(e:Int):aj:=⟨[(8,.bool true)],vR A B l sc C⟩
theorem ajX(pn:Int)(A B l)(sc:List (Int×Int))(C)(e:Int){Q:bk}(hq:Q (.ret (.bool true)) (Iy pn A B l sc C e).objs):aH asz 4 61 5 Q .ret (Iy pn A B l sc C e):=aH.ret (vs:=[.bool true]) (l:=[]) (bs:=[0,1,2,3,4]) (pl:=[0,1,3,4]) (q:=[ag A,ag B,aF sc,aq C]) (fun u=>by kernel_rfl) (by kernel_rfl) (aE (aI A) (aE (aI B) (aE (a9 sc) (aE (aS C) bd)))) hq
noncomputable abbrev Iz(pn:Int)(A B:ByteArray)(l:List bD)(sc:List (Int×Int))(C:List Int)(e:Int):aj:=⟨[(8,.bool true)],vR A B l sc C⟩
theorem ajY(pn:Int)(A B l)(sc:List (Int×Int))(C)(e:Int){Q:bk}(hq:Q (.ret (.bool true)) (Iz pn A B l sc C e).objs):aH asz 4 61 5 Q .ret (Iz pn A B l sc C e):=aH.ret (vs:=[.bool true]) (l:=[]) (bs:=[0,1,2,3,4]) (pl:=[0,1,3,4]) (q:=[ag A,ag B,aF sc,aq C]) (fun u=>by kernel_rfl) (by kernel_rfl) (aE (aI A) (aE (aI B) (aE (a9 sc) (aE (aS C) bd)))) hq
theorem ajZ(pn:Int)(A B:ByteArray)(l)(sc:List (Int×Int))(C)(e:Int)(pp:(aF sc).all af=true)(jV:aG asz 7 [.agg #[aa 11,aa pn,ah 0 A.size,ah 1 B.size]] [.cells (ag A) 5 true,.cells (ag B) 5 true] fun r q=>r=.ret (aa e)∧q=[.cells (ag A) 5 true,.cells (ag B) 5 true])(h0:gB A B l sc C=false)(h1:(mM l)≠1){Q:aV}(n0:(dX [aon #[aa 11,aa pn,ah 0 A.size,ah 1 B.size],ah 2 (mM l),ah 3 (mM sc),ah 4 1] [aon #[aa 11,aa pn,ah 0 A.size,ah 1 B.size],ah 2 (mM l),ah 3 (mM sc),ah 4 1] [ai.cells (ag A) 5 true,ai.cells (ag B) 5 true,cL l,ai.cells (aF sc) 67 true,ab [ah 5 (mM C)] 38,ai.cells (aq C) 3 true] (mf A B l sc C))=true)(n1:(dX [aon #[aa 11,aa pn,ah 0 A.size,ah 1 B.size]] [aon #[aa 11,aa pn,ah 0 A.size,ah 1 B.size]] [ai.cells (ag A) 5 true,ai.cells (ag B) 5 true] [ai.cells (ag A) 5 true,ai.cells (ag B) 5 true])=true)(aW:amq (ag A) af=true)(be:amq (ag B) af=true)(bB:amq (aF sc) af=true)(br:amq (aq C) af=true)(l6:(e==0)=true→Q .ret (Iy pn A B l sc C e))(l7:(e==0)=false→Q .ret (Iz pn A B l sc C e)):al asz 61 5 vQ ⟨[(0,.agg #[aa 11,aa pn,ah 0 A.size,ah 1 B.size]),(1,ah 2 (mM l)),(2,ah 3 (mM sc)),(3,ah 4 (mM C))],[.cells (ag A) 5 true,.cells (ag B) 5 true,cL l,.cells (aF sc) 67 true,.cells (aq C) 3 true]⟩ Q:=
 aZ (It 11 pn A B l sc C e jV) 1000 (av [5,1,1,1,1,0,2,0,7,1,1] (.fork 0 (av [1,3,1,10,0,1] (.leaf [8] [0,1,2,3,4] [0,1,3,4])) (av [0,0,0,8,0] (.leaf [8] [0,1,2,3,4] [0,1,3,4])))) (fun u=>by kernel_rfl) (mN (aI A) (mN (aI B) (mN (a9 sc) (mN (aS C) (mN n0 (kq 3 (show(gB A B l sc C)=false by assumption) (mN (aI A) (mN (aI B) (mN n1 (mF (c:=e==0) (fun h0=>(kq 3 h0 (kq 2 (show(gB A B l sc C)=false by assumption) (mN (show(!(↑(mM l):Int)==1)=true by simp at pp jV h0 h1 h0⊢ <;>omega) (mN (aI A) (mN (aI B) (mN (a9 sc) (mN (aS C) (mR (l6 h0)))))))))) (fun h0=>(kq 3 h0 (kq 2 (show(gB A B l sc C)=false by assumption) (mN (aI A) (mN (aI B) (mN (a9 sc) (mN (aS C) (mR (l7 h0)))))))))))))))))))
abbrev aj0:=fun(pn:Int) A B (sc:List (Int×Int)) C s (S:ad) (L:List ByteArray) (R:List Int) (H:List ap) (d:ay) (f:Bool) (o:ByteArray) (nd er hd t:Int)=>(⟨[(1,ah 2 1),(3,ah 4 (mM C)),(9,an 5),(11,aa 320),(12,aa 0)],[.cells (ag A) 5 true,.cells (ag B) 5 true,cL [s],.cells (aF sc) 67 true,.cells (aq C) 3 true,ab ([aa 0,.bool false,.bool false,.int .u8 0,.int .u8 0,.int .u8 0,.int .u8 0,.int .u8 0,.int .u8 0,.int .u8 0,.int .u8 0,.int .u8 0,.int .u8 0,.int .u8 0,.int .u8 0,.int .u8 0,.int .u8 0,.int .u8 0,.int .u8 0,.int .u8 0,.int .u8 0,.int .u8 0,.int .u8 0,.int .u8 0,.int .u8 0,.int .u8 0,.int .u8 0,.int .u8 0,.int .u8 0,.int .u8 0,.int .u8 0,.int .u8 0,.int .u8 0,.int .u8 0,.int .u8 0,.int .u8 0,.int .u8 0,.int .u8 0,.int .u8 0,.int .u8 0,.int .u8 0,.int .u8 0,.int .u8 0,.int .u8 0,.int .u8 0,.int .u8 0,.int .u8 0,.int .u8 0,.int .u8 0,.int .u8 0,.int .u8 0,.int .u8 0,.int .u8 0,.int .u8 0,.int .u8 0,.int .u8 0,.int .u8 0,.int .u8 0,.int .u8 0,.int .u8 0,.int .u8 0,.int .u8 0,.int .u8 0,.int .u8 0,.int .u8 0,.int .u8 0,.int .u8 0,aa 0,.bool false,an 6,.bool (pn==1),cd,aa 0,cd,cd,.bool false,aa 0,.bool false]) 64,.abs (lD sc)]⟩:aj)
theorem aj1(pn:Int)(A B:ByteArray)(sc:List (Int×Int))(C s)(S:ad)(L:List ByteArray)(R:List Int)(H:List ap)(d:ay)(f:Bool)(o:ByteArray)(nd er hd t:Int)(pp:(aF sc).all af=true)(pH:(ak H).all af=true)(ym:aG asz 25 [.agg #[aa 11,aa pn,ah 0 A.size,ah 1 B.size]] [.cells (ag A) 5 true,.cells (ag B) 5 true] fun r q=>r=.ret (aa 0)∧q=[.cells (ag A) 5 true,.cells (ag B) 5 true])(yn:aG asz 7 [.agg #[aa 11,aa pn,ah 0 A.size,ah 1 B.size]] [.cells (ag A) 5 true,.cells (ag B) 5 true] fun r q=>r=.ret (aa 0)∧q=[.cells (ag A) 5 true,.cells (ag B) 5 true])(oW:aG asz 10 [ah 0 (mM sc)] [.cells (aF sc) 67 true] fun r q=>r=.ret (an 1)∧q=[.cells (aF sc) 67 true,.abs (lD sc)])(jT:aG asz 13 [.iface 29 (an 0),ah 5 1,ah 6 (mM C)] (aR (pz f) [] [] [] (lD sc)++[cL [s],.cells (aq C) 3 true]) fun r q=>r=.ret (.agg (kp o nd er hd t).toArray)∧q=(rS ⟨S,L,R,H,d⟩ s C))(h0:gB A B [s] sc C=false){Q:aV}(n0:(dX [aon #[aa 11,aa pn,ah 0 A.size,ah 1 B.size],ah 2 1,ah 3 (mM sc),ah 4 1] [aon #[aa 11,aa pn,ah 0 A.size,ah 1 B.size],ah 2 1,ah 3 (mM sc),ah 4 1] [ai.cells (ag A) 5 true,ai.cells (ag B) 5 true,cL [s],ai.cells (aF sc) 67 true,ab [ah 5 (mM C)] 38,ai.cells (aq C) 3 true] (mf A B [s] sc C))=true)(n1:(dX [aon #[aa 11,aa pn,ah 0 A.size,ah 1 B.size]] [aon #[aa 11,aa pn,ah 0 A.size,ah 1 B.size]] [ai.cells (ag A) 5 true,ai.cells (ag B) 5 true] [ai.cells (ag A) 5 true,ai.cells (ag B) 5 true])=true)(n2:(dX [ah 0 (mM sc)] [ah 0 (mM sc)] [ai.cells (aF sc) 67 true] [ai.cells (aF sc) 67 true])=true)(aW:amq (ag A) af=true)(be:amq (ag B) af=true)(bB:amq (aF sc) af=true)(br:amq (aq C) af=true)(l7:al asz 61 5 RS (aj0 pn A B sc C s S L R H d f o nd er hd t) Q):al asz 61 5 vQ ⟨[(0,.agg #[aa 11,aa pn,ah 0 A.size,ah 1 B.size]),(1,ah 2 1),(2,ah 3 (mM sc)),(3,ah 4 (mM C))],[.cells (ag A) 5 true,.cells (ag B) 5 true,cL [s],.cells (aF sc) 67 true,.cells (aq C) 3 true]⟩ Q:=
 aZ (ajN pn A B sc C s S L R H d f o nd er hd t ym yn oW jT) 7 (av [5,1,1,1,1,0,2,0,7,1,1,20,0,7,1,11,1,1,29,1,1] (.leaf [1,3,9,11,12] [0,1,2,3,4,11,8] [0,1,3,4])) (fun u=>by kernel_rfl) (mN (aI A) (mN (aI B) (mN (a9 sc) (mN (aS C) (mN n0 (kq 3 (show(gB A B [s] sc C)=false by assumption) (mN (aI A) (mN (aI B) (mN n1 (kq 2 (show(gB A B [s] sc C)=false by assumption) (mN (a9 sc) (mN n2 (mN (aI A) (mN (aI B) (mN n1 (mN (aI A) (mN (aI B) (mN n1 (mN (aI A) (mN (aI B) (mN (a9 sc) (mN (aS C) (mQ l7)))))))))))))))))))))))
noncomputable abbrev IA(pn:Int)(A B:ByteArray)(sc:List (Int×Int))(C:List Int)(s:bD)(S:ad)(L:List ByteArray)(R:List Int)(H:List ap)(d:ay)(f:Bool)(o:ByteArray)(nd er hd t:Int):aj:=⟨[(8,.bool true)],[.cells (ag A) 5 true,.cells (ag B) 5 true,cL [s],.cells (aF sc) 67 true,.cells (aq C) 3 true]⟩
theorem aj2(pn:Int)(A B)(sc:List (Int×Int))(C s S L R H d)(f:Bool)(o)(nd er hd t:Int){Q:bk}(hq:Q (.ret (.bool true)) (IA pn A B sc C s S L R H d f o nd er hd t).objs):aH asz 4 61 5 Q .ret (IA pn A B sc C s S L R H d f o nd er hd t):=aH.ret (vs:=[.bool true]) (l:=[]) (bs:=[0,1,2,3,4]) (pl:=[0,1,3,4]) (q:=[ag A,ag B,aF sc,aq C]) (fun u=>by kernel_rfl) (by kernel_rfl) (aE (aI A) (aE (aI B) (aE (a9 sc) (aE (aS C) bd)))) hq
noncomputable abbrev aj3(pn:Int)(A B:ByteArray)(sc:List (Int×Int))(C:List Int)(s:bD)(S:ad)(L:List ByteArray)(R:List Int)(H:List ap)(d:ay)(f:Bool)(o:ByteArray)(nd er hd t:Int):aj:=⟨[(8,.bool false)],[.cells (ag A) 5 true,.cells (ag B) 5 true,cL [s],.cells (aF sc) 67 true,.cells (aq C) 3 true]⟩
theorem aj4(pn:Int)(A B)(sc:List (Int×Int))(C s)(S:ad)(L:List ByteArray)(R:List Int)(H:List ap)(d:ay)(f:Bool)(o:ByteArray)(nd er hd t:Int)(pp:(aF sc).all af=true)(pH:(ak H).all af=true)(jT:aG asz 13 [.iface 29 (an 0),ah 5 1,ah 6 (mM C)] (aR (pz f) [] [] [] (lD sc)++[cL [s],.cells (aq C) 3 true]) fun r q=>r=.ret (.agg (kp o nd er hd t).toArray)∧q=(rS ⟨S,L,R,H,d⟩ s C)){Q:aV}(l5:(decide (hd≤320))=true→Q .ret (IA pn A B sc C s S L R H d f o nd er hd t))(l6:(decide (hd≤320))=false→Q .ret (aj3 pn A B sc C s S L R H d f o nd er hd t)):al asz 61 5 RS ⟨[(1,ah 2 1),(3,ah 4 (mM C)),(9,an 5),(11,aa 320),(12,aa 0)],[.cells (ag A) 5 true,.cells (ag B) 5 true,cL [s],.cells (aF sc) 67 true,.cells (aq C) 3 true,ab (aQ (pz f) 6 7 8 9) 64,.abs (lD sc),ab (ao []) 9,ab (aq []) 3,ab (ak []) 144]⟩ Q:=
 aZ (ajP pn A B sc C s S L R H d f o nd er hd t jT) 1000 (av [9,1,1,1,1] (.fork 7 (av [3] (.leaf [8] [0,1,2,3,4] [0,1,3,4])) (av [0] (.leaf [8] [0,1,2,3,4] [0,1,3,4])))) (fun u=>by kernel_rfl) (mN (aS C) (mN (kh [Value.iface 29 (an 0),ah 5 1,ah 6 (mM C)] (aR (pz f) [] [] [] (lD sc)++[cL [s],ai.cells (aq C) 3 true])) (aM L R H (mF (c:=decide (hd≤320)) (fun h0=>(mN h0 (mN (aI A) (mN (aI B) (mN (a9 sc) (mN (aS C) (mR (l5 h0)))))))) (fun h0=>(mN h0 (mN (aI A) (mN (aI B) (mN (a9 sc) (mN (aS C) (mR (l6 h0))))))))))))
end
end Go.Proofs.Ytnlkkgpcikkpoaa
namespace Go.Proofs.Ytnlkkgpcikkpoaa
open Go Vm Go.RowKit
set_option maxRecDepth 100000
abbrev RV(K N:Int)(A B:ByteArray)(l:List bD)(sc:List (Int×Int))(C:List Int):List amn:=[.agg #[.int .i64 K,.int .i64 N,.slice (some ⟨0,0,none⟩) A.size A.size,.slice (some ⟨1,0,none⟩) B.size B.size],.slice (some ⟨2,0,none⟩) l.length l.length,.slice (some ⟨3,0,none⟩) sc.length sc.length,.slice (some ⟨4,0,none⟩) C.length C.length]
abbrev BH(A B:ByteArray)(l:List bD)(sc:List (Int×Int))(C:List Int):List ai:=[.cells (ag A) 5 true,.cells (ag B) 5 true,cL l,.cells (aF sc) 67 true,.cells (aq C) 3 true]
theorem aj5(pn:Int)(A B:ByteArray)(s:bD)(sc:List (Int×Int))(C:List Int)(hv:gB A B [s] sc C=false)
 (yn:aG asz 7 (BE 11 pn A B) (rV A B) fun r o=>r=.ret (.int .i64 0)∧o=rV A B)(hp:A.size=0∧B.size=0∧0≤pn∧pn≤1):
 aG asz 4 (RV 11 pn A B [s] sc C) (BH A B [s] sc C) fun r o=>r=.ret (.bool true)∧o=BH A B [s] sc C:=by
 have hL:=Rz hv
 have hs:s.bytes.size≤4500:=hL.each s (by simp)
 have iC:=hL.Rx
 have hx:=RA (pn==1) (sc:=sc) (by omega)
 have jT:=aiL (vK (pn==1) sc) s C hx rfl hs hL.Ry
 have hh:=ai2 (pn==1) sc s C (by omega) hs px
 have ym:=ajm pn A B hL.az hL.bz hp.1 hp.2.1 hp.2.2.1 hp.2.2.2
 have oW:=ajI sc true (by omega)
 generalize jc s C px 0 (mU (vK (pn==1) sc))=g at jT hh
 obtain⟨⟨S,L,R,H,dd⟩,o,nd,er,hd,t,w⟩:=g
 dsimp only at hh
 have pp:=a9 sc
 have pH:=aY H
 refine aG.cM (n:=ct asz 4) (by kernel_rfl) ?_
 apply aj1 pn A B sc C s S L R H dd (pn==1) o nd er hd t pp pH ym yn oW jT hv
 case n0=>exact fe rfl rfl
 case n1=>exact fe rfl rfl
 case n2=>exact fe rfl rfl
 case aW=>simp
 case be=>simp
 case bB=>exact pp
 case br=>simp
 case l7=>
  refine al.mD 5 71 9 (s:=1) (by kernel_rfl) rfl rfl (by rfl) rfl ?_
  refine al.mD 5 73 3 (s:=1) (by kernel_rfl) rfl rfl (by rfl) rfl ?_
  refine al.mD (d':=⟨[(1,.slice (some ⟨2,0,none⟩) 1 1),(3,.slice (some ⟨4,0,none⟩) C.length C.length),(9,.pointer (some ⟨5,0,none⟩)),(11,.int .i64 320),(12,.int .i64 0)],[.cells (ag A) 5 true,.cells (ag B) 5 true,cL [s],.cells (aF sc) 67 true,.cells (aq C) 3 true,.cells (aQ (pz (pn==1)) 6 7 8 9) 64 false,.abs (lD sc),.cells (ao []) 9 false,.cells (aq []) 3 false,.cells (ak []) 144 false]⟩) 5 74 144 (s:=4) (by kernel_rfl) rfl rfl (by rfl) rfl ?_
  apply aj4 pn A B sc C s S L R H dd (pn==1) o nd er hd t pp pH jT
  case l5=>intro _;exact aj2 pn A B sc C s S L R H dd (pn==1) o nd er hd t ⟨rfl,rfl⟩
  case l6=>intro h;have h:=of_decide_eq_false h;exact absurd hh.2 h
theorem aj6(A B:ByteArray)(K N:Int)(l:List bD)(sc:List (Int×Int))(C:List Int):
 aG asz 4 (RV K N A B l sc C) (BH A B l sc C) fun r o=>r=.ret (.bool true)∧o=BH A B l sc C:=by
 have pp:=a9 sc
 cases hv:gB A B l sc C with
 |true=>
  refine aG.cM (n:=ct asz 4) (by kernel_rfl) ?_
  apply ajR K N A B l sc C pp hv
  case n0=>exact fe rfl rfl
  case aW=>simp
  case be=>simp
  case bB=>exact pp
  case br=>simp
  case l5=>exact ajQ K N A B l sc C ⟨rfl,rfl⟩
 |false=>
  have hL:=Rz hv
  obtain⟨e,jV,he⟩:=ajl K N A B hL.az hL.bz
  by_cases h0:e=0
  ·by_cases hK:K=11
   ·subst h0 hK
    by_cases h1:l.length=1
    ·obtain⟨s,rfl⟩:∃s,l=[s]:=List.length_eq_one_iff.1 h1
     exact aj5 N A B s sc C hv jV (he rfl rfl)
    ·refine aG.cM (n:=ct asz 4) (by kernel_rfl) ?_
     apply ajZ N A B l sc C 0 pp jV hv h1
     case n0=>exact fe rfl rfl
     case n1=>exact fe rfl rfl
     case aW=>simp
     case be=>simp
     case bB=>exact pp
     case br=>simp
     case l6=>intro _;exact ajX N A B l sc C 0 ⟨rfl,rfl⟩
     case l7=>intro _;exact ajY N A B l sc C 0 ⟨rfl,rfl⟩
   ·refine aG.cM (n:=ct asz 4) (by kernel_rfl) ?_
    apply ajW K N A B l sc C e pp jV hv hK
    case n0=>exact fe rfl rfl
    case n1=>exact fe rfl rfl
    case aW=>simp
    case be=>simp
    case bB=>exact pp
    case br=>simp
    case l6=>intro _;exact ajU K N A B l sc C e ⟨rfl,rfl⟩
    case l7=>intro _;exact ajV K N A B l sc C e ⟨rfl,rfl⟩
  ·refine aG.cM (n:=ct asz 4) (by kernel_rfl) ?_
   apply ajT K N A B l sc C e pp jV hv h0
   case n0=>exact fe rfl rfl
   case n1=>exact fe rfl rfl
   case aW=>simp
   case be=>simp
   case bB=>exact pp
   case br=>simp
   case l6=>exact ajS K N A B l sc C e ⟨rfl,rfl⟩
end Go.Proofs.Ytnlkkgpcikkpoaa
namespace Go.Proofs.Ytnlkkgpcikkpoaa.Vm
open Go.RowKit Go.Deep
section
variable {P:amF}
def vS(P:amF):List apt→Nat→Nat→Bool
 | [],off,mP=>amE off mP
 |f::l,off,mP=>amE f.offset off&&vS P l (off+P.cellsOf f.type) mP
def vT(P:amF):Nat→amz→Bool
 |0,_=>false
 |d+1,t=>match P.underlying t with
  |some .bool|some (.int _)|some .string=>true
  |some (.slice e)=>vT P d e&&amG 0 (P.cellsOf e)
  |some (.struct fs)=>vS P fs.toList 0 (P.cellsOf t)&&fs.toList.all fun f=>vT P d f.type
  |some (.array n e)=>vT P d e&&amE (n*P.cellsOf e) (P.cellsOf t)
  |_=>false
def pA(P:amF)(e:amz):Bool:=match P.underlying e with
 |some .bool|some (.int _)|some .string=>amE (P.cellsOf e) 1
 |_=>false
def Mt(P:amF):Nat→amz→List SV→Prop
 |0,_,_=>False
 |d+1,t,svs=>match P.underlying t with
  |some .bool=>∃b,svs=[.val (.bool b)]
  |some (.int k)=>∃n,svs=[.val (.int k n)]∧k.min≤n∧n≤k.max
  |some .string=>∃s:ByteArray,svs=[.val (.string s)]∧s.size≤reachBytes
  |some (.slice e)=>match pA P e with
   |true=>∃c:List amn,svs=[.cells c.length c e]∧c.length*P.bytesOf e≤reachBytes∧∀v∈c,Mt P d e [.val v]
   |false=>∃(n:Nat) (row:Nat→List SV),svs=[.rows n (P.cellsOf e) row]∧n*P.bytesOf e≤reachBytes∧∀i,i<n→Mt P d e (row i)
  |some (.struct fs)=>∃parts:List (List SV),svs=parts.flatten∧dD (fun(f:apt) p=>Mt P d f.type p) fs.toList parts
  |some (.array n e)=>∃parts:List (List SV),svs=parts.flatten∧parts.length=n∧∀p∈parts,Mt P d e p
  |_=>False
variable {H:Type} {enc:amz×amn→H} {w:amC} {B:Nat→Prop}
theorem gd.append{a b:List SV}{a' b':List amn}(h:gd P w B a a')(h':gd P w B b b'):gd P w B (a++b) (a'++b'):=by
 refine⟨by simp[h.len,h'.len],fun i s v hs hv=>?_⟩
 by_cases hi:i<a.length
 ·rw[ane hi]at hs
  rw[ane (by rw[←h.len];exact hi)]at hv
  exact h.at_ i s v hs hv
 ·rw[am5 (by omega)]at hs
  rw[am5 (by rw[←h.len];omega),←h.len]at hv
  exact h'.at_ _ s v hs hv
theorem gd.nil:gd P w B [] []:=⟨rfl,fun i s v h=>by simp at h⟩
theorem gd.one{s:SV}{v:amn}(h:SR P w B s v):gd P w B [s] [v]:=⟨rfl,fun i s' v' h1 h2=>by
 cases i with
 |zero=>simp at h1 h2;subst h1 h2;exact h
 |succ i=>simp at h1⟩
theorem RW(b off j:Nat):(⟨b,off,none⟩:Addr).add j=⟨b,off+j,none⟩:=by
 unfold ar5
 by_cases h:j=0
 ·rw[if_pos h,h];rfl
 ·rw[if_neg h]
theorem RX{b o:Nat}{v:amn}(h:w.cell? ⟨b,o,none⟩=some v):∃c el fr,w.heap[b]?=some (.cells c el fr)∧c[o]?=some v:=by
 unfold World.cell? at h
 dsimp only at h
 split at h
 ·rename_i c el fr hb
  exact⟨c,el,fr,hb,by simpa using h⟩
 ·cases h
theorem RY{α β:Type}{f:α→Option β}{a:α}{l:List α}{r:List β}(h:(a::l).mapM f=some r):∃b r',f a=some b∧l.mapM f=some r'∧r=b::r':=by
 simp only[List.mapM_cons,Option.bind_eq_bind,Option.bind_eq_some_iff,Option.pure_def,amr]at h
 obtain⟨b,h1,r',h2,h3⟩:=h
 exact⟨b,r',h1,h2,h3.symm⟩
theorem tU(hB:∀b,b<w.heap.size→B b):∀(d:Nat) (t:amz) (gu:Nat) (cs:List amn) (x:aru H×List are),vT P d t=true→
 apQ enc P w 0 (fun _=>true) true gu t cs=some x→(∀n∈x.1.weights P t,n≤reachBytes)→∃svs,gd P w B svs cs∧Mt P d t svs
 |0,t,gu,cs,x,hp,h,hw=>by cases hp
 |d+1,t,gu,cs,x,hp,h,hw=>by
  unfold vT at hp
  unfold Mt
  split at hp
  ·rename_i ht
   obtain⟨b,rfl,rfl⟩:=DataW.trod_bool ht h
   exact⟨_,.one (.val _ rfl),b,rfl⟩
  ·rename_i k ht
   obtain⟨n,rfl,rfl,vz⟩:=DataW.trod_int ht h
   simp only[Lit.wf,amB,decide_eq_true_eq]at vz
   exact⟨_,.one (.val _ rfl),n,rfl,vz⟩
  ·rename_i ht
   obtain⟨s,rfl,rfl,hs⟩:=DataW.trod_string ht h
   refine⟨_,.one (.val _ rfl),s,rfl,?_⟩
   have:=hw s.data.toList.length (by unfold apX;simp)
   simpa using this
  ·rename_i e ht
   simp only[amB]at hp
   obtain⟨vt,hc⟩:=hp
   have hc:=dI.1 hc
   rcases open_slice ht h with⟨rfl,rfl⟩|⟨a,len,cap,m,n,D,Pl,rfl,_,wT,alS,hm,rfl,hi⟩
   ·cases ho:pA P e with
    |true=>exact⟨_,.one (.nil e none),[],rfl,by simp,by simp⟩
    |false=>exact⟨_,.one (.mY (P.cellsOf e) (fun _=>[]) none),0,fun _=>[],rfl,by simp,by simp⟩
   ·have hm:m=cap:=by simpa using hm
    subst hm
    have GJ:∀i,i<m→∀q∈(D i).weights P e,q≤reachBytes:=fun i gr q hq=>by
     refine hw q ?_
     unfold apX
     rw[ht]
     refine amK _ ?_
     have mem:∀{ds:List (aru H)} {d:aru H},d∈ds→q∈d.weights P e→q∈apd P e ds:=by
      intro ds
      induction ds with
      |nil=>intro d hd;cases hd
      |cons d0 ds ih=>
       intro d hd hq
       unfold apd
       rcases amH.1 hd with rfl|hd
       ·exact anR _ hq
       ·exact anu _ (ih hd hq)
     by_cases hl:i<len
     ·exact anR _ (mem (aoq.2 ⟨i,aq5.2 hl,rfl⟩) hq)
     ·exact anu _ (mem (aoq.2 ⟨i-len,aq5.2 (by omega),by congr 1;omega⟩) hq)
    have RZ:len*P.bytesOf e≤reachBytes:=by
     have:=hw ((len+(m-len))*P.bytesOf e) (by unfold apX;rw[ht];simp)
     exact apF (ao2 _ (by omega)) this
    by_cases uL:m=0
    ·obtain rfl:len=0:=by omega
     subst uL
     cases ho:pA P e with
     |true=>exact⟨_,.one (.nil e (some a)),[],rfl,by simp,by simp⟩
     |false=>exact⟨_,.one (.mY (P.cellsOf e) (fun _=>[]) (some a)),0,fun _=>[],rfl,by simp,by simp⟩
    ·-- the block
     have sg:∀i,i<m→∀k,k<P.cellsOf e→∃v,w.cell? ((a.add (i*P.cellsOf e)).add k)=some v:=fun i gr k hk=>by
      obtain⟨g9,h1,_⟩:=hi i gr
      obtain⟨_,h2,h3⟩:=arx h1
      rw[h3 k hk]
      exact⟨_,amt (by omega)⟩
     obtain⟨b,off,spot⟩:=a
     have aj7:spot=none:=by
      obtain⟨v,hv⟩:=sg 0 (by omega) 0 hc
      have:=World.cell?_spot hv
      rw[aqb]at this
      unfold ar5 at this
      rw[if_pos rfl,if_pos rfl]at this
      exact this
     subst aj7
     have IB:∀i k,(((⟨b,off,none⟩:Addr).add (i*P.cellsOf e)).add k)=⟨b,off+i*P.cellsOf e+k,none⟩:=fun i k=>by rw[RW,RW]
     obtain⟨c',bR,fr,BI,-⟩:∃c el fr,w.heap[b]?=some (.cells c el fr)∧True:=by
      obtain⟨v,hv⟩:=sg 0 (by omega) 0 hc
      rw[IB]at hv
      obtain⟨c,el,fr,h1,_⟩:=RX hv
      exact⟨c,el,fr,h1,trivial⟩
     have b9:∀i,i<m→∀k,k<P.cellsOf e→∃v,w.cell? ⟨b,off+i*P.cellsOf e+k,none⟩=some v∧c'[off+i*P.cellsOf e+k]?=some v:=fun i gr k hk=>by
      obtain⟨v,hv⟩:=sg i gr k hk
      rw[IB]at hv
      obtain⟨c,el,alT,h1,h2⟩:=RX hv
      rw[BI]at h1
      cases h1
      exact⟨v,hv,h2⟩
     have BJ:off+m*P.cellsOf e≤c'.size:=by
      obtain⟨v,_,hv⟩:=b9 (m-1) (by omega) (P.cellsOf e-1) (by omega)
      have:=(anq.1 hv).1
      have e1:(m-1)*P.cellsOf e+P.cellsOf e=m*P.cellsOf e:=by
       conv=>rhs;rw[show m=(m-1)+1 by omega,aqa]
      omega
     have R1:b<w.heap.size:=(anq.1 BI).1
     have cc:∀s,bT P e=some s→s=P.cellsOf e:=fun s hs=>by
      unfold bT at hs
      unfold Program.cellsOf
      rw[hs];rfl
     have lY:∀i,i<m→∃svs g9,gd P w B svs g9∧Mt P d e svs∧g9.length=P.cellsOf e∧∀k v,g9[k]?=some v→c'[off+i*P.cellsOf e+k]?=some v:=fun i gr=>by
      obtain⟨g9,h1,h2⟩:=hi i gr
      obtain⟨_,h3,h4⟩:=arx h1
      obtain⟨svs,h5,h6⟩:=tU hB d e n g9 _ vt h2 (GJ i gr)
      refine⟨svs,g9,h5,h6,h3,fun k v hv=>?_⟩
      have hk:k<P.cellsOf e:=by rw[←h3];exact(amy.1 hv).1
      obtain⟨u,ul,sr⟩:=b9 i gr k hk
      rw[←IB,h4 k hk,hv]at ul
      cases ul
      exact sr
     cases ho:pA P e with
     |true=>
      have h1:P.cellsOf e=1:=by
       unfold pA at ho
       split at ho<;>first|exact amI ho|cases ho
      have key:∀i,i<m→∃v,af v=true∧Mt P d e [.val v]∧c'[off+i]?=some v:=fun i gr=>by
       obtain⟨svs,g9,g1,g2,g3,g4⟩:=lY i gr
       rw[h1]at g3 g4
       obtain⟨v,rfl⟩:∃v,g9=[v]:=by
        match g9,g3 with
        | [v],_=>exact⟨v,rfl⟩
       have hv:=g4 0 v rfl
       rw[aoQ,Nat.add_zero]at hv
       have hl:=g1.len
       obtain⟨s,rfl⟩:∃s,svs=[s]:=by
        match svs,hl with
        | [s],_=>exact⟨s,rfl⟩
       have hs:=g1.at_ 0 s v rfl rfl
       have IC:=g2
       cases d with
       |zero=>cases vt
       |succ d=>
        unfold Mt at g2
        unfold pA at ho
        split at ho
        ·rename_i py
         rw[py]at g2
         obtain⟨b',e1⟩:=g2
         cases e1
         cases hs
         exact⟨_,rfl,IC,hv⟩
        ·rename_i py
         rw[py]at g2
         obtain⟨b',e1,_⟩:=g2
         cases e1
         cases hs
         exact⟨_,rfl,IC,hv⟩
        ·rename_i py
         rw[py]at g2
         obtain⟨b',e1,_⟩:=g2
         cases e1
         cases hs
         exact⟨_,rfl,IC,hv⟩
        ·cases ho
      let c:List amn:=(aoO len).map fun i=>if hi:i<m then(key i hi).choose else undef
      have ef:c.length=len:=by simp[c]
      have R3:∀i v,c[i]?=some v→∃hi:i<m,v=(key i hi).choose:=fun i v hv=>by
       have pP:i<len:=by rw[←ef];exact(amy.1 hv).1
       have gr:i<m:=by omega
       refine⟨gr,?_⟩
       simp only[c,List.getElem?_map,List.getElem?_range pP,anL,amr]at hv
       rw[dif_pos gr]at hv
       exact hv.symm
      refine⟨[.cells c.length c e],.one ?_,c,rfl,by rw[ef];exact RZ,fun v hv=>?_⟩
      ·have:SR P w B (.cells len c e) (.slice (some ⟨b,off,none⟩) len m):=.cells len c e b off m c' bR fr (hB b R1) BI (fun i v hv=>by
        obtain⟨gr,rfl⟩:=R3 i v hv
        obtain⟨k1,k2,k3⟩:=(key i gr).choose_spec
        exact⟨k1,k3⟩) (by rw[ef];rw[h1]at BJ;omega) wT (fun s hs=>by rw[cc s hs];exact BJ)
       rw[ef]
       exact this
      ·obtain⟨i,hi⟩:=anQ hv
       obtain⟨gr,rfl⟩:=R3 i v hi
       exact(key i gr).choose_spec.2.1
     |false=>
      let row:Nat→List SV:=fun i=>if hi:i<m then(lY i hi).choose else[]
      have hr:∀i (hi:i<m),row i=(lY i hi).choose:=fun i hi=>by simp[row,hi]
      have sQ:∀i,i<m→∃g9,gd P w B (row i) g9∧Mt P d e (row i)∧g9.length=P.cellsOf e∧∀k v,g9[k]?=some v→c'[off+i*P.cellsOf e+k]?=some v:=fun i hi=>by
       rw[hr i hi];exact(lY i hi).choose_spec
      let u:Nat→Nat→amn:=fun i k=>(c'[off+i*P.cellsOf e+k]?).getD undef
      refine⟨[.rows len (P.cellsOf e) row],.one (.rows len (P.cellsOf e) row b off m c' bR fr (hB b R1) BI (apF (Nat.add_le_add_left (ao2 _ wT) _) BJ) wT BJ (fun i hi=>?_) u (fun i k hi hk=>?_) fun i k sv hi hk=>?_),len,row,rfl,RZ,fun i hi=>?_⟩
      ·obtain⟨g9,g1,g2,g3,g4⟩:=sQ i (by omega)
       rw[g1.len,g3]
      ·obtain⟨v,_,hv⟩:=b9 i (by omega) k hk
       show _=some ((c'[off+i*P.cellsOf e+k]?).getD undef)
       rw[hv];rfl
      ·obtain⟨g9,g1,g2,g3,g4⟩:=sQ i (by omega)
       have wL:k<g9.length:=by rw[←g1.len];exact(amy.1 hk).1
       have hv:=g4 k _ (amt wL)
       have:u i k=g9[k]:=by show(c'[off+i*P.cellsOf e+k]?).getD undef=_;rw[hv];rfl
       rw[this]
       exact g1.at_ k sv _ hk (amt wL)
      ·obtain⟨g9,g1,g2,g3,g4⟩:=sQ i (by omega)
       exact g2
  ·rename_i fs ht
   simp only[amB]at hp
   obtain⟨aj8,j6⟩:=hp
   cases gu with
   |zero=>cases h
   |succ gu=>
    unfold apQ at h
    simp only[ht]at h
    split at h
    ·rename_i hlen
     cases oK:(fs.toList.mapM fun f=>apQ enc P w 0 (fun _=>true) true gu f.type ((cs.drop f.offset).take (P.cellsOf f.type)))with
     |none=>rw[oK]at h;cases h
     |some xs=>
      rw[oK]at h
      simp only[anL,amr]at h
      subst h
      have gE:∀n∈apr P (fs.toList.map (·.type)) (xs.map (·.1)),n≤reachBytes:=fun n hn=>hw n (by unfold apX;rw[ht];exact hn)
      have key:∀(l:List apt) (off:Nat) (xs:List (aru H×List are)),vS P l off (P.cellsOf t)=true→(l.all fun f=>vT P d f.type)=true→
       (l.mapM fun f=>apQ enc P w 0 (fun _=>true) true gu f.type ((cs.drop f.offset).take (P.cellsOf f.type)))=some xs→
       (∀n∈apr P (l.map (·.type)) (xs.map (·.1)),n≤reachBytes)→off≤cs.length→
       ∃parts:List (List SV),gd P w B parts.flatten (cs.drop off)∧dD (fun(f:apt) p=>Mt P d f.type p) l parts:=by
       intro l
       induction l with
       |nil=>
        intro off xs tP _ _ _ aj9
        have:=amI tP
        refine⟨[],?_,.nil⟩
        rw[an3 (by omega)]
        exact .nil
       |cons f l ih=>
        intro off xs tP oP hm qu aj9
        simp only[vS,amB]at tP
        simp only[List.all_cons,amB]at oP
        obtain⟨x0,jr,m6,iB,rfl⟩:=RY hm
        have e0:=amI tP.1
        rw[e0]at m6
        have aka:off+P.cellsOf f.type≤cs.length:=by
         have:∀(l:List apt) (o mP:Nat),vS P l o mP=true→o≤mP:=by
          intro l
          induction l with
          |nil=>intro o mP h;exact Nat.le_of_eq (amI h)
          |cons f l ih=>intro o mP h;simp only[vS,amB]at h;have:=ih _ _ h.2;omega
         have:=this _ _ _ tP.2
         omega
        obtain⟨svs,s1,s2⟩:=tU hB d f.type gu _ _ oP.1 m6 (fun n hn=>qu n (by
         simp only[ani,apr]
         exact anR _ hn))
        obtain⟨parts,p1,p2⟩:=ih (off+P.cellsOf f.type) jr tP.2 oP.2 iB (fun n hn=>qu n (by
         simp only[ani,apr]
         exact anu _ hn)) aka
        refine⟨svs::parts,?_,.cons s2 p2⟩
        have e1:cs.drop off=(cs.drop off).take (P.cellsOf f.type)++cs.drop (off+P.cellsOf f.type):=by
         rw[←anE,anF]
        rw[apR,e1]
        exact s1.append p1
      obtain⟨parts,p1,p2⟩:=key fs.toList 0 xs aj8 j6 oK gE (Nat.zero_le _)
      exact⟨parts.flatten,by simpa using p1,parts,rfl,p2⟩
    ·cases h
  ·rename_i n e ht
   simp only[amB]at hp
   obtain⟨vt,hc⟩:=hp
   have hc:=amI hc
   cases gu with
   |zero=>cases h
   |succ gu=>
    unfold apQ at h
    simp only[ht]at h
    split at h
    ·rename_i hlen
     cases oK:((aoO n).mapM fun i=>apQ enc P w 0 (fun _=>true) true gu e ((cs.drop (i*P.cellsOf e)).take (P.cellsOf e)))with
     |none=>rw[oK]at h;cases h
     |some xs=>
      rw[oK]at h
      simp only[anL,amr]at h
      subst h
      have gE:∀q∈apd P e (xs.map (·.1)),q≤reachBytes:=fun q hq=>hw q (by unfold apX;rw[ht];exact hq)
      have key:∀(k o:Nat) (xs:List (aru H×List are)),o+k=n→
       ((List.range' o k).mapM fun i=>apQ enc P w 0 (fun _=>true) true gu e ((cs.drop (i*P.cellsOf e)).take (P.cellsOf e)))=some xs→
       (∀q∈apd P e (xs.map (·.1)),q≤reachBytes)→
       ∃parts:List (List SV),gd P w B parts.flatten (cs.drop (o*P.cellsOf e))∧parts.length=k∧∀p∈parts,Mt P d e p:=by
       intro k
       induction k with
       |zero=>
        intro o xs ho _ _
        refine⟨[],?_,rfl,fun p hp=>by cases hp⟩
        have ho:o=n:=by omega
        rw[an3 (by rw[hlen,←hc,ho];omega)]
        exact .nil
       |succ k ih=>
        intro o xs ho hm qu
        rw[List.range'_succ]at hm
        obtain⟨x0,jr,m6,iB,rfl⟩:=RY hm
        obtain⟨svs,s1,s2⟩:=tU hB d e gu _ _ vt m6 (fun q hq=>qu q (by
         simp only[ani,apd]
         exact anR _ hq))
        obtain⟨parts,p1,p2,p3⟩:=ih (o+1) jr (by omega) iB (fun q hq=>qu q (by
         simp only[ani,apd]
         exact anu _ hq))
        refine⟨svs::parts,?_,by simp[p2],fun p hp=>?_⟩
        ·have e1:cs.drop (o*P.cellsOf e)=(cs.drop (o*P.cellsOf e)).take (P.cellsOf e)++cs.drop ((o+1)*P.cellsOf e):=by
          rw[aqa,←anE,anF]
         rw[apR,e1]
         exact s1.append p1
        ·rcases amH.1 hp with rfl|hp
         ·exact s2
         ·exact p3 p hp
      obtain⟨parts,p1,p2,p3⟩:=key n 0 xs (by omega) (by rw[←List.range_eq_range'];exact oK) gE
      exact⟨parts.flatten,by simpa using p1,parts,rfl,p2,p3⟩
    ·cases h
  ·cases hp
termination_by d=>d
theorem aG.akb{f:amY}{svs:List SV}{gO:List amn}{Q:bL→List ai→Prop}(h:aG P f gO (fZ svs) Q)(jw:amO (kv svs) 262144=true){w:amC}{args':Array amn}{R4:List amn}
 (hv:∀ρ,LR ρ (lE svs 0) R4→LR ρ gO args'.toList)
 (hs:gd P w (fun k=>k<w.heap.size) svs R4)(IE:Env (fun k=>k<w.heap.size) w:=by exact fun _ _=>trivial):Calls P f args' w fun e w'=>∃r o ρ',Q r o∧CR ρ' r e∧Below w.heap.size w w':=by
 have jw:=Nat.le_of_ble_eq_true jw
 obtain⟨ρ,_,h1,h2⟩:=wC (k:=0) (g:=fun _=>none) hs (WR.start (P:=P) w IE) (fun _ _=>rfl)
 have h2:=hv _ h2
 let ρ2:Ren:=fun x=>match small x with
  |true=>ρ x
  |false=>some (uA (x-262144))
 have ec:∀x,small x=true→ρ2 x=ρ x:=fun x h=>by show(match small x with|true=>_|false=>_)=_;rw[h]
 have kF:∀x,small x=false→ρ2 x=some (uA (x-262144)):=fun x h=>by show(match small x with|true=>_|false=>_)=_;rw[h]
 have gP:Full ρ2:=fun q=>by
  obtain⟨n,h⟩:=KH q
  exact⟨n+262144,zH n,by rw[kF _ (zH n)];simp[h]⟩
 have hlen:=qJ svs
 have IG:∀x,im (fun _=>none) 0 (fZ svs) x=(fZ svs)[x]? :=by
  have key:∀(l:List ai) (g:Nat→Option ai) (k x:Nat),im g k l x=if k≤x∧x<k+l.length then l[x-k]?else g x:=by
   intro l
   induction l with
   |nil=>intro g k x;rw[if_neg (by simp only[List.length_nil];omega)];rfl
   |cons o l ih=>
    intro g k x
    show im (cG g k o) (k+1) l x=_
    rw[ih]
    simp only[am9]
    by_cases hx:x=k
    ·subst hx;rw[if_neg (by omega),fg,if_pos (by omega),Nat.sub_self];rfl
    ·rw[dU _ hx]
     by_cases h2:k≤x∧x<k+(l.length+1)
     ·rw[if_pos (by omega),if_pos h2,show x-k=x-(k+1)+1 by omega];rfl
     ·rw[if_neg (by omega),if_neg h2]
  intro x
  rw[key]
  by_cases hx:x<(fZ svs).length
  ·rw[if_pos (by omega)];simp
  ·rw[if_neg (by omega),anH (by omega)]
 have R5:∀x,(fZ svs)[x]? ≠none→small x=true:=fun x hx=>by
  have:x<(fZ svs).length:=by
   by_cases h:x<(fZ svs).length
   ·exact h
   ·exact absurd (anH (by omega)) hx
  exact gW.2 (by have:(2:Nat)^18=262144:=rfl;omega)
 have hle:∀x r,ρ x=some r→ρ2 x=some r:=fun x r hx=>by
  cases hs:small x with
  |true=>rw[ec x hs,hx]
  |false=>
   have:im (fun _=>none) 0 (fZ svs) x=none:=by
    rw[IG]
    cases hq:(fZ svs)[x]?with
    |none=>rfl
    |some o=>have:=R5 x (by rw[hq];exact fun e=>by cases e);rw[hs]at this;cases this
   rw[h1.fresh x this]at hx
   cases hx
 have dG:WR P (fun k=>k<w.heap.size) w ρ2 (cq (fZ svs)) w:=by
  have gI:∀x o,cq (fZ svs) x=some o→o≠ .dead→im (fun _=>none) 0 (fZ svs) x=some o∧ρ2 x=ρ x:=fun x o hx bt=>by
   cases hs:small x with
   |true=>rw[cA hs]at hx;exact⟨by rw[IG];exact hx,ec x hs⟩
   |false=>rw[iu hs]at hx;cases hx;exact absurd rfl bt
  exact
   {below:=h1.below,env:=h1.env,size:=h1.size
    live:=by
     intro x o r hx hr hl
     obtain⟨a,b⟩:=gI x o hx (by rintro rfl;cases hl)
     obtain⟨o',c1,c2,c3⟩:=h1.live x o r a (b▸hr) hl
     exact⟨o',c1,c2.mono hle,c3⟩
    inj:=by
     intro x y ox oy rx ry hx hy ke cm kg cT hd he
     obtain⟨a,b⟩:=gI x ox hx (by rintro rfl;cases kg)
     obtain⟨a',b'⟩:=gI y oy hy (by rintro rfl;cases cT)
     exact h1.inj x y ox oy rx ry a a' (b▸ke) (b'▸cm) kg cT hd he
    fresh:=by
     intro x hx
     cases hs:small x with
     |true=>rw[cA hs]at hx;rw[ec x hs];exact h1.fresh x (by rw[IG];exact hx)
     |false=>rw[iu hs]at hx;cases hx
    rows:=by
     intro x n size row hx
     obtain⟨a,b⟩:=gI x _ hx (by intro e;cases e)
     obtain⟨r,c1,c2⟩:=h1.rows x n size row a
     exact⟨r,by rw[b];exact c1,c2⟩
    nil:=by
     intro x el ro r hx hr
     obtain⟨a,b⟩:=gI x _ hx (by intro e;cases e)
     exact h1.nil x el ro r a (b▸hr)
    named:=by
     intro x o hx bt
     obtain⟨a,b⟩:=gI x o hx bt
     rw[b]
     exact h1.named x o a bt
    abs:=h1.abs.next (fun x d hx=>gI x _ hx (by intro e;cases e)) (fun k _ a b=>⟨rfl,a,fun y o r hy hr hl=>by
     obtain⟨p,q⟩:=gI y o hy (by rintro rfl;cases hl)
     exact b y o r p (q▸hr) hl⟩) (amX _)}
 have fW:∀o∈fZ svs,o≠ .dead:=by
  have:∀l:List SV,∀o∈fZ l,o≠ .dead:=by
   intro l
   induction l with
   |nil=>intro o ho;cases ho
   |cons s l ih=>
    intro o ho
    cases s with
    |val v=>exact ih o ho
    |cells n c el=>
     rcases amH.1 ho with rfl|ho
     ·intro e;cases e
     ·exact ih o ho
    |rows n s r=>
     rcases amH.1 ho with rfl|ho
     ·intro e;cases e
     ·exact ih o ho
  exact this svs
 have Eo:∀x,x<(fZ svs).length→∃r,ρ2 x=some r:=fun x hx=>by
  have hg:=amt hx
  have hs:=R5 x (by rw[hg];exact fun e=>by cases e)
  exact dG.named x _ (by rw[cA hs];exact hg) (fW _ (List.getElem_mem hx))
 refine(h _ w ρ2 w args' gP Eo ⟨h2.len,fun i v v' a b=>(h2.at_ i v v' a b).mono hle⟩ dG).mono fun e w' he=>?_
 obtain⟨r,o,ρ',q1,q2,_,q4,_⟩:=he
 exact⟨r,o,ρ',q1,q2,q4.below.below⟩
end
end Go.Proofs.Ytnlkkgpcikkpoaa.Vm
namespace Go.Proofs.Ytnlkkgpcikkpoaa.Vm
open Go.RowKit
section
variable {P:amF} {w:amC} {B:Nat→Prop}
theorem akc{d:Nat}{t:amz}{svs:List SV}(ht:P.underlying t=some .bool)(h:Mt P (d+1) t svs):∃b,svs=[.val (.bool b)]:=by
 unfold Mt at h;rw[ht]at h;exact h
theorem qx{d:Nat}{t:amz}{k:IntKind}{svs:List SV}(ht:P.underlying t=some (.int k))(h:Mt P (d+1) t svs):∃n,svs=[.val (.int k n)]∧k.min≤n∧n≤k.max:=by
 unfold Mt at h;rw[ht]at h;exact h
theorem BK{d:Nat}{t:amz}{fs:Array apt}{svs:List SV}(ht:P.underlying t=some (.struct fs))(h:Mt P (d+1) t svs):
 ∃parts:List (List SV),svs=parts.flatten∧dD (fun(f:apt) p=>Mt P d f.type p) fs.toList parts:=by
 unfold Mt at h;rw[ht]at h;exact h
theorem R6{d:Nat}{t e:amz}{svs:List SV}(ht:P.underlying t=some (.slice e))(ho:pA P e=true)(h:Mt P (d+1) t svs):
 ∃c:List amn,svs=[.cells c.length c e]∧c.length*P.bytesOf e≤reachBytes∧∀v∈c,Mt P d e [.val v]:=by
 unfold Mt at h;rw[ht]at h;dsimp only at h;rw[ho]at h;exact h
theorem R7{d:Nat}{t e:amz}{svs:List SV}(ht:P.underlying t=some (.slice e))(ho:pA P e=false)(h:Mt P (d+1) t svs):
 ∃(n:Nat) (row:Nat→List SV),svs=[.rows n (P.cellsOf e) row]∧n*P.bytesOf e≤reachBytes∧∀i,i<n→Mt P d e (row i):=by
 unfold Mt at h;rw[ht]at h;dsimp only at h;rw[ho]at h;exact h
theorem BL{α β:Type}{R:α→β→Prop}{l:List β}(h:dD R [] l):l=[]:=by cases h;rfl
theorem nt{α β:Type}{R:α→β→Prop}{a:α}{amj:List α}{l:List β}(h:dD R (a::amj) l):∃b bs,l=b::bs∧R a b∧dD R amj bs:=by
 cases h with
 |cons h t=>exact⟨_,_,rfl,h,t⟩
theorem IH{d:Nat}{t e:amz}{svs:List SV}(ht:P.underlying t=some (.slice e))(he:P.underlying e=some (.int .u8))(ho:pA P e=true)(hb:P.bytesOf e=1)(h:Mt P (d+2) t svs):
 ∃b:ByteArray,svs=[.cells b.size (ag b) e]∧b.size≤reachBytes:=by
 obtain⟨c,rfl,h1,h2⟩:=R6 ht ho h
 rw[hb,aoQ]at h1
 have key:∀c:List amn,(∀v∈c,Mt P (d+1) e [.val v])→∃l:List UInt8,c=l.map fun x=>amu .u8 (x.toNat:Int):=by
  intro c
  induction c with
  |nil=>intro _;exact⟨[],rfl⟩
  |cons v c ih=>
   intro hv
   obtain⟨l,rfl⟩:=ih fun v fG=>hv v (amK _ fG)
   obtain⟨n,e1,o9,ka⟩:=qx he (hv v amN)
   simp only[arO,SV.val.injEq,and_true]at e1
   subst e1
   have h0:(0:Int)≤n:=o9
   have alU:n≤(255:Int):=ka
   refine⟨ao5 n.toNat::l,?_⟩
   simp only[ani]
   congr 2
   have:(ao5 n.toNat).toNat=n.toNat:=by
    rw[UInt8.toNat_ofNat']
    exact Nat.mod_eq_of_lt (by omega)
   rw[this]
   omega
 obtain⟨l,rfl⟩:=key c h2
 refine⟨⟨l.toArray⟩,?_,?_⟩
 ·have:ag ⟨l.toArray⟩=l.map fun x=>amu .u8 (x.toNat:Int):=by unfold ag;simp
  rw[this]
  congr 1
  congr 1
  show _=(l.toArray).size
  simp
 ·have:(⟨l.toArray⟩:ByteArray).size=l.length:=by show(l.toArray).size=_;simp
  rw[this];simpa using h1
theorem akd{d:Nat}{t e:amz}{svs:List SV}(ht:P.underlying t=some (.slice e))(he:P.underlying e=some (.int .i64))(ho:pA P e=true)(h:Mt P (d+2) t svs):
 ∃l:List Int,svs=[.cells l.length (aq l) e]∧l.length*P.bytesOf e≤reachBytes∧∀x∈l,amA.min≤x∧x≤amA.max:=by
 obtain⟨c,rfl,h1,h2⟩:=R6 ht ho h
 have key:∀c:List amn,(∀v∈c,Mt P (d+1) e [.val v])→∃l:List Int,c=aq l∧∀x∈l,amA.min≤x∧x≤amA.max:=by
  intro c
  induction c with
  |nil=>intro _;exact⟨[],rfl,fun s hs=>by cases hs⟩
  |cons v c ih=>
   intro hv
   obtain⟨l,rfl,hl⟩:=ih fun v fG=>hv v (amK _ fG)
   obtain⟨n,e1,h0,h1⟩:=qx he (hv v amN)
   simp only[arO,SV.val.injEq,and_true]at e1
   subst e1
   exact⟨n::l,rfl,fun x hx=>by rcases amH.1 hx with rfl|hx;exact⟨h0,h1⟩;exact hl x hx⟩
 obtain⟨l,rfl,hl⟩:=key c h2
 exact⟨l,by rw[EB],by rw[EB]at h1;exact h1,hl⟩
theorem SR.ake{n size:Nat}{row BM:Nat→List SV}{v:amn}(h:SR P w B (.rows n size row) v)(he:∀i,i<n→row i=BM i):SR P w B (.rows n size BM) v:=by
 cases h with
 |mY size row a=>exact .mY size BM a
 |rows _ _ _ b off cap c' bR fr hB gH hl hn gD hlen u hu hr=>
  exact .rows n size BM b off cap c' bR fr hB gH hl hn gD (fun i hi=>by rw[←he i hi];exact hlen i hi) u hu fun i k sv hi hk=>hr i k sv hi (by rw[he i hi];exact hk)
theorem R8{α:Type}{n size:Nat}{row:Nat→List SV}{v:amn}(mk:α→List SV)(d0:α)(ok:α→Prop)(hs:SR P w B (.rows n size row) v)(h:∀i,i<n→∃x,row i=mk x∧ok x):
 ∃l:List α,l.length=n∧(∀x∈l,ok x)∧SR P w B (.rows l.length size fun i=>mk (l.getD i d0)) v:=by
 let l:List α:=(aoO n).map fun i=>if hi:i<n then(h i hi).choose else d0
 have hl:l.length=n:=by simp[l]
 have hg:∀i (hi:i<n),l[i]?=some (h i hi).choose:=fun i hi=>by simp[l,hi]
 refine⟨l,hl,fun x hx=>?_,?_⟩
 ·obtain⟨i,hi⟩:=anQ hx
  have e9:i<n:=by rw[←hl];exact(amy.1 hi).1
  rw[hg i e9]at hi
  cases hi
  exact(h i e9).choose_spec.2
 ·rw[hl]
  refine hs.ake fun i hi=>?_
  rw[an7,hg i hi]
  exact(h i hi).choose_spec.1
end
end Go.Proofs.Ytnlkkgpcikkpoaa.Vm
namespace Go.Proofs.Ytnlkkgpcikkpoaa
open Go Vm Go.RowKit
set_option maxRecDepth 100000
theorem akf{w:amC}{B:Nat→Prop}{v:amn}{svs:List SV}(h:Mt asz 10 38 svs)(hs:gd asz w B svs [v]):
 ∃l:List Int,(∀x∈l,amA.min≤x∧x≤amA.max)∧SR asz w B (.cells l.length (aq l) 3) v:=by
 obtain⟨l,rfl,_,h2⟩:=akd (d:=8) Try.underlying38 aoJ (by kernel_rfl) h
 exact⟨l,h2,hs.at_ 0 _ _ rfl rfl⟩
end Go.Proofs.Ytnlkkgpcikkpoaa
namespace Go.Proofs.Ytnlkkgpcikkpoaa.Vm
open Go.RowKit
section
variable {P:amF}
theorem aG.akg{f:amY}{svs:List SV}{o:List ai}(k:Nat)(h:aG P f (.agg ((lE svs 0).take k).toArray::(lE svs 0).drop k) (fZ svs) fun r o'=>r=.ret (.bool true)∧o'=o)(jw:amO (kv svs) 262144=true){w:amC}{fields:Array amn}{rest:List amn}
 (hk:fields.size=k)(hs:gd P w (fun k=>k<w.heap.size) svs (fields.toList++rest))(IE:Env (fun k=>k<w.heap.size) w:=by exact fun _ _=>trivial):Calls P f (.agg fields::rest).toArray w fun e w'=>e=.returned (.bool true)∧Below w.heap.size w w':=by
 refine(aG.akb h jw (args':=(.agg fields::rest).toArray) (fun ρ hl=>?_) hs IE).mono fun e w' he=>?_
 ·have hlen:=hl.len
  rw[amD,aot (xs:=fields),hk]at hlen
  refine⟨by simp only[am9,List.length_drop];omega,fun i v v' a b=>?_⟩
  cases i with
  |zero=>
   cases a;cases b
   refine .agg _ _ (by rw[anf,aot (xs:=fields)];omega) fun i v v' a b=>?_
   have a:((lE svs 0).take k)[i]?=some v:=a
   have b:fields.toList[i]?=some v':=b
   have hi:i<k:=by
    have:=(amy.1 a).1
    rw[anf]at this
    omega
   refine hl.at_ i v v' ?_ ?_
   ·rw[List.getElem?_take,if_pos hi]at a
    exact a
   ·rw[ane (by rw[aot (xs:=fields)];omega)]
    exact b
  |succ i=>
   refine hl.at_ (k+i) v v' ?_ ?_
   ·have a:((lE svs 0).drop k)[i]?=some v:=a
    rw[List.getElem?_drop]at a
    exact a
   ·have b:rest[i]?=some v':=b
    rw[am5 (by rw[aot (xs:=fields)];omega),aot (xs:=fields),hk]
    rw[show k+i-k=i by omega]
    exact b
 ·obtain⟨r,o,ρ',⟨rfl,_⟩,h2,h3⟩:=he
  cases e with
  |returned v'=>
   have:v'=.bool true:=VR.ua h2
   exact⟨by rw[this],h3⟩
  |panicked chain=>cases h2
  |outgrown=>cases h2
end
end Go.Proofs.Ytnlkkgpcikkpoaa.Vm
namespace Go.Proofs.Ytnlkkgpcikkpoaa
open Go Vm Go.RowKit
set_option maxRecDepth 100000
theorem akh{w:amC}{B:Nat→Prop}{v:amn}{svs:List SV}(h:Mt asz 10 36 svs)(hs:gd asz w B svs [v]):
 ∃l:List bD,SR asz w B (.rows l.length 5 fun i=>ye (l[i]?.getD dk)) v:=by
 obtain⟨n,row,rfl,_,hr⟩:=R7 Try.underlying36 (by kernel_rfl) h
 have h0:=hs.at_ 0 _ _ rfl rfl
 have e5:asz.cellsOf 52=5:=by kernel_rfl
 rw[e5]at h0
 obtain⟨l,h1,h2,h3⟩:=R8 ye dk (fun _=>True) h0 fun i hi=>by
  obtain⟨parts,e1,h1⟩:=BK Try.underlying52 (hr i hi)
  obtain⟨p0,q0,rfl,a0,h1⟩:=nt h1
  obtain⟨p1,q1,rfl,a1,h1⟩:=nt h1
  obtain⟨p2,q2,rfl,a2,h1⟩:=nt h1
  obtain rfl:=BL h1
  obtain⟨b,rfl,hb⟩:=IH Try.underlying22 Try.underlying5 (by kernel_rfl) (by kernel_rfl) a0
  obtain⟨d,rfl⟩:=akc Try.underlying4 a1
  obtain⟨alV,rfl,k1⟩:=BK Try.underlying50 a2
  obtain⟨r0,t0,rfl,b0,k1⟩:=nt k1
  obtain⟨r1,t1,rfl,b1,k1⟩:=nt k1
  obtain⟨r2,t2,rfl,b2,k1⟩:=nt k1
  obtain rfl:=BL k1
  obtain⟨c,rfl,_⟩:=qx Try.underlying27 b0
  obtain⟨s,rfl,_⟩:=qx aoJ b1
  obtain⟨i',rfl,_⟩:=qx aoJ b2
  exact⟨⟨b,d,c,s,i'⟩,e1.trans rfl,trivial⟩
 exact⟨l,h3⟩
theorem R9:∀(l:List (Int×Int)) (i k:Nat),k<2→∀v,(aF l)[i*2+k]?=some v→∃p,l[i]?=some p∧[amu .i64 p.1,amu .i64 p.2][k]?=some v
 | [],i,k,hk,v,h=>by cases h
 |p::l,0,k,hk,v,h=>by
  refine⟨p,rfl,?_⟩
  rw[show aF (p::l)=[amu .i64 p.1,amu .i64 p.2]++aF l from rfl,aqb,an8,ane (by simpa using hk)]at h
  exact h
 |p::l,i+1,k,hk,v,h=>by
  rw[show aF (p::l)=[amu .i64 p.1,amu .i64 p.2]++aF l from rfl,am5 (by simp;omega)]at h
  have:=R9 l i k hk v (by rw[←h];congr 1;simp;omega)
  exact this
theorem aki(l:List (Int×Int)):(aF l).length=l.length*2:=by
 induction l with
 |nil=>rfl
 |cons p l ih=>rw[show aF (p::l)=[amu .i64 p.1,amu .i64 p.2]++aF l from rfl,amD,ih];simp;omega
theorem akj{w:amC}{B:Nat→Prop}{v:amn}{svs:List SV}(h:Mt asz 10 37 svs)(hs:gd asz w B svs [v]):
 ∃l:List (Int×Int),SR asz w B (.cells l.length (aF l) 67) v:=by
 obtain⟨n,row,rfl,_,hr⟩:=R7 Try.underlying37 (by kernel_rfl) h
 have h0:=hs.at_ 0 _ _ rfl rfl
 have e5:asz.cellsOf 67=2:=by kernel_rfl
 have es:bT asz 67=some 2:=by kernel_rfl
 rw[e5]at h0
 obtain⟨l,h1,h2,h3⟩:=R8 (fun p:Int×Int=>[.val (.int .i64 p.1),.val (.int .i64 p.2)]) (0,0) (fun _=>True) h0 fun i hi=>by
  obtain⟨parts,e1,h1⟩:=BK Try.underlying67 (hr i hi)
  obtain⟨p0,q0,rfl,a0,h1⟩:=nt h1
  obtain⟨p1,q1,rfl,a1,h1⟩:=nt h1
  obtain rfl:=BL h1
  obtain⟨c,rfl,_⟩:=qx aoJ a0
  obtain⟨s,rfl,_⟩:=qx aoJ a1
  exact⟨(c,s),e1.trans rfl,trivial⟩
 clear h1 h2 h0 hr hs h
 refine⟨l,?_⟩
 generalize hn:l.length=m at h3
 cases h3 with
 |mY size row a=>
  obtain rfl:=ant hn
  exact .nil _ _
 |rows n size row b off cap c' bR fr hB hb hl hc gD hlen u hu hr=>
  refine .cells _ _ _ b off cap c' bR fr hB hb (fun i v hi=>?_) (by rw[aki,hn];exact hl) hc (fun s hs=>by rw[es]at hs;cases hs;exact gD)
  have e:i=i/2*2+i%2:=by omega
  rw[e]at hi
  obtain⟨p,hp,hv⟩:=R9 l (i/2) (i%2) (by omega) v hi
  have gr:i/2<m:=by rw[←hn];exact(amy.1 hp).1
  have lY:([SV.val (.int .i64 p.1),.val (.int .i64 p.2)]:List SV)[i%2]?=some (.val v):=by
   rcases Nat.mod_two_eq_zero_or_one i with h|h<;>rw[h]at hv⊢ <;>cases hv<;>rfl
  have hq:l.getD (i/2) (0,0)=p:=by rw[an7,hp];rfl
  have hx:=hr (i/2) (i%2) (.val v) gr (by dsimp only;rw[hq];exact lY)
  have hy:=hu (i/2) (i%2) gr (by omega)
  cases hx with
  |val _ iC=>exact⟨iC,by rw[←hy];congr 1;omega⟩
end Go.Proofs.Ytnlkkgpcikkpoaa
namespace Go.Proofs.Ytnlkkgpcikkpoaa
open Go.ChangeShapes Go.WideShapes Go.ChangeAt Go.RowKit Go.Deep
theorem own:ownKnob asz.godebug=none:=by kernel_rfl
theorem laidOut:laidOutB asz=true:=by kernel_rfl
section
variable {H:Type} {enc:amz×amn→H} {P:amF} {w:amC} {base:Nat} {spare:Nat→Bool} {held:Bool}
theorem Sa(hl:laidOutB P=true){W W':amC}(hb:Below W.heap.size W W'):∀{ts:List amz} {vs:List amn} {ds:List (aru H)} {p:List are},
 (∀t∈ts,P.readableRec t=true∧t<P.types.size)→ark enc P W 0 (fun _=>true) true ts vs ds p→(∀x∈p,x.block<W.heap.size)→
 ark enc P W' 0 (fun b=>decide (b<W.heap.size)) true ts vs ds p
 | [],[],[],p,_,h,_=>h
 |t::ts,v::vs,d::ds,p,ht,h,hlt=>by
  obtain⟨p1,q1,h1,h2,rfl⟩:=h
  exact⟨p1,q1,Below.trod hl (ht t (by simp)).1 (ht t (by simp)).2 h1 hb (fun x hx=>hlt x (by simp[hx])),
   Sa hl hb (fun t' h'=>ht t' (by simp[h'])) h2 (fun x hx=>hlt x (by simp[hx])),rfl⟩
 | [],_::_,_,_,_,h,_=>h.elim
 | [],[],_::_,_,_,h,_=>h.elim
 |_::_,[],_,_,_,h,_=>h.elim
 |_::_,_::_,[],_,_,h,_=>h.elim
end
end Go.Proofs.Ytnlkkgpcikkpoaa
