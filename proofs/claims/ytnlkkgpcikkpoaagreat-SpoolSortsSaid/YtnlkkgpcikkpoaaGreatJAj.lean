/- Part of the proof: Zpc, Zpb, Zpe, Zpd, Zpf, Zpo, Zpg, Zpm, Reg, Mem, Mem2, Zch. -/
import Derived.Test.YtnlkkgpcikkpoaaGreatJAi
import Derived.KernelRfl
import Derived.Orders
import Derived.Tactics2
import Derived.Laws.World
import Derived.Laws.Rows
import Derived.Below
import Derived.Laws.BytesArg
import Derived.Lib.ConvBytes
import Derived.Lib.Hide
import Derived.Laws.NewBlocks
import Derived.Laws.CopyOwn
import Derived.Lib.SlBytesConst
import Derived.Laws.Strings
import Derived.Deep.Draws
import Derived.Test.YtnlkkgpcikkpoaaGreatChecked
import Derived.WalkKit
import Derived.WalkLawsBesides
import Derived.WalkSpells
import Derived.Outline
import Derived.OwnWalk
import Derived.RangeFuncNested
import Derived.RangeFuncBound
import Derived.RangeFuncCalls
import Derived.RangeFuncLeaves
import Derived.Shelf.Abstract
import Derived.Shelf.RegionOpen
import Derived.OwnWalkIn
import Derived.TacticsInMore
import Derived.LoopNIn
import Derived.LoopIn
open Array renaming toList->arN
open Bool renaming and_false->axJ,false_and->au8
open ByteArray renaming data->arK,empty->KI,mk->ar2,size->DD
open Decidable renaming not_not->ate
open Go renaming Code->ar3,FuncId->arY,Value->Dy,World->arB
open Go.ByteArray renaming toList_eq->auU
open Go.Fence renaming wide->ats
open Go.IntKind renaming i64->Ul,u8->Um,wrap->m6
open Go.Proofs.Tryz renaming prog->fK
open Go.Value renaming bool->asu,int->KJ,pointer->asy,string->arS
open Int renaming toNat->m5
open List renaming all->DC,append_assoc->arI,drop_eq_getElem_cons->ath,drop_left->awN,drop_of_length_le->as7,find?->awe,flatten_append->auT,getElem?_append_right->asd,getElem?_eq_getElem->KH,getElem?_eq_some_iff->KP,length->nG,length_append->KO,length_drop->ass,length_take->asj,map->arV,map_append->asm,mem_cons_of_mem->arG,mem_cons_self->arH,nil_append->asK,take->arP,take_left'->axA,toArray->ar6
open Nat renaming beq->arE,ble->arM,ble_eq_true_of_le->arZ,blt->arF,le_of_eq->atA,le_refl->arO,le_trans->atW,sub_zero->at9,zero_le->asb
open Option renaming bind->ash,getD->asp,isSome->at3
open Option.some renaming inj->atZ
open Prod renaming fst->KM,snd->arQ
open UInt8 renaming toNat->arR
set_option linter.unusedVariables false
set_option linter.unusedSimpArgs false
set_option maxRecDepth 100000
namespace Go.Proofs.YtnlkkgpcikkpoaaGreat
open Go Vm Go.RowKit
noncomputable section
def afU:List (arY×Sum):=[(43,Sum.dQ fK IW)]
theorem afV:dD fK (dM fK (dP afU) 50 40):=dU dC mixed (ee (.cons afi .nil)) 50 40
def afW:List (arY×Sum):=[(79,IZ),(80,Sum.of Jf)]
theorem Ro:dD fK (dM fK (dP afW) 50 40):=dU dC mixed (ee (.cons afj (.cons afQ .nil))) 50 40
def CW:List ar3:=a7 (dI fK 78)
def Rp:List ar3:=a7 (dI fK 54)
open Tree renaming aQ->mN,dE->mF,fj->mL,fY->mQ,dN->mR,gH->mE
abbrev Jh:List ar3:=(a7 (inner (a7 (inner (CW.drop 2)))))
def Rq:Nat->Bool->Bool->Tree->Tree
 |0,_,_,t=>t
 |n+1,d,b,t=>.cY d b (Rq n d b t)
theorem Rs{R:bf->ai->Prop}{c v:Bool}{t:Tree}(n:Nat)(h1:c=v)(h2:t.ok R):(Rq n c v t).ok R:=by
 induction n with
 |zero=>exact h2
 |succ n ih=>exact⟨h1,ih⟩
abbrev ve:=λS L R H d=>([ab (aL S 1 2 3 4) 89,.abs d,ab (ah L) 9,ab (ay R) 3,ab (an H) 114]:List ak)
abbrev Rt:=λS L R H d (o n:Nat)=>(⟨[(0,ap 0),(8,cA 3 o n n),(9,aa n),(10,aa 0)],ve S L R H d⟩:ai)
abbrev afX:=λS L R H d (o n:Nat)=>(⟨[(0,ap 0),(1,cA 3 o n n)],ve S L R H d⟩:ai)
theorem afY(S L R H d)(o n:Nat)(pH:(an H).all ag=true){Q:aU}(l3:ao fK 24 5 (CW.drop 2) (Rt S L R H d o n) Q):ao fK 24 5 CW (afX S L R H d o n) Q:=
 aV bp 2 (.leaf [0,8,9,10] [0,1,2,3,4] [2,3,4]) (λu=>by kernel_rfl) (aO L R H (mQ l3))
abbrev afZ:=λS L R H d (o n:Nat) (i:Int)=>(⟨[(0,ap 0),(8,cA 3 o n n),(9,aa n),(10,aa i)],ve S L R H d⟩:ai)
abbrev af0(S:ad)(L:List ByteArray)(R:List Int)(H:List au)(d:aA)(o n:Nat)(i:Int):ai:=⟨[],ve S L R H d⟩
abbrev Ru:=λS L R H d (o n:Nat) (i:Int)=>(⟨[(0,ap 0),(8,cA 3 o n n),(9,aa n),(10,aa i)],ve S L R H d⟩:ai)
theorem af1(S L R H d)(o n:Nat)(i:Int)(pH:(an H).all ag=true){Q:aU}(l3:(decide (i<(↑n:Int)))->ao fK 24 5 (Jh.drop 2) (afZ S L R H d o n i) Q)(l4:(decide (i<(↑n:Int)))=false->Q (.exit 0) (af0 S L R H d o n i)):ao fK 24 5 Jh (Ru S L R H d o n i) Q:=
 aV bp 2 (.fork 0 (.leaf [0,8,9,10] [0,1,2,3,4] [2,3,4]) (.leaf [] [0,1,2,3,4] [2,3,4])) (λu=>by kernel_rfl) (mF (c:=decide (i<(↑n:Int))) (λh0=>(aO L R H (mQ (l3 h0)))) (λh0=>(aO L R H (mE 0 (l4 h0)))))
abbrev CX:=λS L R H d (o n:Nat) (i:Int)=>(⟨[(4,aa (KM (dZ d (av (ay R) (o+m5 i*1)))))],[ab (aL S 1 2 3 4) 89,.abs (arQ (dZ d (av (ay R) (o+m5 i*1)))),ab (ah L) 9,ab (ay R) 3,ab (an H) 114]⟩:ai)
theorem af2(S L R H d)(o n:Nat)(i:Int){Q:bu}(hq:Q (.ret (aa (KM (dZ d (av (ay R) (o+m5 i*1)))))) [ab (aL S 1 2 3 4) 89,.abs (arQ (dZ d (av (ay R) (o+m5 i*1)))),ab (ah L) 9,ab (ay R) 3,ab (an H) 114]):aG fK 78 24 5 Q .ret (CX S L R H d o n i):=aG.ret (vs:=[aa (KM (dZ d (av (ay R) (o+m5 i*1))))]) (l:=[]) (bs:=[0,1,2,3,4]) (pl:=[2,3,4]) (q:=[ah L,ay R,an H]) (λu=>by kernel_rfl) (by kernel_rfl) (ia L R H be) hq
abbrev Rv:=λS L R H d (o n:Nat) (i:Int)=>(⟨[(0,ap 0),(8,cA 3 o n n),(9,aa n),(10,.int .i64 (m6 .i64 (i+1)))],[ab (aL S 1 2 3 4) 89,.abs (arQ (dZ d (av (ay R) (o+m5 i*1)))),ab (ah L) 9,ab (ay R) 3,ab (an H) 114]⟩:ai)
theorem af3(S L R H d)(o n:Nat)(i:Int)(pH:(an H).all ag=true)(h0:0<=i)(h1:i<n)(h2:n<=1000000)(h3:m6 .i64 (i+1)=i+1){Q:aU}(n0:(cP Ul (ay R) (o+m5 i*1)))(n1:(oS d))(l5:(KM (dZ d (av (ay R) (o+m5 i*1))) != 0)->Q .ret (CX S L R H d o n i))(l6:(KM (dZ d (av (ay R) (o+m5 i*1))) != 0)=false->Q .normal (Rv S L R H d o n i)):ao fK 24 5 (Jh.drop 2) (Ru S L R H d o n i) Q:=
 aV afV 1000 (aB [0,1,1,0,1,5] (.fork 0 (.leaf [4] [0,1,2,3,4] [2,3,4]) (.leaf [0,8,9,10] [0,1,2,3,4] [2,3,4]))) (λu=>by kernel_rfl) (mN (decide_eq_true (by omega):(decide (0<=i))=true) (mN (show(arF (m5 i) n)=true by simp at pH h0 h1 h2 h3⊢ <;>omega) (mN n0 (mN n1 (mF (c:=KM (dZ d (av (ay R) (o+m5 i*1))) != 0) (λh0=>(aO L R H (mR (l5 h0)))) (λh0=>(aO L R H (mQ (ao.done (by kernel_rfl) (l6 h0))))))))))
abbrev Ji:=λS L R H d (o n:Nat)=>(⟨[(4,aa 0)],ve S L R H d⟩:ai)
theorem af4(S L R H d)(o n:Nat){Q:bu}(hq:Q (.ret (aa 0)) (Ji S L R H d o n).objs):aG fK 78 24 5 Q .ret (Ji S L R H d o n):=aG.ret (vs:=[aa 0]) (l:=[]) (bs:=[0,1,2,3,4]) (pl:=[2,3,4]) (q:=[ah L,ay R,an H]) (λu=>by kernel_rfl) (by kernel_rfl) (ia L R H be) hq
abbrev af5(S:ad)(L:List ByteArray)(R:List Int)(H:List au)(d:aA)(o n:Nat):ai:=⟨[],ve S L R H d⟩
theorem af6(S L R H d)(o n:Nat)(pH:(an H).all ag=true){Q:aU}(l3:Q .ret (Ji S L R H d o n)):ao fK 24 5 (CW.drop 3) (af5 S L R H d o n) Q:=
 aV bp 1000 (.leaf [4] [0,1,2,3,4] [2,3,4]) (λu=>by kernel_rfl) (aO L R H (mR l3))
abbrev Rw:=λS L R H d Hc (o:Nat)=>(⟨[(4,aa 0)],[ab (aL S 1 2 3 4) 89,.abs (arQ (arQ (aJ d (av Hc (o+0)) (av Hc (o+1)) 65))),ab (ah L) 9,ab (ay R) 3,ab (an H) 114,ab (bc (bc (bc Hc (o+3) [asu (decide (ba (bk (af (KM (aJ d (av Hc (o+0)) (av Hc (o+1)) 65)))) 10 >= 0))]) (o+2) [arS (ar2 (ar6 (asp (ash (cut (af (KM (aJ d (av Hc (o+0)) (av Hc (o+1)) 65))) 0 (m5 (if 0>ba (bk (af (KM (aJ d (av Hc (o+0)) (av Hc (o+1)) 65)))) 10 then 0 else ba (bk (af (KM (aJ d (av Hc (o+0)) (av Hc (o+1)) 65)))) 10)-0)) bytesOf) [])))]) (o+1) [KJ Ul (m6 .i64 (av (bc (bc Hc (o+3) [asu (decide (ba (bk (af (KM (aJ d (av Hc (o+0)) (av Hc (o+1)) 65)))) 10 >= 0))]) (o+2) [arS (ar2 (ar6 (asp (ash (cut (af (KM (aJ d (av Hc (o+0)) (av Hc (o+1)) 65))) 0 (m5 (if 0>ba (bk (af (KM (aJ d (av Hc (o+0)) (av Hc (o+1)) 65)))) 10 then 0 else ba (bk (af (KM (aJ d (av Hc (o+0)) (av Hc (o+1)) 65)))) 10)-0)) bytesOf) [])))]) (o+1)+m6 .i64 (ba (bk (af (KM (aJ d (av Hc (o+0)) (av Hc (o+1)) 65)))) 10+1)))]) 114]⟩:ai)
theorem af7(S L R H d Hc)(o:Nat){Q:bu}(zj:DC (bc (bc (bc Hc (o+3) [asu (decide (ba (bk (af (KM (aJ d (av Hc (o+0)) (av Hc (o+1)) 65)))) 10 >= 0))]) (o+2) [arS (ar2 (ar6 (asp (ash (cut (af (KM (aJ d (av Hc (o+0)) (av Hc (o+1)) 65))) 0 (m5 (if 0>ba (bk (af (KM (aJ d (av Hc (o+0)) (av Hc (o+1)) 65)))) 10 then 0 else ba (bk (af (KM (aJ d (av Hc (o+0)) (av Hc (o+1)) 65)))) 10)-0)) bytesOf) [])))]) (o+1) [KJ Ul (m6 .i64 (av (bc (bc Hc (o+3) [asu (decide (ba (bk (af (KM (aJ d (av Hc (o+0)) (av Hc (o+1)) 65)))) 10 >= 0))]) (o+2) [arS (ar2 (ar6 (asp (ash (cut (af (KM (aJ d (av Hc (o+0)) (av Hc (o+1)) 65))) 0 (m5 (if 0>ba (bk (af (KM (aJ d (av Hc (o+0)) (av Hc (o+1)) 65)))) 10 then 0 else ba (bk (af (KM (aJ d (av Hc (o+0)) (av Hc (o+1)) 65)))) 10)-0)) bytesOf) [])))]) (o+1)+m6 .i64 (ba (bk (af (KM (aJ d (av Hc (o+0)) (av Hc (o+1)) 65)))) 10+1)))]) ag=true)(hq:Q (.ret (aa 0)) [ab (aL S 1 2 3 4) 89,.abs (arQ (arQ (aJ d (av Hc (o+0)) (av Hc (o+1)) 65))),ab (ah L) 9,ab (ay R) 3,ab (an H) 114,ab (bc (bc (bc Hc (o+3) [asu (decide (ba (bk (af (KM (aJ d (av Hc (o+0)) (av Hc (o+1)) 65)))) 10 >= 0))]) (o+2) [arS (ar2 (ar6 (asp (ash (cut (af (KM (aJ d (av Hc (o+0)) (av Hc (o+1)) 65))) 0 (m5 (if 0>ba (bk (af (KM (aJ d (av Hc (o+0)) (av Hc (o+1)) 65)))) 10 then 0 else ba (bk (af (KM (aJ d (av Hc (o+0)) (av Hc (o+1)) 65)))) 10)-0)) bytesOf) [])))]) (o+1) [KJ Ul (m6 .i64 (av (bc (bc Hc (o+3) [asu (decide (ba (bk (af (KM (aJ d (av Hc (o+0)) (av Hc (o+1)) 65)))) 10 >= 0))]) (o+2) [arS (ar2 (ar6 (asp (ash (cut (af (KM (aJ d (av Hc (o+0)) (av Hc (o+1)) 65))) 0 (m5 (if 0>ba (bk (af (KM (aJ d (av Hc (o+0)) (av Hc (o+1)) 65)))) 10 then 0 else ba (bk (af (KM (aJ d (av Hc (o+0)) (av Hc (o+1)) 65)))) 10)-0)) bytesOf) [])))]) (o+1)+m6 .i64 (ba (bk (af (KM (aJ d (av Hc (o+0)) (av Hc (o+1)) 65)))) 10+1)))]) 114]):aG fK 54 51 6 Q .ret (Rw S L R H d Hc o):=aG.ret (vs:=[aa 0]) (l:=[]) (bs:=[0,1,2,3,4,5]) (pl:=[2,3,4,5]) (q:=[ah L,ay R,an H,bc (bc (bc Hc (o+3) [asu (decide (ba (bk (af (KM (aJ d (av Hc (o+0)) (av Hc (o+1)) 65)))) 10 >= 0))]) (o+2) [arS (ar2 (ar6 (asp (ash (cut (af (KM (aJ d (av Hc (o+0)) (av Hc (o+1)) 65))) 0 (m5 (if 0>ba (bk (af (KM (aJ d (av Hc (o+0)) (av Hc (o+1)) 65)))) 10 then 0 else ba (bk (af (KM (aJ d (av Hc (o+0)) (av Hc (o+1)) 65)))) 10)-0)) bytesOf) [])))]) (o+1) [KJ Ul (m6 .i64 (av (bc (bc Hc (o+3) [asu (decide (ba (bk (af (KM (aJ d (av Hc (o+0)) (av Hc (o+1)) 65)))) 10 >= 0))]) (o+2) [arS (ar2 (ar6 (asp (ash (cut (af (KM (aJ d (av Hc (o+0)) (av Hc (o+1)) 65))) 0 (m5 (if 0>ba (bk (af (KM (aJ d (av Hc (o+0)) (av Hc (o+1)) 65)))) 10 then 0 else ba (bk (af (KM (aJ d (av Hc (o+0)) (av Hc (o+1)) 65)))) 10)-0)) bytesOf) [])))]) (o+1)+m6 .i64 (ba (bk (af (KM (aJ d (av Hc (o+0)) (av Hc (o+1)) 65)))) 10+1)))]]) (λu=>by kernel_rfl) (by kernel_rfl) (ia L R H (aD zj be)) hq
abbrev Rx:=λS L R H d Hc (o:Nat)=>(⟨[(4,aa (KM (arQ (aJ d (av Hc (o+0)) (av Hc (o+1)) 65))))],[ab (aL S 1 2 3 4) 89,.abs (arQ (arQ (aJ d (av Hc (o+0)) (av Hc (o+1)) 65))),ab (ah L) 9,ab (ay R) 3,ab (an H) 114,ab Hc 114]⟩:ai)
theorem af8(S L R H d Hc)(o:Nat){Q:bu}(bO:DC Hc ag)(hq:Q (.ret (aa (KM (arQ (aJ d (av Hc (o+0)) (av Hc (o+1)) 65))))) [ab (aL S 1 2 3 4) 89,.abs (arQ (arQ (aJ d (av Hc (o+0)) (av Hc (o+1)) 65))),ab (ah L) 9,ab (ay R) 3,ab (an H) 114,ab Hc 114]):aG fK 54 51 6 Q .ret (Rx S L R H d Hc o):=aG.ret (vs:=[aa (KM (arQ (aJ d (av Hc (o+0)) (av Hc (o+1)) 65)))]) (l:=[]) (bs:=[0,1,2,3,4,5]) (pl:=[2,3,4,5]) (q:=[ah L,ay R,an H,Hc]) (λu=>by kernel_rfl) (by kernel_rfl) (ia L R H (aD bO be)) hq
abbrev af9:=λS L R H d Hc (o:Nat)=>(⟨[(0,ap 0),(1,.pointer (some ⟨5,o,none⟩))],[ab (aL S 1 2 3 4) 89,.abs d,ab (ah L) 9,ab (ay R) 3,ab (an H) 114,ab Hc 114]⟩:ai)
theorem aga(S L R H d)(Hc:List Dy)(o:Nat)(pH:(an H).all ag=true)(pX:Hc.all ag=true)(x0:cP .i64 Hc o=true)(x1:cP .i64 Hc (o+1)=true)(x2:o+4<=(nG Hc)){Q:aU}(n0:(oS d))(n1:(KM (arQ (aJ d (av Hc (o+0)) (av Hc (o+1)) 65))==0)->(zw (af (KM (aJ d (av Hc (o+0)) (av Hc (o+1)) 65))) 5 (DD (KM (aJ d (av Hc (o+0)) (av Hc (o+1)) 65))) (DD (KM (aJ d (av Hc (o+0)) (av Hc (o+1)) 65)))))(n2:(KM (arQ (aJ d (av Hc (o+0)) (av Hc (o+1)) 65))==0)->(arM (m5 (if 0>ba (bk (af (KM (aJ d (av Hc (o+0)) (av Hc (o+1)) 65)))) 10 then 0 else ba (bk (af (KM (aJ d (av Hc (o+0)) (av Hc (o+1)) 65)))) 10)) (DD (KM (aJ d (av Hc (o+0)) (av Hc (o+1)) 65)))))(n3:(KM (arQ (aJ d (av Hc (o+0)) (av Hc (o+1)) 65))==0)->(at3 (ash (cut (af (KM (aJ d (av Hc (o+0)) (av Hc (o+1)) 65))) 0 (m5 (if 0>ba (bk (af (KM (aJ d (av Hc (o+0)) (av Hc (o+1)) 65)))) 10 then 0 else ba (bk (af (KM (aJ d (av Hc (o+0)) (av Hc (o+1)) 65)))) 10)-0)) bytesOf)))(n4:(KM (arQ (aJ d (av Hc (o+0)) (av Hc (o+1)) 65))==0)->(arM (o+2+1) (nG (bc Hc (o+3) [asu (decide (ba (bk (af (KM (aJ d (av Hc (o+0)) (av Hc (o+1)) 65)))) 10 >= 0))]))))(n5:(KM (arQ (aJ d (av Hc (o+0)) (av Hc (o+1)) 65))==0)->(cP Ul (bc (bc Hc (o+3) [asu (decide (ba (bk (af (KM (aJ d (av Hc (o+0)) (av Hc (o+1)) 65)))) 10 >= 0))]) (o+2) [arS (ar2 (ar6 (asp (ash (cut (af (KM (aJ d (av Hc (o+0)) (av Hc (o+1)) 65))) 0 (m5 (if 0>ba (bk (af (KM (aJ d (av Hc (o+0)) (av Hc (o+1)) 65)))) 10 then 0 else ba (bk (af (KM (aJ d (av Hc (o+0)) (av Hc (o+1)) 65)))) 10)-0)) bytesOf) [])))]) (o+1)))(n6:(KM (arQ (aJ d (av Hc (o+0)) (av Hc (o+1)) 65))==0)->(arM (o+1+1) (nG (bc (bc Hc (o+3) [asu (decide (ba (bk (af (KM (aJ d (av Hc (o+0)) (av Hc (o+1)) 65)))) 10 >= 0))]) (o+2) [arS (ar2 (ar6 (asp (ash (cut (af (KM (aJ d (av Hc (o+0)) (av Hc (o+1)) 65))) 0 (m5 (if 0>ba (bk (af (KM (aJ d (av Hc (o+0)) (av Hc (o+1)) 65)))) 10 then 0 else ba (bk (af (KM (aJ d (av Hc (o+0)) (av Hc (o+1)) 65)))) 10)-0)) bytesOf) [])))]))))(aY:DC (ah L) ag)(bh:DC (ay R) ag)(bT:DC (an H) ag)(jJ:(KM (arQ (aJ d (av Hc (o+0)) (av Hc (o+1)) 65))==0)->Q .ret (Rw S L R H d Hc o))(bO:DC Hc ag)(kH:(KM (arQ (aJ d (av Hc (o+0)) (av Hc (o+1)) 65))==0)=false->Q .ret (Rx S L R H d Hc o)):ao fK 51 6 Rp (af9 S L R H d Hc o) Q:=
 aV Ro 1000 (aB [2,1,0,1,3] (.fork 0 (aB [1,5,1,1,0,1,2,1,3,0,1,0,1,0,1,0,1] (.leaf [4] [0,1,2,3,4,5] [2,3,4,5])) (aB [1] (.leaf [4] [0,1,2,3,4,5] [2,3,4,5])))) (λu=>by kernel_rfl) (mN (show(cP Ul Hc (o+0))=true by assumption) (mN (show(cP Ul Hc (o+1))=true by assumption) (mN n0 (mF (c:=KM (arQ (aJ d (av Hc (o+0)) (av Hc (o+1)) 65))==0) (λh0=>(Rs 2 (aE (KM (aJ d (av Hc (o+0)) (av Hc (o+1)) 65))) (mN (n1 h0) (mN (aE (KM (aJ d (av Hc (o+0)) (av Hc (o+1)) 65))) (mN (show(arM (o+3+1) (nG Hc))=true by simp at pH pX x0 x1 x2 h0⊢ <;>omega) (mN (decide_eq_true (by omega):(decide (0<=if 0>ba (bk (af (KM (aJ d (av Hc (o+0)) (av Hc (o+1)) 65)))) 10 then 0 else ba (bk (af (KM (aJ d (av Hc (o+0)) (av Hc (o+1)) 65)))) 10))=true) (mN (n2 h0) (mN (n3 h0) (mN (n4 h0) (mN (n5 h0) (mN (n6 h0) (aO L R H (mN (show(DC (bc (bc (bc Hc (o+3) [asu (decide (ba (bk (af (KM (aJ d (av Hc (o+0)) (av Hc (o+1)) 65)))) 10 >= 0))]) (o+2) [arS (ar2 (ar6 (asp (ash (cut (af (KM (aJ d (av Hc (o+0)) (av Hc (o+1)) 65))) 0 (m5 (if 0>ba (bk (af (KM (aJ d (av Hc (o+0)) (av Hc (o+1)) 65)))) 10 then 0 else ba (bk (af (KM (aJ d (av Hc (o+0)) (av Hc (o+1)) 65)))) 10)-0)) bytesOf) [])))]) (o+1) [KJ Ul (m6 .i64 (av (bc (bc Hc (o+3) [asu (decide (ba (bk (af (KM (aJ d (av Hc (o+0)) (av Hc (o+1)) 65)))) 10 >= 0))]) (o+2) [arS (ar2 (ar6 (asp (ash (cut (af (KM (aJ d (av Hc (o+0)) (av Hc (o+1)) 65))) 0 (m5 (if 0>ba (bk (af (KM (aJ d (av Hc (o+0)) (av Hc (o+1)) 65)))) 10 then 0 else ba (bk (af (KM (aJ d (av Hc (o+0)) (av Hc (o+1)) 65)))) 10)-0)) bytesOf) [])))]) (o+1)+m6 .i64 (ba (bk (af (KM (aJ d (av Hc (o+0)) (av Hc (o+1)) 65)))) 10+1)))]) ag)=true by exact iH (iH (iH (by assumption) rfl _) rfl _) rfl _) (mR (jJ h0))))))))))))))) (λh0=>(mN (show(KM (arQ (aJ d (av Hc (o+0)) (av Hc (o+1)) 65)) != 0)=true by simp at pH pX x0 x1 x2 h0⊢ <;>omega) (aO L R H (mN bO (mR (kH h0))))))))))
abbrev Ry:=λS L R d Hc (o:Nat)=>(⟨[(4,aa 0)],[ab (aL S 1 2 3 4) 89,.abs (arQ (arQ (aJ d (av Hc (o+0)) (av Hc (o+1)) 65))),ab (ah L) 9,ab (ay R) 3,ab (bc (bc (bc Hc (o+3) [asu (decide (ba (bk (af (KM (aJ d (av Hc (o+0)) (av Hc (o+1)) 65)))) 10 >= 0))]) (o+2) [arS (ar2 (ar6 (asp (ash (cut (af (KM (aJ d (av Hc (o+0)) (av Hc (o+1)) 65))) 0 (m5 (if 0>ba (bk (af (KM (aJ d (av Hc (o+0)) (av Hc (o+1)) 65)))) 10 then 0 else ba (bk (af (KM (aJ d (av Hc (o+0)) (av Hc (o+1)) 65)))) 10)-0)) bytesOf) [])))]) (o+1) [KJ Ul (m6 .i64 (av (bc (bc Hc (o+3) [asu (decide (ba (bk (af (KM (aJ d (av Hc (o+0)) (av Hc (o+1)) 65)))) 10 >= 0))]) (o+2) [arS (ar2 (ar6 (asp (ash (cut (af (KM (aJ d (av Hc (o+0)) (av Hc (o+1)) 65))) 0 (m5 (if 0>ba (bk (af (KM (aJ d (av Hc (o+0)) (av Hc (o+1)) 65)))) 10 then 0 else ba (bk (af (KM (aJ d (av Hc (o+0)) (av Hc (o+1)) 65)))) 10)-0)) bytesOf) [])))]) (o+1)+m6 .i64 (ba (bk (af (KM (aJ d (av Hc (o+0)) (av Hc (o+1)) 65)))) 10+1)))]) 114]⟩:ai)
theorem agb(S L R d Hc)(o:Nat){Q:bu}(lW:DC (bc (bc (bc Hc (o+3) [asu (decide (ba (bk (af (KM (aJ d (av Hc (o+0)) (av Hc (o+1)) 65)))) 10 >= 0))]) (o+2) [arS (ar2 (ar6 (asp (ash (cut (af (KM (aJ d (av Hc (o+0)) (av Hc (o+1)) 65))) 0 (m5 (if 0>ba (bk (af (KM (aJ d (av Hc (o+0)) (av Hc (o+1)) 65)))) 10 then 0 else ba (bk (af (KM (aJ d (av Hc (o+0)) (av Hc (o+1)) 65)))) 10)-0)) bytesOf) [])))]) (o+1) [KJ Ul (m6 .i64 (av (bc (bc Hc (o+3) [asu (decide (ba (bk (af (KM (aJ d (av Hc (o+0)) (av Hc (o+1)) 65)))) 10 >= 0))]) (o+2) [arS (ar2 (ar6 (asp (ash (cut (af (KM (aJ d (av Hc (o+0)) (av Hc (o+1)) 65))) 0 (m5 (if 0>ba (bk (af (KM (aJ d (av Hc (o+0)) (av Hc (o+1)) 65)))) 10 then 0 else ba (bk (af (KM (aJ d (av Hc (o+0)) (av Hc (o+1)) 65)))) 10)-0)) bytesOf) [])))]) (o+1)+m6 .i64 (ba (bk (af (KM (aJ d (av Hc (o+0)) (av Hc (o+1)) 65)))) 10+1)))]) ag=true)(hq:Q (.ret (aa 0)) [ab (aL S 1 2 3 4) 89,.abs (arQ (arQ (aJ d (av Hc (o+0)) (av Hc (o+1)) 65))),ab (ah L) 9,ab (ay R) 3,ab (bc (bc (bc Hc (o+3) [asu (decide (ba (bk (af (KM (aJ d (av Hc (o+0)) (av Hc (o+1)) 65)))) 10 >= 0))]) (o+2) [arS (ar2 (ar6 (asp (ash (cut (af (KM (aJ d (av Hc (o+0)) (av Hc (o+1)) 65))) 0 (m5 (if 0>ba (bk (af (KM (aJ d (av Hc (o+0)) (av Hc (o+1)) 65)))) 10 then 0 else ba (bk (af (KM (aJ d (av Hc (o+0)) (av Hc (o+1)) 65)))) 10)-0)) bytesOf) [])))]) (o+1) [KJ Ul (m6 .i64 (av (bc (bc Hc (o+3) [asu (decide (ba (bk (af (KM (aJ d (av Hc (o+0)) (av Hc (o+1)) 65)))) 10 >= 0))]) (o+2) [arS (ar2 (ar6 (asp (ash (cut (af (KM (aJ d (av Hc (o+0)) (av Hc (o+1)) 65))) 0 (m5 (if 0>ba (bk (af (KM (aJ d (av Hc (o+0)) (av Hc (o+1)) 65)))) 10 then 0 else ba (bk (af (KM (aJ d (av Hc (o+0)) (av Hc (o+1)) 65)))) 10)-0)) bytesOf) [])))]) (o+1)+m6 .i64 (ba (bk (af (KM (aJ d (av Hc (o+0)) (av Hc (o+1)) 65)))) 10+1)))]) 114]):aG fK 54 51 5 Q .ret (Ry S L R d Hc o):=aG.ret (vs:=[aa 0]) (l:=[]) (bs:=[0,1,2,3,4]) (pl:=[2,3,4]) (q:=[ah L,ay R,bc (bc (bc Hc (o+3) [asu (decide (ba (bk (af (KM (aJ d (av Hc (o+0)) (av Hc (o+1)) 65)))) 10 >= 0))]) (o+2) [arS (ar2 (ar6 (asp (ash (cut (af (KM (aJ d (av Hc (o+0)) (av Hc (o+1)) 65))) 0 (m5 (if 0>ba (bk (af (KM (aJ d (av Hc (o+0)) (av Hc (o+1)) 65)))) 10 then 0 else ba (bk (af (KM (aJ d (av Hc (o+0)) (av Hc (o+1)) 65)))) 10)-0)) bytesOf) [])))]) (o+1) [KJ Ul (m6 .i64 (av (bc (bc Hc (o+3) [asu (decide (ba (bk (af (KM (aJ d (av Hc (o+0)) (av Hc (o+1)) 65)))) 10 >= 0))]) (o+2) [arS (ar2 (ar6 (asp (ash (cut (af (KM (aJ d (av Hc (o+0)) (av Hc (o+1)) 65))) 0 (m5 (if 0>ba (bk (af (KM (aJ d (av Hc (o+0)) (av Hc (o+1)) 65)))) 10 then 0 else ba (bk (af (KM (aJ d (av Hc (o+0)) (av Hc (o+1)) 65)))) 10)-0)) bytesOf) [])))]) (o+1)+m6 .i64 (ba (bk (af (KM (aJ d (av Hc (o+0)) (av Hc (o+1)) 65)))) 10+1)))]]) (λu=>by kernel_rfl) (by kernel_rfl) (aD (aW L) (aD (aS R) (aD lW be))) hq
abbrev Rz:=λS L R d Hc (o:Nat)=>(⟨[(4,aa (KM (arQ (aJ d (av Hc (o+0)) (av Hc (o+1)) 65))))],[ab (aL S 1 2 3 4) 89,.abs (arQ (arQ (aJ d (av Hc (o+0)) (av Hc (o+1)) 65))),ab (ah L) 9,ab (ay R) 3,ab Hc 114]⟩:ai)
theorem agc(S L R d Hc)(o:Nat){Q:bu}(bT:DC Hc ag)(hq:Q (.ret (aa (KM (arQ (aJ d (av Hc (o+0)) (av Hc (o+1)) 65))))) [ab (aL S 1 2 3 4) 89,.abs (arQ (arQ (aJ d (av Hc (o+0)) (av Hc (o+1)) 65))),ab (ah L) 9,ab (ay R) 3,ab Hc 114]):aG fK 54 51 5 Q .ret (Rz S L R d Hc o):=aG.ret (vs:=[aa (KM (arQ (aJ d (av Hc (o+0)) (av Hc (o+1)) 65)))]) (l:=[]) (bs:=[0,1,2,3,4]) (pl:=[2,3,4]) (q:=[ah L,ay R,Hc]) (λu=>by kernel_rfl) (by kernel_rfl) (aD (aW L) (aD (aS R) (aD bT be))) hq
abbrev agd:=λS L R d Hc (o:Nat)=>(⟨[(0,ap 0),(1,.pointer (some ⟨4,o,none⟩))],[ab (aL S 1 2 3 4) 89,.abs d,ab (ah L) 9,ab (ay R) 3,ab Hc 114]⟩:ai)
theorem age(S L R d)(Hc:List Dy)(o:Nat)(pX:Hc.all ag=true)(x0:cP .i64 Hc o=true)(x1:cP .i64 Hc (o+1)=true)(x2:o+4<=(nG Hc)){Q:aU}(n0:(oS d))(n1:(KM (arQ (aJ d (av Hc (o+0)) (av Hc (o+1)) 65))==0)->(zw (af (KM (aJ d (av Hc (o+0)) (av Hc (o+1)) 65))) 5 (DD (KM (aJ d (av Hc (o+0)) (av Hc (o+1)) 65))) (DD (KM (aJ d (av Hc (o+0)) (av Hc (o+1)) 65)))))(n2:(KM (arQ (aJ d (av Hc (o+0)) (av Hc (o+1)) 65))==0)->(arM (m5 (if 0>ba (bk (af (KM (aJ d (av Hc (o+0)) (av Hc (o+1)) 65)))) 10 then 0 else ba (bk (af (KM (aJ d (av Hc (o+0)) (av Hc (o+1)) 65)))) 10)) (DD (KM (aJ d (av Hc (o+0)) (av Hc (o+1)) 65)))))(n3:(KM (arQ (aJ d (av Hc (o+0)) (av Hc (o+1)) 65))==0)->(at3 (ash (cut (af (KM (aJ d (av Hc (o+0)) (av Hc (o+1)) 65))) 0 (m5 (if 0>ba (bk (af (KM (aJ d (av Hc (o+0)) (av Hc (o+1)) 65)))) 10 then 0 else ba (bk (af (KM (aJ d (av Hc (o+0)) (av Hc (o+1)) 65)))) 10)-0)) bytesOf)))(n4:(KM (arQ (aJ d (av Hc (o+0)) (av Hc (o+1)) 65))==0)->(arM (o+2+1) (nG (bc Hc (o+3) [asu (decide (ba (bk (af (KM (aJ d (av Hc (o+0)) (av Hc (o+1)) 65)))) 10 >= 0))]))))(n5:(KM (arQ (aJ d (av Hc (o+0)) (av Hc (o+1)) 65))==0)->(cP Ul (bc (bc Hc (o+3) [asu (decide (ba (bk (af (KM (aJ d (av Hc (o+0)) (av Hc (o+1)) 65)))) 10 >= 0))]) (o+2) [arS (ar2 (ar6 (asp (ash (cut (af (KM (aJ d (av Hc (o+0)) (av Hc (o+1)) 65))) 0 (m5 (if 0>ba (bk (af (KM (aJ d (av Hc (o+0)) (av Hc (o+1)) 65)))) 10 then 0 else ba (bk (af (KM (aJ d (av Hc (o+0)) (av Hc (o+1)) 65)))) 10)-0)) bytesOf) [])))]) (o+1)))(n6:(KM (arQ (aJ d (av Hc (o+0)) (av Hc (o+1)) 65))==0)->(arM (o+1+1) (nG (bc (bc Hc (o+3) [asu (decide (ba (bk (af (KM (aJ d (av Hc (o+0)) (av Hc (o+1)) 65)))) 10 >= 0))]) (o+2) [arS (ar2 (ar6 (asp (ash (cut (af (KM (aJ d (av Hc (o+0)) (av Hc (o+1)) 65))) 0 (m5 (if 0>ba (bk (af (KM (aJ d (av Hc (o+0)) (av Hc (o+1)) 65)))) 10 then 0 else ba (bk (af (KM (aJ d (av Hc (o+0)) (av Hc (o+1)) 65)))) 10)-0)) bytesOf) [])))]))))(aY:DC (ah L) ag)(bh:DC (ay R) ag)(l9:(KM (arQ (aJ d (av Hc (o+0)) (av Hc (o+1)) 65))==0)->Q .ret (Ry S L R d Hc o))(bT:DC Hc ag)(iJ:(KM (arQ (aJ d (av Hc (o+0)) (av Hc (o+1)) 65))==0)=false->Q .ret (Rz S L R d Hc o)):ao fK 51 5 Rp (agd S L R d Hc o) Q:=
 aV Ro 1000 (aB [2,1,0,1,3] (.fork 0 (aB [1,5,1,1,0,1,2,1,3,0,1,0,1,0,1,0,1] (.leaf [4] [0,1,2,3,4] [2,3,4])) (aB [1] (.leaf [4] [0,1,2,3,4] [2,3,4])))) (λu=>by kernel_rfl) (mN (show(cP Ul Hc (o+0))=true by assumption) (mN (show(cP Ul Hc (o+1))=true by assumption) (mN n0 (mF (c:=KM (arQ (aJ d (av Hc (o+0)) (av Hc (o+1)) 65))==0) (λh0=>(Rs 2 (aE (KM (aJ d (av Hc (o+0)) (av Hc (o+1)) 65))) (mN (n1 h0) (mN (aE (KM (aJ d (av Hc (o+0)) (av Hc (o+1)) 65))) (mN (show(arM (o+3+1) (nG Hc))=true by simp at pX x0 x1 x2 h0⊢ <;>omega) (mN (decide_eq_true (by omega):(decide (0<=if 0>ba (bk (af (KM (aJ d (av Hc (o+0)) (av Hc (o+1)) 65)))) 10 then 0 else ba (bk (af (KM (aJ d (av Hc (o+0)) (av Hc (o+1)) 65)))) 10))=true) (mN (n2 h0) (mN (n3 h0) (mN (n4 h0) (mN (n5 h0) (mN (n6 h0) (mN (aW L) (mN (aS R) (mN (show(DC (bc (bc (bc Hc (o+3) [asu (decide (ba (bk (af (KM (aJ d (av Hc (o+0)) (av Hc (o+1)) 65)))) 10 >= 0))]) (o+2) [arS (ar2 (ar6 (asp (ash (cut (af (KM (aJ d (av Hc (o+0)) (av Hc (o+1)) 65))) 0 (m5 (if 0>ba (bk (af (KM (aJ d (av Hc (o+0)) (av Hc (o+1)) 65)))) 10 then 0 else ba (bk (af (KM (aJ d (av Hc (o+0)) (av Hc (o+1)) 65)))) 10)-0)) bytesOf) [])))]) (o+1) [KJ Ul (m6 .i64 (av (bc (bc Hc (o+3) [asu (decide (ba (bk (af (KM (aJ d (av Hc (o+0)) (av Hc (o+1)) 65)))) 10 >= 0))]) (o+2) [arS (ar2 (ar6 (asp (ash (cut (af (KM (aJ d (av Hc (o+0)) (av Hc (o+1)) 65))) 0 (m5 (if 0>ba (bk (af (KM (aJ d (av Hc (o+0)) (av Hc (o+1)) 65)))) 10 then 0 else ba (bk (af (KM (aJ d (av Hc (o+0)) (av Hc (o+1)) 65)))) 10)-0)) bytesOf) [])))]) (o+1)+m6 .i64 (ba (bk (af (KM (aJ d (av Hc (o+0)) (av Hc (o+1)) 65)))) 10+1)))]) ag)=true by exact iH (iH (iH (by assumption) rfl _) rfl _) rfl _) (mR (l9 h0)))))))))))))))) (λh0=>(mN (show(KM (arQ (aJ d (av Hc (o+0)) (av Hc (o+1)) 65)) != 0)=true by simp at pX x0 x1 x2 h0⊢ <;>omega) (mN (aW L) (mN (aS R) (mN bT (mR (iJ h0)))))))))))
end
theorem xe{H:List au}{k:Nat}(h:k<H.length):H[k]?=some (aK H k):=by
 unfold aK
 rw[List.getD_eq_getElem?_getD,KH h]
 rfl
theorem tm{H:List au}{k:Nat}(h:k<H.length):aK H k∈H:=List.mem_of_getElem? (xe h)
theorem CY(d:aA):∀(H:List au) (k:Nat) (h:au),k<H.length->dx d (H.set k h)+eY d (aK H k)=dx d H+eY d h
 | [],k,h,hk=>by cases hk
 |x::H,0,h,hk=>by
  show eY d h+dx d H+eY d x=eY d x+dx d H+eY d h
  omega
 |x::H,k+1,h,hk=>by
  have:=CY d H k h (Nat.lt_of_succ_lt_succ hk)
  show eY d x+dx d (H.set k h)+eY d (aK H k)=eY d x+dx d H+eY d h
  omega
structure tp(no:Int)(F:Nat)(H:List au)(d:aA):Prop where
 cL:ct d
 ok:∀h∈H,pP h/\h.no≠no
 bR:cg d no+dx d H<=F
theorem tp.write{no:Int}{F:Nat}{H:List au}{d:aA}(hm:tp no F H d)(hF:F<=1000000){k:Nat}(hk:k<H.length)(ht:(aK H k).there=true):
 ct (bP d no (bM (aK H k).line)).2/\(∀f,fileOf d.files no=some f->f.size+(bM (aK H k).line).size<=1000000)/\
 cg (bP d no (bM (aK H k).line)).2 no<=cg d no+((aK H k).line.size+1)/\(aK H k).line.size+1<=dx d H:=by
 have h1:eY d (aK H k)<=dx d H:=by
  have key:∀(l:List au),aK H k∈l->eY d (aK H k)<=dx d l:=by
   intro l
   induction l with
   |nil=>intro h;cases h
   |cons x l ih=>
    intro h
    show _<=eY d x+dx d l
    rcases List.mem_cons.1 h with h|h
    ·rw[h];omega
    ·have:=ih h;omega
  exact key H (tm hk)
 have h2:(aK H k).line.size+1<=eY d (aK H k):=by
  unfold eY tl
  rw[ht,if_pos rfl]
  omega
 have hf:=hm.bR
 have hs:∀f,fileOf d.files no=some f->f.size+(bM (aK H k).line).size<=1000000:=λf e=>by
  have:cg d no=f.size:=by unfold cg;rw[e];rfl
  rw[lH]
  omega
 refine⟨hm.cL.write hs,hs,?_,by omega⟩
 have:=Rl d no (bM (aK H k).line)
 rw[lH]at this
 exact this
theorem tp.next{no:Int}{F:Nat}{H:List au}{d:aA}(hm:tp no F H d)(hF:F<=1000000){k:Nat}(hk:k<H.length)(ht:(aK H k).there=true)
 (hr:(bE (aK H k) (bP d no (bM (aK H k).line)).2).1=0):
 tp no F (H.set k (bE (aK H k) (bP d no (bM (aK H k).line)).2).2.1) (bE (aK H k) (bP d no (bM (aK H k).line)).2).2.2/\
 dx (bE (aK H k) (bP d no (bM (aK H k).line)).2).2.2 (H.set k (bE (aK H k) (bP d no (bM (aK H k).line)).2).2.1)<dx d H:=by
 obtain⟨w1,w2,w3,w4⟩:=hm.write hF hk ht
 generalize lY:(bP d no (bM (aK H k).line)).2=d1 at*
 have zA:∀m,m≠no->cg d1 m=cg d m:=λm h=>by rw[<-lY];exact Jg d _ h
 obtain⟨r1,r2,r3⟩:=zy w1 hr
 obtain⟨f1,f2,f3⟩:=zx (aK H k) d1
 have hok:=hm.ok _ (tm hk)
 have fk:=hok.2
 have xf:tl (aK H k)=(aK H k).line.size+1:=by unfold tl;rw[ht];rfl
 have jG:dx d1 H=dx d H:=by
  have key:∀l:List au,(∀h∈l,h.no≠no)->dx d1 l=dx d l:=by
   intro l
   induction l with
   |nil=>intro _;rfl
   |cons x l ih=>
    intro h
    show eY d1 x+dx d1 l=eY d x+dx d l
    rw[ih λy hy=>h y (arG _ hy)]
    unfold eY
    rw[zA _ (h x arH)]
  exact key H λh hh=>(hm.ok h hh).2
 have AZ:=CY d1 H k (bE (aK H k) d1).2.1 hk
 have aqx:eY d1 (aK H k)=cg d1 (aK H k).no-(aK H k).at_.toNat+((aK H k).line.size+1):=by unfold eY;rw[xf]
 have aqy:eY d1 (bE (aK H k) d1).2.1=cg d1 (aK H k).no-(aK H k).at_.toNat:=by unfold eY;rw[r1];exact r3
 have kn:dx (bE (aK H k) d1).2.2 (H.set k (bE (aK H k) d1).2.1)=dx d1 (H.set k (bE (aK H k) d1).2.1):=CS f1 _
 have hf:=hm.bR
 refine⟨⟨w1.bE _,λh hh=>?_,?_⟩,?_⟩
 ·rcases List.mem_or_eq_of_mem_set hh with hh|rfl
  ·exact hm.ok h hh
  ·exact⟨r2,by rw[r1];exact fk⟩
 ·rw[rP f1,kn]
  omega
 ·rw[kn]
  omega
theorem RA(f:Bool)(no:Int):∀(n F:Nat) (H:List au) (d:aA),F<=1000000->tp no F H d->ct (jU f no n H d).2/\(jU f no n H d).2.made=d.made/\cg (jU f no n H d).2 no<=F/\∀m,m≠no->cg (jU f no n H d).2 m=cg d m
 |0,F,H,d,hF,hm=>⟨hm.cL,rfl,by have:=hm.bR;show cg d no<=F;omega,λm _=>rfl⟩
 |n+1,F,H,d,hF,hm=>by
  unfold jU
  cases hk:eo f H with
  |none=>exact⟨hm.cL,rfl,by have:=hm.bR;show cg d no<=F;omega,λm _=>rfl⟩
  |some k=>
   obtain⟨k1,k2⟩:=vd hk
   obtain⟨w1,w2,w3,w4⟩:=hm.write hF k1 k2
   have zA:∀m,m≠no->cg (bP d no (bM (aK H k).line)).2 m=cg d m:=λm h=>Jg d _ h
   have Jj:=I7 d no (bM (aK H k).line)
   have hf:=hm.bR
   dsimp only
   split
   ·exact⟨w1,Jj,by omega,zA⟩
   obtain⟨f1,f2,f3⟩:=zx (aK H k) (bP d no (bM (aK H k).line)).2
   split
   ·exact⟨w1.bE _,f2.trans Jj,by rw[rP f1];omega,λm h=>by rw[rP f1];exact zA m h⟩
   ·rename_i hr
    obtain⟨n1,_⟩:=hm.next hF k1 k2 (ate.1 hr)
    obtain⟨g1,g2,g3,g4⟩:=RA f no n F _ _ hF n1
    exact⟨g1,g2.trans (f2.trans Jj),g3,λm h=>by rw[g4 m h,rP f1];exact zA m h⟩
theorem CZ{d:aA}(h:(bj d).2.1=0):(bj d).1=(d.made:Int)+1:=by
 unfold bj at h⊢
 split at h
 ·cases h
 ·rename_i h1
  rw[if_neg h1]
  split at h
  ·rename_i h2;exact absurd h h2
  ·rename_i h2
   rw[if_neg h2]
theorem Jk(d:aA)(m:Int)(hm:m<=d.made):cg (bj d).2.2 m=cg d m:=by
 unfold bj
 split
 ·rfl
 split
 ·rfl
 ·unfold cg fileOf
  show((awe _ (d.files++[_])).map _|>.map _).getD 0=_
  rw[List.find?_append]
  have:(awe (λp:Nat×ByteArray=>(p.1:Int)==m) [(d.made+1,KI)])=none:=by
   rw[List.find?_eq_none]
   intro p hp
   rw[List.mem_singleton.1 hp]
   simp only[beq_iff_eq]
   omega
  rw[this,Option.or_none]
theorem RB{d:aA}(hd:ct d)(h:(bj d).2.1=0):cg (bj d).2.2 (bj d).1=0:=by
 unfold cg
 rw[zu hd h]
 rfl
structure jr(d:aA)(l:List Int):Prop where
 cL:ct d
 old:∀r∈l,r<=d.made
 bR:eO d l<=1000000
theorem jr.opened{d:aA}{l:List Int}(h:jr d l)(he:(bj d).2.1=0)(ho:(dB l [] (bj d).2.2).1=0):
 tp (bj d).1 (eO d l) (dB l [] (bj d).2.2).2.1 (dB l [] (bj d).2.2).2.2:=by
 have lY:=h.cL.vb
 obtain⟨o1,o2,o3,o4⟩:=vc l [] _ lY
 have dh:=zz l [] [] (bj d).2.2 (bj d).2.2 lY rfl ⟨rfl,λ_ h=>(by cases h),arO _⟩ ho
 rw[asK]at dh
 refine⟨o1,λx hx=>⟨dh.ok x hx,?_⟩,?_⟩
 ·have:x.no∈l:=by rw[<-dh.CU];exact List.mem_map_of_mem hx
  have:=h.old _ this
  rw[CZ he]
  omega
 ·rw[rP o2,RB h.cL he,CS o2]
  have h1:=dh.eY
  have h2:eO (bj d).2.2 l=eO d l:=by
   have key:∀l:List Int,(∀r∈l,r<=d.made)->eO (bj d).2.2 l=eO d l:=by
    intro l
    induction l with
    |nil=>intro _;rfl
    |cons x l ih=>
     intro h
     unfold eO
     rw[ih λy hy=>h y (arG _ hy),Jk d x (h x arH)]
   exact key l h.old
  omega
structure agf(d:aA)(l:List Int)(r:Int×Int×aA):Prop where
 cL:ct r.2.2
 made:d.made<=r.2.2.made
 no:r.2.1=0->r.1=(d.made:Int)+1/\r.2.2.made=d.made+1/\cg r.2.2 r.1<=eO d l
 old:∀m:Int,m<=d.made->cg r.2.2 m<=cg d m
theorem Jl(f:Bool){l:List Int}{d:aA}(h:jr d l):agf d l (gi f l d):=by
 have lY:=h.cL.vb
 have ni:=I9 (d:=d)
 have ir:∀m:Int,m<=d.made->cg (bj d).2.2 m=cg d m:=λm hm=>Jk d m hm
 have dh:=h.opened
 obtain⟨o1,o2,o3,o4⟩:=vc l [] _ lY
 have fk:=CZ (d:=d)
 unfold gi
 generalize bj d=c at*
 obtain⟨no,e,d1⟩:=c
 dsimp only at*
 split
 ·rename_i he
  rw[if_neg he]at ni
  exact⟨lY,by dsimp only;omega,λh=>absurd h he,λm hm=>atA (ir m hm)⟩
 rename_i he
 have he:e=0:=ate.1 he
 rw[if_pos he]at ni
 have dh:=dh he
 have fk:=fk he
 generalize dB l [] d1=q at*
 obtain⟨e2,H,d2⟩:=q
 dsimp only at*
 split
 ·rename_i eH
  exact⟨o1,by dsimp only;omega,λh=>absurd h eH,λm hm=>atA ((rP o2 m).trans (ir m hm))⟩
 rename_i eH
 have dh:=dh (ate.1 eH)
 obtain⟨m1,m2,m3,m4⟩:=RA f no qC (eO d l) H d2 h.bR dh
 generalize jU f no qC H d2=q at*
 obtain⟨e3,d3⟩:=q
 dsimp only at*
 have hold:∀m:Int,m<=d.made->cg d3 m=cg d m:=λm hm=>by rw[m4 m (by omega),rP o2,ir m hm]
 split
 ·rename_i rM
  exact⟨m1,by dsimp only;omega,λh=>absurd h rM,λm hm=>atA (hold m hm)⟩
 obtain⟨g1,g2,g3⟩:=CV l d3 m1
 refine⟨g1,by dsimp only;omega,λ_=>⟨fk,by dsimp only;omega,atW (g3 no) m3⟩,λm hm=>atW (g3 m) (atA (hold m hm))⟩
noncomputable section
def agh(S:ad)(L:List ByteArray)(R:List Int)(H:List au)(d:aA)(no e:Int)(y:au)(dd:aA):List (arY×Sum):=[(54,Sum.one (λ_ _=>some [0,1,2,3,4,6]) [ap 0,ap 5] (aP S L R H d++[ab (la ⟨no,0,KI,false⟩) 114]) (.ret (aa e)) (aP S L R H dd++[ab (la y) 114]))]
theorem agi(S:ad)(L:List ByteArray)(R:List Int)(H:List au)(d:aA)(no e:Int)(y:au)(dd:aA)(cZ:aF fK 54 [ap 0,ap 5] (aP S L R H d++[ab (la ⟨no,0,KI,false⟩) 114]) λr o=>r=.ret (aa e)/\o=aP S L R H dd++[ab (la y) 114]):dD fK (dM fK (dP (agh S L R H d no e y dd)) 50 40):=
 dU dC mixed (ee (.cons (bB.one cZ) .nil)) 50 40
def C0:List ar3:=a7 (dI fK 76)
def vg:List ar3:=a7 (dI fK 53)
open Tree renaming aQ->mN,dE->mF,fj->mL,fY->mQ,dN->mR,gH->mE
abbrev tq:List ar3:=(a7 (inner (a7 (inner (vg.drop 3)))))
abbrev Jm:List ar3:=(a7 (inner (a7 (inner (C0.drop 3)))))
def RC:Nat->Bool->Bool->Tree->Tree
 |0,_,_,t=>t
 |n+1,d,b,t=>.cY d b (RC n d b t)
theorem qD{R:bf->ai->Prop}{c v:Bool}{t:Tree}(n:Nat)(h1:c=v)(h2:t.ok R):(RC n c v t).ok R:=by
 induction n with
 |zero=>exact h2
 |succ n ih=>exact⟨h1,ih⟩
abbrev ma:=λS L R H d=>([ab (aL S 1 2 3 4) 89,.abs d,ab (ah L) 9,ab (ay R) 3,ab (an H) 114]:List ak)
abbrev agj:=λS L R H d (o n:Nat)=>(⟨[(0,ap 0),(6,ci),(11,cA 3 o n n),(12,aa n),(13,aa 0)],ma S L R H d⟩:ai)
abbrev agk:=λS L R H d (o n:Nat)=>(⟨[(0,ap 0),(1,cA 3 o n n)],ma S L R H d⟩:ai)
theorem agl(S L R H d)(o n:Nat)(pH:(an H).all ag=true){Q:aU}(l3:ao fK 30 5 (C0.drop 3) (agj S L R H d o n) Q):ao fK 30 5 C0 (agk S L R H d o n) Q:=
 aV bp 3 (.leaf [0,6,11,12,13] [0,1,2,3,4] [2,3,4]) (λu=>by kernel_rfl) (aO L R H (mQ l3))
abbrev jV:=λS L R H d l=>([ab (aL S 1 2 3 4) 89,.abs d,ab (ah L) 9,ab (ay R) 3,ab (an H) 114,ab (an l) 114]:List ak)
abbrev agm:=λS L R H d l (o n:Nat) (i:Int)=>(⟨[(0,ap 0),(6,aq 5 (nG l)),(11,cA 3 o n n),(12,aa n),(13,aa i)],jV S L R H d l⟩:ai)
abbrev agn:=λS L R H d l (o n:Nat) (i:Int)=>(⟨[(6,aq 5 (nG l))],jV S L R H d l⟩:ai)
abbrev ago:=λS L R H d l (o n:Nat) (i:Int)=>(⟨[(0,ap 0),(6,aq 5 (nG l)),(11,cA 3 o n n),(12,aa n),(13,aa i)],jV S L R H d l⟩:ai)
theorem agp(S L R H d l)(o n:Nat)(i:Int)(pH:(an H).all ag=true)(pL:(an l).all ag=true){Q:aU}(l4:(decide (i<(↑n:Int)))->ao fK 30 5 (Jm.drop 2) (agm S L R H d l o n i) Q)(l5:(decide (i<(↑n:Int)))=false->Q (.exit 0) (agn S L R H d l o n i)):ao fK 30 5 Jm (ago S L R H d l o n i) Q:=
 aV bp 2 (.fork 0 (.leaf [0,6,11,12,13] [0,1,2,3,4,5] [2,3,4,5]) (.leaf [6] [0,1,2,3,4,5] [2,3,4,5])) (λu=>by kernel_rfl) (mF (c:=decide (i<(↑n:Int))) (λh0=>(aO L R H (mN (aZ l) (mQ (l4 h0))))) (λh0=>(aO L R H (mN (aZ l) (mE 0 (l5 h0))))))
abbrev RD:=λS L R H (d:aA) (l:List au) (o n:Nat) (no e:Int) (y:au) dd (i:Int)=>(⟨[(4,ci),(5,aa e)],[ab (aL S 1 2 3 4) 89,.abs dd,ab (ah L) 9,ab (ay R) 3,ab (an H) 114]⟩:ai)
theorem agq(S L R H d l)(o n:Nat)(no e:Int)(y dd)(i:Int){Q:bu}(hq:Q (.ret (.tuple #[ci,aa e])) [ab (aL S 1 2 3 4) 89,.abs dd,ab (ah L) 9,ab (ay R) 3,ab (an H) 114]):aG fK 76 30 5 Q .ret (RD S L R H d l o n no e y dd i):=aG.ret (vs:=[ci,aa e]) (l:=[]) (bs:=[0,1,2,3,4]) (pl:=[2,3,4]) (q:=[ah L,ay R,an H]) (λu=>by kernel_rfl) (by kernel_rfl) (ia L R H be) hq
abbrev RE:=λS L R H (d:aA) l (o n:Nat) (no e:Int) y dd (i:Int)=>(⟨[(0,ap 0),(6,aq 5 (nG l+1)),(11,cA 3 o n n),(12,aa n),(13,.int .i64 (m6 .i64 (i+1)))],[ab (aL S 1 2 3 4) 89,.abs dd,ab (ah L) 9,ab (ay R) 3,ab (an H) 114,ab (an l++[aa (au.no y),aa (au.at_ y),arS (au.line y),asu (au.there y)]) 114]⟩:ai)
abbrev agr:=λS L R H d l (o n:Nat) (no e:Int) (y:au) (dd:aA) (i:Int)=>(⟨[(0,ap 0),(6,aq 5 (nG l)),(11,cA 3 o n n),(12,aa n),(13,aa i)],jV S L R H d l⟩:ai)
theorem ags(S L R H d l)(o n:Nat)(no e:Int)(y dd)(i:Int)(pH:(an H).all ag=true)(pL:(an l).all ag=true)(cZ:aF fK 54 [ap 0,ap 5] (aP S L R H d++[ab (la ⟨no,0,KI,false⟩) 114]) λr o=>r=.ret (aa e)/\o=aP S L R H dd++[ab (la y) 114])(h0:0<=i)(h1:i<n)(h2:n<=1000000)(h3:m6 .i64 (i+1)=i+1)(h4:(nG l)<=1000000){Q:aU}(n0:(cP Ul (ay R) (o+m5 i*1)))(n1:(fZ [ap 0,ap 5] [ap 0,ap 5] [ab (aL S 1 2 3 4) 89,ak.abs d,ab (ah L) 9,ab (ay R) 3,ab (an H) 114,ab [aa (av (ay R) (o+m5 i*1)),aa 0,arS (ar2 #[]),asu false] 114] (aP S L R H d++[ab [aa no,aa 0,arS KI,asu false] 114])))(aY:DC (ah L) ag)(bh:DC (ay R) ag)(bT:DC (an H) ag)(l5:(e != 0)->Q .ret (RD S L R H d l o n no e y dd i))(n6:(e != 0)=false->(arM (nG l+1) 1000000))(n7:(e != 0)=false->(arE (0+nG l*4) (nG (an l))))(l8:(e != 0)=false->Q .normal (RE S L R H d l o n no e y dd i)):ao fK 30 5 (Jm.drop 2) (agr S L R H d l o n no e y dd i) Q:=
 aV (agi S L R H d no e y dd cZ) 1000 (aB [0,1,1,0,1,5,1,1,3,1,1,1] (.fork 1 (.leaf [4,5] [0,1,2,3,4] [2,3,4]) (aB [2,3,5,1] (.leaf [0,6,11,12,13] [0,1,2,3,4,8] [2,3,4,8])))) (λu=>by kernel_rfl) (mN (decide_eq_true (by omega):(decide (0<=i))=true) (mN (show(arF (m5 i) n)=true by simp at pH pL cZ h0 h1 h2 h3 h4⊢ <;>omega) (mN n0 (aO L R H (mN n1 (aO L R H (mF (c:=e != 0) (λh0=>(aO L R H (mR (l5 h0)))) (λh0=>(mN (n6 h0) (mN (kY _:(full (nG l) (nG l))=true) (mN (n7 h0) (aO L R H (mN (show(DC (an l++[aa (au.no y),aa (au.at_ y),arS (au.line y),asu (au.there y)]) ag)=true by exact fO (by assumption) rfl) (mQ (ao.done (by kernel_rfl) (l8 h0))))))))))))))))
abbrev RF:=λS L R H d l=>(⟨[(4,aq 5 (nG l)),(5,aa 0)],jV S L R H d l⟩:ai)
theorem agt(S L R H d l){Q:bu}(hq:Q (.ret (.tuple #[aq 5 (nG l),aa 0])) (jV S L R H d l)):aG fK 76 30 5 Q .ret (RF S L R H d l):=aG.ret (vs:=[aq 5 (nG l),aa 0]) (l:=[]) (bs:=[0,1,2,3,4,5]) (pl:=[2,3,4,5]) (q:=[ah L,ay R,an H,an l]) (λu=>by kernel_rfl) (by kernel_rfl) (ia L R H (aD (aZ l) be)) hq
abbrev agu:=λS L R H d l=>(⟨[(6,aq 5 (nG l))],jV S L R H d l⟩:ai)
theorem agv(S L R H d l)(pH:(an H).all ag=true)(pL:(an l).all ag=true){Q:aU}(l4:Q .ret (RF S L R H d l)):ao fK 30 5 (C0.drop 4) (agu S L R H d l) Q:=
 aV bp 1000 (.leaf [4,5] [0,1,2,3,4,5] [2,3,4,5]) (λu=>by kernel_rfl) (aO L R H (mN (aZ l) (mR l4)))
abbrev agw:=λS L R H d l=>(⟨[(0,ap 0),(1,aq 5 (nG l)),(5,aa (-1)),(8,aq 5 (nG l)),(9,aa (nG l)),(10,aa 0)],jV S L R H d l⟩:ai)
abbrev agx:=λS L R H d l=>(⟨[(0,ap 0),(1,aq 5 (nG l))],jV S L R H d l⟩:ai)
theorem agy(S L R H d l)(pH:(an H).all ag=true)(pL:(an l).all ag=true){Q:aU}(l4:ao fK 36 6 (vg.drop 3) (agw S L R H d l) Q):ao fK 36 6 vg (agx S L R H d l) Q:=
 aV bp 3 (.leaf [0,1,5,8,9,10] [0,1,2,3,4,5] [2,3,4,5]) (λu=>by kernel_rfl) (aO L R H (mN (aZ l) (mQ l4)))
abbrev agz:=λS L R H d l (k i:Int)=>(⟨[(0,ap 0),(1,aq 5 (nG l)),(5,aa k),(8,aq 5 (nG l)),(9,aa (nG l)),(10,aa i)],jV S L R H d l⟩:ai)
abbrev agA:=λS L R H d l (k i:Int)=>(⟨[(5,aa k)],jV S L R H d l⟩:ai)
abbrev agB:=λS L R H d l (k i:Int)=>(⟨[(0,ap 0),(1,aq 5 (nG l)),(5,aa k),(8,aq 5 (nG l)),(9,aa (nG l)),(10,aa i)],jV S L R H d l⟩:ai)
theorem agC(S L R H d l)(k i:Int)(pH:(an H).all ag=true)(pL:(an l).all ag=true){Q:aU}(l4:(decide (i<(↑(nG l):Int)))->ao fK 36 6 (tq.drop 2) (agz S L R H d l k i) Q)(l5:(decide (i<(↑(nG l):Int)))=false->Q (.exit 0) (agA S L R H d l k i)):ao fK 36 6 tq (agB S L R H d l k i) Q:=
 aV bp 2 (.fork 0 (.leaf [0,1,5,8,9,10] [0,1,2,3,4,5] [2,3,4,5]) (.leaf [5] [0,1,2,3,4,5] [2,3,4,5])) (λu=>by kernel_rfl) (mF (c:=decide (i<(↑(nG l):Int))) (λh0=>(aO L R H (mN (aZ l) (mQ (l4 h0))))) (λh0=>(aO L R H (mN (aZ l) (mE 0 (l5 h0))))))
abbrev RG:=λS L R H d l (i:Int)=>(⟨[(0,ap 0),(1,aq 5 (nG l)),(5,aa i),(8,aq 5 (nG l)),(9,aa (nG l)),(10,.int .i64 (m6 .i64 (i+1)))],jV S L R H d l⟩:ai)
abbrev RH:=λS L R H d l (i:Int)=>(⟨[(0,ap 0),(1,aq 5 (nG l)),(5,aa (-1)),(8,aq 5 (nG l)),(9,aa (nG l)),(10,.int .i64 (m6 .i64 (i+1)))],jV S L R H d l⟩:ai)
abbrev agD:=λS L R H d l (i:Int)=>(⟨[(0,ap 0),(1,aq 5 (nG l)),(5,aa (-1)),(8,aq 5 (nG l)),(9,aa (nG l)),(10,aa i)],jV S L R H d l⟩:ai)
theorem agE(S L R H d l)(i:Int)(pH:(an H).all ag=true)(pL:(an l).all ag=true)(h0:0<=i)(h1:i<(nG l))(h2:(nG l)<=1000000)(h3:m6 .i64 (i+1)=i+1){Q:aU}(n0:(arM (0+m5 i*4+4) (nG (an l))))(n1:(cP Ul (an l) (0+m5 i*4)))(n2:(cP Ul (an l) (0+m5 i*4+1)))(n3:(dY (an l) (0+m5 i*4+1+1)))(n4:(pw (an l) (0+m5 i*4+1+1+1)))(l9:(ig (an l) (0+m5 i*4+1+1+1))->Q .normal (RG S L R H d l i))(jJ:(ig (an l) (0+m5 i*4+1+1+1))=false->Q .normal (RH S L R H d l i)):ao fK 36 6 (tq.drop 2) (agD S L R H d l i) Q:=
 aV ti 1000 (aB [0,1,1,0,1,1,1,1,1] (.fork 2 (aB [1,1,21,3] (.leaf [0,1,5,8,9,10] [0,1,2,3,4,5] [2,3,4,5])) (aB [0,0,0,0] (.leaf [0,1,5,8,9,10] [0,1,2,3,4,5] [2,3,4,5])))) (λu=>by kernel_rfl) (mN (decide_eq_true (by omega):(decide (0<=i))=true) (mN (show(arF (m5 i) (nG l))=true by simp at pH pL h0 h1 h2 h3⊢ <;>omega) (mN n0 (mN n1 (mN n2 (mN n3 (mN n4 (mF (c:=ig (an l) (0+m5 i*4+1+1+1)) (λh0=>(qD 4 h0 (aO L R H (mN (aZ l) (mQ (ao.done (by kernel_rfl) (l9 h0))))))) (λh0=>(qD 4 h0 (aO L R H (mN (aZ l) (mQ (ao.done (by kernel_rfl) (jJ h0)))))))))))))))
abbrev RI:=λS L R H d l (k:Nat) (i:Int)=>(⟨[(0,ap 0),(1,aq 5 (nG l)),(5,aa i),(8,aq 5 (nG l)),(9,aa (nG l)),(10,.int .i64 (m6 .i64 (i+1)))],jV S L R H d l⟩:ai)
abbrev RJ:=λS L R H d l (k:Nat) (i:Int)=>(⟨[(0,ap 0),(1,aq 5 (nG l)),(5,aa k),(8,aq 5 (nG l)),(9,aa (nG l)),(10,.int .i64 (m6 .i64 (i+1)))],jV S L R H d l⟩:ai)
abbrev RK:=λS L R H d l (k:Nat) (i:Int)=>(⟨[(0,ap 0),(1,aq 5 (nG l)),(5,aa k),(8,aq 5 (nG l)),(9,aa (nG l)),(10,.int .i64 (m6 .i64 (i+1)))],jV S L R H d l⟩:ai)
abbrev agF:=λS L R H d l (k:Nat) (i:Int)=>(⟨[(0,ap 0),(1,aq 5 (nG l)),(5,aa k),(8,aq 5 (nG l)),(9,aa (nG l)),(10,aa i)],jV S L R H d l⟩:ai)
theorem agG(S L R H d l)(k:Nat)(i:Int)(pH:(an H).all ag=true)(pL:(an l).all ag=true)(h0:0<=i)(h1:i<(nG l))(h2:(nG l)<=1000000)(h3:m6 .i64 (i+1)=i+1)(h4:k<(nG l)){Q:aU}(n0:(arM (0+m5 i*4+4) (nG (an l))))(n1:(cP Ul (an l) (0+m5 i*4)))(n2:(cP Ul (an l) (0+m5 i*4+1)))(n3:(dY (an l) (0+m5 i*4+1+1)))(n4:(pw (an l) (0+m5 i*4+1+1+1)))(n5:(ig (an l) (0+m5 i*4+1+1+1))->(dY (an l) (0+m5 (↑k:Int)*4+2))=true)(n6:(ig (an l) (0+m5 i*4+1+1+1))->(rK [ab (aL S 1 2 3 4) 89,ak.abs d,ab (ah L) 9,ab (ay R) 3,ab (an H) 114]))(iJ:(ig (an l) (0+m5 i*4+1+1+1))->(decide (aN (ad.aC S) (aR (an l) (0+m5 i*4+1+1)) (aR (an l) (0+m5 (↑k:Int)*4+2))<0))->Q .normal (RI S L R H d l k i))(kH:(ig (an l) (0+m5 i*4+1+1+1))->(decide (aN (ad.aC S) (aR (an l) (0+m5 i*4+1+1)) (aR (an l) (0+m5 (↑k:Int)*4+2))<0))=false->Q .normal (RJ S L R H d l k i))(oq:(ig (an l) (0+m5 i*4+1+1+1))=false->Q .normal (RK S L R H d l k i)):ao fK 36 6 (tq.drop 2) (agF S L R H d l k i) Q:=
 aV ti 1000 (aB [0,1,1,0,1,1,1,1,1] (.fork 2 (aB [1,1,14,3,4,1,5,1,1,1,1,1,1,3,3] (.fork 0 (.leaf [0,1,5,8,9,10] [0,1,2,3,4,5] [2,3,4,5]) (.leaf [0,1,5,8,9,10] [0,1,2,3,4,5] [2,3,4,5]))) (aB [0,0,0,0] (.leaf [0,1,5,8,9,10] [0,1,2,3,4,5] [2,3,4,5])))) (λu=>by kernel_rfl) (mN (decide_eq_true (by omega):(decide (0<=i))=true) (mN (show(arF (m5 i) (nG l))=true by simp at pH pL h0 h1 h2 h3 h4⊢ <;>omega) (mN n0 (mN n1 (mN n2 (mN n3 (mN n4 (mF (c:=ig (an l) (0+m5 i*4+1+1+1)) (λh0=>(qD 2 h0 (mN (show(arF (m5 (↑k:Int)) (nG l))=true by simp at pH pL h0 h1 h2 h3 h4 h0⊢ <;>omega) (mN (n5 h0) (aO L R H (mN (n6 h0) (aO L R H (qD 2 h0 (mF (c:=decide (aN (ad.aC S) (aR (an l) (0+m5 i*4+1+1)) (aR (an l) (0+m5 (↑k:Int)*4+2))<0)) (λh1=>(aO L R H (mN (aZ l) (mQ (ao.done (by kernel_rfl) (iJ h0 h1)))))) (λh1=>(aO L R H (mN (aZ l) (mQ (ao.done (by kernel_rfl) (kH h0 h1))))))))))))))) (λh0=>(qD 4 h0 (aO L R H (mN (aZ l) (mQ (ao.done (by kernel_rfl) (oq h0)))))))))))))))
abbrev Jn:=λS L R H d l (k:Int)=>(⟨[(4,aa k)],jV S L R H d l⟩:ai)
theorem agH(S L R H d l)(k:Int){Q:bu}(hq:Q (.ret (aa k)) (Jn S L R H d l k).objs):aG fK 53 36 6 Q .ret (Jn S L R H d l k):=aG.ret (vs:=[aa k]) (l:=[]) (bs:=[0,1,2,3,4,5]) (pl:=[2,3,4,5]) (q:=[ah L,ay R,an H,an l]) (λu=>by kernel_rfl) (by kernel_rfl) (ia L R H (aD (aZ l) be)) hq
abbrev agI:=λS L R H d l (k:Int)=>(⟨[(5,aa k)],jV S L R H d l⟩:ai)
theorem agJ(S L R H d l)(k:Int)(pH:(an H).all ag=true)(pL:(an l).all ag=true){Q:aU}(l4:Q .ret (Jn S L R H d l k)):ao fK 36 6 (vg.drop 4) (agI S L R H d l k) Q:=
 aV bp 1000 (.leaf [4] [0,1,2,3,4,5] [2,3,4,5]) (λu=>by kernel_rfl) (aO L R H (mN (aZ l) (mR l4)))
abbrev agK:=λS L R H d=>(⟨[(0,ap 0),(1,aq 4 (nG H)),(5,aa (-1)),(8,aq 4 (nG H)),(9,aa (nG H)),(10,aa 0)],ma S L R H d⟩:ai)
abbrev agL:=λS L R H d=>(⟨[(0,ap 0),(1,aq 4 (nG H))],ma S L R H d⟩:ai)
theorem agM(S L R H d)(pH:(an H).all ag=true){Q:aU}(l3:ao fK 36 5 (vg.drop 3) (agK S L R H d) Q):ao fK 36 5 vg (agL S L R H d) Q:=
 aV bp 3 (.leaf [0,1,5,8,9,10] [0,1,2,3,4] [2,3,4]) (λu=>by kernel_rfl) (aO L R H (mQ l3))
abbrev agN:=λS L R H d (k i:Int)=>(⟨[(0,ap 0),(1,aq 4 (nG H)),(5,aa k),(8,aq 4 (nG H)),(9,aa (nG H)),(10,aa i)],ma S L R H d⟩:ai)
abbrev agO:=λS L R H d (k i:Int)=>(⟨[(5,aa k)],ma S L R H d⟩:ai)
abbrev agP:=λS L R H d (k i:Int)=>(⟨[(0,ap 0),(1,aq 4 (nG H)),(5,aa k),(8,aq 4 (nG H)),(9,aa (nG H)),(10,aa i)],ma S L R H d⟩:ai)
theorem agQ(S L R H d)(k i:Int)(pH:(an H).all ag=true){Q:aU}(l3:(decide (i<(↑(nG H):Int)))->ao fK 36 5 (tq.drop 2) (agN S L R H d k i) Q)(l4:(decide (i<(↑(nG H):Int)))=false->Q (.exit 0) (agO S L R H d k i)):ao fK 36 5 tq (agP S L R H d k i) Q:=
 aV bp 2 (.fork 0 (.leaf [0,1,5,8,9,10] [0,1,2,3,4] [2,3,4]) (.leaf [5] [0,1,2,3,4] [2,3,4])) (λu=>by kernel_rfl) (mF (c:=decide (i<(↑(nG H):Int))) (λh0=>(aO L R H (mQ (l3 h0)))) (λh0=>(aO L R H (mE 0 (l4 h0)))))
abbrev RL:=λS L R H d (i:Int)=>(⟨[(0,ap 0),(1,aq 4 (nG H)),(5,aa i),(8,aq 4 (nG H)),(9,aa (nG H)),(10,.int .i64 (m6 .i64 (i+1)))],ma S L R H d⟩:ai)
abbrev RM:=λS L R H d (i:Int)=>(⟨[(0,ap 0),(1,aq 4 (nG H)),(5,aa (-1)),(8,aq 4 (nG H)),(9,aa (nG H)),(10,.int .i64 (m6 .i64 (i+1)))],ma S L R H d⟩:ai)
abbrev agR:=λS L R H d (i:Int)=>(⟨[(0,ap 0),(1,aq 4 (nG H)),(5,aa (-1)),(8,aq 4 (nG H)),(9,aa (nG H)),(10,aa i)],ma S L R H d⟩:ai)
theorem agS(S L R H d)(i:Int)(pH:(an H).all ag=true)(h0:0<=i)(h1:i<(nG H))(h2:(nG H)<=1000000)(h3:m6 .i64 (i+1)=i+1){Q:aU}(n0:(arM (0+m5 i*4+4) (nG (an H))))(n1:(cP Ul (an H) (0+m5 i*4)))(n2:(cP Ul (an H) (0+m5 i*4+1)))(n3:(dY (an H) (0+m5 i*4+1+1)))(n4:(pw (an H) (0+m5 i*4+1+1+1)))(l8:(ig (an H) (0+m5 i*4+1+1+1))->Q .normal (RL S L R H d i))(l9:(ig (an H) (0+m5 i*4+1+1+1))=false->Q .normal (RM S L R H d i)):ao fK 36 5 (tq.drop 2) (agR S L R H d i) Q:=
 aV ti 1000 (aB [0,1,1,0,1,1,1,1,1] (.fork 2 (aB [1,1,21,3] (.leaf [0,1,5,8,9,10] [0,1,2,3,4] [2,3,4])) (aB [0,0,0,0] (.leaf [0,1,5,8,9,10] [0,1,2,3,4] [2,3,4])))) (λu=>by kernel_rfl) (mN (decide_eq_true (by omega):(decide (0<=i))=true) (mN (show(arF (m5 i) (nG H))=true by simp at pH h0 h1 h2 h3⊢ <;>omega) (mN n0 (mN n1 (mN n2 (mN n3 (mN n4 (mF (c:=ig (an H) (0+m5 i*4+1+1+1)) (λh0=>(qD 4 h0 (aO L R H (mQ (ao.done (by kernel_rfl) (l8 h0)))))) (λh0=>(qD 4 h0 (aO L R H (mQ (ao.done (by kernel_rfl) (l9 h0))))))))))))))
abbrev RN:=λS L R H d (k:Nat) (i:Int)=>(⟨[(0,ap 0),(1,aq 4 (nG H)),(5,aa i),(8,aq 4 (nG H)),(9,aa (nG H)),(10,.int .i64 (m6 .i64 (i+1)))],ma S L R H d⟩:ai)
abbrev RO:=λS L R H d (k:Nat) (i:Int)=>(⟨[(0,ap 0),(1,aq 4 (nG H)),(5,aa k),(8,aq 4 (nG H)),(9,aa (nG H)),(10,.int .i64 (m6 .i64 (i+1)))],ma S L R H d⟩:ai)
abbrev RP:=λS L R H d (k:Nat) (i:Int)=>(⟨[(0,ap 0),(1,aq 4 (nG H)),(5,aa k),(8,aq 4 (nG H)),(9,aa (nG H)),(10,.int .i64 (m6 .i64 (i+1)))],ma S L R H d⟩:ai)
abbrev agT:=λS L R H d (k:Nat) (i:Int)=>(⟨[(0,ap 0),(1,aq 4 (nG H)),(5,aa k),(8,aq 4 (nG H)),(9,aa (nG H)),(10,aa i)],ma S L R H d⟩:ai)
theorem agU(S L R H d)(k:Nat)(i:Int)(pH:(an H).all ag=true)(h0:0<=i)(h1:i<(nG H))(h2:(nG H)<=1000000)(h3:m6 .i64 (i+1)=i+1)(h4:k<(nG H)){Q:aU}(n0:(arM (0+m5 i*4+4) (nG (an H))))(n1:(cP Ul (an H) (0+m5 i*4)))(n2:(cP Ul (an H) (0+m5 i*4+1)))(n3:(dY (an H) (0+m5 i*4+1+1)))(n4:(pw (an H) (0+m5 i*4+1+1+1)))(n5:(ig (an H) (0+m5 i*4+1+1+1))->(dY (an H) (0+m5 (↑k:Int)*4+2))=true)(n6:(ig (an H) (0+m5 i*4+1+1+1))->(rK [ab (aL S 1 2 3 4) 89,ak.abs d,ab (ah L) 9,ab (ay R) 3,ab (an H) 114]))(jJ:(ig (an H) (0+m5 i*4+1+1+1))->(decide (aN (ad.aC S) (aR (an H) (0+m5 i*4+1+1)) (aR (an H) (0+m5 (↑k:Int)*4+2))<0))->Q .normal (RN S L R H d k i))(iJ:(ig (an H) (0+m5 i*4+1+1+1))->(decide (aN (ad.aC S) (aR (an H) (0+m5 i*4+1+1)) (aR (an H) (0+m5 (↑k:Int)*4+2))<0))=false->Q .normal (RO S L R H d k i))(kH:(ig (an H) (0+m5 i*4+1+1+1))=false->Q .normal (RP S L R H d k i)):ao fK 36 5 (tq.drop 2) (agT S L R H d k i) Q:=
 aV ti 1000 (aB [0,1,1,0,1,1,1,1,1] (.fork 2 (aB [1,1,14,3,4,1,5,1,1,1,1,1,1,3,3] (.fork 0 (.leaf [0,1,5,8,9,10] [0,1,2,3,4] [2,3,4]) (.leaf [0,1,5,8,9,10] [0,1,2,3,4] [2,3,4]))) (aB [0,0,0,0] (.leaf [0,1,5,8,9,10] [0,1,2,3,4] [2,3,4])))) (λu=>by kernel_rfl) (mN (decide_eq_true (by omega):(decide (0<=i))=true) (mN (show(arF (m5 i) (nG H))=true by simp at pH h0 h1 h2 h3 h4⊢ <;>omega) (mN n0 (mN n1 (mN n2 (mN n3 (mN n4 (mF (c:=ig (an H) (0+m5 i*4+1+1+1)) (λh0=>(qD 2 h0 (mN (show(arF (m5 (↑k:Int)) (nG H))=true by simp at pH h0 h1 h2 h3 h4 h0⊢ <;>omega) (mN (n5 h0) (aO L R H (mN (n6 h0) (aO L R H (qD 2 h0 (mF (c:=decide (aN (ad.aC S) (aR (an H) (0+m5 i*4+1+1)) (aR (an H) (0+m5 (↑k:Int)*4+2))<0)) (λh1=>(aO L R H (mQ (ao.done (by kernel_rfl) (jJ h0 h1))))) (λh1=>(aO L R H (mQ (ao.done (by kernel_rfl) (iJ h0 h1)))))))))))))) (λh0=>(qD 4 h0 (aO L R H (mQ (ao.done (by kernel_rfl) (kH h0))))))))))))))
abbrev Jo:=λS L R H d (k:Int)=>(⟨[(4,aa k)],ma S L R H d⟩:ai)
theorem agV(S L R H d)(k:Int){Q:bu}(hq:Q (.ret (aa k)) (Jo S L R H d k).objs):aG fK 53 36 5 Q .ret (Jo S L R H d k):=aG.ret (vs:=[aa k]) (l:=[]) (bs:=[0,1,2,3,4]) (pl:=[2,3,4]) (q:=[ah L,ay R,an H]) (λu=>by kernel_rfl) (by kernel_rfl) (ia L R H be) hq
abbrev agW:=λS L R H d (k:Int)=>(⟨[(5,aa k)],ma S L R H d⟩:ai)
theorem agX(S L R H d)(k:Int)(pH:(an H).all ag=true){Q:aU}(l3:Q .ret (Jo S L R H d k)):ao fK 36 5 (vg.drop 4) (agW S L R H d k) Q:=
 aV bp 1000 (.leaf [4] [0,1,2,3,4] [2,3,4]) (λu=>by kernel_rfl) (aO L R H (mR l3))
end
theorem RQ{R:List Int}{k:Nat}{x:Int}(h:R[k]?=some x):av (ay R) k=x/\cP .i64 (ay R) k=true:=by
 have hk:k<R.length:=(KP.1 h).1
 refine⟨?_,GY hk⟩
 rw[GX hk]
 exact(KP.1 h).2
theorem RS{R:List Int}{o n i:Nat}(h:i<n)(hr:o+n<=R.length):∃x,R[o+i]?=some x/\((R.drop o).take n).drop i=x::((R.drop o).take n).drop (i+1):=by
 refine⟨R[o+i],KH (by omega),?_⟩
 have hl:i<((R.drop o).take n).length:=by rw[asj,ass];omega
 rw[ath hl]
 congr 1
 rw[List.getElem_take,List.getElem_drop]
def Jp(S:ad)(L:List ByteArray)(R:List Int)(H:List au)(o n:Nat)(s:Nat×aA):ai:=⟨[(0,.pointer (some ⟨0,0,none⟩)),(8,.slice (some ⟨3,o,none⟩) n n),(9,iZ n),(10,iZ s.1)],aP S L R H s.2⟩
structure agY(l:List Int)(d0:aA)(s:Nat×aA):Prop where
 i:s.1<=l.length
 e:eN (l.drop s.1) s.2=eN l d0
 ok:ct s.2
theorem RU(S:ad)(L:List ByteArray)(R:List Int)(H:List au)(d:aA)(o n:Nat)(xg:o+n<=R.length)(hn:n<=1000000)(hd:ct d):
 aF fK 78 [.pointer (some ⟨0,0,none⟩),.slice (some ⟨3,o,none⟩) n n] (aP S L R H d) λr q=>r=.ret (.int .i64 (eN ((R.drop o).take n) d).1)/\q=aP S L R H (eN ((R.drop o).take n) d).2:=by
 have pH:=aZ H
 refine aF.dv (n:=cp fK 78) (by kernel_rfl) ?_
 have oF:((R.drop o).take n).length=n:=by rw[asj,ass];omega
 apply afY S L R H d o n pH
 ·
  rw[show Rt S L R H d o n=Jp S L R H o n (0,d)from rfl]
  refine ao.eX 2 0 (by kernel_rfl) ?_
  refine ao.gu (Jp S L R H o n) (λt=>n-t.1) (agY ((R.drop o).take n) d) (0,d) (by kernel_rfl) ⟨asb _,by simp,hd⟩ ?_
  clear hd
  rintro⟨i,d1⟩ ⟨h1,h2,h3⟩
  dsimp only at h1 h2 h3
  apply af1 S L R H d1 o n i pH
  case l4=>
   intro g
   have g:=of_decide_eq_false g
   rw[as7 (by omega)]at h2
   have h2:(0,d1)=eN ((R.drop o).take n) d:=h2
   rw[<-h2]
   with_reducible (repeat first|refine QL.ret ?_|refine QL.exit ?_|refine QB.ret ?_|refine QB.cw ?_|refine QB.normal ?_|refine QB.cJ (by rfl) ?_)
   apply af6 S L R H d1 o n pH
   ·exact af4 S L R H d1 o n ⟨rfl,rfl⟩
  case l3=>
   intro g
   have g:=of_decide_eq_true g
   obtain⟨x,hx,om⟩:=RS (R:=R) (o:=o) (n:=n) (i:=i) (by omega) xg
   obtain⟨e1,e2⟩:=RQ hx
   rw[om]at h2
   have hr:=h3.remove x
   apply af3 S L R H d1 o n i pH (by omega) g hn (bK (by omega) (by omega))
   case n0=>rw[show o+m5 (i:Int)*1=o+i by simp];exact e2
   case n1=>exact qz.2 h3
   case l5=>
    intro ge
    rw[show o+m5 (i:Int)*1=o+i by simp,e1]at ge
    have ge:(dZ d1 x).1≠0:=by simpa using ge
    have h2:(if(dZ d1 x).1≠0 then dZ d1 x else eN (((R.drop o).take n).drop (i+1)) (dZ d1 x).2)=eN ((R.drop o).take n) d:=h2
    rw[if_pos ge]at h2
    rw[<-h2]
    with_reducible (repeat first|refine QL.ret ?_|refine QL.exit ?_|refine QB.ret ?_|refine QB.cw ?_|refine QB.normal ?_|refine QB.cJ (by rfl) ?_)
    unfold CX
    rw[show o+m5 (i:Int)*1=o+i by simp,e1]
    have:=af2 S L R H d1 o n i (Q:=λr q=>r=.ret (.int .i64 (dZ d1 x).1)/\q=aP S L R H (dZ d1 x).2) (by rw[show o+m5 (i:Int)*1=o+i by simp,e1];exact⟨rfl,rfl⟩)
    unfold CX at this
    rw[show o+m5 (i:Int)*1=o+i by simp,e1]at this
    exact this
   case l6=>
    intro ge
    rw[show o+m5 (i:Int)*1=o+i by simp,e1]at ge
    have ge:¬(dZ d1 x).1≠0:=by simpa using ge
    have h2:(if(dZ d1 x).1≠0 then dZ d1 x else eN (((R.drop o).take n).drop (i+1)) (dZ d1 x).2)=eN ((R.drop o).take n) d:=h2
    rw[if_neg ge]at h2
    refine QL.to (i+1,(dZ d1 x).2) ⟨by dsimp only;omega,h2,hr.1⟩ (by dsimp only;omega) ?_
    unfold Rv Jp
    rw[show o+m5 (i:Int)*1=o+i by simp,e1,fP (by omega)]
    rfl
theorem agZ(A C:List Dy)(a b c e x y z:Dy):bc (bc (bc (A++([a,b,c,e]++C)) (A.length+3) [x]) (A.length+2) [y]) (A.length+1) [z]=A++([a,z,y,x]++C):=by
 have one:∀(U V:List Dy) (u v:Dy),bc (U++(u::V)) U.length [v]=U++(v::V):=λU V u v=>by
  unfold bc
  rw[axA,arI,show U.length+[v].length=(U++[u]).length by simp,show U++u::V=(U++[u])++V by simp,awN]
  ·rfl
  ·rfl
 have s1:bc (A++([a,b,c,e]++C)) (A.length+3) [x]=A++([a,b,c,x]++C):=by
  have:=one (A++[a,b,c]) C e x
  simpa using this
 have s2:bc (A++([a,b,c,x]++C)) (A.length+2) [y]=A++([a,b,y,x]++C):=by
  have:=one (A++[a,b]) (x::C) c y
  simpa using this
 have s3:bc (A++([a,b,y,x]++C)) (A.length+1) [z]=A++([a,z,y,x]++C):=by
  have:=one (A++[a]) (y::x::C) b z
  simpa using this
 rw[s1,s2,s3]
theorem ag0(A C:List Dy)(a b c e x y:Dy):bc (bc (A++([a,b,c,e]++C)) (A.length+3) [x]) (A.length+2) [y]=A++([a,b,y,x]++C):=by
 have one:∀(U V:List Dy) (u v:Dy),bc (U++(u::V)) U.length [v]=U++(v::V):=λU V u v=>by
  unfold bc
  rw[axA,arI,show U.length+[v].length=(U++[u]).length by simp,show U++u::V=(U++[u])++V by simp,awN]
  ·rfl
  ·rfl
 have s1:bc (A++([a,b,c,e]++C)) (A.length+3) [x]=A++([a,b,c,x]++C):=by
  have:=one (A++[a,b,c]) C e x
  simpa using this
 have s2:bc (A++([a,b,c,x]++C)) (A.length+2) [y]=A++([a,b,y,x]++C):=by
  have:=one (A++[a,b]) (x::C) c y
  simpa using this
 rw[s1,s2]
theorem pj{a b:List Dy}{n:Nat}(h:n+b.length<=a.length):(bc a n b).length=a.length:=by
 unfold bc
 simp only[KO,asj,ass]
 omega
theorem RV{H:List au}{k:Nat}(hk:k<H.length):∃A C:List Dy,an H=A++(la (aK H k)++C)/\A.length=k*4/\∀h',an (H.set k h')=A++(la h'++C):=by
 refine⟨an (H.take k),an (H.drop (k+1)),?_,?_,λh'=>?_⟩
 ·conv=>lhs;rw[<-List.take_append_drop k H]
  unfold an
  rw[asm,auT,ath hk]
  have:H[k]=aK H k:=by
   have:=xe hk
   rw[KH hk]at this
   exact atZ this
  rw[this]
  rfl
 ·rw[zc,asj];rw[show min k H.length=k by omega]
 ·rw[List.set_eq_take_append_cons_drop,if_pos hk]
  unfold an
  rw[asm,auT]
  rfl
theorem RW(A C:List Dy)(a b c e:Dy):(A++([a,b,c,e]++C))[A.length]?=some a/\(A++([a,b,c,e]++C))[A.length+1]?=some b/\(A++([a,b,c,e]++C))[A.length+2]?=some c/\(A++([a,b,c,e]++C))[A.length+3]?=some e:=by
 refine⟨?_,?_,?_,?_⟩
 ·simp
 ·rw[asd (by omega),show A.length+1-A.length=1 by omega];rfl
 ·rw[asd (by omega),show A.length+2-A.length=2 by omega];rfl
 ·rw[asd (by omega),show A.length+3-A.length=3 by omega];rfl
theorem bytesOf_take(b:ByteArray)(n:Nat):bytesOf ((af b).take n)=some (b.data.toList.take n):=by
 unfold af
 rw[<-List.map_take]
 exact BI _
theorem C1(b:ByteArray)(n:Nat)(h:n<=b.size):(cut (af b) 0 n).bind bytesOf=some (b.data.toList.take n):=by
 unfold cut
 rw[show arM (0+n) (af b).length=true from arZ (by rw[mC];omega)]
 exact bytesOf_take b n
theorem RX(b:ByteArray)(n:Nat):ar2 (b.data.toList.take n).toArray=b.extract 0 n:=by
 apply ByteArray.ext
 apply Array.ext'
 simp
theorem Jq(k:Int):(if 0>k then 0 else k)=max k 0:=by
 by_cases h:0>k
 ·rw[if_pos h];omega
 ·rw[if_neg h];omega
theorem Jr{H:List au}{k:Nat}(hk:k<H.length):(an H)[k*4]?=some (.int .i64 (aK H k).no)/\(an H)[k*4+1]?=some (.int .i64 (aK H k).at_)/\(an H)[k*4+2]?=some (.string (aK H k).line)/\(an H)[k*4+3]?=some (.bool (aK H k).there):=by
 obtain⟨A,C,h1,h2,_⟩:=RV hk
 rw[h1,<-h2]
 exact RW A C _ _ _ _
theorem RY{H:List au}{k:Nat}(hk:k<H.length):av (an H) (k*4)=(aK H k).no/\cP .i64 (an H) (k*4)=true:=by
 unfold av cP;rw[(Jr hk).1];exact⟨rfl,rfl⟩
theorem RZ{H:List au}{k:Nat}(hk:k<H.length):av (an H) (k*4+1)=(aK H k).at_/\cP .i64 (an H) (k*4+1)=true:=by
 unfold av cP;rw[(Jr hk).2.1];exact⟨rfl,rfl⟩
theorem C2{H:List au}{k:Nat}(hk:k<H.length)(b:ByteArray)(h0:0<=(aK H k).at_)(h1:(aK H k).at_<=1000000)(hb:b.size<=65):
 bc (bc (bc (an H) (k*4+3) [asu (decide (ba b 10 >= 0))]) (k*4+2) [arS (ar2 (ar6 (asp (ash (cut (af b) 0 (m5 (if 0>ba b 10 then 0 else ba b 10)-0)) bytesOf) [])))]) (k*4+1) [KJ Ul (m6 .i64 (av (bc (bc (an H) (k*4+3) [asu (decide (ba b 10 >= 0))]) (k*4+2) [arS (ar2 (ar6 (asp (ash (cut (af b) 0 (m5 (if 0>ba b 10 then 0 else ba b 10)-0)) bytesOf) [])))]) (k*4+1)+m6 .i64 (ba b 10+1)))]=an (H.set k (xa (aK H k) b))/\
 cP .i64 (bc (bc (an H) (k*4+3) [asu (decide (ba b 10 >= 0))]) (k*4+2) [arS (ar2 (ar6 (asp (ash (cut (af b) 0 (m5 (if 0>ba b 10 then 0 else ba b 10)-0)) bytesOf) [])))]) (k*4+1)=true:=by
 obtain⟨A,C,e1,e2,e3⟩:=RV hk
 have k0:=Re b 10
 have k1:=CQ b 10
 rw[Jq,at9]
 have hn:(max (ba b 10) 0).toNat<=b.size:=by
  by_cases h:0<=ba b 10
  ·have:=k1 h;omega
  ·omega
 have aqz:ba b 10<=64:=by
  by_cases h:0<=ba b 10
  ·have:=k1 h;omega
  ·omega
 rw[C1 b _ hn,Option.getD_some,RX,e3,e1,<-e2]
 have hm:(bc (bc (A++(la (aK H k)++C)) (A.length+3) [asu (decide (ba b 10 >= 0))]) (A.length+2) [arS (b.extract 0 (max (ba b 10) 0).toNat)])[A.length+1]?=some (.int .i64 (aK H k).at_):=by
  unfold la
  rw[ag0]
  exact(RW A C _ _ _ _).2.1
 have hi:av (bc (bc (A++(la (aK H k)++C)) (A.length+3) [asu (decide (ba b 10 >= 0))]) (A.length+2) [arS (b.extract 0 (max (ba b 10) 0).toNat)]) (A.length+1)=(aK H k).at_:=by
  unfold av;rw[hm]
 refine⟨?_,?_⟩
 ·rw[hi,bK (z:=ba b 10+1) (by omega) (by omega),bK (by omega) (by omega)]
  unfold la
  rw[agZ]
  rfl
 ·unfold cP;rw[hm];rfl
theorem C3{d:aA}{no p:Int}(h:(aJ d no p 65).2.1=0):(aJ d no p 65).1.size<=65:=by
 have:=(Ri h).2.2
 omega
theorem R1{H:List au}{k:Nat}(hk:k<H.length):H.set k (aK H k)=H:=by
 apply List.ext_getElem?
 intro i
 rw[List.getElem?_set]
 split
 ·rename_i e
  subst e
  exact(xe hk).symm
 ·rfl
theorem R3{h:au}{d:aA}(e:(aJ d h.no h.at_ 65).2.1=0):bE h d=(0,xa h (aJ d h.no h.at_ 65).1,(aJ d h.no h.at_ 65).2.2):=by
 unfold bE;rw[if_neg (λg=>g e)]
theorem R4{h:au}{d:aA}(e:(aJ d h.no h.at_ 65).2.1≠0):bE h d=((aJ d h.no h.at_ 65).2.1,h,(aJ d h.no h.at_ 65).2.2):=by
 unfold bE;rw[if_pos e]
theorem R5(S:ad)(L:List ByteArray)(R:List Int)(H:List au)(d:aA)(l:List au)(k:Nat)(hk:k<l.length)(hok:pP (aK l k))(hd:ct d):
 aF fK 54 [.pointer (some ⟨0,0,none⟩),.pointer (some ⟨5,k*4,none⟩)] (aP S L R H d++[.cells (an l) 114 false]) λr q=>
  r=.ret (.int .i64 (bE (aK l k) d).1)/\q=aP S L R H (bE (aK l k) d).2.2++[.cells (an (l.set k (bE (aK l k) d).2.1)) 114 false]:=by
 have pH:=aZ H
 have pl:=aZ l
 obtain⟨a0,b0⟩:=RY hk
 obtain⟨a1,b1⟩:=RZ hk
 have hlen:k*4+4<=(an l).length:=by rw[zc];omega
 have a0:av (an l) (k*4+0)=(aK l k).no:=a0
 have k0:∀b:ByteArray,(if 0>ba b 10 then 0 else ba b 10).toNat<=b.size:=λb=>by
  have:=CQ b 10
  rw[Jq]
  by_cases h:0<=ba b 10
  ·have:=this h;omega
  ·omega
 refine aF.dv (n:=cp fK 54) (by kernel_rfl) ?_
 apply aga S L R H d (an l) (k*4) pH pl b0 b1 hlen
 case aY=>simp
 case bh=>simp
 case bT=>exact pH
 case bO=>exact pl
 case n0=>exact qz.2 hd
 case n1=>intro _;exact Je.2 ⟨_,rfl,rfl,rfl,rfl⟩
 case n2=>intro _;rw[a0,a1,jH];exact arZ (k0 _)
 case n3=>intro _;rw[a0,a1,jH,at9,C1 _ _ (k0 _)];rfl
 case n4=>intro _;rw[pj (by show k*4+3+1<=_;omega)];exact arZ (by omega)
 case n6=>
  intro _
  rw[pj (by rw[pj (by show k*4+3+1<=_;omega)];show k*4+2+1<=_;omega),pj (by show k*4+3+1<=_;omega)]
  exact arZ (by omega)
 case n5=>
  intro g
  rw[a0,a1]at g
  have g:(aJ d (aK l k).no (aK l k).at_ 65).2.1=0:=by simpa using g
  rw[a0,a1,jH]
  exact(C2 hk _ hok.jb hok.mH (C3 g)).2
 case jJ=>
  intro g
  rw[a0,a1]at g
  have g:(aJ d (aK l k).no (aK l k).at_ 65).2.1=0:=by simpa using g
  have hn:=(C2 hk _ hok.jb hok.mH (C3 g)).1
  refine af7 S L R H d (an l) (k*4) ?_ ?_
  ·rw[a0,a1,jH,hn];exact aZ _
  ·rw[a0,a1,jH,hn,R3 g];exact⟨rfl,rfl⟩
 case kH=>
  intro g
  rw[a0,a1]at g
  have g:(aJ d (aK l k).no (aK l k).at_ 65).2.1≠0:=by simpa using g
  refine af8 S L R H d (an l) (k*4) pl ?_
  rw[a0,a1,R4 g,R1 hk];exact⟨rfl,rfl⟩
theorem ag1(S:ad)(L:List ByteArray)(R:List Int)(l:List au)(d:aA)(k:Nat)(hk:k<l.length)(hok:pP (aK l k))(hd:ct d):
 aF fK 54 [.pointer (some ⟨0,0,none⟩),.pointer (some ⟨4,k*4,none⟩)] (aP S L R l d) λr q=>
  r=.ret (.int .i64 (bE (aK l k) d).1)/\q=aP S L R (l.set k (bE (aK l k) d).2.1) (bE (aK l k) d).2.2:=by
 have pl:=aZ l
 obtain⟨a0,b0⟩:=RY hk
 obtain⟨a1,b1⟩:=RZ hk
 have hlen:k*4+4<=(an l).length:=by rw[zc];omega
 have a0:av (an l) (k*4+0)=(aK l k).no:=a0
 have k0:∀b:ByteArray,(if 0>ba b 10 then 0 else ba b 10).toNat<=b.size:=λb=>by
  have:=CQ b 10
  rw[Jq]
  by_cases h:0<=ba b 10
  ·have:=this h;omega
  ·omega
 refine aF.dv (n:=cp fK 54) (by kernel_rfl) ?_
 apply age S L R d (an l) (k*4) pl b0 b1 hlen
 case aY=>simp
 case bh=>simp
 case bT=>exact pl
 case n0=>exact qz.2 hd
 case n1=>intro _;exact Je.2 ⟨_,rfl,rfl,rfl,rfl⟩
 case n2=>intro _;rw[a0,a1,jH];exact arZ (k0 _)
 case n3=>intro _;rw[a0,a1,jH,at9,C1 _ _ (k0 _)];rfl
 case n4=>intro _;rw[pj (by show k*4+3+1<=_;omega)];exact arZ (by omega)
 case n6=>
  intro _
  rw[pj (by rw[pj (by show k*4+3+1<=_;omega)];show k*4+2+1<=_;omega),pj (by show k*4+3+1<=_;omega)]
  exact arZ (by omega)
 case n5=>
  intro g
  rw[a0,a1]at g
  have g:(aJ d (aK l k).no (aK l k).at_ 65).2.1=0:=by simpa using g
  rw[a0,a1,jH]
  exact(C2 hk _ hok.jb hok.mH (C3 g)).2
 case l9=>
  intro g
  rw[a0,a1]at g
  have g:(aJ d (aK l k).no (aK l k).at_ 65).2.1=0:=by simpa using g
  have hn:=(C2 hk _ hok.jb hok.mH (C3 g)).1
  refine agb S L R d (an l) (k*4) ?_ ?_
  ·rw[a0,a1,jH,hn];exact aZ _
  ·rw[a0,a1,jH,hn,R3 g];exact⟨rfl,rfl⟩
 case iJ=>
  intro g
  rw[a0,a1]at g
  have g:(aJ d (aK l k).no (aK l k).at_ 65).2.1≠0:=by simpa using g
  refine agc S L R d (an l) (k*4) pl ?_
  rw[a0,a1,R4 g,R1 hk];exact⟨rfl,rfl⟩
theorem R6:bZ fK 114=some 4:=by kernel_rfl
def qE(S:ad)(L:List ByteArray)(R:List Int)(H:List au)(x:Int×List au×aA)(r:bD)(q:List ak):Prop:=
 if x.1=0 then r=.ret (.tuple #[.slice (some ⟨5,0,none⟩) x.2.1.length x.2.1.length,.int .i64 0])/\q=aP S L R H x.2.2++[.cells (an x.2.1) 114 false]
 else r=.ret (.tuple #[.slice none 0 0,.int .i64 x.1])/\q=aP S L R H x.2.2
def R7(S:ad)(L:List ByteArray)(R:List Int)(H:List au)(x:Int×List au×aA):Bool->QT (bD×List ak)
 |true=>.done (.ret (.tuple #[.slice (some ⟨5,0,none⟩) x.2.1.length x.2.1.length,.int .i64 0]),aP S L R H x.2.2++[.cells (an x.2.1) 114 false])
 |false=>.done (.ret (.tuple #[.slice none 0 0,.int .i64 x.1]),aP S L R H x.2.2)
noncomputable def zB(S:ad)(L:List ByteArray)(R:List Int)(H:List au)(d:aA)(o n:Nat)(x:Int×List au×aA):Sum:=⟨λ_ _=>some [0,1,2,3,4],λa ob=>.sP (fZ a [.pointer (some ⟨0,0,none⟩),.slice (some ⟨3,o,none⟩) n n] ob (aP S L R H d)) (.ask (x.1==0) (R7 S L R H x))⟩
theorem ag2{a args:List Dy}{o objs:List ak}(h:fZ a args o objs=true):a=args/\o=objs:=by
 unfold fZ at h
 exact @of_decide_eq_true _ (Classical.propDecidable _) h
theorem R8{S:ad}{L:List ByteArray}{R:List Int}{H:List au}{d:aA}{o n:Nat}{x:Int×List au×aA}(h:aF fK 76 [.pointer (some ⟨0,0,none⟩),.slice (some ⟨3,o,none⟩) n n] (aP S L R H d) (qE S L R H x)):
 bB fK 76 (zB S L R H d o n x):=by
 intro a ob r o' hg
 unfold zB at hg
 dsimp only at hg
 obtain⟨h1,wx⟩:=QT.uB hg
 obtain⟨rfl,rfl⟩:=ag2 h1
 refine h.mono λr1 o1 hp=>?_
 unfold qE at hp
 have hg:(R7 S L R H x (x.1==0)).run=some (r,o'):=wx
 cases hk:(x.1==0)with
 |true=>
  rw[hk]at hg
  cases hg
  rw[if_pos (by simpa using hk)]at hp
  exact hp
 |false=>
  rw[hk]at hg
  cases hg
  rw[if_neg (by simpa using hk)]at hp
  exact hp
structure ag3(l:List au)(i:Nat):Prop where
 n0:arM (0+m5 (i:Int)*4+4) (an l).length=true
 n1:cP .i64 (an l) (0+m5 (i:Int)*4)=true
 n2:cP .i64 (an l) (0+m5 (i:Int)*4+1)=true
 n3:dY (an l) (0+m5 (i:Int)*4+1+1)=true
 n4:pw (an l) (0+m5 (i:Int)*4+1+1+1)=true
 b:ig (an l) (0+m5 (i:Int)*4+1+1+1)=(aK l i).there
 s:aR (an l) (0+m5 (i:Int)*4+1+1)=(aK l i).line
 s2:aR (an l) (0+m5 (i:Int)*4+2)=(aK l i).line
 n5:dY (an l) (0+m5 (i:Int)*4+2)=true
theorem rowAt{l:List au}{i:Nat}(h:i<l.length):ag3 l i:=by
 obtain⟨a,b,c,d⟩:=Jr h
 have e:0+m5 (i:Int)*4=i*4:=by simp
 refine⟨?_,?_,?_,?_,?_,?_,?_,?_,?_⟩
 ·rw[e,zc];exact arZ (by omega)
 ·rw[e];unfold cP;rw[a];rfl
 ·rw[e];unfold cP;rw[b];rfl
 ·rw[e];unfold dY;rw[show i*4+1+1=i*4+2 from rfl,c]
 ·rw[e];unfold pw;rw[show i*4+1+1+1=i*4+3 from rfl,d]
 ·rw[e];unfold ig;rw[show i*4+1+1+1=i*4+3 from rfl,d]
 ·rw[e];unfold aR;rw[show i*4+1+1=i*4+2 from rfl,c]
 ·rw[e];unfold aR;rw[c]
 ·rw[e];unfold dY;rw[c]
def Js(S:ad)(L:List ByteArray)(R:List Int)(H:List au)(o n:Nat)(s:Nat×List au×aA):ai:=
 ⟨[(0,.pointer (some ⟨0,0,none⟩)),(6,.slice (some ⟨5,0,none⟩) s.2.1.length s.2.1.length),(11,.slice (some ⟨3,o,none⟩) n n),(12,.int .i64 n),(13,iZ s.1)],aP S L R H s.2.2++[.cells (an s.2.1) 114 false]⟩
structure ag4(l:List Int)(d0:aA)(s:Nat×List au×aA):Prop where
 i:s.1<=l.length
 e:dB (l.drop s.1) s.2.1 s.2.2=dB l [] d0
 ok:ct s.2.2
 bR:s.2.1.length=s.1
theorem ag5(l:List au)(y:au):an l++[KJ Ul y.no,KJ Ul y.at_,arS y.line,asu y.there]=an (l++[y]):=by
 unfold an
 rw[asm,auT]
 simp[la]
theorem R9(S:ad)(L:List ByteArray)(R:List Int)(H:List au)(d:aA)(o n:Nat)(xg:o+n<=R.length)(hn:n<=900000)(hd:ct d):
 aF fK 76 [.pointer (some ⟨0,0,none⟩),.slice (some ⟨3,o,none⟩) n n] (aP S L R H d) (qE S L R H (dB ((R.drop o).take n) [] d)):=by
 have pH:=aZ H
 have oF:((R.drop o).take n).length=n:=by rw[asj,ass];omega
 refine aF.dv (n:=cp fK 76) (by kernel_rfl) ?_
 apply agl S L R H d o n pH
 ·
  refine ao.BL 6 114 (s:=4) R6 (by rfl) (by rfl) (by rfl:_=Js S L R H o n (0,[],d)) ?_
  refine ao.eX 3 0 (by kernel_rfl) ?_
  refine ao.gu (Js S L R H o n) (λt=>n-t.1) (ag4 ((R.drop o).take n) d) (0,[],d) (by kernel_rfl) ⟨asb _,by simp,hd,rfl⟩ ?_
  clear hd
  rintro⟨i,l,d1⟩ ⟨h1,h2,h3,h4⟩
  dsimp only at h1 h2 h3 h4
  have pl:=aZ l
  apply agp S L R H d1 l o n i pH pl
  case l5=>
   intro g
   have g:=of_decide_eq_false g
   rw[as7 (by omega)]at h2
   have h2:(0,l,d1)=dB ((R.drop o).take n) [] d:=h2
   rw[<-h2]
   with_reducible (repeat first|refine QL.ret ?_|refine QL.exit ?_|refine QB.ret ?_|refine QB.cw ?_|refine QB.normal ?_|refine QB.cJ (by rfl) ?_)
   apply agv S L R H d1 l pH pl
   ·
    refine agt S L R H d1 l ?_
    unfold qE
    rw[if_pos rfl]
    exact⟨rfl,rfl⟩
  case l4=>
   intro g
   have g:=of_decide_eq_true g
   obtain⟨x,hx,om⟩:=RS (R:=R) (o:=o) (n:=n) (i:=i) (by omega) xg
   obtain⟨e1,e2⟩:=RQ hx
   rw[om]at h2
   have ei:o+m5 (i:Int)*1=o+i:=by simp
   have gL:=R5 S L R H d1 [⟨x,0,KI,false⟩] 0 (by simp) ⟨Int.le_refl _,by show(0:Int)<=1000000;omega,asb _⟩ h3
   have h5:=h3.bE ⟨x,0,KI,false⟩
   have h2:(if(bE ⟨x,0,KI,false⟩ d1).1≠0 then((bE ⟨x,0,KI,false⟩ d1).1,[],(bE ⟨x,0,KI,false⟩ d1).2.2)else dB (((R.drop o).take n).drop (i+1)) (l++[(bE ⟨x,0,KI,false⟩ d1).2.1]) (bE ⟨x,0,KI,false⟩ d1).2.2)=dB ((R.drop o).take n) [] d:=h2
   have gL:aF fK 54 [.pointer (some ⟨0,0,none⟩),.pointer (some ⟨5,0,none⟩)] (aP S L R H d1++[.cells (la ⟨x,0,KI,false⟩) 114 false]) λr q=>r=.ret (.int .i64 (bE ⟨x,0,KI,false⟩ d1).1)/\q=aP S L R H (bE ⟨x,0,KI,false⟩ d1).2.2++[.cells (la (bE ⟨x,0,KI,false⟩ d1).2.1) 114 false]:=by
    refine gL.mono λr q hq=>?_
    obtain⟨q1,q2⟩:=hq
    refine⟨q1,q2.trans ?_⟩
    show aP S L R H _++[.cells (an [_]) _ false]=_
    unfold an
    rw[List.map_cons,List.map_nil,List.flatten_cons,List.flatten_nil,List.append_nil]
    rfl
   generalize bE ⟨x,0,KI,false⟩ d1=rr at gL h5 h2
   obtain⟨e,y,dd⟩:=rr
   dsimp only at gL h5 h2
   apply ags S L R H d1 l o n x e y dd i pH pl gL (by omega) g (by omega) (bK (by omega) (by omega)) (by omega)
   case aY=>simp
   case bh=>simp
   case bT=>exact pH
   case n0=>rw[ei];exact e2
   case n1=>rw[ei,e1];exact iI rfl rfl
   case n6=>intro _;exact arZ (by omega)
   case n7=>intro _;rw[zc,Nat.zero_add];exact Nat.beq_refl _
   case l5=>
    intro ge
    have ge:e≠0:=by simpa using ge
    rw[if_pos ge]at h2
    rw[<-h2]
    with_reducible (repeat first|refine QL.ret ?_|refine QL.exit ?_|refine QB.ret ?_|refine QB.cw ?_|refine QB.normal ?_|refine QB.cJ (by rfl) ?_)
    refine agq S L R H d1 l o n x e y dd i ?_
    unfold qE
    rw[if_neg ge]
    exact⟨rfl,rfl⟩
   case l8=>
    intro ge
    have ge:¬e≠0:=by simpa using ge
    rw[if_neg ge]at h2
    refine QL.to (i+1,l++[y],dd) ⟨by dsimp only;omega,h2,h5,by dsimp only;rw[KO,h4];rfl⟩ (by dsimp only;omega) ?_
    unfold RE Js
    rw[ag5,fP (by omega)]
    dsimp only
    rw[KO]
    rfl
def leI(ob:List ak)(b:Nat)(H:List au)(s:Nat×Option Nat):ai:=
 ⟨[(0,.pointer (some ⟨0,0,none⟩)),(1,.slice (some ⟨b,0,none⟩) H.length H.length),(5,.int .i64 (kI s.2)),(8,.slice (some ⟨b,0,none⟩) H.length H.length),(9,.int .i64 (H.length:Int)),(10,iZ s.1)],ob⟩
structure C4(f:Bool)(H:List au)(s:Nat×Option Nat):Prop where
 i:s.1<=H.length
 e:ke f H (H.drop s.1) s.1 s.2=eo f H
 k:∀j,s.2=some j->j<H.length
theorem Jt{H:List au}{i:Nat}(h:i<H.length):H.drop i=aK H i::H.drop (i+1):=by
 rw[ath h]
 congr 1
 have:=xe h
 rw[KH h]at this
 exact atZ this
theorem Sa(S:ad)(L:List ByteArray)(R:List Int)(H:List au)(d:aA)(l:List au)(hl:l.length<=1000000):
 aF fK 53 [.pointer (some ⟨0,0,none⟩),.slice (some ⟨5,0,none⟩) l.length l.length] (aP S L R H d++[.cells (an l) 114 false]) λr q=>
  r=.ret (.int .i64 (kI (eo S.aC l)))/\q=aP S L R H d++[.cells (an l) 114 false]:=by
 have pH:=aZ H
 have pl:=aZ l
 refine aF.dv (n:=cp fK 53) (by kernel_rfl) ?_
 apply agy S L R H d l pH pl
 ·
  refine ao.eX 3 0 (by kernel_rfl) ?_
  refine ao.gu (leI (aP S L R H d++[.cells (an l) 114 false]) 5 l) (λt=>l.length-t.1) (C4 S.aC l) (0,none) (by kernel_rfl) ⟨asb _,rfl,λj h=>by cases h⟩ ?_
  rintro⟨i,k⟩ ⟨h1,h2,h3⟩
  dsimp only at h1 h2 h3
  apply agC S L R H d l (kI k) i pH pl
  case l5=>
   intro g
   have g:=of_decide_eq_false g
   rw[as7 (by omega)]at h2
   have h2:k=eo S.aC l:=h2
   rw[<-h2]
   with_reducible (repeat first|refine QL.ret ?_|refine QL.exit ?_|refine QB.ret ?_|refine QB.cw ?_|refine QB.normal ?_|refine QB.cJ (by rfl) ?_)
   apply agJ S L R H d l (kI k) pH pl
   ·exact agH S L R H d l (kI k) ⟨rfl,rfl⟩
  case l4=>
   intro g
   have g:=of_decide_eq_true g
   have hi:i<l.length:=by omega
   obtain⟨n0,n1,n2,n3,n4,xb,xs,Sb,n5⟩:=rowAt hi
   rw[Jt hi]at h2
   have h2:ke S.aC l (l.drop (i+1)) (i+1) (if jq S.aC l (aK l i) k then some i else k)=eo S.aC l:=h2
   have next:∀k',ke S.aC l (l.drop (i+1)) (i+1) k'=eo S.aC l->(∀j,k'=some j->j<l.length)->C4 S.aC l (i+1,k'):=λk' a b=>⟨hi,a,b⟩
   cases k with
   |none=>
    apply agE S L R H d l i pH pl (by omega) g hl (bK (by omega) (by omega)) n0 n1 n2 n3 n4
    case l9=>
     intro gb
     rw[xb]at gb
     rw[show jq S.aC l (aK l i) none=true from gb,if_pos rfl]at h2
     refine QL.to (i+1,some i) (next _ h2 λj h=>by cases h;exact hi) (by dsimp only;omega) ?_
     unfold RG leI
     rw[fP (by omega)]
     rfl
    case jJ=>
     intro gb
     rw[xb]at gb
     rw[show jq S.aC l (aK l i) none=false from gb,if_neg (by simp)]at h2
     refine QL.to (i+1,none) (next _ h2 λj h=>by cases h) (by dsimp only;omega) ?_
     unfold RH leI
     rw[fP (by omega)]
     rfl
   |some k=>
    have hk:=h3 k rfl
    have r2:=rowAt hk
    apply agG S L R H d l k i pH pl (by omega) g hl (bK (by omega) (by omega)) hk n0 n1 n2 n3 n4
    case n5=>intro _;exact r2.n5
    case n6=>intro _;exact wZ rfl
    case iJ=>
     intro gb gc
     rw[xb]at gb
     rw[xs,r2.s2]at gc
     rw[show jq S.aC l (aK l i) (some k)=true by show((aK l i).there&&decide (aN S.aC (aK l i).line (aK l k).line<0))=true;rw[gb,gc];rfl,if_pos rfl]at h2
     refine QL.to (i+1,some i) (next _ h2 λj h=>by cases h;exact hi) (by dsimp only;omega) ?_
     unfold RI leI
     rw[fP (by omega)]
     rfl
    case kH=>
     intro gb gc
     rw[xs,r2.s2]at gc
     rw[show jq S.aC l (aK l i) (some k)=false by show((aK l i).there&&decide (aN S.aC (aK l i).line (aK l k).line<0))=false;rw[gc,axJ],if_neg (by simp)]at h2
     refine QL.to (i+1,some k) (next _ h2 λj h=>by cases h;exact hk) (by dsimp only;omega) ?_
     unfold RJ leI
     rw[fP (by omega)]
     rfl
    case oq=>
     intro gb
     rw[xb]at gb
     rw[show jq S.aC l (aK l i) (some k)=false by show((aK l i).there&&decide (aN S.aC (aK l i).line (aK l k).line<0))=false;rw[gb,au8],if_neg (by simp)]at h2
     refine QL.to (i+1,some k) (next _ h2 λj h=>by cases h;exact hk) (by dsimp only;omega) ?_
     unfold RK leI
     rw[fP (by omega)]
     rfl
theorem ag6(S:ad)(L:List ByteArray)(R:List Int)(d:aA)(l:List au)(hl:l.length<=1000000):
 aF fK 53 [.pointer (some ⟨0,0,none⟩),.slice (some ⟨4,0,none⟩) l.length l.length] (aP S L R l d) λr q=>
  r=.ret (.int .i64 (kI (eo S.aC l)))/\q=aP S L R l d:=by
 have pl:=aZ l
 refine aF.dv (n:=cp fK 53) (by kernel_rfl) ?_
 apply agM S L R l d pl
 ·
  refine ao.eX 3 0 (by kernel_rfl) ?_
  refine ao.gu (leI (aP S L R l d) 4 l) (λt=>l.length-t.1) (C4 S.aC l) (0,none) (by kernel_rfl) ⟨asb _,rfl,λj h=>by cases h⟩ ?_
  rintro⟨i,k⟩ ⟨h1,h2,h3⟩
  dsimp only at h1 h2 h3
  apply agQ S L R l d (kI k) i pl
  case l4=>
   intro g
   have g:=of_decide_eq_false g
   rw[as7 (by omega)]at h2
   have h2:k=eo S.aC l:=h2
   rw[<-h2]
   with_reducible (repeat first|refine QL.ret ?_|refine QL.exit ?_|refine QB.ret ?_|refine QB.cw ?_|refine QB.normal ?_|refine QB.cJ (by rfl) ?_)
   apply agX S L R l d (kI k) pl
   ·exact agV S L R l d (kI k) ⟨rfl,rfl⟩
  case l3=>
   intro g
   have g:=of_decide_eq_true g
   have hi:i<l.length:=by omega
   obtain⟨n0,n1,n2,n3,n4,xb,xs,Sb,n5⟩:=rowAt hi
   rw[Jt hi]at h2
   have h2:ke S.aC l (l.drop (i+1)) (i+1) (if jq S.aC l (aK l i) k then some i else k)=eo S.aC l:=h2
   have next:∀k',ke S.aC l (l.drop (i+1)) (i+1) k'=eo S.aC l->(∀j,k'=some j->j<l.length)->C4 S.aC l (i+1,k'):=λk' a b=>⟨hi,a,b⟩
   cases k with
   |none=>
    apply agS S L R l d i pl (by omega) g hl (bK (by omega) (by omega)) n0 n1 n2 n3 n4
    case l8=>
     intro gb
     rw[xb]at gb
     rw[show jq S.aC l (aK l i) none=true from gb,if_pos rfl]at h2
     refine QL.to (i+1,some i) (next _ h2 λj h=>by cases h;exact hi) (by dsimp only;omega) ?_
     unfold RL leI
     rw[fP (by omega)]
     rfl
    case l9=>
     intro gb
     rw[xb]at gb
     rw[show jq S.aC l (aK l i) none=false from gb,if_neg (by simp)]at h2
     refine QL.to (i+1,none) (next _ h2 λj h=>by cases h) (by dsimp only;omega) ?_
     unfold RM leI
     rw[fP (by omega)]
     rfl
   |some k=>
    have hk:=h3 k rfl
    have r2:=rowAt hk
    apply agU S L R l d k i pl (by omega) g hl (bK (by omega) (by omega)) hk n0 n1 n2 n3 n4
    case n5=>intro _;exact r2.n5
    case n6=>intro _;exact wZ rfl
    case jJ=>
     intro gb gc
     rw[xb]at gb
     rw[xs,r2.s2]at gc
     rw[show jq S.aC l (aK l i) (some k)=true by show((aK l i).there&&decide (aN S.aC (aK l i).line (aK l k).line<0))=true;rw[gb,gc];rfl,if_pos rfl]at h2
     refine QL.to (i+1,some i) (next _ h2 λj h=>by cases h;exact hi) (by dsimp only;omega) ?_
     unfold RN leI
     rw[fP (by omega)]
     rfl
    case iJ=>
     intro gb gc
     rw[xs,r2.s2]at gc
     rw[show jq S.aC l (aK l i) (some k)=false by show((aK l i).there&&decide (aN S.aC (aK l i).line (aK l k).line<0))=false;rw[gc,axJ],if_neg (by simp)]at h2
     refine QL.to (i+1,some k) (next _ h2 λj h=>by cases h;exact hk) (by dsimp only;omega) ?_
     unfold RO leI
     rw[fP (by omega)]
     rfl
    case kH=>
     intro gb
     rw[xb]at gb
     rw[show jq S.aC l (aK l i) (some k)=false by show((aK l i).there&&decide (aN S.aC (aK l i).line (aK l k).line<0))=false;rw[gb,au8],if_neg (by simp)]at h2
     refine QL.to (i+1,some k) (next _ h2 λj h=>by cases h;exact hk) (by dsimp only;omega) ?_
     unfold RP leI
     rw[fP (by omega)]
     rfl
noncomputable section
def ag7:List (arY×Sum):=[(97,Sum.dQ fK CD)]
theorem ag8:dD fK (dM fK (dP ag7) 50 40):=dU dC mixed (ee (.cons QN .nil)) 50 40
def ag9(S:ad)(L:List ByteArray)(R:List Int)(H:List au)(d:aA)(o n:Nat)(e:Int)(l:List au)(dd:aA):List (arY×Sum):=[(76,zB S L R H d o n (e,l,dd))]
theorem aha(S:ad)(L:List ByteArray)(R:List Int)(H:List au)(d:aA)(o n:Nat)(e:Int)(l:List au)(dd:aA)(cZ:aF fK 76 [ap 0,cA 3 o n n] (aP S L R H d) (qE S L R H (e,l,dd))):dD fK (dM fK (dP (ag9 S L R H d o n e l dd)) 50 40):=
 dU dC mixed (ee (.cons (R8 cZ) .nil)) 50 40
def ahb(S:ad)(L:List ByteArray)(R:List Int)(H:List au)(d:aA)(l:List au)(k:Int):List (arY×Sum):=[(53,Sum.one (λ_ _=>some [0,1,2,3,4,5]) [ap 0,aq 5 l.length] (aP S L R H d++[ab (an l) 114]) (.ret (aa k)) (aP S L R H d++[ab (an l) 114]))]
theorem Sc(S:ad)(L:List ByteArray)(R:List Int)(H:List au)(d:aA)(l:List au)(k:Int)(hle:aF fK 53 [ap 0,aq 5 (nG l)] (aP S L R H d++[ab (an l) 114]) λr q=>r=.ret (aa k)/\q=aP S L R H d++[ab (an l) 114]):dD fK (dM fK (dP (ahb S L R H d l k)) 50 40):=
 dU dC mixed (ee (.cons (bB.one hle) .nil)) 50 40
def ahc:List (arY×Sum):=[(98,Sum.dQ fK CE)]
theorem ahd:dD fK (dM fK (dP ahc) 50 40):=dU dC mixed (ee (.cons QP .nil)) 50 40
def ahe(S:ad)(L:List ByteArray)(R:List Int)(H:List au)(d:aA)(l:List au)(k:Nat)(e:Int)(l1:List au)(dd:aA):List (arY×Sum):=[(54,Sum.one (λ_ _=>some [0,1,2,3,4,5]) [ap 0,.pointer (some ⟨5,k*4,none⟩)] (aP S L R H d++[ab (an l) 114]) (.ret (aa e)) (aP S L R H dd++[ab (an l1) 114]))]
theorem ahf(S:ad)(L:List ByteArray)(R:List Int)(H:List au)(d:aA)(l:List au)(k:Nat)(e:Int)(l1:List au)(dd:aA)(gL:aF fK 54 [ap 0,.pointer (some ⟨5,k*4,none⟩)] (aP S L R H d++[ab (an l) 114]) λr q=>r=.ret (aa e)/\q=aP S L R H dd++[ab (an l1) 114]):dD fK (dM fK (dP (ahe S L R H d l k e l1 dd)) 50 40):=
 dU dC mixed (ee (.cons (bB.one gL) .nil)) 50 40
def ahg(S:ad)(L:List ByteArray)(R:List Int)(H:List au)(d:aA)(o n:Nat)(e:Int)(dd:aA):List (arY×Sum):=[(78,Sum.one (λ_ _=>some [0,1,2,3,4]) [ap 0,cA 3 o n n] (aP S L R H d) (.ret (aa e)) (aP S L R H dd))]
theorem ahh(S:ad)(L:List ByteArray)(R:List Int)(H:List au)(d:aA)(o n:Nat)(e:Int)(dd:aA)(iP:aF fK 78 [ap 0,cA 3 o n n] (aP S L R H d) λr q=>r=.ret (aa e)/\q=aP S L R H dd):dD fK (dM fK (dP (ahg S L R H d o n e dd)) 50 40):=
 dU dC mixed (ee (.cons (bB.one iP) .nil)) 50 40
def tt:List ar3:=a7 (dI fK 102)
open Tree renaming aQ->mN,dE->mF,fj->mL,fY->mQ,dN->mR,gH->mE
abbrev C5:List ar3:=(a7 (inner (a7 (inner (tt.drop 8)))))
abbrev Ju:List ar3:=(a7 (inner (C5.drop 2)))
abbrev Jv:=λS L R H d (o n:Nat)=>(⟨[(4,aa 0),(5,aa (KM (arQ (bj d))))],[ab (aL S 1 2 3 4) 89,.abs (arQ (arQ (bj d))),ab (ah L) 9,ab (ay R) 3,ab (an H) 114]⟩:ai)
theorem ahi(S L R H d)(o n:Nat){Q:bu}(hq:Q (.ret (.tuple #[aa 0,aa (KM (arQ (bj d)))])) (Jv S L R H d o n).objs):aG fK 102 68 5 Q .ret (Jv S L R H d o n):=aG.ret (vs:=[aa 0,aa (KM (arQ (bj d)))]) (l:=[]) (bs:=[0,1,2,3,4]) (pl:=[2,3,4]) (q:=[ah L,ay R,an H]) (λu=>by kernel_rfl) (by kernel_rfl) (ia L R H be) hq
abbrev Sd:=λS L R H d (o n:Nat)=>(⟨[(0,ap 0),(1,cA 3 o n n),(6,aa (KM (bj d)))],[ab (aL S 1 2 3 4) 89,.abs (arQ (arQ (bj d))),ab (ah L) 9,ab (ay R) 3,ab (an H) 114]⟩:ai)
abbrev C6:=λS L R H d=>([ab (aL S 1 2 3 4) 89,.abs d,ab (ah L) 9,ab (ay R) 3,ab (an H) 114]:List ak)
abbrev ahj:=λS L R H d (o n:Nat)=>(⟨[(0,ap 0),(1,cA 3 o n n)],C6 S L R H d⟩:ai)
theorem ahk(S L R H d)(o n:Nat)(pH:(an H).all ag=true){Q:aU}(n0:(oS d))(l4:(KM (arQ (bj d)) != 0)->Q .ret (Jv S L R H d o n))(l5:(KM (arQ (bj d)) != 0)=false->ao fK 68 5 (tt.drop 4) (Sd S L R H d o n) Q):ao fK 68 5 tt (ahj S L R H d o n) Q:=
 aV ag8 4 (aB [5] (.fork 0 (.leaf [4,5] [0,1,2,3,4] [2,3,4]) (.leaf [0,1,6] [0,1,2,3,4] [2,3,4]))) (λu=>by kernel_rfl) (mN n0 (mF (c:=KM (arQ (bj d)) != 0) (λh0=>(aO L R H (mR (l4 h0)))) (λh0=>(aO L R H (mQ (l5 h0))))))
abbrev ahl:=λS L R H (d:aA) (o n:Nat) (e:Int) l dd (no:Int)=>(⟨[(0,ap 0),(1,cA 3 o n n),(6,aa no),(8,aq 5 (nG l))],[ab (aL S 1 2 3 4) 89,.abs dd,ab (ah L) 9,ab (ay R) 3,ab (an H) 114,ab (an l) 114]⟩:ai)
abbrev Jw:=λS L R H dd=>([ab (aL S 1 2 3 4) 89,.abs dd,ab (ah L) 9,ab (ay R) 3,ab (an H) 114]:List ak)
abbrev Jx:=λS L R H (d:aA) (o n:Nat) (e:Int) (l:List au) dd (no:Int)=>(⟨[(4,aa 0),(5,aa e)],Jw S L R H dd⟩:ai)
theorem ahm(S L R H d)(o n:Nat)(e:Int)(l dd)(no:Int){Q:bu}(hq:Q (.ret (.tuple #[aa 0,aa e])) (Jx S L R H d o n e l dd no).objs):aG fK 102 68 5 Q .ret (Jx S L R H d o n e l dd no):=aG.ret (vs:=[aa 0,aa e]) (l:=[]) (bs:=[0,1,2,3,4]) (pl:=[2,3,4]) (q:=[ah L,ay R,an H]) (λu=>by kernel_rfl) (by kernel_rfl) (ia L R H be) hq
abbrev ahn:=λS L R H d (o n:Nat) (e:Int) (l:List au) (dd:aA) (no:Int)=>(⟨[(0,ap 0),(1,cA 3 o n n),(6,aa no)],C6 S L R H d⟩:ai)
theorem aho(S L R H d)(o n:Nat)(e:Int)(l dd)(no:Int)(pH:(an H).all ag=true)(pL:(an l).all ag=true)(cZ:aF fK 76 [ap 0,cA 3 o n n] (aP S L R H d) (qE S L R H (e,l,dd))){Q:aU}(l4:(e==0)->ao fK 68 5 ((tt.drop 4).drop 3) (ahl S L R H d o n e l dd no) Q)(l5:(e==0)=false->Q .ret (Jx S L R H d o n e l dd no)):ao fK 68 5 (tt.drop 4) (ahn S L R H d o n e l dd no) Q:=
 aV (aha S L R H d o n e l dd cZ) 3 (aB [3,1,1,1] (.fork 0 (aB [1,1,1,1] (.leaf [0,1,6,8] [0,1,2,3,4,5] [2,3,4,5])) (aB [1,1,1,1] (.leaf [4,5] [0,1,2,3,4] [2,3,4])))) (λu=>by kernel_rfl) (aO L R H (mN (kC [ap 0,cA 3 o n n] (aP S L R H d)) (mF (c:=e==0) (λh0=>(aO L R H (mN (aZ l) (aO L R H (mN (aZ l) (mQ (l4 h0))))))) (λh0=>(aO L R H (mN (show(e != 0)=true by simp at pH pL cZ h0⊢ <;>omega) (aO L R H (mR (l5 h0)))))))))
abbrev vh:=λS L R H d l=>([ab (aL S 1 2 3 4) 89,.abs d,ab (ah L) 9,ab (ay R) 3,ab (an H) 114,ab (an l) 114]:List ak)
abbrev ahp:=λS L R H d l (o n:Nat) (no k:Int)=>(⟨[(0,ap 0),(1,cA 3 o n n),(6,aa no),(8,aq 5 (nG l)),(9,aa k)],vh S L R H d l⟩:ai)
abbrev Se:=λS L R H d l (o n:Nat) (no k:Int)=>(⟨[(0,ap 0),(1,cA 3 o n n),(6,aa no),(8,aq 5 (nG l))],vh S L R H d l⟩:ai)
theorem ahq(S L R H d l)(o n:Nat)(no k:Int)(pH:(an H).all ag=true)(pL:(an l).all ag=true)(hle:aF fK 53 [ap 0,aq 5 (nG l)] (aP S L R H d++[ab (an l) 114]) λr q=>r=.ret (aa k)/\q=aP S L R H d++[ab (an l) 114]){Q:aU}(l5:ao fK 68 5 ((tt.drop 7).drop 1) (ahp S L R H d l o n no k) Q):ao fK 68 5 (tt.drop 7) (Se S L R H d l o n no k) Q:=
 aV (Sc S L R H d l k hle) 1 (aB [3,1,1,1,1,1,1,1,1] (.leaf [0,1,6,8,9] [0,1,2,3,4,5] [2,3,4,5])) (λu=>by kernel_rfl) (aO L R H (mN (aZ l) (mN (kC [ap 0,aq 5 (nG l)] (aP S L R H d++[ab (an l) 114])) (aO L R H (mN (aZ l) (aO L R H (mN (aZ l) (mQ l5))))))))
abbrev ahr:=λS L R H d l (o n:Nat) (no k:Int)=>(⟨[(0,ap 0),(1,cA 3 o n n),(6,aa no),(8,aq 5 (nG l)),(9,aa k)],vh S L R H d l⟩:ai)
abbrev ahs:=λS L R H d (l:List au) (o n:Nat) (no k:Int)=>(⟨[(0,ap 0),(1,cA 3 o n n),(6,aa no)],C6 S L R H d⟩:ai)
abbrev aht:=λS L R H d l (o n:Nat) (no k:Int)=>(⟨[(0,ap 0),(1,cA 3 o n n),(6,aa no),(8,aq 5 (nG l)),(9,aa k)],vh S L R H d l⟩:ai)
theorem ahu(S L R H d l)(o n:Nat)(no k:Int)(pH:(an H).all ag=true)(pL:(an l).all ag=true){Q:aU}(l4:(decide (k >= 0))->ao fK 68 5 (C5.drop 2) (ahr S L R H d l o n no k) Q)(l5:(decide (k >= 0))=false->Q (.exit 0) (ahs S L R H d l o n no k)):ao fK 68 5 C5 (aht S L R H d l o n no k) Q:=
 aV bp 2 (.fork 0 (.leaf [0,1,6,8,9] [0,1,2,3,4,5] [2,3,4,5]) (.leaf [0,1,6] [0,1,2,3,4] [2,3,4])) (λu=>by kernel_rfl) (mF (c:=decide (k >= 0)) (λh0=>(aO L R H (mN (aZ l) (mQ (l4 h0))))) (λh0=>(aO L R H (mE 0 (l5 h0)))))
abbrev Sf:=λS L R H d l (o n:Nat) (no:Int) (k:Nat)=>(⟨[(4,aa 0),(5,aa (KM (bP d no (bk (arV (λb=>KJ Um (↑(arR b):Int)) (arP (DD (aR (an l) (0+m5 (↑k:Int)*4+2))) (arN (arK (aR (an l) (0+m5 (↑k:Int)*4+2)))))++[KJ Um 10])))))],[ab (aL S 1 2 3 4) 89,.abs (arQ (bP d no (bk (arV (λb=>KJ Um (↑(arR b):Int)) (arP (DD (aR (an l) (0+m5 (↑k:Int)*4+2))) (arN (arK (aR (an l) (0+m5 (↑k:Int)*4+2)))))++[KJ Um 10])))),ab (ah L) 9,ab (ay R) 3,ab (an H) 114]⟩:ai)
theorem ahv(S L R H d l)(o n:Nat)(no:Int)(k:Nat){Q:bu}(hq:Q (.ret (.tuple #[aa 0,aa (KM (bP d no (bk (arV (λb=>KJ Um (↑(arR b):Int)) (arP (DD (aR (an l) (0+m5 (↑k:Int)*4+2))) (arN (arK (aR (an l) (0+m5 (↑k:Int)*4+2)))))++[KJ Um 10]))))])) [ab (aL S 1 2 3 4) 89,.abs (arQ (bP d no (bk (arV (λb=>KJ Um (↑(arR b):Int)) (arP (DD (aR (an l) (0+m5 (↑k:Int)*4+2))) (arN (arK (aR (an l) (0+m5 (↑k:Int)*4+2)))))++[KJ Um 10])))),ab (ah L) 9,ab (ay R) 3,ab (an H) 114]):aG fK 102 68 5 Q .ret (Sf S L R H d l o n no k):=aG.ret (vs:=[aa 0,aa (KM (bP d no (bk (arV (λb=>KJ Um (↑(arR b):Int)) (arP (DD (aR (an l) (0+m5 (↑k:Int)*4+2))) (arN (arK (aR (an l) (0+m5 (↑k:Int)*4+2)))))++[KJ Um 10]))))]) (l:=[]) (bs:=[0,1,2,3,4]) (pl:=[2,3,4]) (q:=[ah L,ay R,an H]) (λu=>by kernel_rfl) (by kernel_rfl) (ia L R H be) hq
abbrev Sg:=λS L R H d l (o n:Nat) (no:Int) (k:Nat)=>(⟨[(0,ap 0),(1,cA 3 o n n),(6,aa no),(8,aq 5 (nG l)),(9,aa k)],[ab (aL S 1 2 3 4) 89,.abs (arQ (bP d no (bk (arV (λb=>KJ Um (↑(arR b):Int)) (arP (DD (aR (an l) (0+m5 (↑k:Int)*4+2))) (arN (arK (aR (an l) (0+m5 (↑k:Int)*4+2)))))++[KJ Um 10])))),ab (ah L) 9,ab (ay R) 3,ab (an H) 114,ab (an l) 114]⟩:ai)
abbrev ahw:=λS L R H d l (o n:Nat) (no:Int) (k:Nat)=>(⟨[(0,ap 0),(1,cA 3 o n n),(6,aa no),(8,aq 5 (nG l)),(9,aa k)],vh S L R H d l⟩:ai)
theorem ahx(S L R H d l)(o n:Nat)(no:Int)(k:Nat)(pH:(an H).all ag=true)(pL:(an l).all ag=true)(h0:k<(nG l))(h1:(nG l)<=1000000){Q:aU}(n0:(dY (an l) (0+m5 (↑k:Int)*4+2))=true)(n1:(arM (0+DD (aR (an l) (0+m5 (↑k:Int)*4+2))) 1000000)=true)(n2:(DC (arV (λb=>KJ Um (↑(arR b):Int)) (arP (DD (aR (an l) (0+m5 (↑k:Int)*4+2))) (arN (arK (aR (an l) (0+m5 (↑k:Int)*4+2)))))) Value.oneCell')=true)(n3:(arM (DD (aR (an l) (0+m5 (↑k:Int)*4+2))+1) 1000000)=true)(n4:(DC (arV (λb=>KJ Um (↑(arR b):Int)) (arP (DD (aR (an l) (0+m5 (↑k:Int)*4+2))) (arN (arK (aR (an l) (0+m5 (↑k:Int)*4+2)))))++[KJ Um 10]) ag)=true)(n5:(zt d no (arV (λb=>KJ Um (↑(arR b):Int)) (arP (DD (aR (an l) (0+m5 (↑k:Int)*4+2))) (arN (arK (aR (an l) (0+m5 (↑k:Int)*4+2)))))++[KJ Um 10]) 5 false (DD (aR (an l) (0+m5 (↑k:Int)*4+2))+1) (DD (aR (an l) (0+m5 (↑k:Int)*4+2))+1))=true)(l9:(KM (bP d no (bk (arV (λb=>KJ Um (↑(arR b):Int)) (arP (DD (aR (an l) (0+m5 (↑k:Int)*4+2))) (arN (arK (aR (an l) (0+m5 (↑k:Int)*4+2)))))++[KJ Um 10]))) != 0)->Q .ret (Sf S L R H d l o n no k))(iJ:(KM (bP d no (bk (arV (λb=>KJ Um (↑(arR b):Int)) (arP (DD (aR (an l) (0+m5 (↑k:Int)*4+2))) (arN (arK (aR (an l) (0+m5 (↑k:Int)*4+2)))))++[KJ Um 10]))) != 0)=false->ao fK 68 5 (Ju.drop 3) (Sg S L R H d l o n no k) Q):ao fK 68 5 Ju (ahw S L R H d l o n no k) Q:=
 aV ahd 3 (aB [2,3,0,1,10,1,1,1,2,3,5,1,5,1,1] (.fork 0 (.leaf [4,5] [0,1,2,3,4] [2,3,4]) (.leaf [0,1,6,8,9] [0,1,2,3,4,5] [2,3,4,5]))) (λu=>by kernel_rfl) (mN (show(arF (m5 (↑k:Int)) (nG l))=true by simp at pH pL h0 h1⊢ <;>omega) (mN n0 (mN n1 (mN n2 (mN (show(arE (nG (arV (λb=>KJ Um (↑(arR b):Int)) (arP (DD (aR (an l) (0+m5 (↑k:Int)*4+2))) (arN (arK (aR (an l) (0+m5 (↑k:Int)*4+2))))))) (DD (aR (an l) (0+m5 (↑k:Int)*4+2))*1))=true by simp) (mN n3 (mN (kY _:(full (DD (aR (an l) (0+m5 (↑k:Int)*4+2))) (DD (aR (an l) (0+m5 (↑k:Int)*4+2))))=true) (mN (show(arE (0+DD (aR (an l) (0+m5 (↑k:Int)*4+2))*1) (nG (arV (λb=>KJ Um (↑(arR b):Int)) (arP (DD (aR (an l) (0+m5 (↑k:Int)*4+2))) (arN (arK (aR (an l) (0+m5 (↑k:Int)*4+2))))))))=true by simp) (mN n4 (mN n5 (mN n4 (mF (c:=KM (bP d no (bk (arV (λb=>KJ Um (↑(arR b):Int)) (arP (DD (aR (an l) (0+m5 (↑k:Int)*4+2))) (arN (arK (aR (an l) (0+m5 (↑k:Int)*4+2)))))++[KJ Um 10]))) != 0) (λh0=>(aO L R H (mR (l9 h0)))) (λh0=>(aO L R H (mN (aZ l) (mQ (iJ h0)))))))))))))))))
abbrev Jy:=λS L R H (d:aA) (l:List au) (o n:Nat) (no:Int) (k:Nat) (e:Int) (l1:List au) dd=>(⟨[(4,aa 0),(5,aa e)],Jw S L R H dd⟩:ai)
theorem ahy(S L R H d l)(o n:Nat)(no:Int)(k:Nat)(e:Int)(l1 dd){Q:bu}(hq:Q (.ret (.tuple #[aa 0,aa e])) (Jy S L R H d l o n no k e l1 dd).objs):aG fK 102 68 5 Q .ret (Jy S L R H d l o n no k e l1 dd):=aG.ret (vs:=[aa 0,aa e]) (l:=[]) (bs:=[0,1,2,3,4]) (pl:=[2,3,4]) (q:=[ah L,ay R,an H]) (λu=>by kernel_rfl) (by kernel_rfl) (ia L R H be) hq
abbrev Sh:=λS L R H (d:aA) (l:List au) (o n:Nat) (no:Int) (k:Nat) (e:Int) l1 dd=>(⟨[(0,ap 0),(1,cA 3 o n n),(6,aa no),(8,aq 5 (nG l))],[ab (aL S 1 2 3 4) 89,.abs dd,ab (ah L) 9,ab (ay R) 3,ab (an H) 114,ab (an l1) 114]⟩:ai)
abbrev ahz:=λS L R H d l (o n:Nat) (no:Int) (k:Nat) (e:Int) (l1:List au) (dd:aA)=>(⟨[(0,ap 0),(1,cA 3 o n n),(6,aa no),(8,aq 5 (nG l)),(9,aa k)],vh S L R H d l⟩:ai)
theorem ahA(S L R H d l)(o n:Nat)(no:Int)(k:Nat)(e:Int)(l1 dd)(pH:(an H).all ag=true)(pL:(an l).all ag=true)(p1:(an l1).all ag=true)(gL:aF fK 54 [ap 0,.pointer (some ⟨5,k*4,none⟩)] (aP S L R H d++[ab (an l) 114]) λr q=>r=.ret (aa e)/\q=aP S L R H dd++[ab (an l1) 114])(h0:k<(nG l))(h1:(nG l)<=1000000){Q:aU}(n0:(fZ [ap 0,asy (some (Addr.mk 5 (0+m5 (↑k:Int)*4) none))] [ap 0,asy (some (Addr.mk 5 (k*4) none))] [ab (aL S 1 2 3 4) 89,ak.abs d,ab (ah L) 9,ab (ay R) 3,ab (an H) 114,ab (an l) 114] (aP S L R H d++[ab (an l) 114]))=true)(l4:(e != 0)->Q .ret (Jy S L R H d l o n no k e l1 dd))(l5:(e != 0)=false->Q .normal (Sh S L R H d l o n no k e l1 dd)):ao fK 68 5 (Ju.drop 3) (ahz S L R H d l o n no k e l1 dd) Q:=
 aV (ahf S L R H d l k e l1 dd gL) 1000 (aB [0,3,3,1,1,1,1,1,1,1,1] (.fork 0 (.leaf [4,5] [0,1,2,3,4] [2,3,4]) (.leaf [0,1,6,8] [0,1,2,3,4,5] [2,3,4,5]))) (λu=>by kernel_rfl) (mN (show(arF (m5 (↑k:Int)) (nG l))=true by simp at pH pL p1 gL h0 h1⊢ <;>omega) (aO L R H (mN (aZ l) (mN n0 (aO L R H (mN (aZ l1) (mF (c:=e != 0) (λh0=>(aO L R H (mR (l4 h0)))) (λh0=>(aO L R H (mN (aZ l1) (mQ (ao.done (by kernel_rfl) (l5 h0)))))))))))))
abbrev ahB:=λS L R H d l (o n:Nat) (no k:Int)=>(⟨[(0,ap 0),(1,cA 3 o n n),(6,aa no),(8,aq 5 (nG l)),(9,aa k)],vh S L R H d l⟩:ai)
theorem ahC(S L R H d l)(o n:Nat)(no k:Int)(pH:(an H).all ag=true)(pL:(an l).all ag=true)(hle:aF fK 53 [ap 0,aq 5 (nG l)] (aP S L R H d++[ab (an l) 114]) λr q=>r=.ret (aa k)/\q=aP S L R H d++[ab (an l) 114]){Q:aU}(l5:Q .normal (ahB S L R H d l o n no k)):ao fK 68 5 (C5.drop 3) (Se S L R H d l o n no k) Q:=
 aV (Sc S L R H d l k hle) 1000 (aB [3,1,1,1,1,1,1,1,1] (.leaf [0,1,6,8,9] [0,1,2,3,4,5] [2,3,4,5])) (λu=>by kernel_rfl) (aO L R H (mN (aZ l) (mN (kC [ap 0,aq 5 (nG l)] (aP S L R H d++[ab (an l) 114])) (aO L R H (mN (aZ l) (aO L R H (mN (aZ l) (mQ (ao.done (by kernel_rfl) l5)))))))))
abbrev Jz:=λS L R H (d:aA) (o n:Nat) (no e:Int) dd=>(⟨[(4,aa no),(5,aa e)],Jw S L R H dd⟩:ai)
theorem ahD(S L R H d)(o n:Nat)(no e:Int)(dd){Q:bu}(hq:Q (.ret (.tuple #[aa no,aa e])) (Jz S L R H d o n no e dd).objs):aG fK 102 68 5 Q .ret (Jz S L R H d o n no e dd):=aG.ret (vs:=[aa no,aa e]) (l:=[]) (bs:=[0,1,2,3,4]) (pl:=[2,3,4]) (q:=[ah L,ay R,an H]) (λu=>by kernel_rfl) (by kernel_rfl) (ia L R H be) hq
abbrev ahE:=λS L R H d (o n:Nat) (no e:Int) (dd:aA)=>(⟨[(0,ap 0),(1,cA 3 o n n),(6,aa no)],C6 S L R H d⟩:ai)
theorem ahF(S L R H d)(o n:Nat)(no e:Int)(dd)(pH:(an H).all ag=true)(iP:aF fK 78 [ap 0,cA 3 o n n] (aP S L R H d) λr q=>r=.ret (aa e)/\q=aP S L R H dd){Q:aU}(l4:Q .ret (Jz S L R H d o n no e dd)):ao fK 68 5 (tt.drop 9) (ahE S L R H d o n no e dd) Q:=
 aV (ahh S L R H d o n e dd iP) 1000 (aB [3,1,1,1,1,1,1] (.leaf [4,5] [0,1,2,3,4] [2,3,4])) (λu=>by kernel_rfl) (aO L R H (mN (kC [ap 0,cA 3 o n n] (aP S L R H d)) (aO L R H (aO L R H (mR l4)))))
end
def ahG(S:ad)(L:List ByteArray)(R:List Int)(H:List au)(o n:Nat)(no:Int)(s:Option Nat×List au×aA×Nat):ai:=
 ⟨[(0,.pointer (some ⟨0,0,none⟩)),(1,.slice (some ⟨3,o,none⟩) n n),(6,.int .i64 no),(8,.slice (some ⟨5,0,none⟩) s.2.1.length s.2.1.length),(9,.int .i64 (kI s.1))],aP S L R H s.2.2.1++[.cells (an s.2.1) 114 false]⟩
structure ahH(f:Bool)(no:Int)(F N:Nat)(v:Int×aA)(s:Option Nat×List au×aA×Nat):Prop where
 k:s.1=eo f s.2.1
 ok:tp no F s.2.1 s.2.2.1
 e:jU f no s.2.2.2 s.2.1 s.2.2.1=v
 m:dx s.2.2.1 s.2.1<s.2.2.2
 len:s.2.1.length=N
theorem ahI{f:Bool}{no:Int}{m:Nat}{l:List au}{d:aA}(h:eo f l=none):jU f no m l d=(0,d):=by
 cases m with
 |zero=>rfl
 |succ m=>unfold jU;rw[h]
theorem ahJ(S:ad)(L:List ByteArray)(R:List Int)(H:List au)(d:aA)(o n:Nat)(xg:o+n<=R.length)(hn:n<=900000)(hr:jr d ((R.drop o).take n)):
 aF fK 102 [.pointer (some ⟨0,0,none⟩),.slice (some ⟨3,o,none⟩) n n] (aP S L R H d) λr q=>
  r=.ret (.tuple #[.int .i64 (gi S.aC ((R.drop o).take n) d).1,.int .i64 (gi S.aC ((R.drop o).take n) d).2.1])/\q=aP S L R H (gi S.aC ((R.drop o).take n) d).2.2:=by
 have pH:=aZ H
 have oF:((R.drop o).take n).length=n:=by rw[asj,ass];omega
 generalize hl:(R.drop o).take n=runs at*
 refine aF.dv (n:=cp fK 102) (by kernel_rfl) ?_
 apply ahk S L R H d o n pH
 case n0=>exact qz.2 hr.cL
 case l4=>
  intro g
  have g:(bj d).2.1≠0:=by simpa using g
  have e:gi S.aC runs d=(0,(bj d).2.1,(bj d).2.2):=by
   unfold gi
   generalize bj d=c at g⊢
   obtain⟨no,e,d1⟩:=c
   exact if_pos g
  rw[e]
  exact ahi S L R H d o n ⟨rfl,rfl⟩
 case l5=>
  intro g
  have g:(bj d).2.1=0:=by simpa using g
  unfold Sd
  have lY:=hr.cL.vb
  have dh:=hr.opened g
  have Si:gi S.aC runs d=match dB runs [] (bj d).2.2 with
   |(e,H,d2)=>if e≠0 then(0,e,d2)else match jU S.aC (bj d).1 qC H d2 with
    |(e,d3)=>if e≠0 then(0,e,d3)else((bj d).1,eN runs d3):=by
   unfold gi
   generalize bj d=c at g⊢
   obtain⟨no,e,d1⟩:=c
   exact if_neg (λh=>h g)
  rw[Si]
  clear Si
  have y4:=R9 S L R H (bj d).2.2 o n xg hn lY
  rw[hl]at y4
  have yO:=vc runs [] (bj d).2.2 lY
  generalize(bj d).1=no at*
  generalize(bj d).2.2=d1 at*
  have hlen:(dB runs [] d1).1=0->(dB runs [] d1).2.1.length=n:=λh=>by
   have:=(zz runs [] [] d1 d1 lY rfl ⟨rfl,λ_ h=>(by cases h),arO _⟩ h).CU
   have:=congrArg nG this
   rw[List.length_map]at this
   rw[this]
   exact oF
  generalize dB runs [] d1=q at*
  obtain⟨e,l,d2⟩:=q
  dsimp only at*
  have pl:=aZ l
  apply aho S L R H d1 o n e l d2 no pH pl y4
  case l5=>
   intro ge
   have ge:e≠0:=by simpa using ge
   rw[if_pos ge]
   exact ahm S L R H d1 o n e l d2 no ⟨rfl,rfl⟩
  case l4=>
   intro ge
   have ge:e=0:=by simpa using ge
   rw[if_neg (λh=>h ge)]
   have dh:=dh ge
   have hlen:=hlen ge
   apply ahq S L R H d2 l o n no (kI (eo S.aC l)) pH pl (Sa S L R H d2 l (by omega))
   ·
    have JA:=Rg
    have iq:=dh.bR
    have hF:=hr.bR
    rw[List.drop_drop]
    refine ao.eX 8 0 (by kernel_rfl) ?_
    refine ao.gu (ahG S L R H o n no) (λt=>t.2.2.2) (ahH S.aC no (eO d runs) n (jU S.aC no qC l d2)) (eo S.aC l,l,d2,qC) (by kernel_rfl) ⟨rfl,dh,rfl,by dsimp only;omega,hlen⟩ ?_
    clear dh pl y4 hlen iq
    rintro⟨k,l1,d3,m⟩ ⟨h1,h2,h3,h4,h5⟩
    dsimp only at h1 h2 h3 h4 h5
    have pl:=aZ l1
    apply ahu S L R H d3 l1 o n no (kI k) pH pl
    case l5=>
     intro gk
     have gk:=of_decide_eq_false gk
     have hk:k=none:=by
      cases k with
      |none=>rfl
      |some k=>exact absurd (show(0:Int)<=(k:Int)by omega) gk
     rw[hk]at h1
     rw[ahI h1.symm]at h3
     rw[<-h3]
     rw[if_neg (λh=>h rfl)]
     have iP:=RU S L R H d3 o n xg (by omega) h2.cL
     rw[hl]at iP
     with_reducible (repeat first|refine QL.ret ?_|refine QL.exit ?_|refine QB.ret ?_|refine QB.cw ?_|refine QB.normal ?_|refine QB.cJ (by rfl) ?_)
     apply ahF S L R H d3 o n no (eN runs d3).1 (eN runs d3).2 pH iP
     ·exact ahD S L R H d3 o n no (eN runs d3).1 (eN runs d3).2 ⟨rfl,rfl⟩
    case l4=>
     intro gk
     have gk:=of_decide_eq_true gk
     cases k with
     |none=>exact absurd gk (by show¬(0:Int)<=-1;omega)
     |some k=>
      obtain⟨k1,k2⟩:=vd h1.symm
      have r:=rowAt k1
      obtain⟨w1,w2,w3,w4⟩:=h2.write (by omega) k1 k2
      have hok:=h2.ok _ (tm k1)
      have aqA:=hok.1.line
      have Sj:=h2.next (by omega) k1 k2
      cases m with
      |zero=>omega
      |succ m=>
      have h3:(match eo S.aC l1 with
       |none=>(0,d3)
       |some k=>if(bP d3 no (bM (aK l1 k).line)).1≠0 then bP d3 no (bM (aK l1 k).line)
        else if(bE (aK l1 k) (bP d3 no (bM (aK l1 k).line)).2).1≠0 then((bE (aK l1 k) (bP d3 no (bM (aK l1 k).line)).2).1,(bE (aK l1 k) (bP d3 no (bM (aK l1 k).line)).2).2.2)
        else jU S.aC no m (l1.set k (bE (aK l1 k) (bP d3 no (bM (aK l1 k).line)).2).2.1) (bE (aK l1 k) (bP d3 no (bM (aK l1 k).line)).2).2.2)=jU S.aC no qC l d2:=h3
      rw[<-h1]at h3
      dsimp only at h3
      refine ao.eX 2 1 (by kernel_rfl) ?_
      have hex:=r.s2
      apply ahx S L R H d3 l1 o n no k pH pl k1 (by omega) r.n5
      case n1=>rw[hex];exact arZ (by omega)
      case n2=>rw[hex,List.take_of_length_le (by exact arO _)];exact G6 _
      case n3=>rw[hex];exact arZ (by omega)
      case n4=>rw[hex,join_eq];exact kA _
      case n5=>
       rw[hex,join_eq]
       exact IY.2 ⟨h2.cL,bM _,rfl,(lH _).symm,(lH _).symm,rfl,rfl,w2⟩
      case l9=>
       intro g3
       rw[hex,join_eq,jH]at g3
       have g3:(bP d3 no (bM (aK l1 k).line)).1≠0:=by simpa using g3
       rw[if_pos g3]at h3
       rw[<-h3,if_pos g3]
       with_reducible (repeat first|refine QL.ret ?_|refine QL.exit ?_|refine QB.ret ?_|refine QB.cw ?_|refine QB.normal ?_|refine QB.cJ (by rfl) ?_)
       refine ahv S L R H d3 l1 o n no k ⟨?_,?_⟩
       ·rw[hex,join_eq,jH]
       ·rw[hex,join_eq,jH];rfl
      case iJ=>
       intro g3
       rw[hex,join_eq,jH]at g3
       have g3:(bP d3 no (bM (aK l1 k).line)).1=0:=by simpa using g3
       rw[if_neg (λh=>h g3)]at h3
       unfold Sg
       rw[hex,join_eq,jH]
       have gL:=R5 S L R H (bP d3 no (bM (aK l1 k).line)).2 l1 k k1 hok.1 w1
       generalize(bP d3 no (bM (aK l1 k).line)).2=d4 at*
       generalize bE (aK l1 k) d4=rr at*
       obtain⟨e4,y,d5⟩:=rr
       dsimp only at*
       apply ahA S L R H d4 l1 o n no k e4 (l1.set k y) d5 pH pl (aZ _) gL k1 (by omega)
       case n0=>exact iI (by rw[show 0+m5 (k:Int)*4=k*4 by simp]) rfl
       case l4=>
        intro g5
        have g5:e4≠0:=by simpa using g5
        rw[if_pos g5]at h3
        rw[<-h3,if_pos g5]
        with_reducible (repeat first|refine QL.ret ?_|refine QL.exit ?_|refine QB.ret ?_|refine QB.cw ?_|refine QB.normal ?_|refine QB.cJ (by rfl) ?_)
        exact ahy S L R H d4 l1 o n no k e4 (l1.set k y) d5 ⟨rfl,rfl⟩
       case l5=>
        intro g5
        have g5:e4=0:=by simpa using g5
        rw[if_neg (λh=>h g5)]at h3
        obtain⟨n1,n2⟩:=Sj g5
        have C7:(l1.set k y).length=l1.length:=List.length_set
        unfold Sh
        rw[<-C7]
        with_reducible (repeat first|refine QL.ret ?_|refine QL.exit ?_|refine QB.ret ?_|refine QB.cw ?_|refine QB.normal ?_|refine QB.cJ (by rfl) ?_)
        have ahK:=aZ (l1.set k y)
        apply ahC S L R H d5 (l1.set k y) o n no (kI (eo S.aC (l1.set k y))) pH ahK (Sa S L R H d5 _ (by omega))
        ·
         exact QL.to (eo S.aC (l1.set k y),l1.set k y,d5,m) ⟨rfl,n1,h3,by dsimp only;omega,by dsimp only;omega⟩ (by dsimp only;omega) rfl
end Go.Proofs.YtnlkkgpcikkpoaaGreat
/-
 A law of the walk for a region that draws its order, over any program: if each operation, begun where what it hangs on is done, keeps the prover's word, then the region does, whatever the order.
 Conditions: the table of what each operation hangs on (D), of the effects (c), and of the phases (R) meets the closed check regOk.
-/
namespace Go.Proofs.YtnlkkgpcikkpoaaGreat
structure aqB(V:Dy->arB->Prop)(E:arB->arB->Prop)(S:arB->Prop)(dst:Option Tmp)(a:Act)(w:arB)(a':Act)(w':arB):Prop where
 v:∃v,a'=a.put dst v/\V v w'
 e:E w w'
 s:S w'
section
variable {P:Program} {l:List Oper} {Q:Exit->Act->arB->Prop} {a:Act}
end
structure aqC(E:arB->arB->Prop) where
 V:Dy->arB->Prop
 h:∀v w w',E w w'->V v w->V v w'
end Go.Proofs.YtnlkkgpcikkpoaaGreat
namespace Go.Proofs.YtnlkkgpcikkpoaaGreat
open Go.RowKit
section
variable {w:arB} {g:Nat} {cs:Array Dy}
end
end Go.Proofs.YtnlkkgpcikkpoaaGreat
namespace Go.Proofs.YtnlkkgpcikkpoaaGreat
open Go.RowKit
theorem JB(a b:ByteArray):(a.toList==b.toList)=decide (a=b):=by
 rw[auU,auU,Bool.eq_iff_iff,beq_iff_eq,decide_eq_true_eq]
 constructor
 ·intro h;cases a;cases b;simp only at h;rw[Array.toList_inj.1 h]
 ·rintro rfl;rfl
end Go.Proofs.YtnlkkgpcikkpoaaGreat
namespace Go.Proofs.YtnlkkgpcikkpoaaGreat
open Go.RowKit Go.Shelf
attribute [local go_sem] Oper.semAt_some
set_option maxRecDepth 100000 in
set_option maxHeartbeats 2000000 in
theorem ahL(bs ss bn sn aH sh N:Nat)(hN:N<=1000000)(n:Nat)(hn:2<=n)(l:Nat)(J:Nat->arB->Prop)(E:arB->Prop)(W:arB)
 (Sk:∀k A,J k A->(∃cap,N<=cap/\A.cell? ⟨bs,ss,none⟩=some (.slice (some ⟨aH,sh,none⟩) N cap))/\A.cell? ⟨bn,sn,none⟩=some (.int .i64 3))
 (hY:∀k W0,3*k<N->J k W0->YieldAt ats (n-1) fK l #[.slice (some ⟨aH,sh+3*k,none⟩) (min 3 (N-3*k)) (min 3 (N-3*k))] W0 λe W'=>e=.returned (.bool true)/\J (k+1) W'\/e=.returned (.bool false)/\E W')
 (ahM:∀k A,J k A->J k A.drew)(h0:J 0 W):CallsIn ats n fK 124 (#[.func (.yield l) #[] #[]]++ #[.pointer (some ⟨bs,ss,none⟩),.pointer (some ⟨bn,sn,none⟩)]) W λe W'=>(∃v,e=.returned v)/\(J ((N+2)/3) W'\/E W'):=by
 refine callsIn_of_wp Tryz.func124 rfl trivial ?_ rfl
 simp only[Tryz.ntmps124,List.size_toArray,List.length_cons,List.length_nil,Nat.reduceAdd,Nat.reduceSub,Array.replicate_succ,Array.replicate_zero,List.push_toArray,List.append_toArray,asK,List.cons_append]
 gi_wp2
 gi_loopw [4] (λi wr=>∃k:Nat,3*k<N+3/\i=.int .i64 (3*k:Nat)/\J k wr) (λi _=>N+3-(intOf i).toNat)
 case atStart=>exact⟨0,by omega,rfl,h0⟩
 case round=>
  obtain⟨k,hk,rfl,C8⟩:=hrel
  obtain⟨⟨cap,hc,c1⟩,c2⟩:=Sk k _ C8
  by_cases iU:3*k<N
  ·have aqD:=Lib.hid (hY k _ iU C8)
   have g1:(0:Int)<=(3*k:Nat):=by omega
   have g2:((3*k:Nat):Int)<=N:=by omega
   gi_wp2
   gi_region
   obtain⟨fn,tmps,assign,body,hy,hR⟩:=hY k _ iU (ahM k _ C8)
   replace hR:=Lib.hid hR
   gi_wp2
   all_goals
    first
     |rw[show((3*(k:Int)+((N-3*k:Nat):Int)).toNat-3*k)=min 3 (N-3*k)by omega,hy]
     |rw[show((3*(k:Int)+3).toNat-3*k)=min 3 (N-3*k)by omega,hy]
     |rw[show((3*(k:Int)+min 3 ((N-3*k:Nat):Int)).toNat-3*k)=min 3 (N-3*k)by omega,hy]
    refine⟨λ_=>by omega,?_⟩
    refine hR.out.mono ?_
    rintro e w3 (⟨rfl,Sl⟩|⟨rfl,tu⟩)
    ·obtain⟨⟨aqE,WE,c3⟩,c4⟩:=Sk _ _ Sl
     gi_wp2
     go_roundw
     case rel=>exact⟨k+1,by omega,by go_num,Sl⟩
     case measure=>simp[intOf];omega
    ·gi_wp2
     try simp only[Exit.inBlock,Exit.then]
     refine bodyPost_ret (results_none rfl _ _ _) rfl ?_
     exact⟨⟨_,rfl⟩,.inr tu⟩
  ·gi_wp2
   go_end0
   exact⟨⟨_,rfl⟩,.inl (by rw[show(N+2)/3=k by omega];exact C8)⟩
end Go.Proofs.YtnlkkgpcikkpoaaGreat
