/- Part of the proof: Zpc, Zpb, Zpe, Zpd, Zpf, Zpo, Zpg, Zpm, Reg, Mem, Mem2, Zch. -/
import Derived.Test.YtnlkkgpcikkpoaaJAi
import Derived.KernelRfl
import Derived.Orders
import Derived.Tactics2
import Derived.Laws.World
import Derived.Laws.Rows
import Derived.Below
import Derived.Laws.BytesArg
import Derived.Lib.ConvBytes
import Derived.Lib.Hide
import Derived.Laws.NewBlocks
import Derived.Laws.CopyOwn
import Derived.Lib.SlBytesConst
import Derived.Laws.Strings
import Derived.Deep.Draws
import Derived.Test.YtnlkkgpcikkpoaaChecked
import Derived.WalkKit
import Derived.WalkLawsBesides
import Derived.WalkSpells
import Derived.Outline
import Derived.OwnWalk
import Derived.RangeFuncNested
import Derived.RangeFuncBound
import Derived.RangeFuncCalls
import Derived.RangeFuncLeaves
import Derived.Shelf.Abstract
import Derived.Shelf.RegionOpen
import Derived.OwnWalkIn
import Derived.TacticsInMore
import Derived.LoopNIn
import Derived.LoopIn
open Array renaming toList→amV
open Bool renaming and_false→arV,false_and→apO
open ByteArray renaming data→amP,empty→amw,mk→am7,size→ams
open Decidable renaming not_not→aoa
open Go renaming Code→am3,FuncId→amY,Value→amn,World→amC
open Go.Fence renaming wide→api
open Go.IntKind renaming i64→amA,u8→amJ,wrap→aml
open Go.Proofs.Try renaming prog→asz
open Go.Value renaming bool→anz,int→amu,pointer→anx,string→amT
open Int renaming toNat→amm
open List renaming all→amq,append_assoc→amQ,drop_eq_getElem_cons→aoh,drop_left→arU,drop_of_length_le→an3,find?→arc,flatten_append→aqn,getElem?_append_right→am5,getElem?_eq_getElem→amt,getElem?_eq_some_iff→amy,length→mM,length_append→amD,length_drop→anA,length_take→anf,map→am0,map_append→anh,mem_cons_of_mem→amK,mem_cons_self→amN,nil_append→an6,take→amM,take_left'→arN,toArray→ang
open Nat renaming beq→amE,ble→amO,ble_eq_true_of_le→am2,blt→amG,le_of_eq→aoB,le_refl→amX,le_trans→apF,sub_zero→apc,zero_le→ann
open Option renaming bind→anj,getD→amL,isSome→apf
open Option.some renaming inj→apE
open Prod renaming fst→amx,snd→anl
open UInt8 renaming toNat→amZ
set_option linter.unusedVariables false
set_option linter.unusedSimpArgs false
namespace Go.Proofs.Ytnlkkgpcikkpoaa
noncomputable section
open Go Vm Go.RowKit
set_option maxRecDepth 100000
noncomputable def acg:List (amY×Sum):=[(106,Sum.du asz Gr)]
theorem ach:dg asz (dE asz (dF acg) 50 40):=dJ cZ mixed (dQ (.cons abB .nil)) 50 40
noncomputable def aci:List (amY×Sum):=[(97,Gu),(98,Sum.of GN)]
theorem OC:dg asz (dE asz (dF aci) 50 40):=dJ cZ mixed (dQ (.cons abC (.cons aca .nil))) 50 40
noncomputable def A5:List am3:=ba (dy asz 96)
noncomputable def OD:List am3:=ba (dy asz 85)
open Tree renaming aU→mN,dh→mF,eQ→mL,fw→mQ,dz→mR,fI→mE
noncomputable abbrev GP:List am3:=(ba (inner (ba (inner (A5.drop 2)))))
def OE:Nat→Bool→Bool→Tree→Tree
 |0,_,_,t=>t
 |n+1,d,b,t=>.cD d b (OE n d b t)
theorem OF{R:bf→aj→Prop}{c v:Bool}{t:Tree}(n:Nat)(h1:c=v)(h2:t.ok R):(OE n c v t).ok R:=by
 induction n with
 |zero=>exact h2
 |succ n ih=>exact⟨h1,ih⟩
abbrev OK:=fun S L R H d=>([ab (aQ S 1 2 3 4) 64,.abs d,ab (ao L) 9,ab (aq R) 3,ab (ak H) 144]:List ai)
abbrev OG:=fun S L R H d (o n:Nat)=>(⟨[(0,an 0),(8,di 3 o n n),(9,aa n),(10,aa 0)],OK S L R H d⟩:aj)
abbrev acj:=fun S L R H d (o n:Nat)=>(⟨[(0,an 0),(1,di 3 o n n)],OK S L R H d⟩:aj)
theorem ack(S L R H d)(o n:Nat)(pH:(ak H).all af=true){Q:aV}(l3:al asz 24 5 (A5.drop 2) (OG S L R H d o n) Q):al asz 24 5 A5 (acj S L R H d o n) Q:=
 aZ bo 2 (.leaf [0,8,9,10] [0,1,2,3,4] [2,3,4]) (fun u=>by kernel_rfl) (aM L R H (mQ l3))
abbrev acm:=fun S L R H d (o n:Nat) (i:Int)=>(⟨[(0,an 0),(8,di 3 o n n),(9,aa n),(10,aa i)],OK S L R H d⟩:aj)
noncomputable abbrev acn(S:ad)(L:List ByteArray)(R:List Int)(H:List ap)(d:ay)(o n:Nat)(i:Int):aj:=⟨[],OK S L R H d⟩
abbrev OH:=fun S L R H d (o n:Nat) (i:Int)=>(⟨[(0,an 0),(8,di 3 o n n),(9,aa n),(10,aa i)],OK S L R H d⟩:aj)
theorem aco(S L R H d)(o n:Nat)(i:Int)(pH:(ak H).all af=true){Q:aV}(l3:(decide (i<(↑n:Int)))=true→al asz 24 5 (GP.drop 2) (acm S L R H d o n i) Q)(l4:(decide (i<(↑n:Int)))=false→Q (.exit 0) (acn S L R H d o n i)):al asz 24 5 GP (OH S L R H d o n i) Q:=
 aZ bo 2 (.fork 0 (.leaf [0,8,9,10] [0,1,2,3,4] [2,3,4]) (.leaf [] [0,1,2,3,4] [2,3,4])) (fun u=>by kernel_rfl) (mF (c:=decide (i<(↑n:Int))) (fun h0=>(aM L R H (mQ (l3 h0)))) (fun h0=>(aM L R H (mE 0 (l4 h0)))))
abbrev A6:=fun S L R H d (o n:Nat) (i:Int)=>(⟨[(4,aa (amx (eS d (au (aq R) (o+amm i*1)))))],[ab (aQ S 1 2 3 4) 64,.abs (anl (eS d (au (aq R) (o+amm i*1)))),ab (ao L) 9,ab (aq R) 3,ab (ak H) 144]⟩:aj)
theorem acp(S L R H d)(o n:Nat)(i:Int){Q:bk}(hq:Q (.ret (aa (amx (eS d (au (aq R) (o+amm i*1)))))) [ab (aQ S 1 2 3 4) 64,.abs (anl (eS d (au (aq R) (o+amm i*1)))),ab (ao L) 9,ab (aq R) 3,ab (ak H) 144]):aH asz 96 24 5 Q .ret (A6 S L R H d o n i):=aH.ret (vs:=[aa (amx (eS d (au (aq R) (o+amm i*1))))]) (l:=[]) (bs:=[0,1,2,3,4]) (pl:=[2,3,4]) (q:=[ao L,aq R,ak H]) (fun u=>by kernel_rfl) (by kernel_rfl) (gi L R H bd) hq
abbrev OI:=fun S L R H d (o n:Nat) (i:Int)=>(⟨[(0,an 0),(8,di 3 o n n),(9,aa n),(10,.int .i64 (aml .i64 (i+1)))],[ab (aQ S 1 2 3 4) 64,.abs (anl (eS d (au (aq R) (o+amm i*1)))),ab (ao L) 9,ab (aq R) 3,ab (ak H) 144]⟩:aj)
theorem acq(S L R H d)(o n:Nat)(i:Int)(pH:(ak H).all af=true)(h0:0≤i)(h1:i<n)(h2:n≤1000000)(h3:aml .i64 (i+1)=i+1){Q:aV}(n0:(cy amA (aq R) (o+amm i*1))=true)(n1:(ph d)=true)(l5:(amx (eS d (au (aq R) (o+amm i*1))) != 0)=true→Q .ret (A6 S L R H d o n i))(l6:(amx (eS d (au (aq R) (o+amm i*1))) != 0)=false→Q .normal (OI S L R H d o n i)):al asz 24 5 (GP.drop 2) (OH S L R H d o n i) Q:=
 aZ ach 1000 (av [0,1,1,0,1,5] (.fork 0 (.leaf [4] [0,1,2,3,4] [2,3,4]) (.leaf [0,8,9,10] [0,1,2,3,4] [2,3,4]))) (fun u=>by kernel_rfl) (mN (decide_eq_true (by omega):(decide (0≤i))=true) (mN (show(amG (amm i) n)=true by simp at pH h0 h1 h2 h3⊢ <;>omega) (mN n0 (mN n1 (mF (c:=amx (eS d (au (aq R) (o+amm i*1))) != 0) (fun h0=>(aM L R H (mR (l5 h0)))) (fun h0=>(aM L R H (mQ (al.done (by kernel_rfl) (l6 h0))))))))))
abbrev GR:=fun S L R H d (o n:Nat)=>(⟨[(4,aa 0)],OK S L R H d⟩:aj)
theorem acr(S L R H d)(o n:Nat){Q:bk}(hq:Q (.ret (aa 0)) (GR S L R H d o n).objs):aH asz 96 24 5 Q .ret (GR S L R H d o n):=aH.ret (vs:=[aa 0]) (l:=[]) (bs:=[0,1,2,3,4]) (pl:=[2,3,4]) (q:=[ao L,aq R,ak H]) (fun u=>by kernel_rfl) (by kernel_rfl) (gi L R H bd) hq
noncomputable abbrev acs(S:ad)(L:List ByteArray)(R:List Int)(H:List ap)(d:ay)(o n:Nat):aj:=⟨[],OK S L R H d⟩
theorem acu(S L R H d)(o n:Nat)(pH:(ak H).all af=true){Q:aV}(l3:Q .ret (GR S L R H d o n)):al asz 24 5 (A5.drop 3) (acs S L R H d o n) Q:=
 aZ bo 1000 (.leaf [4] [0,1,2,3,4] [2,3,4]) (fun u=>by kernel_rfl) (aM L R H (mR l3))
abbrev OJ:=fun S L R H d Hc (o:Nat)=>(⟨[(4,aa 0)],[ab (aQ S 1 2 3 4) 64,.abs (anl (anl (aK d (au Hc (o+0)) (au Hc (o+1)) 65))),ab (ao L) 9,ab (aq R) 3,ab (ak H) 144,ab (amk (amk (amk Hc (o+3) [anz (decide (bb (bh (ag (amx (aK d (au Hc (o+0)) (au Hc (o+1)) 65)))) 10 ≥ 0))]) (o+2) [amT (am7 (ang (amL (anj (cut (ag (amx (aK d (au Hc (o+0)) (au Hc (o+1)) 65))) 0 (amm (if 0>bb (bh (ag (amx (aK d (au Hc (o+0)) (au Hc (o+1)) 65)))) 10 then 0 else bb (bh (ag (amx (aK d (au Hc (o+0)) (au Hc (o+1)) 65)))) 10)-0)) bytesOf) [])))]) (o+1) [amu amA (aml .i64 (au (amk (amk Hc (o+3) [anz (decide (bb (bh (ag (amx (aK d (au Hc (o+0)) (au Hc (o+1)) 65)))) 10 ≥ 0))]) (o+2) [amT (am7 (ang (amL (anj (cut (ag (amx (aK d (au Hc (o+0)) (au Hc (o+1)) 65))) 0 (amm (if 0>bb (bh (ag (amx (aK d (au Hc (o+0)) (au Hc (o+1)) 65)))) 10 then 0 else bb (bh (ag (amx (aK d (au Hc (o+0)) (au Hc (o+1)) 65)))) 10)-0)) bytesOf) [])))]) (o+1)+aml .i64 (bb (bh (ag (amx (aK d (au Hc (o+0)) (au Hc (o+1)) 65)))) 10+1)))]) 144]⟩:aj)
theorem acv(S L R H d Hc)(o:Nat){Q:bk}(FW:amq (amk (amk (amk Hc (o+3) [anz (decide (bb (bh (ag (amx (aK d (au Hc (o+0)) (au Hc (o+1)) 65)))) 10 ≥ 0))]) (o+2) [amT (am7 (ang (amL (anj (cut (ag (amx (aK d (au Hc (o+0)) (au Hc (o+1)) 65))) 0 (amm (if 0>bb (bh (ag (amx (aK d (au Hc (o+0)) (au Hc (o+1)) 65)))) 10 then 0 else bb (bh (ag (amx (aK d (au Hc (o+0)) (au Hc (o+1)) 65)))) 10)-0)) bytesOf) [])))]) (o+1) [amu amA (aml .i64 (au (amk (amk Hc (o+3) [anz (decide (bb (bh (ag (amx (aK d (au Hc (o+0)) (au Hc (o+1)) 65)))) 10 ≥ 0))]) (o+2) [amT (am7 (ang (amL (anj (cut (ag (amx (aK d (au Hc (o+0)) (au Hc (o+1)) 65))) 0 (amm (if 0>bb (bh (ag (amx (aK d (au Hc (o+0)) (au Hc (o+1)) 65)))) 10 then 0 else bb (bh (ag (amx (aK d (au Hc (o+0)) (au Hc (o+1)) 65)))) 10)-0)) bytesOf) [])))]) (o+1)+aml .i64 (bb (bh (ag (amx (aK d (au Hc (o+0)) (au Hc (o+1)) 65)))) 10+1)))]) af=true)(hq:Q (.ret (aa 0)) [ab (aQ S 1 2 3 4) 64,.abs (anl (anl (aK d (au Hc (o+0)) (au Hc (o+1)) 65))),ab (ao L) 9,ab (aq R) 3,ab (ak H) 144,ab (amk (amk (amk Hc (o+3) [anz (decide (bb (bh (ag (amx (aK d (au Hc (o+0)) (au Hc (o+1)) 65)))) 10 ≥ 0))]) (o+2) [amT (am7 (ang (amL (anj (cut (ag (amx (aK d (au Hc (o+0)) (au Hc (o+1)) 65))) 0 (amm (if 0>bb (bh (ag (amx (aK d (au Hc (o+0)) (au Hc (o+1)) 65)))) 10 then 0 else bb (bh (ag (amx (aK d (au Hc (o+0)) (au Hc (o+1)) 65)))) 10)-0)) bytesOf) [])))]) (o+1) [amu amA (aml .i64 (au (amk (amk Hc (o+3) [anz (decide (bb (bh (ag (amx (aK d (au Hc (o+0)) (au Hc (o+1)) 65)))) 10 ≥ 0))]) (o+2) [amT (am7 (ang (amL (anj (cut (ag (amx (aK d (au Hc (o+0)) (au Hc (o+1)) 65))) 0 (amm (if 0>bb (bh (ag (amx (aK d (au Hc (o+0)) (au Hc (o+1)) 65)))) 10 then 0 else bb (bh (ag (amx (aK d (au Hc (o+0)) (au Hc (o+1)) 65)))) 10)-0)) bytesOf) [])))]) (o+1)+aml .i64 (bb (bh (ag (amx (aK d (au Hc (o+0)) (au Hc (o+1)) 65)))) 10+1)))]) 144]):aH asz 85 51 6 Q .ret (OJ S L R H d Hc o):=aH.ret (vs:=[aa 0]) (l:=[]) (bs:=[0,1,2,3,4,5]) (pl:=[2,3,4,5]) (q:=[ao L,aq R,ak H,amk (amk (amk Hc (o+3) [anz (decide (bb (bh (ag (amx (aK d (au Hc (o+0)) (au Hc (o+1)) 65)))) 10 ≥ 0))]) (o+2) [amT (am7 (ang (amL (anj (cut (ag (amx (aK d (au Hc (o+0)) (au Hc (o+1)) 65))) 0 (amm (if 0>bb (bh (ag (amx (aK d (au Hc (o+0)) (au Hc (o+1)) 65)))) 10 then 0 else bb (bh (ag (amx (aK d (au Hc (o+0)) (au Hc (o+1)) 65)))) 10)-0)) bytesOf) [])))]) (o+1) [amu amA (aml .i64 (au (amk (amk Hc (o+3) [anz (decide (bb (bh (ag (amx (aK d (au Hc (o+0)) (au Hc (o+1)) 65)))) 10 ≥ 0))]) (o+2) [amT (am7 (ang (amL (anj (cut (ag (amx (aK d (au Hc (o+0)) (au Hc (o+1)) 65))) 0 (amm (if 0>bb (bh (ag (amx (aK d (au Hc (o+0)) (au Hc (o+1)) 65)))) 10 then 0 else bb (bh (ag (amx (aK d (au Hc (o+0)) (au Hc (o+1)) 65)))) 10)-0)) bytesOf) [])))]) (o+1)+aml .i64 (bb (bh (ag (amx (aK d (au Hc (o+0)) (au Hc (o+1)) 65)))) 10+1)))]]) (fun u=>by kernel_rfl) (by kernel_rfl) (gi L R H (aE FW bd)) hq
abbrev OL:=fun S L R H d Hc (o:Nat)=>(⟨[(4,aa (amx (anl (aK d (au Hc (o+0)) (au Hc (o+1)) 65))))],[ab (aQ S 1 2 3 4) 64,.abs (anl (anl (aK d (au Hc (o+0)) (au Hc (o+1)) 65))),ab (ao L) 9,ab (aq R) 3,ab (ak H) 144,ab Hc 144]⟩:aj)
theorem acw(S L R H d Hc)(o:Nat){Q:bk}(br:amq Hc af=true)(hq:Q (.ret (aa (amx (anl (aK d (au Hc (o+0)) (au Hc (o+1)) 65))))) [ab (aQ S 1 2 3 4) 64,.abs (anl (anl (aK d (au Hc (o+0)) (au Hc (o+1)) 65))),ab (ao L) 9,ab (aq R) 3,ab (ak H) 144,ab Hc 144]):aH asz 85 51 6 Q .ret (OL S L R H d Hc o):=aH.ret (vs:=[aa (amx (anl (aK d (au Hc (o+0)) (au Hc (o+1)) 65)))]) (l:=[]) (bs:=[0,1,2,3,4,5]) (pl:=[2,3,4,5]) (q:=[ao L,aq R,ak H,Hc]) (fun u=>by kernel_rfl) (by kernel_rfl) (gi L R H (aE br bd)) hq
abbrev acx:=fun S L R H d Hc (o:Nat)=>(⟨[(0,an 0),(1,.pointer (some ⟨5,o,none⟩))],[ab (aQ S 1 2 3 4) 64,.abs d,ab (ao L) 9,ab (aq R) 3,ab (ak H) 144,ab Hc 144]⟩:aj)
theorem acy(S L R H d)(Hc:List amn)(o:Nat)(pH:(ak H).all af=true)(pX:Hc.all af=true)(x0:cy .i64 Hc o=true)(x1:cy .i64 Hc (o+1)=true)(x2:o+4≤(mM Hc)){Q:aV}(n0:(ph d)=true)(n1:(amx (anl (aK d (au Hc (o+0)) (au Hc (o+1)) 65))==0)=true→(xY (ag (amx (aK d (au Hc (o+0)) (au Hc (o+1)) 65))) 5 (ams (amx (aK d (au Hc (o+0)) (au Hc (o+1)) 65))) (ams (amx (aK d (au Hc (o+0)) (au Hc (o+1)) 65))))=true)(n2:(amx (anl (aK d (au Hc (o+0)) (au Hc (o+1)) 65))==0)=true→(amO (amm (if 0>bb (bh (ag (amx (aK d (au Hc (o+0)) (au Hc (o+1)) 65)))) 10 then 0 else bb (bh (ag (amx (aK d (au Hc (o+0)) (au Hc (o+1)) 65)))) 10)) (ams (amx (aK d (au Hc (o+0)) (au Hc (o+1)) 65))))=true)(n3:(amx (anl (aK d (au Hc (o+0)) (au Hc (o+1)) 65))==0)=true→(apf (anj (cut (ag (amx (aK d (au Hc (o+0)) (au Hc (o+1)) 65))) 0 (amm (if 0>bb (bh (ag (amx (aK d (au Hc (o+0)) (au Hc (o+1)) 65)))) 10 then 0 else bb (bh (ag (amx (aK d (au Hc (o+0)) (au Hc (o+1)) 65)))) 10)-0)) bytesOf))=true)(n4:(amx (anl (aK d (au Hc (o+0)) (au Hc (o+1)) 65))==0)=true→(amO (o+2+1) (mM (amk Hc (o+3) [anz (decide (bb (bh (ag (amx (aK d (au Hc (o+0)) (au Hc (o+1)) 65)))) 10 ≥ 0))])))=true)(n5:(amx (anl (aK d (au Hc (o+0)) (au Hc (o+1)) 65))==0)=true→(cy amA (amk (amk Hc (o+3) [anz (decide (bb (bh (ag (amx (aK d (au Hc (o+0)) (au Hc (o+1)) 65)))) 10 ≥ 0))]) (o+2) [amT (am7 (ang (amL (anj (cut (ag (amx (aK d (au Hc (o+0)) (au Hc (o+1)) 65))) 0 (amm (if 0>bb (bh (ag (amx (aK d (au Hc (o+0)) (au Hc (o+1)) 65)))) 10 then 0 else bb (bh (ag (amx (aK d (au Hc (o+0)) (au Hc (o+1)) 65)))) 10)-0)) bytesOf) [])))]) (o+1))=true)(n6:(amx (anl (aK d (au Hc (o+0)) (au Hc (o+1)) 65))==0)=true→(amO (o+1+1) (mM (amk (amk Hc (o+3) [anz (decide (bb (bh (ag (amx (aK d (au Hc (o+0)) (au Hc (o+1)) 65)))) 10 ≥ 0))]) (o+2) [amT (am7 (ang (amL (anj (cut (ag (amx (aK d (au Hc (o+0)) (au Hc (o+1)) 65))) 0 (amm (if 0>bb (bh (ag (amx (aK d (au Hc (o+0)) (au Hc (o+1)) 65)))) 10 then 0 else bb (bh (ag (amx (aK d (au Hc (o+0)) (au Hc (o+1)) 65)))) 10)-0)) bytesOf) [])))])))=true)(aW:amq (ao L) af=true)(be:amq (aq R) af=true)(bB:amq (ak H) af=true)(kP:(amx (anl (aK d (au Hc (o+0)) (au Hc (o+1)) 65))==0)=true→Q .ret (OJ S L R H d Hc o))(br:amq Hc af=true)(kL:(amx (anl (aK d (au Hc (o+0)) (au Hc (o+1)) 65))==0)=false→Q .ret (OL S L R H d Hc o)):al asz 51 6 OD (acx S L R H d Hc o) Q:=
 aZ OC 1000 (av [2,1,0,1,3] (.fork 0 (av [1,5,1,1,0,1,2,1,3,0,1,0,1,0,1,0,1] (.leaf [4] [0,1,2,3,4,5] [2,3,4,5])) (av [1] (.leaf [4] [0,1,2,3,4,5] [2,3,4,5])))) (fun u=>by kernel_rfl) (mN (show(cy amA Hc (o+0))=true by assumption) (mN (show(cy amA Hc (o+1))=true by assumption) (mN n0 (mF (c:=amx (anl (aK d (au Hc (o+0)) (au Hc (o+1)) 65))==0) (fun h0=>(OF 2 (aI (amx (aK d (au Hc (o+0)) (au Hc (o+1)) 65))) (mN (n1 h0) (mN (aI (amx (aK d (au Hc (o+0)) (au Hc (o+1)) 65))) (mN (show(amO (o+3+1) (mM Hc))=true by simp at pH pX x0 x1 x2 h0⊢ <;>omega) (mN (decide_eq_true (by omega):(decide (0≤if 0>bb (bh (ag (amx (aK d (au Hc (o+0)) (au Hc (o+1)) 65)))) 10 then 0 else bb (bh (ag (amx (aK d (au Hc (o+0)) (au Hc (o+1)) 65)))) 10))=true) (mN (n2 h0) (mN (n3 h0) (mN (n4 h0) (mN (n5 h0) (mN (n6 h0) (aM L R H (mN (show(amq (amk (amk (amk Hc (o+3) [anz (decide (bb (bh (ag (amx (aK d (au Hc (o+0)) (au Hc (o+1)) 65)))) 10 ≥ 0))]) (o+2) [amT (am7 (ang (amL (anj (cut (ag (amx (aK d (au Hc (o+0)) (au Hc (o+1)) 65))) 0 (amm (if 0>bb (bh (ag (amx (aK d (au Hc (o+0)) (au Hc (o+1)) 65)))) 10 then 0 else bb (bh (ag (amx (aK d (au Hc (o+0)) (au Hc (o+1)) 65)))) 10)-0)) bytesOf) [])))]) (o+1) [amu amA (aml .i64 (au (amk (amk Hc (o+3) [anz (decide (bb (bh (ag (amx (aK d (au Hc (o+0)) (au Hc (o+1)) 65)))) 10 ≥ 0))]) (o+2) [amT (am7 (ang (amL (anj (cut (ag (amx (aK d (au Hc (o+0)) (au Hc (o+1)) 65))) 0 (amm (if 0>bb (bh (ag (amx (aK d (au Hc (o+0)) (au Hc (o+1)) 65)))) 10 then 0 else bb (bh (ag (amx (aK d (au Hc (o+0)) (au Hc (o+1)) 65)))) 10)-0)) bytesOf) [])))]) (o+1)+aml .i64 (bb (bh (ag (amx (aK d (au Hc (o+0)) (au Hc (o+1)) 65)))) 10+1)))]) af)=true by first|exact aP _|assumption|exact aD (by assumption) rfl _|exact aD (aD (aD (by assumption) rfl _) rfl _) rfl _|exact aD (aP _) (cg (by rfl) _) _|exact aA (aO (aN _) _) _|(simp;done)|exact aB (by assumption) rfl|exact aB (aP _) rfl|exact aB rfl (aA (by assumption) _)|exact aB (by assumption) (aA (by assumption) _)|exact aB rfl (aA (aO (by assumption) _) _)|exact aA (aO (by assumption) _) _) (mR (kP h0))))))))))))))) (fun h0=>(mN (show(amx (anl (aK d (au Hc (o+0)) (au Hc (o+1)) 65)) != 0)=true by simp at pH pX x0 x1 x2 h0⊢ <;>omega) (aM L R H (mN br (mR (kL h0))))))))))
abbrev OM:=fun S L R d Hc (o:Nat)=>(⟨[(4,aa 0)],[ab (aQ S 1 2 3 4) 64,.abs (anl (anl (aK d (au Hc (o+0)) (au Hc (o+1)) 65))),ab (ao L) 9,ab (aq R) 3,ab (amk (amk (amk Hc (o+3) [anz (decide (bb (bh (ag (amx (aK d (au Hc (o+0)) (au Hc (o+1)) 65)))) 10 ≥ 0))]) (o+2) [amT (am7 (ang (amL (anj (cut (ag (amx (aK d (au Hc (o+0)) (au Hc (o+1)) 65))) 0 (amm (if 0>bb (bh (ag (amx (aK d (au Hc (o+0)) (au Hc (o+1)) 65)))) 10 then 0 else bb (bh (ag (amx (aK d (au Hc (o+0)) (au Hc (o+1)) 65)))) 10)-0)) bytesOf) [])))]) (o+1) [amu amA (aml .i64 (au (amk (amk Hc (o+3) [anz (decide (bb (bh (ag (amx (aK d (au Hc (o+0)) (au Hc (o+1)) 65)))) 10 ≥ 0))]) (o+2) [amT (am7 (ang (amL (anj (cut (ag (amx (aK d (au Hc (o+0)) (au Hc (o+1)) 65))) 0 (amm (if 0>bb (bh (ag (amx (aK d (au Hc (o+0)) (au Hc (o+1)) 65)))) 10 then 0 else bb (bh (ag (amx (aK d (au Hc (o+0)) (au Hc (o+1)) 65)))) 10)-0)) bytesOf) [])))]) (o+1)+aml .i64 (bb (bh (ag (amx (aK d (au Hc (o+0)) (au Hc (o+1)) 65)))) 10+1)))]) 144]⟩:aj)
theorem acz(S L R d Hc)(o:Nat){Q:bk}(q9:amq (amk (amk (amk Hc (o+3) [anz (decide (bb (bh (ag (amx (aK d (au Hc (o+0)) (au Hc (o+1)) 65)))) 10 ≥ 0))]) (o+2) [amT (am7 (ang (amL (anj (cut (ag (amx (aK d (au Hc (o+0)) (au Hc (o+1)) 65))) 0 (amm (if 0>bb (bh (ag (amx (aK d (au Hc (o+0)) (au Hc (o+1)) 65)))) 10 then 0 else bb (bh (ag (amx (aK d (au Hc (o+0)) (au Hc (o+1)) 65)))) 10)-0)) bytesOf) [])))]) (o+1) [amu amA (aml .i64 (au (amk (amk Hc (o+3) [anz (decide (bb (bh (ag (amx (aK d (au Hc (o+0)) (au Hc (o+1)) 65)))) 10 ≥ 0))]) (o+2) [amT (am7 (ang (amL (anj (cut (ag (amx (aK d (au Hc (o+0)) (au Hc (o+1)) 65))) 0 (amm (if 0>bb (bh (ag (amx (aK d (au Hc (o+0)) (au Hc (o+1)) 65)))) 10 then 0 else bb (bh (ag (amx (aK d (au Hc (o+0)) (au Hc (o+1)) 65)))) 10)-0)) bytesOf) [])))]) (o+1)+aml .i64 (bb (bh (ag (amx (aK d (au Hc (o+0)) (au Hc (o+1)) 65)))) 10+1)))]) af=true)(hq:Q (.ret (aa 0)) [ab (aQ S 1 2 3 4) 64,.abs (anl (anl (aK d (au Hc (o+0)) (au Hc (o+1)) 65))),ab (ao L) 9,ab (aq R) 3,ab (amk (amk (amk Hc (o+3) [anz (decide (bb (bh (ag (amx (aK d (au Hc (o+0)) (au Hc (o+1)) 65)))) 10 ≥ 0))]) (o+2) [amT (am7 (ang (amL (anj (cut (ag (amx (aK d (au Hc (o+0)) (au Hc (o+1)) 65))) 0 (amm (if 0>bb (bh (ag (amx (aK d (au Hc (o+0)) (au Hc (o+1)) 65)))) 10 then 0 else bb (bh (ag (amx (aK d (au Hc (o+0)) (au Hc (o+1)) 65)))) 10)-0)) bytesOf) [])))]) (o+1) [amu amA (aml .i64 (au (amk (amk Hc (o+3) [anz (decide (bb (bh (ag (amx (aK d (au Hc (o+0)) (au Hc (o+1)) 65)))) 10 ≥ 0))]) (o+2) [amT (am7 (ang (amL (anj (cut (ag (amx (aK d (au Hc (o+0)) (au Hc (o+1)) 65))) 0 (amm (if 0>bb (bh (ag (amx (aK d (au Hc (o+0)) (au Hc (o+1)) 65)))) 10 then 0 else bb (bh (ag (amx (aK d (au Hc (o+0)) (au Hc (o+1)) 65)))) 10)-0)) bytesOf) [])))]) (o+1)+aml .i64 (bb (bh (ag (amx (aK d (au Hc (o+0)) (au Hc (o+1)) 65)))) 10+1)))]) 144]):aH asz 85 51 5 Q .ret (OM S L R d Hc o):=aH.ret (vs:=[aa 0]) (l:=[]) (bs:=[0,1,2,3,4]) (pl:=[2,3,4]) (q:=[ao L,aq R,amk (amk (amk Hc (o+3) [anz (decide (bb (bh (ag (amx (aK d (au Hc (o+0)) (au Hc (o+1)) 65)))) 10 ≥ 0))]) (o+2) [amT (am7 (ang (amL (anj (cut (ag (amx (aK d (au Hc (o+0)) (au Hc (o+1)) 65))) 0 (amm (if 0>bb (bh (ag (amx (aK d (au Hc (o+0)) (au Hc (o+1)) 65)))) 10 then 0 else bb (bh (ag (amx (aK d (au Hc (o+0)) (au Hc (o+1)) 65)))) 10)-0)) bytesOf) [])))]) (o+1) [amu amA (aml .i64 (au (amk (amk Hc (o+3) [anz (decide (bb (bh (ag (amx (aK d (au Hc (o+0)) (au Hc (o+1)) 65)))) 10 ≥ 0))]) (o+2) [amT (am7 (ang (amL (anj (cut (ag (amx (aK d (au Hc (o+0)) (au Hc (o+1)) 65))) 0 (amm (if 0>bb (bh (ag (amx (aK d (au Hc (o+0)) (au Hc (o+1)) 65)))) 10 then 0 else bb (bh (ag (amx (aK d (au Hc (o+0)) (au Hc (o+1)) 65)))) 10)-0)) bytesOf) [])))]) (o+1)+aml .i64 (bb (bh (ag (amx (aK d (au Hc (o+0)) (au Hc (o+1)) 65)))) 10+1)))]]) (fun u=>by kernel_rfl) (by kernel_rfl) (aE (aN L) (aE (aS R) (aE q9 bd))) hq
abbrev OP:=fun S L R d Hc (o:Nat)=>(⟨[(4,aa (amx (anl (aK d (au Hc (o+0)) (au Hc (o+1)) 65))))],[ab (aQ S 1 2 3 4) 64,.abs (anl (anl (aK d (au Hc (o+0)) (au Hc (o+1)) 65))),ab (ao L) 9,ab (aq R) 3,ab Hc 144]⟩:aj)
theorem acA(S L R d Hc)(o:Nat){Q:bk}(bB:amq Hc af=true)(hq:Q (.ret (aa (amx (anl (aK d (au Hc (o+0)) (au Hc (o+1)) 65))))) [ab (aQ S 1 2 3 4) 64,.abs (anl (anl (aK d (au Hc (o+0)) (au Hc (o+1)) 65))),ab (ao L) 9,ab (aq R) 3,ab Hc 144]):aH asz 85 51 5 Q .ret (OP S L R d Hc o):=aH.ret (vs:=[aa (amx (anl (aK d (au Hc (o+0)) (au Hc (o+1)) 65)))]) (l:=[]) (bs:=[0,1,2,3,4]) (pl:=[2,3,4]) (q:=[ao L,aq R,Hc]) (fun u=>by kernel_rfl) (by kernel_rfl) (aE (aN L) (aE (aS R) (aE bB bd))) hq
abbrev acB:=fun S L R d Hc (o:Nat)=>(⟨[(0,an 0),(1,.pointer (some ⟨4,o,none⟩))],[ab (aQ S 1 2 3 4) 64,.abs d,ab (ao L) 9,ab (aq R) 3,ab Hc 144]⟩:aj)
theorem acC(S L R d)(Hc:List amn)(o:Nat)(pX:Hc.all af=true)(x0:cy .i64 Hc o=true)(x1:cy .i64 Hc (o+1)=true)(x2:o+4≤(mM Hc)){Q:aV}(n0:(ph d)=true)(n1:(amx (anl (aK d (au Hc (o+0)) (au Hc (o+1)) 65))==0)=true→(xY (ag (amx (aK d (au Hc (o+0)) (au Hc (o+1)) 65))) 5 (ams (amx (aK d (au Hc (o+0)) (au Hc (o+1)) 65))) (ams (amx (aK d (au Hc (o+0)) (au Hc (o+1)) 65))))=true)(n2:(amx (anl (aK d (au Hc (o+0)) (au Hc (o+1)) 65))==0)=true→(amO (amm (if 0>bb (bh (ag (amx (aK d (au Hc (o+0)) (au Hc (o+1)) 65)))) 10 then 0 else bb (bh (ag (amx (aK d (au Hc (o+0)) (au Hc (o+1)) 65)))) 10)) (ams (amx (aK d (au Hc (o+0)) (au Hc (o+1)) 65))))=true)(n3:(amx (anl (aK d (au Hc (o+0)) (au Hc (o+1)) 65))==0)=true→(apf (anj (cut (ag (amx (aK d (au Hc (o+0)) (au Hc (o+1)) 65))) 0 (amm (if 0>bb (bh (ag (amx (aK d (au Hc (o+0)) (au Hc (o+1)) 65)))) 10 then 0 else bb (bh (ag (amx (aK d (au Hc (o+0)) (au Hc (o+1)) 65)))) 10)-0)) bytesOf))=true)(n4:(amx (anl (aK d (au Hc (o+0)) (au Hc (o+1)) 65))==0)=true→(amO (o+2+1) (mM (amk Hc (o+3) [anz (decide (bb (bh (ag (amx (aK d (au Hc (o+0)) (au Hc (o+1)) 65)))) 10 ≥ 0))])))=true)(n5:(amx (anl (aK d (au Hc (o+0)) (au Hc (o+1)) 65))==0)=true→(cy amA (amk (amk Hc (o+3) [anz (decide (bb (bh (ag (amx (aK d (au Hc (o+0)) (au Hc (o+1)) 65)))) 10 ≥ 0))]) (o+2) [amT (am7 (ang (amL (anj (cut (ag (amx (aK d (au Hc (o+0)) (au Hc (o+1)) 65))) 0 (amm (if 0>bb (bh (ag (amx (aK d (au Hc (o+0)) (au Hc (o+1)) 65)))) 10 then 0 else bb (bh (ag (amx (aK d (au Hc (o+0)) (au Hc (o+1)) 65)))) 10)-0)) bytesOf) [])))]) (o+1))=true)(n6:(amx (anl (aK d (au Hc (o+0)) (au Hc (o+1)) 65))==0)=true→(amO (o+1+1) (mM (amk (amk Hc (o+3) [anz (decide (bb (bh (ag (amx (aK d (au Hc (o+0)) (au Hc (o+1)) 65)))) 10 ≥ 0))]) (o+2) [amT (am7 (ang (amL (anj (cut (ag (amx (aK d (au Hc (o+0)) (au Hc (o+1)) 65))) 0 (amm (if 0>bb (bh (ag (amx (aK d (au Hc (o+0)) (au Hc (o+1)) 65)))) 10 then 0 else bb (bh (ag (amx (aK d (au Hc (o+0)) (au Hc (o+1)) 65)))) 10)-0)) bytesOf) [])))])))=true)(aW:amq (ao L) af=true)(be:amq (aq R) af=true)(l9:(amx (anl (aK d (au Hc (o+0)) (au Hc (o+1)) 65))==0)=true→Q .ret (OM S L R d Hc o))(bB:amq Hc af=true)(gR:(amx (anl (aK d (au Hc (o+0)) (au Hc (o+1)) 65))==0)=false→Q .ret (OP S L R d Hc o)):al asz 51 5 OD (acB S L R d Hc o) Q:=
 aZ OC 1000 (av [2,1,0,1,3] (.fork 0 (av [1,5,1,1,0,1,2,1,3,0,1,0,1,0,1,0,1] (.leaf [4] [0,1,2,3,4] [2,3,4])) (av [1] (.leaf [4] [0,1,2,3,4] [2,3,4])))) (fun u=>by kernel_rfl) (mN (show(cy amA Hc (o+0))=true by assumption) (mN (show(cy amA Hc (o+1))=true by assumption) (mN n0 (mF (c:=amx (anl (aK d (au Hc (o+0)) (au Hc (o+1)) 65))==0) (fun h0=>(OF 2 (aI (amx (aK d (au Hc (o+0)) (au Hc (o+1)) 65))) (mN (n1 h0) (mN (aI (amx (aK d (au Hc (o+0)) (au Hc (o+1)) 65))) (mN (show(amO (o+3+1) (mM Hc))=true by simp at pX x0 x1 x2 h0⊢ <;>omega) (mN (decide_eq_true (by omega):(decide (0≤if 0>bb (bh (ag (amx (aK d (au Hc (o+0)) (au Hc (o+1)) 65)))) 10 then 0 else bb (bh (ag (amx (aK d (au Hc (o+0)) (au Hc (o+1)) 65)))) 10))=true) (mN (n2 h0) (mN (n3 h0) (mN (n4 h0) (mN (n5 h0) (mN (n6 h0) (mN (aN L) (mN (aS R) (mN (show(amq (amk (amk (amk Hc (o+3) [anz (decide (bb (bh (ag (amx (aK d (au Hc (o+0)) (au Hc (o+1)) 65)))) 10 ≥ 0))]) (o+2) [amT (am7 (ang (amL (anj (cut (ag (amx (aK d (au Hc (o+0)) (au Hc (o+1)) 65))) 0 (amm (if 0>bb (bh (ag (amx (aK d (au Hc (o+0)) (au Hc (o+1)) 65)))) 10 then 0 else bb (bh (ag (amx (aK d (au Hc (o+0)) (au Hc (o+1)) 65)))) 10)-0)) bytesOf) [])))]) (o+1) [amu amA (aml .i64 (au (amk (amk Hc (o+3) [anz (decide (bb (bh (ag (amx (aK d (au Hc (o+0)) (au Hc (o+1)) 65)))) 10 ≥ 0))]) (o+2) [amT (am7 (ang (amL (anj (cut (ag (amx (aK d (au Hc (o+0)) (au Hc (o+1)) 65))) 0 (amm (if 0>bb (bh (ag (amx (aK d (au Hc (o+0)) (au Hc (o+1)) 65)))) 10 then 0 else bb (bh (ag (amx (aK d (au Hc (o+0)) (au Hc (o+1)) 65)))) 10)-0)) bytesOf) [])))]) (o+1)+aml .i64 (bb (bh (ag (amx (aK d (au Hc (o+0)) (au Hc (o+1)) 65)))) 10+1)))]) af)=true by first|exact aP _|assumption|exact aD (by assumption) rfl _|exact aD (aD (aD (by assumption) rfl _) rfl _) rfl _|exact aD (aP _) (cg (by rfl) _) _|exact aA (aO (aN _) _) _|(simp;done)|exact aB (by assumption) rfl|exact aB (aP _) rfl|exact aB rfl (aA (by assumption) _)|exact aB (by assumption) (aA (by assumption) _)|exact aB rfl (aA (aO (by assumption) _) _)|exact aA (aO (by assumption) _) _) (mR (l9 h0)))))))))))))))) (fun h0=>(mN (show(amx (anl (aK d (au Hc (o+0)) (au Hc (o+1)) 65)) != 0)=true by simp at pX x0 x1 x2 h0⊢ <;>omega) (mN (aN L) (mN (aS R) (mN bB (mR (gR h0)))))))))))
end
end Go.Proofs.Ytnlkkgpcikkpoaa
namespace Go.Proofs.Ytnlkkgpcikkpoaa
open Go Vm Go.RowKit
set_option maxRecDepth 100000
theorem A7{H:List ap}{k:Nat}(h:k<H.length):H[k]?=some (aX H k):=by
 unfold aX
 rw[List.getD_eq_getElem?_getD,amt h]
 rfl
theorem x5{H:List ap}{k:Nat}(h:k<H.length):aX H k∈H:=List.mem_of_getElem? (A7 h)
theorem OQ(d:ay):∀(H:List ap) (k:Nat) (h:ap),k<H.length→eY d (H.set k h)+fz d (aX H k)=eY d H+fz d h
 | [],k,h,hk=>by cases hk
 |x::H,0,h,hk=>by
  show fz d h+eY d H+fz d x=fz d x+eY d H+fz d h
  omega
 |x::H,k+1,h,hk=>by
  have:=OQ d H k h (Nat.lt_of_succ_lt_succ hk)
  show fz d x+eY d (H.set k h)+fz d (aX H k)=fz d x+eY d H+fz d h
  omega
structure rG(no:Int)(F:Nat)(H:List ap)(d:ay):Prop where
 dv:cw d
 ok:∀h∈H,ow h∧h.no≠no
 bS:ca d no+eY d H≤F
theorem rG.write{no:Int}{F:Nat}{H:List ap}{d:ay}(hm:rG no F H d)(hF:F≤1000000){k:Nat}(hk:k<H.length)(ht:(aX H k).there=true):
 cw (bN d no (b7 (aX H k).line)).2∧(∀f,fileOf d.files no=some f→f.size+(b7 (aX H k).line).size≤1000000)∧
 ca (bN d no (b7 (aX H k).line)).2 no≤ca d no+((aX H k).line.size+1)∧(aX H k).line.size+1≤eY d H:=by
 have h1:fz d (aX H k)≤eY d H:=by
  have key:∀(l:List ap),aX H k∈l→fz d (aX H k)≤eY d l:=by
   intro l
   induction l with
   |nil=>intro h;cases h
   |cons x l ih=>
    intro h
    show _≤fz d x+eY d l
    rcases List.mem_cons.1 h with h|h
    ·rw[h];omega
    ·have:=ih h;omega
  exact key H (x5 hk)
 have h2:(aX H k).line.size+1≤fz d (aX H k):=by
  unfold fz vp
  rw[ht,if_pos rfl]
  omega
 have hf:=hm.bS
 have hs:∀f,fileOf d.files no=some f→f.size+(b7 (aX H k).line).size≤1000000:=fun f e=>by
  have:ca d no=f.size:=by unfold ca;rw[e];rfl
  rw[ls]
  omega
 refine⟨hm.dv.write hs,hs,?_,by omega⟩
 have:=Oz d no (b7 (aX H k).line)
 rw[ls]at this
 exact this
theorem rG.next{no:Int}{F:Nat}{H:List ap}{d:ay}(hm:rG no F H d)(hF:F≤1000000){k:Nat}(hk:k<H.length)(ht:(aX H k).there=true)
 (hr:(bX (aX H k) (bN d no (b7 (aX H k).line)).2).1=0):
 rG no F (H.set k (bX (aX H k) (bN d no (b7 (aX H k).line)).2).2.1) (bX (aX H k) (bN d no (b7 (aX H k).line)).2).2.2∧
 eY (bX (aX H k) (bN d no (b7 (aX H k).line)).2).2.2 (H.set k (bX (aX H k) (bN d no (b7 (aX H k).line)).2).2.1)<eY d H:=by
 obtain⟨w1,w2,w3,w4⟩:=hm.write hF hk ht
 generalize kK:(bN d no (b7 (aX H k).line)).2=d1 at*
 have x6:∀m,m≠no→ca d1 m=ca d m:=fun m h=>by rw[←kK];exact GO d _ h
 obtain⟨r1,r2,r3⟩:=A1 w1 hr
 obtain⟨f1,f2,f3⟩:=A0 (aX H k) d1
 have hok:=hm.ok _ (x5 hk)
 have fW:=hok.2
 have vt:vp (aX H k)=(aX H k).line.size+1:=by unfold vp;rw[ht];rfl
 have xo:eY d1 H=eY d H:=by
  have key:∀l:List ap,(∀h∈l,h.no≠no)→eY d1 l=eY d l:=by
   intro l
   induction l with
   |nil=>intro _;rfl
   |cons x l ih=>
    intro h
    show fz d1 x+eY d1 l=fz d x+eY d l
    rw[ih fun y hy=>h y (amK _ hy)]
    unfold fz
    rw[x6 _ (h x amN)]
  exact key H fun h hh=>(hm.ok h hh).2
 have J4:=OQ d1 H k (bX (aX H k) d1).2.1 hk
 have alB:fz d1 (aX H k)=ca d1 (aX H k).no-(aX H k).at_.toNat+((aX H k).line.size+1):=by unfold fz;rw[vt]
 have alC:fz d1 (bX (aX H k) d1).2.1=ca d1 (aX H k).no-(aX H k).at_.toNat:=by unfold fz;rw[r1];exact r3
 have jq:eY (bX (aX H k) d1).2.2 (H.set k (bX (aX H k) d1).2.1)=eY d1 (H.set k (bX (aX H k) d1).2.1):=Ow f1 _
 have hf:=hm.bS
 refine⟨⟨w1.bX _,fun h hh=>?_,?_⟩,?_⟩
 ·rcases List.mem_or_eq_of_mem_set hh with hh|rfl
  ·exact hm.ok h hh
  ·exact⟨r2,by rw[r1];exact fW⟩
 ·rw[qq f1,jq]
  omega
 ·rw[jq]
  omega
theorem OS(f:Bool)(no:Int):∀(n F:Nat) (H:List ap) (d:ay),F≤1000000→rG no F H d→cw (lx f no n H d).2∧(lx f no n H d).2.made=d.made∧ca (lx f no n H d).2 no≤F∧∀m,m≠no→ca (lx f no n H d).2 m=ca d m
 |0,F,H,d,hF,hm=>⟨hm.dv,rfl,by have:=hm.bS;show ca d no≤F;omega,fun m _=>rfl⟩
 |n+1,F,H,d,hF,hm=>by
  unfold lx
  cases hk:eE f H with
  |none=>exact⟨hm.dv,rfl,by have:=hm.bS;show ca d no≤F;omega,fun m _=>rfl⟩
  |some k=>
   obtain⟨k1,k2⟩:=A4 hk
   obtain⟨w1,w2,w3,w4⟩:=hm.write hF k1 k2
   have x6:∀m,m≠no→ca (bN d no (b7 (aX H k).line)).2 m=ca d m:=fun m h=>GO d _ h
   have GS:=GD d no (b7 (aX H k).line)
   have hf:=hm.bS
   dsimp only
   split
   ·exact⟨w1,GS,by omega,x6⟩
   obtain⟨f1,f2,f3⟩:=A0 (aX H k) (bN d no (b7 (aX H k).line)).2
   split
   ·exact⟨w1.bX _,f2.trans GS,by rw[qq f1];omega,fun m h=>by rw[qq f1];exact x6 m h⟩
   ·rename_i hr
    obtain⟨n1,_⟩:=hm.next hF k1 k2 (aoa.1 hr)
    obtain⟨g1,g2,g3,g4⟩:=OS f no n F _ _ hF n1
    exact⟨g1,g2.trans (f2.trans GS),g3,fun m h=>by rw[g4 m h,qq f1];exact x6 m h⟩
theorem A8{d:ay}(h:(bw d).2.1=0):(bw d).1=(d.made:Int)+1:=by
 unfold bw at h⊢
 split at h
 ·cases h
 ·rename_i h1
  rw[if_neg h1]
  split at h
  ·rename_i h2;exact absurd h h2
  ·rename_i h2
   rw[if_neg h2]
theorem GU(d:ay)(m:Int)(hm:m≤d.made):ca (bw d).2.2 m=ca d m:=by
 unfold bw
 split
 ·rfl
 split
 ·rfl
 ·unfold ca fileOf
  show((arc _ (d.files++[_])).map _|>.map _).getD 0=_
  rw[List.find?_append]
  have:(arc (fun p:Nat×ByteArray=>(p.1:Int)==m) [(d.made+1,amw)])=none:=by
   rw[List.find?_eq_none]
   intro p hp
   rw[List.mem_singleton.1 hp]
   simp only[beq_iff_eq]
   omega
  rw[this,Option.or_none]
theorem OT{d:ay}(hd:cw d)(h:(bw d).2.1=0):ca (bw d).2.2 (bw d).1=0:=by
 unfold ca
 rw[AQ hd h]
 rfl
structure jm(d:ay)(l:List Int):Prop where
 dv:cw d
 old:∀r∈l,r≤d.made
 bS:eK d l≤1000000
theorem jm.opened{d:ay}{l:List Int}(h:jm d l)(he:(bw d).2.1=0)(ho:(dY l [] (bw d).2.2).1=0):
 rG (bw d).1 (eK d l) (dY l [] (bw d).2.2).2.1 (dY l [] (bw d).2.2).2.2:=by
 have kK:=h.dv.tz
 obtain⟨o1,o2,o3,o4⟩:=xZ l [] _ kK
 have cJ:=A3 l [] [] (bw d).2.2 (bw d).2.2 kK rfl ⟨rfl,fun _ h=>(by cases h),amX _⟩ ho
 rw[an6]at cJ
 refine⟨o1,fun x hx=>⟨cJ.ok x hx,?_⟩,?_⟩
 ·have:x.no∈l:=by rw[←cJ.A2];exact List.mem_map_of_mem hx
  have:=h.old _ this
  rw[A8 he]
  omega
 ·rw[qq o2,OT h.dv he,Ow o2]
  have h1:=cJ.fz
  have h2:eK (bw d).2.2 l=eK d l:=by
   have key:∀l:List Int,(∀r∈l,r≤d.made)→eK (bw d).2.2 l=eK d l:=by
    intro l
    induction l with
    |nil=>intro _;rfl
    |cons x l ih=>
     intro h
     unfold eK
     rw[ih fun y hy=>h y (amK _ hy),GU d x (h x amN)]
   exact key l h.old
  omega
structure acD(d:ay)(l:List Int)(r:Int×Int×ay):Prop where
 dv:cw r.2.2
 made:d.made≤r.2.2.made
 no:r.2.1=0→r.1=(d.made:Int)+1∧r.2.2.made=d.made+1∧ca r.2.2 r.1≤eK d l
 old:∀m:Int,m≤d.made→ca r.2.2 m≤ca d m
theorem OU(f:Bool){l:List Int}{d:ay}(h:jm d l):acD d l (gF f l d):=by
 have kK:=h.dv.tz
 have m8:=GG (d:=d)
 have iK:∀m:Int,m≤d.made→ca (bw d).2.2 m=ca d m:=fun m hm=>GU d m hm
 have cJ:=h.opened
 obtain⟨o1,o2,o3,o4⟩:=xZ l [] _ kK
 have fW:=A8 (d:=d)
 unfold gF
 generalize bw d=c at*
 obtain⟨no,e,d1⟩:=c
 dsimp only at*
 split
 ·rename_i he
  rw[if_neg he]at m8
  exact⟨kK,by dsimp only;omega,fun h=>absurd h he,fun m hm=>aoB (iK m hm)⟩
 rename_i he
 have he:e=0:=aoa.1 he
 rw[if_pos he]at m8
 have cJ:=cJ he
 have fW:=fW he
 generalize dY l [] d1=q at*
 obtain⟨e2,H,d2⟩:=q
 dsimp only at*
 split
 ·rename_i eD
  exact⟨o1,by dsimp only;omega,fun h=>absurd h eD,fun m hm=>aoB ((qq o2 m).trans (iK m hm))⟩
 rename_i eD
 have cJ:=cJ (aoa.1 eD)
 obtain⟨m1,m2,m3,m4⟩:=OS f no rF (eK d l) H d2 h.bS cJ
 generalize lx f no rF H d2=q at*
 obtain⟨e3,d3⟩:=q
 dsimp only at*
 have hold:∀m:Int,m≤d.made→ca d3 m=ca d m:=fun m hm=>by rw[m4 m (by omega),qq o2,iK m hm]
 split
 ·rename_i qo
  exact⟨m1,by dsimp only;omega,fun h=>absurd h qo,fun m hm=>aoB (hold m hm)⟩
 obtain⟨g1,g2,g3⟩:=OB l d3 m1
 refine⟨g1,by dsimp only;omega,fun _=>⟨fW,by dsimp only;omega,apF (g3 no) m3⟩,fun m hm=>apF (g3 m) (aoB (hold m hm))⟩
end Go.Proofs.Ytnlkkgpcikkpoaa
namespace Go.Proofs.Ytnlkkgpcikkpoaa
noncomputable section
open Go Vm Go.RowKit
set_option maxRecDepth 100000
def acE(S:ad)(L:List ByteArray)(R:List Int)(H:List ap)(d:ay)(no e:Int)(y:ap)(dd:ay):List (amY×Sum):=[(85,Sum.one (fun _ _=>some [0,1,2,3,4,6]) [an 0,an 5] (aR S L R H d++[ab (jR ⟨no,0,amw,false⟩) 144]) (.ret (aa e)) (aR S L R H dd++[ab (jR y) 144]))]
theorem acF(S:ad)(L:List ByteArray)(R:List Int)(H:List ap)(d:ay)(no e:Int)(y:ap)(dd:ay)(cW:aG asz 85 [an 0,an 5] (aR S L R H d++[ab (jR ⟨no,0,amw,false⟩) 144]) fun r o=>r=.ret (aa e)∧o=aR S L R H dd++[ab (jR y) 144]):dg asz (dE asz (dF (acE S L R H d no e y dd)) 50 40):=
 dJ cZ mixed (dQ (.cons (bp.one cW) .nil)) 50 40
noncomputable def A9:List am3:=ba (dy asz 93)
noncomputable def tB:List am3:=ba (dy asz 84)
open Tree renaming aU→mN,dh→mF,eQ→mL,fw→mQ,dz→mR,fI→mE
noncomputable abbrev rH:List am3:=(ba (inner (ba (inner (tB.drop 3)))))
noncomputable abbrev GV:List am3:=(ba (inner (ba (inner (A9.drop 3)))))
def OV:Nat→Bool→Bool→Tree→Tree
 |0,_,_,t=>t
 |n+1,d,b,t=>.cD d b (OV n d b t)
theorem pr{R:bf→aj→Prop}{c v:Bool}{t:Tree}(n:Nat)(h1:c=v)(h2:t.ok R):(OV n c v t).ok R:=by
 induction n with
 |zero=>exact h2
 |succ n ih=>exact⟨h1,ih⟩
abbrev kQ:=fun S L R H d=>([ab (aQ S 1 2 3 4) 64,.abs d,ab (ao L) 9,ab (aq R) 3,ab (ak H) 144]:List ai)
abbrev acG:=fun S L R H d (o n:Nat)=>(⟨[(0,an 0),(6,cd),(11,di 3 o n n),(12,aa n),(13,aa 0)],kQ S L R H d⟩:aj)
abbrev acH:=fun S L R H d (o n:Nat)=>(⟨[(0,an 0),(1,di 3 o n n)],kQ S L R H d⟩:aj)
theorem acI(S L R H d)(o n:Nat)(pH:(ak H).all af=true){Q:aV}(l3:al asz 30 5 (A9.drop 3) (acG S L R H d o n) Q):al asz 30 5 A9 (acH S L R H d o n) Q:=
 aZ bo 3 (.leaf [0,6,11,12,13] [0,1,2,3,4] [2,3,4]) (fun u=>by kernel_rfl) (aM L R H (mQ l3))
abbrev iY:=fun S L R H d l=>([ab (aQ S 1 2 3 4) 64,.abs d,ab (ao L) 9,ab (aq R) 3,ab (ak H) 144,ab (ak l) 144]:List ai)
abbrev acJ:=fun S L R H d l (o n:Nat) (i:Int)=>(⟨[(0,an 0),(6,ah 5 (mM l)),(11,di 3 o n n),(12,aa n),(13,aa i)],iY S L R H d l⟩:aj)
abbrev acK:=fun S L R H d l (o n:Nat) (i:Int)=>(⟨[(6,ah 5 (mM l))],iY S L R H d l⟩:aj)
abbrev acL:=fun S L R H d l (o n:Nat) (i:Int)=>(⟨[(0,an 0),(6,ah 5 (mM l)),(11,di 3 o n n),(12,aa n),(13,aa i)],iY S L R H d l⟩:aj)
theorem acM(S L R H d l)(o n:Nat)(i:Int)(pH:(ak H).all af=true)(pL:(ak l).all af=true){Q:aV}(l4:(decide (i<(↑n:Int)))=true→al asz 30 5 (GV.drop 2) (acJ S L R H d l o n i) Q)(l5:(decide (i<(↑n:Int)))=false→Q (.exit 0) (acK S L R H d l o n i)):al asz 30 5 GV (acL S L R H d l o n i) Q:=
 aZ bo 2 (.fork 0 (.leaf [0,6,11,12,13] [0,1,2,3,4,5] [2,3,4,5]) (.leaf [6] [0,1,2,3,4,5] [2,3,4,5])) (fun u=>by kernel_rfl) (mF (c:=decide (i<(↑n:Int))) (fun h0=>(aM L R H (mN (aY l) (mQ (l4 h0))))) (fun h0=>(aM L R H (mN (aY l) (mE 0 (l5 h0))))))
abbrev OW:=fun S L R H (d:ay) (l:List ap) (o n:Nat) (no e:Int) (y:ap) dd (i:Int)=>(⟨[(4,cd),(5,aa e)],[ab (aQ S 1 2 3 4) 64,.abs dd,ab (ao L) 9,ab (aq R) 3,ab (ak H) 144]⟩:aj)
theorem acN(S L R H d l)(o n:Nat)(no e:Int)(y dd)(i:Int){Q:bk}(hq:Q (.ret (.tuple #[cd,aa e])) [ab (aQ S 1 2 3 4) 64,.abs dd,ab (ao L) 9,ab (aq R) 3,ab (ak H) 144]):aH asz 93 30 5 Q .ret (OW S L R H d l o n no e y dd i):=aH.ret (vs:=[cd,aa e]) (l:=[]) (bs:=[0,1,2,3,4]) (pl:=[2,3,4]) (q:=[ao L,aq R,ak H]) (fun u=>by kernel_rfl) (by kernel_rfl) (gi L R H bd) hq
abbrev OX:=fun S L R H (d:ay) l (o n:Nat) (no e:Int) y dd (i:Int)=>(⟨[(0,an 0),(6,ah 5 (mM l+1)),(11,di 3 o n n),(12,aa n),(13,.int .i64 (aml .i64 (i+1)))],[ab (aQ S 1 2 3 4) 64,.abs dd,ab (ao L) 9,ab (aq R) 3,ab (ak H) 144,ab (ak l++[aa (ap.no y),aa (ap.at_ y),amT (ap.line y),anz (ap.there y)]) 144]⟩:aj)
abbrev acO:=fun S L R H d l (o n:Nat) (no e:Int) (y:ap) (dd:ay) (i:Int)=>(⟨[(0,an 0),(6,ah 5 (mM l)),(11,di 3 o n n),(12,aa n),(13,aa i)],iY S L R H d l⟩:aj)
theorem acP(S L R H d l)(o n:Nat)(no e:Int)(y dd)(i:Int)(pH:(ak H).all af=true)(pL:(ak l).all af=true)(cW:aG asz 85 [an 0,an 5] (aR S L R H d++[ab (jR ⟨no,0,amw,false⟩) 144]) fun r o=>r=.ret (aa e)∧o=aR S L R H dd++[ab (jR y) 144])(h0:0≤i)(h1:i<n)(h2:n≤1000000)(h3:aml .i64 (i+1)=i+1)(h4:(mM l)≤1000000){Q:aV}(n0:(cy amA (aq R) (o+amm i*1))=true)(n1:(dX [an 0,an 5] [an 0,an 5] [ab (aQ S 1 2 3 4) 64,ai.abs d,ab (ao L) 9,ab (aq R) 3,ab (ak H) 144,ab [aa (au (aq R) (o+amm i*1)),aa 0,amT (am7 #[]),anz false] 144] (aR S L R H d++[ab [aa no,aa 0,amT amw,anz false] 144]))=true)(aW:amq (ao L) af=true)(be:amq (aq R) af=true)(bB:amq (ak H) af=true)(l5:(e != 0)=true→Q .ret (OW S L R H d l o n no e y dd i))(n6:(e != 0)=false→(amO (mM l+1) 1000000)=true)(n7:(e != 0)=false→(amE (0+mM l*4) (mM (ak l)))=true)(l8:(e != 0)=false→Q .normal (OX S L R H d l o n no e y dd i)):al asz 30 5 (GV.drop 2) (acO S L R H d l o n no e y dd i) Q:=
 aZ (acF S L R H d no e y dd cW) 1000 (av [0,1,1,0,1,5,1,1,3,1,1,1] (.fork 1 (.leaf [4,5] [0,1,2,3,4] [2,3,4]) (av [2,3,5,1] (.leaf [0,6,11,12,13] [0,1,2,3,4,8] [2,3,4,8])))) (fun u=>by kernel_rfl) (mN (decide_eq_true (by omega):(decide (0≤i))=true) (mN (show(amG (amm i) n)=true by simp at pH pL cW h0 h1 h2 h3 h4⊢ <;>omega) (mN n0 (aM L R H (mN n1 (aM L R H (mF (c:=e != 0) (fun h0=>(aM L R H (mR (l5 h0)))) (fun h0=>(mN (n6 h0) (mN (kJ _:(full (mM l) (mM l))=true) (mN (n7 h0) (aM L R H (mN (show(amq (ak l++[aa (ap.no y),aa (ap.at_ y),amT (ap.line y),anz (ap.there y)]) af)=true by first|exact aP _|assumption|exact aD (by assumption) rfl _|exact aD (aD (aD (by assumption) rfl _) rfl _) rfl _|exact aD (aP _) (cg (by rfl) _) _|exact aA (aO (aN _) _) _|(simp;done)|exact aB (by assumption) rfl|exact aB (aP _) rfl|exact aB rfl (aA (by assumption) _)|exact aB (by assumption) (aA (by assumption) _)|exact aB rfl (aA (aO (by assumption) _) _)|exact aA (aO (by assumption) _) _) (mQ (al.done (by kernel_rfl) (l8 h0))))))))))))))))
abbrev OY:=fun S L R H d l=>(⟨[(4,ah 5 (mM l)),(5,aa 0)],iY S L R H d l⟩:aj)
theorem acQ(S L R H d l){Q:bk}(hq:Q (.ret (.tuple #[ah 5 (mM l),aa 0])) (iY S L R H d l)):aH asz 93 30 5 Q .ret (OY S L R H d l):=aH.ret (vs:=[ah 5 (mM l),aa 0]) (l:=[]) (bs:=[0,1,2,3,4,5]) (pl:=[2,3,4,5]) (q:=[ao L,aq R,ak H,ak l]) (fun u=>by kernel_rfl) (by kernel_rfl) (gi L R H (aE (aY l) bd)) hq
abbrev acR:=fun S L R H d l=>(⟨[(6,ah 5 (mM l))],iY S L R H d l⟩:aj)
theorem acS(S L R H d l)(pH:(ak H).all af=true)(pL:(ak l).all af=true){Q:aV}(l4:Q .ret (OY S L R H d l)):al asz 30 5 (A9.drop 4) (acR S L R H d l) Q:=
 aZ bo 1000 (.leaf [4,5] [0,1,2,3,4,5] [2,3,4,5]) (fun u=>by kernel_rfl) (aM L R H (mN (aY l) (mR l4)))
abbrev acT:=fun S L R H d l=>(⟨[(0,an 0),(1,ah 5 (mM l)),(5,aa (-1)),(8,ah 5 (mM l)),(9,aa (mM l)),(10,aa 0)],iY S L R H d l⟩:aj)
abbrev acU:=fun S L R H d l=>(⟨[(0,an 0),(1,ah 5 (mM l))],iY S L R H d l⟩:aj)
theorem acV(S L R H d l)(pH:(ak H).all af=true)(pL:(ak l).all af=true){Q:aV}(l4:al asz 36 6 (tB.drop 3) (acT S L R H d l) Q):al asz 36 6 tB (acU S L R H d l) Q:=
 aZ bo 3 (.leaf [0,1,5,8,9,10] [0,1,2,3,4,5] [2,3,4,5]) (fun u=>by kernel_rfl) (aM L R H (mN (aY l) (mQ l4)))
abbrev acW:=fun S L R H d l (k i:Int)=>(⟨[(0,an 0),(1,ah 5 (mM l)),(5,aa k),(8,ah 5 (mM l)),(9,aa (mM l)),(10,aa i)],iY S L R H d l⟩:aj)
abbrev acX:=fun S L R H d l (k i:Int)=>(⟨[(5,aa k)],iY S L R H d l⟩:aj)
abbrev acY:=fun S L R H d l (k i:Int)=>(⟨[(0,an 0),(1,ah 5 (mM l)),(5,aa k),(8,ah 5 (mM l)),(9,aa (mM l)),(10,aa i)],iY S L R H d l⟩:aj)
theorem acZ(S L R H d l)(k i:Int)(pH:(ak H).all af=true)(pL:(ak l).all af=true){Q:aV}(l4:(decide (i<(↑(mM l):Int)))=true→al asz 36 6 (rH.drop 2) (acW S L R H d l k i) Q)(l5:(decide (i<(↑(mM l):Int)))=false→Q (.exit 0) (acX S L R H d l k i)):al asz 36 6 rH (acY S L R H d l k i) Q:=
 aZ bo 2 (.fork 0 (.leaf [0,1,5,8,9,10] [0,1,2,3,4,5] [2,3,4,5]) (.leaf [5] [0,1,2,3,4,5] [2,3,4,5])) (fun u=>by kernel_rfl) (mF (c:=decide (i<(↑(mM l):Int))) (fun h0=>(aM L R H (mN (aY l) (mQ (l4 h0))))) (fun h0=>(aM L R H (mN (aY l) (mE 0 (l5 h0))))))
abbrev OZ:=fun S L R H d l (i:Int)=>(⟨[(0,an 0),(1,ah 5 (mM l)),(5,aa i),(8,ah 5 (mM l)),(9,aa (mM l)),(10,.int .i64 (aml .i64 (i+1)))],iY S L R H d l⟩:aj)
abbrev O0:=fun S L R H d l (i:Int)=>(⟨[(0,an 0),(1,ah 5 (mM l)),(5,aa (-1)),(8,ah 5 (mM l)),(9,aa (mM l)),(10,.int .i64 (aml .i64 (i+1)))],iY S L R H d l⟩:aj)
abbrev ac0:=fun S L R H d l (i:Int)=>(⟨[(0,an 0),(1,ah 5 (mM l)),(5,aa (-1)),(8,ah 5 (mM l)),(9,aa (mM l)),(10,aa i)],iY S L R H d l⟩:aj)
theorem ac1(S L R H d l)(i:Int)(pH:(ak H).all af=true)(pL:(ak l).all af=true)(h0:0≤i)(h1:i<(mM l))(h2:(mM l)≤1000000)(h3:aml .i64 (i+1)=i+1){Q:aV}(n0:(amO (0+amm i*4+4) (mM (ak l)))=true)(n1:(cy amA (ak l) (0+amm i*4))=true)(n2:(cy amA (ak l) (0+amm i*4+1))=true)(n3:(eB (ak l) (0+amm i*4+1+1))=true)(n4:(nT (ak l) (0+amm i*4+1+1+1))=true)(l9:(gz (ak l) (0+amm i*4+1+1+1))=true→Q .normal (OZ S L R H d l i))(kP:(gz (ak l) (0+amm i*4+1+1+1))=false→Q .normal (O0 S L R H d l i)):al asz 36 6 (rH.drop 2) (ac0 S L R H d l i) Q:=
 aZ rC 1000 (av [0,1,1,0,1,1,1,1,1] (.fork 2 (av [1,1,21,3] (.leaf [0,1,5,8,9,10] [0,1,2,3,4,5] [2,3,4,5])) (av [0,0,0,0] (.leaf [0,1,5,8,9,10] [0,1,2,3,4,5] [2,3,4,5])))) (fun u=>by kernel_rfl) (mN (decide_eq_true (by omega):(decide (0≤i))=true) (mN (show(amG (amm i) (mM l))=true by simp at pH pL h0 h1 h2 h3⊢ <;>omega) (mN n0 (mN n1 (mN n2 (mN n3 (mN n4 (mF (c:=gz (ak l) (0+amm i*4+1+1+1)) (fun h0=>(pr 4 h0 (aM L R H (mN (aY l) (mQ (al.done (by kernel_rfl) (l9 h0))))))) (fun h0=>(pr 4 h0 (aM L R H (mN (aY l) (mQ (al.done (by kernel_rfl) (kP h0)))))))))))))))
abbrev O1:=fun S L R H d l (k:Nat) (i:Int)=>(⟨[(0,an 0),(1,ah 5 (mM l)),(5,aa i),(8,ah 5 (mM l)),(9,aa (mM l)),(10,.int .i64 (aml .i64 (i+1)))],iY S L R H d l⟩:aj)
abbrev O2:=fun S L R H d l (k:Nat) (i:Int)=>(⟨[(0,an 0),(1,ah 5 (mM l)),(5,aa k),(8,ah 5 (mM l)),(9,aa (mM l)),(10,.int .i64 (aml .i64 (i+1)))],iY S L R H d l⟩:aj)
abbrev O3:=fun S L R H d l (k:Nat) (i:Int)=>(⟨[(0,an 0),(1,ah 5 (mM l)),(5,aa k),(8,ah 5 (mM l)),(9,aa (mM l)),(10,.int .i64 (aml .i64 (i+1)))],iY S L R H d l⟩:aj)
abbrev ac2:=fun S L R H d l (k:Nat) (i:Int)=>(⟨[(0,an 0),(1,ah 5 (mM l)),(5,aa k),(8,ah 5 (mM l)),(9,aa (mM l)),(10,aa i)],iY S L R H d l⟩:aj)
theorem ac3(S L R H d l)(k:Nat)(i:Int)(pH:(ak H).all af=true)(pL:(ak l).all af=true)(h0:0≤i)(h1:i<(mM l))(h2:(mM l)≤1000000)(h3:aml .i64 (i+1)=i+1)(h4:k<(mM l)){Q:aV}(n0:(amO (0+amm i*4+4) (mM (ak l)))=true)(n1:(cy amA (ak l) (0+amm i*4))=true)(n2:(cy amA (ak l) (0+amm i*4+1))=true)(n3:(eB (ak l) (0+amm i*4+1+1))=true)(n4:(nT (ak l) (0+amm i*4+1+1+1))=true)(n5:(gz (ak l) (0+amm i*4+1+1+1))=true→(eB (ak l) (0+amm (↑k:Int)*4+2))=true)(n6:(gz (ak l) (0+amm i*4+1+1+1))=true→(qn [ab (aQ S 1 2 3 4) 64,ai.abs d,ab (ao L) 9,ab (aq R) 3,ab (ak H) 144])=true)(gR:(gz (ak l) (0+amm i*4+1+1+1))=true→(decide (a7 (ad.aC S) (a8 (ak l) (0+amm i*4+1+1)) (a8 (ak l) (0+amm (↑k:Int)*4+2))<0))=true→Q .normal (O1 S L R H d l k i))(kL:(gz (ak l) (0+amm i*4+1+1+1))=true→(decide (a7 (ad.aC S) (a8 (ak l) (0+amm i*4+1+1)) (a8 (ak l) (0+amm (↑k:Int)*4+2))<0))=false→Q .normal (O2 S L R H d l k i))(pt:(gz (ak l) (0+amm i*4+1+1+1))=false→Q .normal (O3 S L R H d l k i)):al asz 36 6 (rH.drop 2) (ac2 S L R H d l k i) Q:=
 aZ rC 1000 (av [0,1,1,0,1,1,1,1,1] (.fork 2 (av [1,1,14,3,4,1,5,1,1,1,1,1,1,3,3] (.fork 0 (.leaf [0,1,5,8,9,10] [0,1,2,3,4,5] [2,3,4,5]) (.leaf [0,1,5,8,9,10] [0,1,2,3,4,5] [2,3,4,5]))) (av [0,0,0,0] (.leaf [0,1,5,8,9,10] [0,1,2,3,4,5] [2,3,4,5])))) (fun u=>by kernel_rfl) (mN (decide_eq_true (by omega):(decide (0≤i))=true) (mN (show(amG (amm i) (mM l))=true by simp at pH pL h0 h1 h2 h3 h4⊢ <;>omega) (mN n0 (mN n1 (mN n2 (mN n3 (mN n4 (mF (c:=gz (ak l) (0+amm i*4+1+1+1)) (fun h0=>(pr 2 h0 (mN (show(amG (amm (↑k:Int)) (mM l))=true by simp at pH pL h0 h1 h2 h3 h4 h0⊢ <;>omega) (mN (n5 h0) (aM L R H (mN (n6 h0) (aM L R H (pr 2 h0 (mF (c:=decide (a7 (ad.aC S) (a8 (ak l) (0+amm i*4+1+1)) (a8 (ak l) (0+amm (↑k:Int)*4+2))<0)) (fun h1=>(aM L R H (mN (aY l) (mQ (al.done (by kernel_rfl) (gR h0 h1)))))) (fun h1=>(aM L R H (mN (aY l) (mQ (al.done (by kernel_rfl) (kL h0 h1))))))))))))))) (fun h0=>(pr 4 h0 (aM L R H (mN (aY l) (mQ (al.done (by kernel_rfl) (pt h0)))))))))))))))
abbrev GW:=fun S L R H d l (k:Int)=>(⟨[(4,aa k)],iY S L R H d l⟩:aj)
theorem ac4(S L R H d l)(k:Int){Q:bk}(hq:Q (.ret (aa k)) (GW S L R H d l k).objs):aH asz 84 36 6 Q .ret (GW S L R H d l k):=aH.ret (vs:=[aa k]) (l:=[]) (bs:=[0,1,2,3,4,5]) (pl:=[2,3,4,5]) (q:=[ao L,aq R,ak H,ak l]) (fun u=>by kernel_rfl) (by kernel_rfl) (gi L R H (aE (aY l) bd)) hq
abbrev ac5:=fun S L R H d l (k:Int)=>(⟨[(5,aa k)],iY S L R H d l⟩:aj)
theorem ac6(S L R H d l)(k:Int)(pH:(ak H).all af=true)(pL:(ak l).all af=true){Q:aV}(l4:Q .ret (GW S L R H d l k)):al asz 36 6 (tB.drop 4) (ac5 S L R H d l k) Q:=
 aZ bo 1000 (.leaf [4] [0,1,2,3,4,5] [2,3,4,5]) (fun u=>by kernel_rfl) (aM L R H (mN (aY l) (mR l4)))
abbrev ac7:=fun S L R H d=>(⟨[(0,an 0),(1,ah 4 (mM H)),(5,aa (-1)),(8,ah 4 (mM H)),(9,aa (mM H)),(10,aa 0)],kQ S L R H d⟩:aj)
abbrev ac8:=fun S L R H d=>(⟨[(0,an 0),(1,ah 4 (mM H))],kQ S L R H d⟩:aj)
theorem ac9(S L R H d)(pH:(ak H).all af=true){Q:aV}(l3:al asz 36 5 (tB.drop 3) (ac7 S L R H d) Q):al asz 36 5 tB (ac8 S L R H d) Q:=
 aZ bo 3 (.leaf [0,1,5,8,9,10] [0,1,2,3,4] [2,3,4]) (fun u=>by kernel_rfl) (aM L R H (mQ l3))
abbrev ada:=fun S L R H d (k i:Int)=>(⟨[(0,an 0),(1,ah 4 (mM H)),(5,aa k),(8,ah 4 (mM H)),(9,aa (mM H)),(10,aa i)],kQ S L R H d⟩:aj)
abbrev adb:=fun S L R H d (k i:Int)=>(⟨[(5,aa k)],kQ S L R H d⟩:aj)
abbrev ade:=fun S L R H d (k i:Int)=>(⟨[(0,an 0),(1,ah 4 (mM H)),(5,aa k),(8,ah 4 (mM H)),(9,aa (mM H)),(10,aa i)],kQ S L R H d⟩:aj)
theorem adf(S L R H d)(k i:Int)(pH:(ak H).all af=true){Q:aV}(l3:(decide (i<(↑(mM H):Int)))=true→al asz 36 5 (rH.drop 2) (ada S L R H d k i) Q)(l4:(decide (i<(↑(mM H):Int)))=false→Q (.exit 0) (adb S L R H d k i)):al asz 36 5 rH (ade S L R H d k i) Q:=
 aZ bo 2 (.fork 0 (.leaf [0,1,5,8,9,10] [0,1,2,3,4] [2,3,4]) (.leaf [5] [0,1,2,3,4] [2,3,4])) (fun u=>by kernel_rfl) (mF (c:=decide (i<(↑(mM H):Int))) (fun h0=>(aM L R H (mQ (l3 h0)))) (fun h0=>(aM L R H (mE 0 (l4 h0)))))
abbrev O4:=fun S L R H d (i:Int)=>(⟨[(0,an 0),(1,ah 4 (mM H)),(5,aa i),(8,ah 4 (mM H)),(9,aa (mM H)),(10,.int .i64 (aml .i64 (i+1)))],kQ S L R H d⟩:aj)
abbrev O5:=fun S L R H d (i:Int)=>(⟨[(0,an 0),(1,ah 4 (mM H)),(5,aa (-1)),(8,ah 4 (mM H)),(9,aa (mM H)),(10,.int .i64 (aml .i64 (i+1)))],kQ S L R H d⟩:aj)
abbrev adg:=fun S L R H d (i:Int)=>(⟨[(0,an 0),(1,ah 4 (mM H)),(5,aa (-1)),(8,ah 4 (mM H)),(9,aa (mM H)),(10,aa i)],kQ S L R H d⟩:aj)
theorem adh(S L R H d)(i:Int)(pH:(ak H).all af=true)(h0:0≤i)(h1:i<(mM H))(h2:(mM H)≤1000000)(h3:aml .i64 (i+1)=i+1){Q:aV}(n0:(amO (0+amm i*4+4) (mM (ak H)))=true)(n1:(cy amA (ak H) (0+amm i*4))=true)(n2:(cy amA (ak H) (0+amm i*4+1))=true)(n3:(eB (ak H) (0+amm i*4+1+1))=true)(n4:(nT (ak H) (0+amm i*4+1+1+1))=true)(l8:(gz (ak H) (0+amm i*4+1+1+1))=true→Q .normal (O4 S L R H d i))(l9:(gz (ak H) (0+amm i*4+1+1+1))=false→Q .normal (O5 S L R H d i)):al asz 36 5 (rH.drop 2) (adg S L R H d i) Q:=
 aZ rC 1000 (av [0,1,1,0,1,1,1,1,1] (.fork 2 (av [1,1,21,3] (.leaf [0,1,5,8,9,10] [0,1,2,3,4] [2,3,4])) (av [0,0,0,0] (.leaf [0,1,5,8,9,10] [0,1,2,3,4] [2,3,4])))) (fun u=>by kernel_rfl) (mN (decide_eq_true (by omega):(decide (0≤i))=true) (mN (show(amG (amm i) (mM H))=true by simp at pH h0 h1 h2 h3⊢ <;>omega) (mN n0 (mN n1 (mN n2 (mN n3 (mN n4 (mF (c:=gz (ak H) (0+amm i*4+1+1+1)) (fun h0=>(pr 4 h0 (aM L R H (mQ (al.done (by kernel_rfl) (l8 h0)))))) (fun h0=>(pr 4 h0 (aM L R H (mQ (al.done (by kernel_rfl) (l9 h0))))))))))))))
abbrev O6:=fun S L R H d (k:Nat) (i:Int)=>(⟨[(0,an 0),(1,ah 4 (mM H)),(5,aa i),(8,ah 4 (mM H)),(9,aa (mM H)),(10,.int .i64 (aml .i64 (i+1)))],kQ S L R H d⟩:aj)
abbrev O7:=fun S L R H d (k:Nat) (i:Int)=>(⟨[(0,an 0),(1,ah 4 (mM H)),(5,aa k),(8,ah 4 (mM H)),(9,aa (mM H)),(10,.int .i64 (aml .i64 (i+1)))],kQ S L R H d⟩:aj)
abbrev O8:=fun S L R H d (k:Nat) (i:Int)=>(⟨[(0,an 0),(1,ah 4 (mM H)),(5,aa k),(8,ah 4 (mM H)),(9,aa (mM H)),(10,.int .i64 (aml .i64 (i+1)))],kQ S L R H d⟩:aj)
abbrev adi:=fun S L R H d (k:Nat) (i:Int)=>(⟨[(0,an 0),(1,ah 4 (mM H)),(5,aa k),(8,ah 4 (mM H)),(9,aa (mM H)),(10,aa i)],kQ S L R H d⟩:aj)
theorem adj(S L R H d)(k:Nat)(i:Int)(pH:(ak H).all af=true)(h0:0≤i)(h1:i<(mM H))(h2:(mM H)≤1000000)(h3:aml .i64 (i+1)=i+1)(h4:k<(mM H)){Q:aV}(n0:(amO (0+amm i*4+4) (mM (ak H)))=true)(n1:(cy amA (ak H) (0+amm i*4))=true)(n2:(cy amA (ak H) (0+amm i*4+1))=true)(n3:(eB (ak H) (0+amm i*4+1+1))=true)(n4:(nT (ak H) (0+amm i*4+1+1+1))=true)(n5:(gz (ak H) (0+amm i*4+1+1+1))=true→(eB (ak H) (0+amm (↑k:Int)*4+2))=true)(n6:(gz (ak H) (0+amm i*4+1+1+1))=true→(qn [ab (aQ S 1 2 3 4) 64,ai.abs d,ab (ao L) 9,ab (aq R) 3,ab (ak H) 144])=true)(kP:(gz (ak H) (0+amm i*4+1+1+1))=true→(decide (a7 (ad.aC S) (a8 (ak H) (0+amm i*4+1+1)) (a8 (ak H) (0+amm (↑k:Int)*4+2))<0))=true→Q .normal (O6 S L R H d k i))(gR:(gz (ak H) (0+amm i*4+1+1+1))=true→(decide (a7 (ad.aC S) (a8 (ak H) (0+amm i*4+1+1)) (a8 (ak H) (0+amm (↑k:Int)*4+2))<0))=false→Q .normal (O7 S L R H d k i))(kL:(gz (ak H) (0+amm i*4+1+1+1))=false→Q .normal (O8 S L R H d k i)):al asz 36 5 (rH.drop 2) (adi S L R H d k i) Q:=
 aZ rC 1000 (av [0,1,1,0,1,1,1,1,1] (.fork 2 (av [1,1,14,3,4,1,5,1,1,1,1,1,1,3,3] (.fork 0 (.leaf [0,1,5,8,9,10] [0,1,2,3,4] [2,3,4]) (.leaf [0,1,5,8,9,10] [0,1,2,3,4] [2,3,4]))) (av [0,0,0,0] (.leaf [0,1,5,8,9,10] [0,1,2,3,4] [2,3,4])))) (fun u=>by kernel_rfl) (mN (decide_eq_true (by omega):(decide (0≤i))=true) (mN (show(amG (amm i) (mM H))=true by simp at pH h0 h1 h2 h3 h4⊢ <;>omega) (mN n0 (mN n1 (mN n2 (mN n3 (mN n4 (mF (c:=gz (ak H) (0+amm i*4+1+1+1)) (fun h0=>(pr 2 h0 (mN (show(amG (amm (↑k:Int)) (mM H))=true by simp at pH h0 h1 h2 h3 h4 h0⊢ <;>omega) (mN (n5 h0) (aM L R H (mN (n6 h0) (aM L R H (pr 2 h0 (mF (c:=decide (a7 (ad.aC S) (a8 (ak H) (0+amm i*4+1+1)) (a8 (ak H) (0+amm (↑k:Int)*4+2))<0)) (fun h1=>(aM L R H (mQ (al.done (by kernel_rfl) (kP h0 h1))))) (fun h1=>(aM L R H (mQ (al.done (by kernel_rfl) (gR h0 h1)))))))))))))) (fun h0=>(pr 4 h0 (aM L R H (mQ (al.done (by kernel_rfl) (kL h0))))))))))))))
abbrev GX:=fun S L R H d (k:Int)=>(⟨[(4,aa k)],kQ S L R H d⟩:aj)
theorem adk(S L R H d)(k:Int){Q:bk}(hq:Q (.ret (aa k)) (GX S L R H d k).objs):aH asz 84 36 5 Q .ret (GX S L R H d k):=aH.ret (vs:=[aa k]) (l:=[]) (bs:=[0,1,2,3,4]) (pl:=[2,3,4]) (q:=[ao L,aq R,ak H]) (fun u=>by kernel_rfl) (by kernel_rfl) (gi L R H bd) hq
abbrev adl:=fun S L R H d (k:Int)=>(⟨[(5,aa k)],kQ S L R H d⟩:aj)
theorem adm(S L R H d)(k:Int)(pH:(ak H).all af=true){Q:aV}(l3:Q .ret (GX S L R H d k)):al asz 36 5 (tB.drop 4) (adl S L R H d k) Q:=
 aZ bo 1000 (.leaf [4] [0,1,2,3,4] [2,3,4]) (fun u=>by kernel_rfl) (aM L R H (mR l3))
end
end Go.Proofs.Ytnlkkgpcikkpoaa
namespace Go.Proofs.Ytnlkkgpcikkpoaa
open Go Vm Go.RowKit
set_option maxRecDepth 100000
theorem O9{R:List Int}{k:Nat}{x:Int}(h:R[k]?=some x):au (aq R) k=x∧cy .i64 (aq R) k=true:=by
 have hk:k<R.length:=(amy.1 h).1
 refine⟨?_,ED hk⟩
 rw[EC hk]
 exact(amy.1 h).2
theorem Pa{R:List Int}{o n i:Nat}(h:i<n)(hr:o+n≤R.length):∃x,R[o+i]?=some x∧((R.drop o).take n).drop i=x::((R.drop o).take n).drop (i+1):=by
 refine⟨R[o+i],amt (by omega),?_⟩
 have hl:i<((R.drop o).take n).length:=by rw[anf,anA];omega
 rw[aoh hl]
 congr 1
 rw[List.getElem_take,List.getElem_drop]
def GY(S:ad)(L:List ByteArray)(R:List Int)(H:List ap)(o n:Nat)(s:Nat×ay):aj:=⟨[(0,.pointer (some ⟨0,0,none⟩)),(8,.slice (some ⟨3,o,none⟩) n n),(9,iZ n),(10,iZ s.1)],aR S L R H s.2⟩
structure adn(l:List Int)(d0:ay)(s:Nat×ay):Prop where
 i:s.1≤l.length
 e:fN (l.drop s.1) s.2=fN l d0
 ok:cw s.2
theorem Pb(S:ad)(L:List ByteArray)(R:List Int)(H:List ap)(d:ay)(o n:Nat)(vu:o+n≤R.length)(hn:n≤1000000)(hd:cw d):
 aG asz 96 [.pointer (some ⟨0,0,none⟩),.slice (some ⟨3,o,none⟩) n n] (aR S L R H d) fun r q=>r=.ret (.int .i64 (fN ((R.drop o).take n) d).1)∧q=aR S L R H (fN ((R.drop o).take n) d).2:=by
 have pH:=aY H
 refine aG.cM (n:=ct asz 96) (by kernel_rfl) ?_
 have mZ:((R.drop o).take n).length=n:=by rw[anf,anA];omega
 apply ack S L R H d o n pH
 ·
  rw[show OG S L R H d o n=GY S L R H o n (0,d)from rfl]
  refine al.eJ 2 0 (by kernel_rfl) ?_
  refine al.fJ (GY S L R H o n) (fun t=>n-t.1) (adn ((R.drop o).take n) d) (0,d) (by kernel_rfl) ⟨ann _,by simp,hd⟩ ?_
  clear hd
  rintro⟨i,d1⟩ ⟨h1,h2,h3⟩
  dsimp only at h1 h2 h3
  apply aco S L R H d1 o n i pH
  case l4=>
   intro g
   have g:=of_decide_eq_false g
   rw[an3 (by omega)]at h2
   have h2:(0,d1)=fN ((R.drop o).take n) d:=h2
   rw[←h2]
   with_reducible (repeat first|refine QL.ret ?_|refine QL.exit ?_|refine QB.ret ?_|refine QB.ci ?_|refine QB.normal ?_|refine QB.cu (by rfl) ?_)
   apply acu S L R H d1 o n pH
   ·exact acr S L R H d1 o n ⟨rfl,rfl⟩
  case l3=>
   intro g
   have g:=of_decide_eq_true g
   obtain⟨x,hx,jT⟩:=Pa (R:=R) (o:=o) (n:=n) (i:=i) (by omega) vu
   obtain⟨e1,e2⟩:=O9 hx
   rw[jT]at h2
   have hr:=h3.remove x
   apply acq S L R H d1 o n i pH (by omega) g hn (bG (by omega) (by omega))
   case n0=>rw[show o+amm (i:Int)*1=o+i by simp];exact e2
   case n1=>exact rA.2 h3
   case l5=>
    intro ge
    rw[show o+amm (i:Int)*1=o+i by simp,e1]at ge
    have ge:(eS d1 x).1≠0:=by simpa using ge
    have h2:(if(eS d1 x).1≠0 then eS d1 x else fN (((R.drop o).take n).drop (i+1)) (eS d1 x).2)=fN ((R.drop o).take n) d:=h2
    rw[if_pos ge]at h2
    rw[←h2]
    with_reducible (repeat first|refine QL.ret ?_|refine QL.exit ?_|refine QB.ret ?_|refine QB.ci ?_|refine QB.normal ?_|refine QB.cu (by rfl) ?_)
    unfold A6
    rw[show o+amm (i:Int)*1=o+i by simp,e1]
    have:=acp S L R H d1 o n i (Q:=fun r q=>r=.ret (.int .i64 (eS d1 x).1)∧q=aR S L R H (eS d1 x).2) (by rw[show o+amm (i:Int)*1=o+i by simp,e1];exact⟨rfl,rfl⟩)
    unfold A6 at this
    rw[show o+amm (i:Int)*1=o+i by simp,e1]at this
    exact this
   case l6=>
    intro ge
    rw[show o+amm (i:Int)*1=o+i by simp,e1]at ge
    have ge:¬(eS d1 x).1≠0:=by simpa using ge
    have h2:(if(eS d1 x).1≠0 then eS d1 x else fN (((R.drop o).take n).drop (i+1)) (eS d1 x).2)=fN ((R.drop o).take n) d:=h2
    rw[if_neg ge]at h2
    refine QL.to (i+1,(eS d1 x).2) ⟨by dsimp only;omega,h2,hr.1⟩ (by dsimp only;omega) ?_
    unfold OI GY
    rw[show o+amm (i:Int)*1=o+i by simp,e1,fj (by omega)]
    rfl
theorem ado(A C:List amn)(a b c e x y z:amn):amk (amk (amk (A++([a,b,c,e]++C)) (A.length+3) [x]) (A.length+2) [y]) (A.length+1) [z]=A++([a,z,y,x]++C):=by
 have one:∀(U V:List amn) (u v:amn),amk (U++(u::V)) U.length [v]=U++(v::V):=fun U V u v=>by
  unfold amk
  rw[arN,amQ,show U.length+[v].length=(U++[u]).length by simp,show U++u::V=(U++[u])++V by simp,arU]
  ·rfl
  ·rfl
 have s1:amk (A++([a,b,c,e]++C)) (A.length+3) [x]=A++([a,b,c,x]++C):=by
  have:=one (A++[a,b,c]) C e x
  simpa using this
 have s2:amk (A++([a,b,c,x]++C)) (A.length+2) [y]=A++([a,b,y,x]++C):=by
  have:=one (A++[a,b]) (x::C) c y
  simpa using this
 have s3:amk (A++([a,b,y,x]++C)) (A.length+1) [z]=A++([a,z,y,x]++C):=by
  have:=one (A++[a]) (y::x::C) b z
  simpa using this
 rw[s1,s2,s3]
theorem adp(A C:List amn)(a b c e x y:amn):amk (amk (A++([a,b,c,e]++C)) (A.length+3) [x]) (A.length+2) [y]=A++([a,b,y,x]++C):=by
 have one:∀(U V:List amn) (u v:amn),amk (U++(u::V)) U.length [v]=U++(v::V):=fun U V u v=>by
  unfold amk
  rw[arN,amQ,show U.length+[v].length=(U++[u]).length by simp,show U++u::V=(U++[u])++V by simp,arU]
  ·rfl
  ·rfl
 have s1:amk (A++([a,b,c,e]++C)) (A.length+3) [x]=A++([a,b,c,x]++C):=by
  have:=one (A++[a,b,c]) C e x
  simpa using this
 have s2:amk (A++([a,b,c,x]++C)) (A.length+2) [y]=A++([a,b,y,x]++C):=by
  have:=one (A++[a,b]) (x::C) c y
  simpa using this
 rw[s1,s2]
theorem nK{a b:List amn}{n:Nat}(h:n+b.length≤a.length):(amk a n b).length=a.length:=by
 unfold amk
 simp only[amD,anf,anA]
 omega
theorem Pc{H:List ap}{k:Nat}(hk:k<H.length):∃A C:List amn,ak H=A++(jR (aX H k)++C)∧A.length=k*4∧∀h',ak (H.set k h')=A++(jR h'++C):=by
 refine⟨ak (H.take k),ak (H.drop (k+1)),?_,?_,fun h'=>?_⟩
 ·conv=>lhs;rw[←List.take_append_drop k H]
  unfold ak
  rw[anh,aqn,aoh hk]
  have:H[k]=aX H k:=by
   have:=A7 hk
   rw[amt hk]at this
   exact apE this
  rw[this]
  rfl
 ·rw[xD,anf];rw[show min k H.length=k by omega]
 ·rw[List.set_eq_take_append_cons_drop,if_pos hk]
  unfold ak
  rw[anh,aqn]
  rfl
theorem Pd(A C:List amn)(a b c e:amn):(A++([a,b,c,e]++C))[A.length]?=some a∧(A++([a,b,c,e]++C))[A.length+1]?=some b∧(A++([a,b,c,e]++C))[A.length+2]?=some c∧(A++([a,b,c,e]++C))[A.length+3]?=some e:=by
 refine⟨?_,?_,?_,?_⟩
 ·simp
 ·rw[am5 (by omega),show A.length+1-A.length=1 by omega];rfl
 ·rw[am5 (by omega),show A.length+2-A.length=2 by omega];rfl
 ·rw[am5 (by omega),show A.length+3-A.length=3 by omega];rfl
theorem bytesOf_take(b:ByteArray)(n:Nat):bytesOf ((ag b).take n)=some (b.data.toList.take n):=by
 unfold ag
 rw[←List.map_take]
 exact K4 _
theorem Ba(b:ByteArray)(n:Nat)(h:n≤b.size):(cut (ag b) 0 n).bind bytesOf=some (b.data.toList.take n):=by
 unfold cut
 rw[show amO (0+n) (ag b).length=true from am2 (by rw[mB];omega)]
 exact bytesOf_take b n
theorem Pe(b:ByteArray)(n:Nat):am7 (b.data.toList.take n).toArray=b.extract 0 n:=by
 apply ByteArray.ext
 apply Array.ext'
 simp
theorem GZ(k:Int):(if 0>k then 0 else k)=max k 0:=by
 by_cases h:0>k
 ·rw[if_pos h];omega
 ·rw[if_neg h];omega
theorem G0{H:List ap}{k:Nat}(hk:k<H.length):(ak H)[k*4]?=some (.int .i64 (aX H k).no)∧(ak H)[k*4+1]?=some (.int .i64 (aX H k).at_)∧(ak H)[k*4+2]?=some (.string (aX H k).line)∧(ak H)[k*4+3]?=some (.bool (aX H k).there):=by
 obtain⟨A,C,h1,h2,_⟩:=Pc hk
 rw[h1,←h2]
 exact Pd A C _ _ _ _
theorem Pf{H:List ap}{k:Nat}(hk:k<H.length):au (ak H) (k*4)=(aX H k).no∧cy .i64 (ak H) (k*4)=true:=by
 unfold au cy;rw[(G0 hk).1];exact⟨rfl,rfl⟩
theorem Pg{H:List ap}{k:Nat}(hk:k<H.length):au (ak H) (k*4+1)=(aX H k).at_∧cy .i64 (ak H) (k*4+1)=true:=by
 unfold au cy;rw[(G0 hk).2.1];exact⟨rfl,rfl⟩
theorem Bb{H:List ap}{k:Nat}(hk:k<H.length)(b:ByteArray)(h0:0≤(aX H k).at_)(h1:(aX H k).at_≤1000000)(hb:b.size≤65):
 amk (amk (amk (ak H) (k*4+3) [anz (decide (bb b 10 ≥ 0))]) (k*4+2) [amT (am7 (ang (amL (anj (cut (ag b) 0 (amm (if 0>bb b 10 then 0 else bb b 10)-0)) bytesOf) [])))]) (k*4+1) [amu amA (aml .i64 (au (amk (amk (ak H) (k*4+3) [anz (decide (bb b 10 ≥ 0))]) (k*4+2) [amT (am7 (ang (amL (anj (cut (ag b) 0 (amm (if 0>bb b 10 then 0 else bb b 10)-0)) bytesOf) [])))]) (k*4+1)+aml .i64 (bb b 10+1)))]=ak (H.set k (AZ (aX H k) b))∧
 cy .i64 (amk (amk (ak H) (k*4+3) [anz (decide (bb b 10 ≥ 0))]) (k*4+2) [amT (am7 (ang (amL (anj (cut (ag b) 0 (amm (if 0>bb b 10 then 0 else bb b 10)-0)) bytesOf) [])))]) (k*4+1)=true:=by
 obtain⟨A,C,e1,e2,e3⟩:=Pc hk
 have k0:=Oq b 10
 have k1:=AY b 10
 rw[GZ,apc]
 have hn:(max (bb b 10) 0).toNat≤b.size:=by
  by_cases h:0≤bb b 10
  ·have:=k1 h;omega
  ·omega
 have alD:bb b 10≤64:=by
  by_cases h:0≤bb b 10
  ·have:=k1 h;omega
  ·omega
 rw[Ba b _ hn,Option.getD_some,Pe,e3,e1,←e2]
 have hm:(amk (amk (A++(jR (aX H k)++C)) (A.length+3) [anz (decide (bb b 10 ≥ 0))]) (A.length+2) [amT (b.extract 0 (max (bb b 10) 0).toNat)])[A.length+1]?=some (.int .i64 (aX H k).at_):=by
  unfold jR
  rw[adp]
  exact(Pd A C _ _ _ _).2.1
 have hi:au (amk (amk (A++(jR (aX H k)++C)) (A.length+3) [anz (decide (bb b 10 ≥ 0))]) (A.length+2) [amT (b.extract 0 (max (bb b 10) 0).toNat)]) (A.length+1)=(aX H k).at_:=by
  unfold au;rw[hm]
 refine⟨?_,?_⟩
 ·rw[hi,bG (z:=bb b 10+1) (by omega) (by omega),bG (by omega) (by omega)]
  unfold jR
  rw[ado]
  rfl
 ·unfold cy;rw[hm];rfl
theorem Bc{d:ay}{no p:Int}(h:(aK d no p 65).2.1=0):(aK d no p 65).1.size≤65:=by
 have:=(Ov h).2.2
 omega
theorem Ph{H:List ap}{k:Nat}(hk:k<H.length):H.set k (aX H k)=H:=by
 apply List.ext_getElem?
 intro i
 rw[List.getElem?_set]
 split
 ·rename_i e
  subst e
  exact(A7 hk).symm
 ·rfl
theorem Pj{h:ap}{d:ay}(e:(aK d h.no h.at_ 65).2.1=0):bX h d=(0,AZ h (aK d h.no h.at_ 65).1,(aK d h.no h.at_ 65).2.2):=by
 unfold bX;rw[if_neg (fun g=>g e)]
theorem Pk{h:ap}{d:ay}(e:(aK d h.no h.at_ 65).2.1≠0):bX h d=((aK d h.no h.at_ 65).2.1,h,(aK d h.no h.at_ 65).2.2):=by
 unfold bX;rw[if_pos e]
theorem Pm(S:ad)(L:List ByteArray)(R:List Int)(H:List ap)(d:ay)(l:List ap)(k:Nat)(hk:k<l.length)(hok:ow (aX l k))(hd:cw d):
 aG asz 85 [.pointer (some ⟨0,0,none⟩),.pointer (some ⟨5,k*4,none⟩)] (aR S L R H d++[.cells (ak l) 144 false]) fun r q=>
  r=.ret (.int .i64 (bX (aX l k) d).1)∧q=aR S L R H (bX (aX l k) d).2.2++[.cells (ak (l.set k (bX (aX l k) d).2.1)) 144 false]:=by
 have pH:=aY H
 have pl:=aY l
 obtain⟨a0,b0⟩:=Pf hk
 obtain⟨a1,b1⟩:=Pg hk
 have hlen:k*4+4≤(ak l).length:=by rw[xD];omega
 have a0:au (ak l) (k*4+0)=(aX l k).no:=a0
 have k0:∀b:ByteArray,(if 0>bb b 10 then 0 else bb b 10).toNat≤b.size:=fun b=>by
  have:=AY b 10
  rw[GZ]
  by_cases h:0≤bb b 10
  ·have:=this h;omega
  ·omega
 refine aG.cM (n:=ct asz 85) (by kernel_rfl) ?_
 apply acy S L R H d (ak l) (k*4) pH pl b0 b1 hlen
 case aW=>simp
 case be=>simp
 case bB=>exact pH
 case br=>exact pl
 case n0=>exact rA.2 hd
 case n1=>intro _;exact GM.2 ⟨_,rfl,rfl,rfl,rfl⟩
 case n2=>intro _;rw[a0,a1,iL];exact am2 (k0 _)
 case n3=>intro _;rw[a0,a1,iL,apc,Ba _ _ (k0 _)];rfl
 case n4=>intro _;rw[nK (by show k*4+3+1≤_;omega)];exact am2 (by omega)
 case n6=>
  intro _
  rw[nK (by rw[nK (by show k*4+3+1≤_;omega)];show k*4+2+1≤_;omega),nK (by show k*4+3+1≤_;omega)]
  exact am2 (by omega)
 case n5=>
  intro g
  rw[a0,a1]at g
  have g:(aK d (aX l k).no (aX l k).at_ 65).2.1=0:=by simpa using g
  rw[a0,a1,iL]
  exact(Bb hk _ hok.jl hok.lk (Bc g)).2
 case kP=>
  intro g
  rw[a0,a1]at g
  have g:(aK d (aX l k).no (aX l k).at_ 65).2.1=0:=by simpa using g
  have hn:=(Bb hk _ hok.jl hok.lk (Bc g)).1
  refine acv S L R H d (ak l) (k*4) ?_ ?_
  ·rw[a0,a1,iL,hn];exact aY _
  ·rw[a0,a1,iL,hn,Pj g];exact⟨rfl,rfl⟩
 case kL=>
  intro g
  rw[a0,a1]at g
  have g:(aK d (aX l k).no (aX l k).at_ 65).2.1≠0:=by simpa using g
  refine acw S L R H d (ak l) (k*4) pl ?_
  rw[a0,a1,Pk g,Ph hk];exact⟨rfl,rfl⟩
theorem adq(S:ad)(L:List ByteArray)(R:List Int)(l:List ap)(d:ay)(k:Nat)(hk:k<l.length)(hok:ow (aX l k))(hd:cw d):
 aG asz 85 [.pointer (some ⟨0,0,none⟩),.pointer (some ⟨4,k*4,none⟩)] (aR S L R l d) fun r q=>
  r=.ret (.int .i64 (bX (aX l k) d).1)∧q=aR S L R (l.set k (bX (aX l k) d).2.1) (bX (aX l k) d).2.2:=by
 have pl:=aY l
 obtain⟨a0,b0⟩:=Pf hk
 obtain⟨a1,b1⟩:=Pg hk
 have hlen:k*4+4≤(ak l).length:=by rw[xD];omega
 have a0:au (ak l) (k*4+0)=(aX l k).no:=a0
 have k0:∀b:ByteArray,(if 0>bb b 10 then 0 else bb b 10).toNat≤b.size:=fun b=>by
  have:=AY b 10
  rw[GZ]
  by_cases h:0≤bb b 10
  ·have:=this h;omega
  ·omega
 refine aG.cM (n:=ct asz 85) (by kernel_rfl) ?_
 apply acC S L R d (ak l) (k*4) pl b0 b1 hlen
 case aW=>simp
 case be=>simp
 case bB=>exact pl
 case n0=>exact rA.2 hd
 case n1=>intro _;exact GM.2 ⟨_,rfl,rfl,rfl,rfl⟩
 case n2=>intro _;rw[a0,a1,iL];exact am2 (k0 _)
 case n3=>intro _;rw[a0,a1,iL,apc,Ba _ _ (k0 _)];rfl
 case n4=>intro _;rw[nK (by show k*4+3+1≤_;omega)];exact am2 (by omega)
 case n6=>
  intro _
  rw[nK (by rw[nK (by show k*4+3+1≤_;omega)];show k*4+2+1≤_;omega),nK (by show k*4+3+1≤_;omega)]
  exact am2 (by omega)
 case n5=>
  intro g
  rw[a0,a1]at g
  have g:(aK d (aX l k).no (aX l k).at_ 65).2.1=0:=by simpa using g
  rw[a0,a1,iL]
  exact(Bb hk _ hok.jl hok.lk (Bc g)).2
 case l9=>
  intro g
  rw[a0,a1]at g
  have g:(aK d (aX l k).no (aX l k).at_ 65).2.1=0:=by simpa using g
  have hn:=(Bb hk _ hok.jl hok.lk (Bc g)).1
  refine acz S L R d (ak l) (k*4) ?_ ?_
  ·rw[a0,a1,iL,hn];exact aY _
  ·rw[a0,a1,iL,hn,Pj g];exact⟨rfl,rfl⟩
 case gR=>
  intro g
  rw[a0,a1]at g
  have g:(aK d (aX l k).no (aX l k).at_ 65).2.1≠0:=by simpa using g
  refine acA S L R d (ak l) (k*4) pl ?_
  rw[a0,a1,Pk g,Ph hk];exact⟨rfl,rfl⟩
theorem Pn:bT asz 144=some 4:=by kernel_rfl
def pu(S:ad)(L:List ByteArray)(R:List Int)(H:List ap)(x:Int×List ap×ay)(r:bL)(q:List ai):Prop:=
 if x.1=0 then r=.ret (.tuple #[.slice (some ⟨5,0,none⟩) x.2.1.length x.2.1.length,.int .i64 0])∧q=aR S L R H x.2.2++[.cells (ak x.2.1) 144 false]
 else r=.ret (.tuple #[.slice none 0 0,.int .i64 x.1])∧q=aR S L R H x.2.2
def Po(S:ad)(L:List ByteArray)(R:List Int)(H:List ap)(x:Int×List ap×ay):Bool→QT (bL×List ai)
 |true=>.done (.ret (.tuple #[.slice (some ⟨5,0,none⟩) x.2.1.length x.2.1.length,.int .i64 0]),aR S L R H x.2.2++[.cells (ak x.2.1) 144 false])
 |false=>.done (.ret (.tuple #[.slice none 0 0,.int .i64 x.1]),aR S L R H x.2.2)
noncomputable def x7(S:ad)(L:List ByteArray)(R:List Int)(H:List ap)(d:ay)(o n:Nat)(x:Int×List ap×ay):Sum:=⟨fun _ _=>some [0,1,2,3,4],fun a ob=>.uH (dX a [.pointer (some ⟨0,0,none⟩),.slice (some ⟨3,o,none⟩) n n] ob (aR S L R H d)) (.ask (x.1==0) (Po S L R H x))⟩
theorem adr{a args:List amn}{o objs:List ai}(h:dX a args o objs=true):a=args∧o=objs:=by
 unfold dX at h
 exact @of_decide_eq_true _ (Classical.propDecidable _) h
theorem Pp{S:ad}{L:List ByteArray}{R:List Int}{H:List ap}{d:ay}{o n:Nat}{x:Int×List ap×ay}(h:aG asz 93 [.pointer (some ⟨0,0,none⟩),.slice (some ⟨3,o,none⟩) n n] (aR S L R H d) (pu S L R H x)):
 bp asz 93 (x7 S L R H d o n x):=by
 intro a ob r o' hg
 unfold x7 at hg
 dsimp only at hg
 obtain⟨h1,zT⟩:=QT.xf hg
 obtain⟨rfl,rfl⟩:=adr h1
 refine h.mono fun r1 o1 hp=>?_
 unfold pu at hp
 have hg:(Po S L R H x (x.1==0)).run=some (r,o'):=zT
 cases hk:(x.1==0)with
 |true=>
  rw[hk]at hg
  cases hg
  rw[if_pos (by simpa using hk)]at hp
  exact hp
 |false=>
  rw[hk]at hg
  cases hg
  rw[if_neg (by simpa using hk)]at hp
  exact hp
structure ads(l:List ap)(i:Nat):Prop where
 n0:amO (0+amm (i:Int)*4+4) (ak l).length=true
 n1:cy .i64 (ak l) (0+amm (i:Int)*4)=true
 n2:cy .i64 (ak l) (0+amm (i:Int)*4+1)=true
 n3:eB (ak l) (0+amm (i:Int)*4+1+1)=true
 n4:nT (ak l) (0+amm (i:Int)*4+1+1+1)=true
 b:gz (ak l) (0+amm (i:Int)*4+1+1+1)=(aX l i).there
 s:a8 (ak l) (0+amm (i:Int)*4+1+1)=(aX l i).line
 s2:a8 (ak l) (0+amm (i:Int)*4+2)=(aX l i).line
 n5:eB (ak l) (0+amm (i:Int)*4+2)=true
theorem rowAt{l:List ap}{i:Nat}(h:i<l.length):ads l i:=by
 obtain⟨a,b,c,d⟩:=G0 h
 have e:0+amm (i:Int)*4=i*4:=by simp
 refine⟨?_,?_,?_,?_,?_,?_,?_,?_,?_⟩
 ·rw[e,xD];exact am2 (by omega)
 ·rw[e];unfold cy;rw[a];rfl
 ·rw[e];unfold cy;rw[b];rfl
 ·rw[e];unfold eB;rw[show i*4+1+1=i*4+2 from rfl,c]
 ·rw[e];unfold nT;rw[show i*4+1+1+1=i*4+3 from rfl,d]
 ·rw[e];unfold gz;rw[show i*4+1+1+1=i*4+3 from rfl,d]
 ·rw[e];unfold a8;rw[show i*4+1+1=i*4+2 from rfl,c]
 ·rw[e];unfold a8;rw[c]
 ·rw[e];unfold eB;rw[c]
def G1(S:ad)(L:List ByteArray)(R:List Int)(H:List ap)(o n:Nat)(s:Nat×List ap×ay):aj:=
 ⟨[(0,.pointer (some ⟨0,0,none⟩)),(6,.slice (some ⟨5,0,none⟩) s.2.1.length s.2.1.length),(11,.slice (some ⟨3,o,none⟩) n n),(12,.int .i64 n),(13,iZ s.1)],aR S L R H s.2.2++[.cells (ak s.2.1) 144 false]⟩
structure adt(l:List Int)(d0:ay)(s:Nat×List ap×ay):Prop where
 i:s.1≤l.length
 e:dY (l.drop s.1) s.2.1 s.2.2=dY l [] d0
 ok:cw s.2.2
 bS:s.2.1.length=s.1
theorem adu(l:List ap)(y:ap):ak l++[amu amA y.no,amu amA y.at_,amT y.line,anz y.there]=ak (l++[y]):=by
 unfold ak
 rw[anh,aqn]
 simp[jR]
theorem Pq(S:ad)(L:List ByteArray)(R:List Int)(H:List ap)(d:ay)(o n:Nat)(vu:o+n≤R.length)(hn:n≤900000)(hd:cw d):
 aG asz 93 [.pointer (some ⟨0,0,none⟩),.slice (some ⟨3,o,none⟩) n n] (aR S L R H d) (pu S L R H (dY ((R.drop o).take n) [] d)):=by
 have pH:=aY H
 have mZ:((R.drop o).take n).length=n:=by rw[anf,anA];omega
 refine aG.cM (n:=ct asz 93) (by kernel_rfl) ?_
 apply acI S L R H d o n pH
 ·
  refine al.z1 6 144 (s:=4) Pn (by rfl) (by rfl) (by rfl:_=G1 S L R H o n (0,[],d)) ?_
  refine al.eJ 3 0 (by kernel_rfl) ?_
  refine al.fJ (G1 S L R H o n) (fun t=>n-t.1) (adt ((R.drop o).take n) d) (0,[],d) (by kernel_rfl) ⟨ann _,by simp,hd,rfl⟩ ?_
  clear hd
  rintro⟨i,l,d1⟩ ⟨h1,h2,h3,h4⟩
  dsimp only at h1 h2 h3 h4
  have pl:=aY l
  apply acM S L R H d1 l o n i pH pl
  case l5=>
   intro g
   have g:=of_decide_eq_false g
   rw[an3 (by omega)]at h2
   have h2:(0,l,d1)=dY ((R.drop o).take n) [] d:=h2
   rw[←h2]
   with_reducible (repeat first|refine QL.ret ?_|refine QL.exit ?_|refine QB.ret ?_|refine QB.ci ?_|refine QB.normal ?_|refine QB.cu (by rfl) ?_)
   apply acS S L R H d1 l pH pl
   ·
    refine acQ S L R H d1 l ?_
    unfold pu
    rw[if_pos rfl]
    exact⟨rfl,rfl⟩
  case l4=>
   intro g
   have g:=of_decide_eq_true g
   obtain⟨x,hx,jT⟩:=Pa (R:=R) (o:=o) (n:=n) (i:=i) (by omega) vu
   obtain⟨e1,e2⟩:=O9 hx
   rw[jT]at h2
   have ei:o+amm (i:Int)*1=o+i:=by simp
   have gv:=Pm S L R H d1 [⟨x,0,amw,false⟩] 0 (by simp) ⟨Int.le_refl _,by show(0:Int)≤1000000;omega,ann _⟩ h3
   have h5:=h3.bX ⟨x,0,amw,false⟩
   have h2:(if(bX ⟨x,0,amw,false⟩ d1).1≠0 then((bX ⟨x,0,amw,false⟩ d1).1,[],(bX ⟨x,0,amw,false⟩ d1).2.2)else dY (((R.drop o).take n).drop (i+1)) (l++[(bX ⟨x,0,amw,false⟩ d1).2.1]) (bX ⟨x,0,amw,false⟩ d1).2.2)=dY ((R.drop o).take n) [] d:=h2
   have gv:aG asz 85 [.pointer (some ⟨0,0,none⟩),.pointer (some ⟨5,0,none⟩)] (aR S L R H d1++[.cells (jR ⟨x,0,amw,false⟩) 144 false]) fun r q=>r=.ret (.int .i64 (bX ⟨x,0,amw,false⟩ d1).1)∧q=aR S L R H (bX ⟨x,0,amw,false⟩ d1).2.2++[.cells (jR (bX ⟨x,0,amw,false⟩ d1).2.1) 144 false]:=by
    refine gv.mono fun r q hq=>?_
    obtain⟨q1,q2⟩:=hq
    refine⟨q1,q2.trans ?_⟩
    show aR S L R H _++[.cells (ak [_]) _ false]=_
    unfold ak
    rw[List.map_cons,List.map_nil,List.flatten_cons,List.flatten_nil,List.append_nil]
    rfl
   generalize bX ⟨x,0,amw,false⟩ d1=rr at gv h5 h2
   obtain⟨e,y,dd⟩:=rr
   dsimp only at gv h5 h2
   apply acP S L R H d1 l o n x e y dd i pH pl gv (by omega) g (by omega) (bG (by omega) (by omega)) (by omega)
   case aW=>simp
   case be=>simp
   case bB=>exact pH
   case n0=>rw[ei];exact e2
   case n1=>rw[ei,e1];exact fe rfl rfl
   case n6=>intro _;exact am2 (by omega)
   case n7=>intro _;rw[xD,Nat.zero_add];exact Nat.beq_refl _
   case l5=>
    intro ge
    have ge:e≠0:=by simpa using ge
    rw[if_pos ge]at h2
    rw[←h2]
    with_reducible (repeat first|refine QL.ret ?_|refine QL.exit ?_|refine QB.ret ?_|refine QB.ci ?_|refine QB.normal ?_|refine QB.cu (by rfl) ?_)
    refine acN S L R H d1 l o n x e y dd i ?_
    unfold pu
    rw[if_neg ge]
    exact⟨rfl,rfl⟩
   case l8=>
    intro ge
    have ge:¬e≠0:=by simpa using ge
    rw[if_neg ge]at h2
    refine QL.to (i+1,l++[y],dd) ⟨by dsimp only;omega,h2,h5,by dsimp only;rw[amD,h4];rfl⟩ (by dsimp only;omega) ?_
    unfold OX G1
    rw[adu,fj (by omega)]
    dsimp only
    rw[amD]
    rfl
def nm(ob:List ai)(b:Nat)(H:List ap)(s:Nat×Option Nat):aj:=
 ⟨[(0,.pointer (some ⟨0,0,none⟩)),(1,.slice (some ⟨b,0,none⟩) H.length H.length),(5,.int .i64 (kI s.2)),(8,.slice (some ⟨b,0,none⟩) H.length H.length),(9,.int .i64 (H.length:Int)),(10,iZ s.1)],ob⟩
structure Bd(f:Bool)(H:List ap)(s:Nat×Option Nat):Prop where
 i:s.1≤H.length
 e:jU f H (H.drop s.1) s.1 s.2=eE f H
 k:∀j,s.2=some j→j<H.length
theorem G2{H:List ap}{i:Nat}(h:i<H.length):H.drop i=aX H i::H.drop (i+1):=by
 rw[aoh h]
 congr 1
 have:=A7 h
 rw[amt h]at this
 exact apE this
theorem Pr(S:ad)(L:List ByteArray)(R:List Int)(H:List ap)(d:ay)(l:List ap)(hl:l.length≤1000000):
 aG asz 84 [.pointer (some ⟨0,0,none⟩),.slice (some ⟨5,0,none⟩) l.length l.length] (aR S L R H d++[.cells (ak l) 144 false]) fun r q=>
  r=.ret (.int .i64 (kI (eE S.aC l)))∧q=aR S L R H d++[.cells (ak l) 144 false]:=by
 have pH:=aY H
 have pl:=aY l
 refine aG.cM (n:=ct asz 84) (by kernel_rfl) ?_
 apply acV S L R H d l pH pl
 ·
  refine al.eJ 3 0 (by kernel_rfl) ?_
  refine al.fJ (nm (aR S L R H d++[.cells (ak l) 144 false]) 5 l) (fun t=>l.length-t.1) (Bd S.aC l) (0,none) (by kernel_rfl) ⟨ann _,rfl,fun j h=>by cases h⟩ ?_
  rintro⟨i,k⟩ ⟨h1,h2,h3⟩
  dsimp only at h1 h2 h3
  apply acZ S L R H d l (kI k) i pH pl
  case l5=>
   intro g
   have g:=of_decide_eq_false g
   rw[an3 (by omega)]at h2
   have h2:k=eE S.aC l:=h2
   rw[←h2]
   with_reducible (repeat first|refine QL.ret ?_|refine QL.exit ?_|refine QB.ret ?_|refine QB.ci ?_|refine QB.normal ?_|refine QB.cu (by rfl) ?_)
   apply ac6 S L R H d l (kI k) pH pl
   ·exact ac4 S L R H d l (kI k) ⟨rfl,rfl⟩
  case l4=>
   intro g
   have g:=of_decide_eq_true g
   have hi:i<l.length:=by omega
   obtain⟨n0,n1,n2,n3,n4,xb,xs,Ps,n5⟩:=rowAt hi
   rw[G2 hi]at h2
   have h2:jU S.aC l (l.drop (i+1)) (i+1) (if iP S.aC l (aX l i) k then some i else k)=eE S.aC l:=h2
   have next:∀k',jU S.aC l (l.drop (i+1)) (i+1) k'=eE S.aC l→(∀j,k'=some j→j<l.length)→Bd S.aC l (i+1,k'):=fun k' a b=>⟨hi,a,b⟩
   cases k with
   |none=>
    apply ac1 S L R H d l i pH pl (by omega) g hl (bG (by omega) (by omega)) n0 n1 n2 n3 n4
    case l9=>
     intro gb
     rw[xb]at gb
     rw[show iP S.aC l (aX l i) none=true from gb,if_pos rfl]at h2
     refine QL.to (i+1,some i) (next _ h2 fun j h=>by cases h;exact hi) (by dsimp only;omega) ?_
     unfold OZ nm
     rw[fj (by omega)]
     rfl
    case kP=>
     intro gb
     rw[xb]at gb
     rw[show iP S.aC l (aX l i) none=false from gb,if_neg (by simp)]at h2
     refine QL.to (i+1,none) (next _ h2 fun j h=>by cases h) (by dsimp only;omega) ?_
     unfold O0 nm
     rw[fj (by omega)]
     rfl
   |some k=>
    have hk:=h3 k rfl
    have r2:=rowAt hk
    apply ac3 S L R H d l k i pH pl (by omega) g hl (bG (by omega) (by omega)) hk n0 n1 n2 n3 n4
    case n5=>intro _;exact r2.n5
    case n6=>intro _;exact vg rfl
    case gR=>
     intro gb gc
     rw[xb]at gb
     rw[xs,r2.s2]at gc
     rw[show iP S.aC l (aX l i) (some k)=true by show((aX l i).there&&decide (a7 S.aC (aX l i).line (aX l k).line<0))=true;rw[gb,gc];rfl,if_pos rfl]at h2
     refine QL.to (i+1,some i) (next _ h2 fun j h=>by cases h;exact hi) (by dsimp only;omega) ?_
     unfold O1 nm
     rw[fj (by omega)]
     rfl
    case kL=>
     intro gb gc
     rw[xs,r2.s2]at gc
     rw[show iP S.aC l (aX l i) (some k)=false by show((aX l i).there&&decide (a7 S.aC (aX l i).line (aX l k).line<0))=false;rw[gc,arV],if_neg (by simp)]at h2
     refine QL.to (i+1,some k) (next _ h2 fun j h=>by cases h;exact hk) (by dsimp only;omega) ?_
     unfold O2 nm
     rw[fj (by omega)]
     rfl
    case pt=>
     intro gb
     rw[xb]at gb
     rw[show iP S.aC l (aX l i) (some k)=false by show((aX l i).there&&decide (a7 S.aC (aX l i).line (aX l k).line<0))=false;rw[gb,apO],if_neg (by simp)]at h2
     refine QL.to (i+1,some k) (next _ h2 fun j h=>by cases h;exact hk) (by dsimp only;omega) ?_
     unfold O3 nm
     rw[fj (by omega)]
     rfl
theorem adv(S:ad)(L:List ByteArray)(R:List Int)(d:ay)(l:List ap)(hl:l.length≤1000000):
 aG asz 84 [.pointer (some ⟨0,0,none⟩),.slice (some ⟨4,0,none⟩) l.length l.length] (aR S L R l d) fun r q=>
  r=.ret (.int .i64 (kI (eE S.aC l)))∧q=aR S L R l d:=by
 have pl:=aY l
 refine aG.cM (n:=ct asz 84) (by kernel_rfl) ?_
 apply ac9 S L R l d pl
 ·
  refine al.eJ 3 0 (by kernel_rfl) ?_
  refine al.fJ (nm (aR S L R l d) 4 l) (fun t=>l.length-t.1) (Bd S.aC l) (0,none) (by kernel_rfl) ⟨ann _,rfl,fun j h=>by cases h⟩ ?_
  rintro⟨i,k⟩ ⟨h1,h2,h3⟩
  dsimp only at h1 h2 h3
  apply adf S L R l d (kI k) i pl
  case l4=>
   intro g
   have g:=of_decide_eq_false g
   rw[an3 (by omega)]at h2
   have h2:k=eE S.aC l:=h2
   rw[←h2]
   with_reducible (repeat first|refine QL.ret ?_|refine QL.exit ?_|refine QB.ret ?_|refine QB.ci ?_|refine QB.normal ?_|refine QB.cu (by rfl) ?_)
   apply adm S L R l d (kI k) pl
   ·exact adk S L R l d (kI k) ⟨rfl,rfl⟩
  case l3=>
   intro g
   have g:=of_decide_eq_true g
   have hi:i<l.length:=by omega
   obtain⟨n0,n1,n2,n3,n4,xb,xs,Ps,n5⟩:=rowAt hi
   rw[G2 hi]at h2
   have h2:jU S.aC l (l.drop (i+1)) (i+1) (if iP S.aC l (aX l i) k then some i else k)=eE S.aC l:=h2
   have next:∀k',jU S.aC l (l.drop (i+1)) (i+1) k'=eE S.aC l→(∀j,k'=some j→j<l.length)→Bd S.aC l (i+1,k'):=fun k' a b=>⟨hi,a,b⟩
   cases k with
   |none=>
    apply adh S L R l d i pl (by omega) g hl (bG (by omega) (by omega)) n0 n1 n2 n3 n4
    case l8=>
     intro gb
     rw[xb]at gb
     rw[show iP S.aC l (aX l i) none=true from gb,if_pos rfl]at h2
     refine QL.to (i+1,some i) (next _ h2 fun j h=>by cases h;exact hi) (by dsimp only;omega) ?_
     unfold O4 nm
     rw[fj (by omega)]
     rfl
    case l9=>
     intro gb
     rw[xb]at gb
     rw[show iP S.aC l (aX l i) none=false from gb,if_neg (by simp)]at h2
     refine QL.to (i+1,none) (next _ h2 fun j h=>by cases h) (by dsimp only;omega) ?_
     unfold O5 nm
     rw[fj (by omega)]
     rfl
   |some k=>
    have hk:=h3 k rfl
    have r2:=rowAt hk
    apply adj S L R l d k i pl (by omega) g hl (bG (by omega) (by omega)) hk n0 n1 n2 n3 n4
    case n5=>intro _;exact r2.n5
    case n6=>intro _;exact vg rfl
    case kP=>
     intro gb gc
     rw[xb]at gb
     rw[xs,r2.s2]at gc
     rw[show iP S.aC l (aX l i) (some k)=true by show((aX l i).there&&decide (a7 S.aC (aX l i).line (aX l k).line<0))=true;rw[gb,gc];rfl,if_pos rfl]at h2
     refine QL.to (i+1,some i) (next _ h2 fun j h=>by cases h;exact hi) (by dsimp only;omega) ?_
     unfold O6 nm
     rw[fj (by omega)]
     rfl
    case gR=>
     intro gb gc
     rw[xs,r2.s2]at gc
     rw[show iP S.aC l (aX l i) (some k)=false by show((aX l i).there&&decide (a7 S.aC (aX l i).line (aX l k).line<0))=false;rw[gc,arV],if_neg (by simp)]at h2
     refine QL.to (i+1,some k) (next _ h2 fun j h=>by cases h;exact hk) (by dsimp only;omega) ?_
     unfold O7 nm
     rw[fj (by omega)]
     rfl
    case kL=>
     intro gb
     rw[xb]at gb
     rw[show iP S.aC l (aX l i) (some k)=false by show((aX l i).there&&decide (a7 S.aC (aX l i).line (aX l k).line<0))=false;rw[gb,apO],if_neg (by simp)]at h2
     refine QL.to (i+1,some k) (next _ h2 fun j h=>by cases h;exact hk) (by dsimp only;omega) ?_
     unfold O8 nm
     rw[fj (by omega)]
     rfl
end Go.Proofs.Ytnlkkgpcikkpoaa
namespace Go.Proofs.Ytnlkkgpcikkpoaa
noncomputable section
open Go Vm Go.RowKit
set_option maxRecDepth 100000
noncomputable def adw:List (amY×Sum):=[(102,Sum.du asz AM)]
theorem adx:dg asz (dE asz (dF adw) 50 40):=dJ cZ mixed (dQ (.cons N0 .nil)) 50 40
noncomputable def ady(S:ad)(L:List ByteArray)(R:List Int)(H:List ap)(d:ay)(o n:Nat)(e:Int)(l:List ap)(dd:ay):List (amY×Sum):=[(93,x7 S L R H d o n (e,l,dd))]
theorem adz(S:ad)(L:List ByteArray)(R:List Int)(H:List ap)(d:ay)(o n:Nat)(e:Int)(l:List ap)(dd:ay)(cW:aG asz 93 [an 0,di 3 o n n] (aR S L R H d) (pu S L R H (e,l,dd))):dg asz (dE asz (dF (ady S L R H d o n e l dd)) 50 40):=
 dJ cZ mixed (dQ (.cons (Pp cW) .nil)) 50 40
def adA(S:ad)(L:List ByteArray)(R:List Int)(H:List ap)(d:ay)(l:List ap)(k:Int):List (amY×Sum):=[(84,Sum.one (fun _ _=>some [0,1,2,3,4,5]) [an 0,ah 5 l.length] (aR S L R H d++[ab (ak l) 144]) (.ret (aa k)) (aR S L R H d++[ab (ak l) 144]))]
theorem Pt(S:ad)(L:List ByteArray)(R:List Int)(H:List ap)(d:ay)(l:List ap)(k:Int)(hle:aG asz 84 [an 0,ah 5 (mM l)] (aR S L R H d++[ab (ak l) 144]) fun r q=>r=.ret (aa k)∧q=aR S L R H d++[ab (ak l) 144]):dg asz (dE asz (dF (adA S L R H d l k)) 50 40):=
 dJ cZ mixed (dQ (.cons (bp.one hle) .nil)) 50 40
noncomputable def adB:List (amY×Sum):=[(103,Sum.du asz AN)]
theorem adC:dg asz (dE asz (dF adB) 50 40):=dJ cZ mixed (dQ (.cons N2 .nil)) 50 40
def adD(S:ad)(L:List ByteArray)(R:List Int)(H:List ap)(d:ay)(l:List ap)(k:Nat)(e:Int)(l1:List ap)(dd:ay):List (amY×Sum):=[(85,Sum.one (fun _ _=>some [0,1,2,3,4,5]) [an 0,.pointer (some ⟨5,k*4,none⟩)] (aR S L R H d++[ab (ak l) 144]) (.ret (aa e)) (aR S L R H dd++[ab (ak l1) 144]))]
theorem adE(S:ad)(L:List ByteArray)(R:List Int)(H:List ap)(d:ay)(l:List ap)(k:Nat)(e:Int)(l1:List ap)(dd:ay)(gv:aG asz 85 [an 0,.pointer (some ⟨5,k*4,none⟩)] (aR S L R H d++[ab (ak l) 144]) fun r q=>r=.ret (aa e)∧q=aR S L R H dd++[ab (ak l1) 144]):dg asz (dE asz (dF (adD S L R H d l k e l1 dd)) 50 40):=
 dJ cZ mixed (dQ (.cons (bp.one gv) .nil)) 50 40
def adF(S:ad)(L:List ByteArray)(R:List Int)(H:List ap)(d:ay)(o n:Nat)(e:Int)(dd:ay):List (amY×Sum):=[(96,Sum.one (fun _ _=>some [0,1,2,3,4]) [an 0,di 3 o n n] (aR S L R H d) (.ret (aa e)) (aR S L R H dd))]
theorem adG(S:ad)(L:List ByteArray)(R:List Int)(H:List ap)(d:ay)(o n:Nat)(e:Int)(dd:ay)(gY:aG asz 96 [an 0,di 3 o n n] (aR S L R H d) fun r q=>r=.ret (aa e)∧q=aR S L R H dd):dg asz (dE asz (dF (adF S L R H d o n e dd)) 50 40):=
 dJ cZ mixed (dQ (.cons (bp.one gY) .nil)) 50 40
noncomputable def rI:List am3:=ba (dy asz 105)
open Tree renaming aU→mN,dh→mF,eQ→mL,fw→mQ,dz→mR,fI→mE
noncomputable abbrev Be:List am3:=(ba (inner (ba (inner (rI.drop 8)))))
noncomputable abbrev G3:List am3:=(ba (inner (Be.drop 2)))
abbrev G4:=fun S L R H d (o n:Nat)=>(⟨[(4,aa 0),(5,aa (amx (anl (bw d))))],[ab (aQ S 1 2 3 4) 64,.abs (anl (anl (bw d))),ab (ao L) 9,ab (aq R) 3,ab (ak H) 144]⟩:aj)
theorem adH(S L R H d)(o n:Nat){Q:bk}(hq:Q (.ret (.tuple #[aa 0,aa (amx (anl (bw d)))])) (G4 S L R H d o n).objs):aH asz 105 68 5 Q .ret (G4 S L R H d o n):=aH.ret (vs:=[aa 0,aa (amx (anl (bw d)))]) (l:=[]) (bs:=[0,1,2,3,4]) (pl:=[2,3,4]) (q:=[ao L,aq R,ak H]) (fun u=>by kernel_rfl) (by kernel_rfl) (gi L R H bd) hq
abbrev Pv:=fun S L R H d (o n:Nat)=>(⟨[(0,an 0),(1,di 3 o n n),(6,aa (amx (bw d)))],[ab (aQ S 1 2 3 4) 64,.abs (anl (anl (bw d))),ab (ao L) 9,ab (aq R) 3,ab (ak H) 144]⟩:aj)
abbrev G5:=fun S L R H d=>([ab (aQ S 1 2 3 4) 64,.abs d,ab (ao L) 9,ab (aq R) 3,ab (ak H) 144]:List ai)
abbrev adI:=fun S L R H d (o n:Nat)=>(⟨[(0,an 0),(1,di 3 o n n)],G5 S L R H d⟩:aj)
theorem adJ(S L R H d)(o n:Nat)(pH:(ak H).all af=true){Q:aV}(n0:(ph d)=true)(l4:(amx (anl (bw d)) != 0)=true→Q .ret (G4 S L R H d o n))(l5:(amx (anl (bw d)) != 0)=false→al asz 68 5 (rI.drop 4) (Pv S L R H d o n) Q):al asz 68 5 rI (adI S L R H d o n) Q:=
 aZ adx 4 (av [5] (.fork 0 (.leaf [4,5] [0,1,2,3,4] [2,3,4]) (.leaf [0,1,6] [0,1,2,3,4] [2,3,4]))) (fun u=>by kernel_rfl) (mN n0 (mF (c:=amx (anl (bw d)) != 0) (fun h0=>(aM L R H (mR (l4 h0)))) (fun h0=>(aM L R H (mQ (l5 h0))))))
abbrev adK:=fun S L R H (d:ay) (o n:Nat) (e:Int) l dd (no:Int)=>(⟨[(0,an 0),(1,di 3 o n n),(6,aa no),(8,ah 5 (mM l))],[ab (aQ S 1 2 3 4) 64,.abs dd,ab (ao L) 9,ab (aq R) 3,ab (ak H) 144,ab (ak l) 144]⟩:aj)
abbrev tC:=fun S L R H dd=>([ab (aQ S 1 2 3 4) 64,.abs dd,ab (ao L) 9,ab (aq R) 3,ab (ak H) 144]:List ai)
abbrev G6:=fun S L R H (d:ay) (o n:Nat) (e:Int) (l:List ap) dd (no:Int)=>(⟨[(4,aa 0),(5,aa e)],tC S L R H dd⟩:aj)
theorem adL(S L R H d)(o n:Nat)(e:Int)(l dd)(no:Int){Q:bk}(hq:Q (.ret (.tuple #[aa 0,aa e])) (G6 S L R H d o n e l dd no).objs):aH asz 105 68 5 Q .ret (G6 S L R H d o n e l dd no):=aH.ret (vs:=[aa 0,aa e]) (l:=[]) (bs:=[0,1,2,3,4]) (pl:=[2,3,4]) (q:=[ao L,aq R,ak H]) (fun u=>by kernel_rfl) (by kernel_rfl) (gi L R H bd) hq
abbrev adM:=fun S L R H d (o n:Nat) (e:Int) (l:List ap) (dd:ay) (no:Int)=>(⟨[(0,an 0),(1,di 3 o n n),(6,aa no)],G5 S L R H d⟩:aj)
theorem adN(S L R H d)(o n:Nat)(e:Int)(l dd)(no:Int)(pH:(ak H).all af=true)(pL:(ak l).all af=true)(cW:aG asz 93 [an 0,di 3 o n n] (aR S L R H d) (pu S L R H (e,l,dd))){Q:aV}(l4:(e==0)=true→al asz 68 5 ((rI.drop 4).drop 3) (adK S L R H d o n e l dd no) Q)(l5:(e==0)=false→Q .ret (G6 S L R H d o n e l dd no)):al asz 68 5 (rI.drop 4) (adM S L R H d o n e l dd no) Q:=
 aZ (adz S L R H d o n e l dd cW) 3 (av [3,1,1,1] (.fork 0 (av [1,1,1,1] (.leaf [0,1,6,8] [0,1,2,3,4,5] [2,3,4,5])) (av [1,1,1,1] (.leaf [4,5] [0,1,2,3,4] [2,3,4])))) (fun u=>by kernel_rfl) (aM L R H (mN (kh [an 0,di 3 o n n] (aR S L R H d)) (mF (c:=e==0) (fun h0=>(aM L R H (mN (aY l) (aM L R H (mN (aY l) (mQ (l4 h0))))))) (fun h0=>(aM L R H (mN (show(e != 0)=true by simp at pH pL cW h0⊢ <;>omega) (aM L R H (mR (l5 h0)))))))))
abbrev Pu:=fun S L R H d l=>([ab (aQ S 1 2 3 4) 64,.abs d,ab (ao L) 9,ab (aq R) 3,ab (ak H) 144,ab (ak l) 144]:List ai)
abbrev adO:=fun S L R H d l (o n:Nat) (no k:Int)=>(⟨[(0,an 0),(1,di 3 o n n),(6,aa no),(8,ah 5 (mM l)),(9,aa k)],Pu S L R H d l⟩:aj)
abbrev Pw:=fun S L R H d l (o n:Nat) (no k:Int)=>(⟨[(0,an 0),(1,di 3 o n n),(6,aa no),(8,ah 5 (mM l))],Pu S L R H d l⟩:aj)
theorem adP(S L R H d l)(o n:Nat)(no k:Int)(pH:(ak H).all af=true)(pL:(ak l).all af=true)(hle:aG asz 84 [an 0,ah 5 (mM l)] (aR S L R H d++[ab (ak l) 144]) fun r q=>r=.ret (aa k)∧q=aR S L R H d++[ab (ak l) 144]){Q:aV}(l5:al asz 68 5 ((rI.drop 7).drop 1) (adO S L R H d l o n no k) Q):al asz 68 5 (rI.drop 7) (Pw S L R H d l o n no k) Q:=
 aZ (Pt S L R H d l k hle) 1 (av [3,1,1,1,1,1,1,1,1] (.leaf [0,1,6,8,9] [0,1,2,3,4,5] [2,3,4,5])) (fun u=>by kernel_rfl) (aM L R H (mN (aY l) (mN (kh [an 0,ah 5 (mM l)] (aR S L R H d++[ab (ak l) 144])) (aM L R H (mN (aY l) (aM L R H (mN (aY l) (mQ l5))))))))
abbrev adQ:=fun S L R H d l (o n:Nat) (no k:Int)=>(⟨[(0,an 0),(1,di 3 o n n),(6,aa no),(8,ah 5 (mM l)),(9,aa k)],Pu S L R H d l⟩:aj)
abbrev adR:=fun S L R H d (l:List ap) (o n:Nat) (no k:Int)=>(⟨[(0,an 0),(1,di 3 o n n),(6,aa no)],G5 S L R H d⟩:aj)
abbrev adS:=fun S L R H d l (o n:Nat) (no k:Int)=>(⟨[(0,an 0),(1,di 3 o n n),(6,aa no),(8,ah 5 (mM l)),(9,aa k)],Pu S L R H d l⟩:aj)
theorem adT(S L R H d l)(o n:Nat)(no k:Int)(pH:(ak H).all af=true)(pL:(ak l).all af=true){Q:aV}(l4:(decide (k ≥ 0))=true→al asz 68 5 (Be.drop 2) (adQ S L R H d l o n no k) Q)(l5:(decide (k ≥ 0))=false→Q (.exit 0) (adR S L R H d l o n no k)):al asz 68 5 Be (adS S L R H d l o n no k) Q:=
 aZ bo 2 (.fork 0 (.leaf [0,1,6,8,9] [0,1,2,3,4,5] [2,3,4,5]) (.leaf [0,1,6] [0,1,2,3,4] [2,3,4])) (fun u=>by kernel_rfl) (mF (c:=decide (k ≥ 0)) (fun h0=>(aM L R H (mN (aY l) (mQ (l4 h0))))) (fun h0=>(aM L R H (mE 0 (l5 h0)))))
abbrev Px:=fun S L R H d l (o n:Nat) (no:Int) (k:Nat)=>(⟨[(4,aa 0),(5,aa (amx (bN d no (bh (am0 (fun b=>amu amJ (↑(amZ b):Int)) (amM (ams (a8 (ak l) (0+amm (↑k:Int)*4+2))) (amV (amP (a8 (ak l) (0+amm (↑k:Int)*4+2)))))++[amu amJ 10])))))],[ab (aQ S 1 2 3 4) 64,.abs (anl (bN d no (bh (am0 (fun b=>amu amJ (↑(amZ b):Int)) (amM (ams (a8 (ak l) (0+amm (↑k:Int)*4+2))) (amV (amP (a8 (ak l) (0+amm (↑k:Int)*4+2)))))++[amu amJ 10])))),ab (ao L) 9,ab (aq R) 3,ab (ak H) 144]⟩:aj)
theorem adU(S L R H d l)(o n:Nat)(no:Int)(k:Nat){Q:bk}(hq:Q (.ret (.tuple #[aa 0,aa (amx (bN d no (bh (am0 (fun b=>amu amJ (↑(amZ b):Int)) (amM (ams (a8 (ak l) (0+amm (↑k:Int)*4+2))) (amV (amP (a8 (ak l) (0+amm (↑k:Int)*4+2)))))++[amu amJ 10]))))])) [ab (aQ S 1 2 3 4) 64,.abs (anl (bN d no (bh (am0 (fun b=>amu amJ (↑(amZ b):Int)) (amM (ams (a8 (ak l) (0+amm (↑k:Int)*4+2))) (amV (amP (a8 (ak l) (0+amm (↑k:Int)*4+2)))))++[amu amJ 10])))),ab (ao L) 9,ab (aq R) 3,ab (ak H) 144]):aH asz 105 68 5 Q .ret (Px S L R H d l o n no k):=aH.ret (vs:=[aa 0,aa (amx (bN d no (bh (am0 (fun b=>amu amJ (↑(amZ b):Int)) (amM (ams (a8 (ak l) (0+amm (↑k:Int)*4+2))) (amV (amP (a8 (ak l) (0+amm (↑k:Int)*4+2)))))++[amu amJ 10]))))]) (l:=[]) (bs:=[0,1,2,3,4]) (pl:=[2,3,4]) (q:=[ao L,aq R,ak H]) (fun u=>by kernel_rfl) (by kernel_rfl) (gi L R H bd) hq
abbrev Py:=fun S L R H d l (o n:Nat) (no:Int) (k:Nat)=>(⟨[(0,an 0),(1,di 3 o n n),(6,aa no),(8,ah 5 (mM l)),(9,aa k)],[ab (aQ S 1 2 3 4) 64,.abs (anl (bN d no (bh (am0 (fun b=>amu amJ (↑(amZ b):Int)) (amM (ams (a8 (ak l) (0+amm (↑k:Int)*4+2))) (amV (amP (a8 (ak l) (0+amm (↑k:Int)*4+2)))))++[amu amJ 10])))),ab (ao L) 9,ab (aq R) 3,ab (ak H) 144,ab (ak l) 144]⟩:aj)
abbrev adV:=fun S L R H d l (o n:Nat) (no:Int) (k:Nat)=>(⟨[(0,an 0),(1,di 3 o n n),(6,aa no),(8,ah 5 (mM l)),(9,aa k)],Pu S L R H d l⟩:aj)
theorem adW(S L R H d l)(o n:Nat)(no:Int)(k:Nat)(pH:(ak H).all af=true)(pL:(ak l).all af=true)(h0:k<(mM l))(h1:(mM l)≤1000000){Q:aV}(n0:(eB (ak l) (0+amm (↑k:Int)*4+2))=true)(n1:(amO (0+ams (a8 (ak l) (0+amm (↑k:Int)*4+2))) 1000000)=true)(n2:(amq (am0 (fun b=>amu amJ (↑(amZ b):Int)) (amM (ams (a8 (ak l) (0+amm (↑k:Int)*4+2))) (amV (amP (a8 (ak l) (0+amm (↑k:Int)*4+2)))))) Value.oneCell')=true)(n3:(amO (ams (a8 (ak l) (0+amm (↑k:Int)*4+2))+1) 1000000)=true)(n4:(amq (am0 (fun b=>amu amJ (↑(amZ b):Int)) (amM (ams (a8 (ak l) (0+amm (↑k:Int)*4+2))) (amV (amP (a8 (ak l) (0+amm (↑k:Int)*4+2)))))++[amu amJ 10]) af)=true)(n5:(xS d no (am0 (fun b=>amu amJ (↑(amZ b):Int)) (amM (ams (a8 (ak l) (0+amm (↑k:Int)*4+2))) (amV (amP (a8 (ak l) (0+amm (↑k:Int)*4+2)))))++[amu amJ 10]) 5 false (ams (a8 (ak l) (0+amm (↑k:Int)*4+2))+1) (ams (a8 (ak l) (0+amm (↑k:Int)*4+2))+1))=true)(l9:(amx (bN d no (bh (am0 (fun b=>amu amJ (↑(amZ b):Int)) (amM (ams (a8 (ak l) (0+amm (↑k:Int)*4+2))) (amV (amP (a8 (ak l) (0+amm (↑k:Int)*4+2)))))++[amu amJ 10]))) != 0)=true→Q .ret (Px S L R H d l o n no k))(gR:(amx (bN d no (bh (am0 (fun b=>amu amJ (↑(amZ b):Int)) (amM (ams (a8 (ak l) (0+amm (↑k:Int)*4+2))) (amV (amP (a8 (ak l) (0+amm (↑k:Int)*4+2)))))++[amu amJ 10]))) != 0)=false→al asz 68 5 (G3.drop 3) (Py S L R H d l o n no k) Q):al asz 68 5 G3 (adV S L R H d l o n no k) Q:=
 aZ adC 3 (av [2,3,0,1,10,1,1,1,2,3,5,1,5,1,1] (.fork 0 (.leaf [4,5] [0,1,2,3,4] [2,3,4]) (.leaf [0,1,6,8,9] [0,1,2,3,4,5] [2,3,4,5]))) (fun u=>by kernel_rfl) (mN (show(amG (amm (↑k:Int)) (mM l))=true by simp at pH pL h0 h1⊢ <;>omega) (mN n0 (mN n1 (mN n2 (mN (show(amE (mM (am0 (fun b=>amu amJ (↑(amZ b):Int)) (amM (ams (a8 (ak l) (0+amm (↑k:Int)*4+2))) (amV (amP (a8 (ak l) (0+amm (↑k:Int)*4+2))))))) (ams (a8 (ak l) (0+amm (↑k:Int)*4+2))*1))=true by simp) (mN n3 (mN (kJ _:(full (ams (a8 (ak l) (0+amm (↑k:Int)*4+2))) (ams (a8 (ak l) (0+amm (↑k:Int)*4+2))))=true) (mN (show(amE (0+ams (a8 (ak l) (0+amm (↑k:Int)*4+2))*1) (mM (am0 (fun b=>amu amJ (↑(amZ b):Int)) (amM (ams (a8 (ak l) (0+amm (↑k:Int)*4+2))) (amV (amP (a8 (ak l) (0+amm (↑k:Int)*4+2))))))))=true by simp) (mN n4 (mN n5 (mN n4 (mF (c:=amx (bN d no (bh (am0 (fun b=>amu amJ (↑(amZ b):Int)) (amM (ams (a8 (ak l) (0+amm (↑k:Int)*4+2))) (amV (amP (a8 (ak l) (0+amm (↑k:Int)*4+2)))))++[amu amJ 10]))) != 0) (fun h0=>(aM L R H (mR (l9 h0)))) (fun h0=>(aM L R H (mN (aY l) (mQ (gR h0)))))))))))))))))
abbrev G7:=fun S L R H (d:ay) (l:List ap) (o n:Nat) (no:Int) (k:Nat) (e:Int) (l1:List ap) dd=>(⟨[(4,aa 0),(5,aa e)],tC S L R H dd⟩:aj)
theorem adX(S L R H d l)(o n:Nat)(no:Int)(k:Nat)(e:Int)(l1 dd){Q:bk}(hq:Q (.ret (.tuple #[aa 0,aa e])) (G7 S L R H d l o n no k e l1 dd).objs):aH asz 105 68 5 Q .ret (G7 S L R H d l o n no k e l1 dd):=aH.ret (vs:=[aa 0,aa e]) (l:=[]) (bs:=[0,1,2,3,4]) (pl:=[2,3,4]) (q:=[ao L,aq R,ak H]) (fun u=>by kernel_rfl) (by kernel_rfl) (gi L R H bd) hq
abbrev Pz:=fun S L R H (d:ay) (l:List ap) (o n:Nat) (no:Int) (k:Nat) (e:Int) l1 dd=>(⟨[(0,an 0),(1,di 3 o n n),(6,aa no),(8,ah 5 (mM l))],[ab (aQ S 1 2 3 4) 64,.abs dd,ab (ao L) 9,ab (aq R) 3,ab (ak H) 144,ab (ak l1) 144]⟩:aj)
abbrev adY:=fun S L R H d l (o n:Nat) (no:Int) (k:Nat) (e:Int) (l1:List ap) (dd:ay)=>(⟨[(0,an 0),(1,di 3 o n n),(6,aa no),(8,ah 5 (mM l)),(9,aa k)],Pu S L R H d l⟩:aj)
theorem adZ(S L R H d l)(o n:Nat)(no:Int)(k:Nat)(e:Int)(l1 dd)(pH:(ak H).all af=true)(pL:(ak l).all af=true)(p1:(ak l1).all af=true)(gv:aG asz 85 [an 0,.pointer (some ⟨5,k*4,none⟩)] (aR S L R H d++[ab (ak l) 144]) fun r q=>r=.ret (aa e)∧q=aR S L R H dd++[ab (ak l1) 144])(h0:k<(mM l))(h1:(mM l)≤1000000){Q:aV}(n0:(dX [an 0,anx (some (Addr.mk 5 (0+amm (↑k:Int)*4) none))] [an 0,anx (some (Addr.mk 5 (k*4) none))] [ab (aQ S 1 2 3 4) 64,ai.abs d,ab (ao L) 9,ab (aq R) 3,ab (ak H) 144,ab (ak l) 144] (aR S L R H d++[ab (ak l) 144]))=true)(l4:(e != 0)=true→Q .ret (G7 S L R H d l o n no k e l1 dd))(l5:(e != 0)=false→Q .normal (Pz S L R H d l o n no k e l1 dd)):al asz 68 5 (G3.drop 3) (adY S L R H d l o n no k e l1 dd) Q:=
 aZ (adE S L R H d l k e l1 dd gv) 1000 (av [0,3,3,1,1,1,1,1,1,1,1] (.fork 0 (.leaf [4,5] [0,1,2,3,4] [2,3,4]) (.leaf [0,1,6,8] [0,1,2,3,4,5] [2,3,4,5]))) (fun u=>by kernel_rfl) (mN (show(amG (amm (↑k:Int)) (mM l))=true by simp at pH pL p1 gv h0 h1⊢ <;>omega) (aM L R H (mN (aY l) (mN n0 (aM L R H (mN (aY l1) (mF (c:=e != 0) (fun h0=>(aM L R H (mR (l4 h0)))) (fun h0=>(aM L R H (mN (aY l1) (mQ (al.done (by kernel_rfl) (l5 h0)))))))))))))
abbrev ad0:=fun S L R H d l (o n:Nat) (no k:Int)=>(⟨[(0,an 0),(1,di 3 o n n),(6,aa no),(8,ah 5 (mM l)),(9,aa k)],Pu S L R H d l⟩:aj)
theorem ad1(S L R H d l)(o n:Nat)(no k:Int)(pH:(ak H).all af=true)(pL:(ak l).all af=true)(hle:aG asz 84 [an 0,ah 5 (mM l)] (aR S L R H d++[ab (ak l) 144]) fun r q=>r=.ret (aa k)∧q=aR S L R H d++[ab (ak l) 144]){Q:aV}(l5:Q .normal (ad0 S L R H d l o n no k)):al asz 68 5 (Be.drop 3) (Pw S L R H d l o n no k) Q:=
 aZ (Pt S L R H d l k hle) 1000 (av [3,1,1,1,1,1,1,1,1] (.leaf [0,1,6,8,9] [0,1,2,3,4,5] [2,3,4,5])) (fun u=>by kernel_rfl) (aM L R H (mN (aY l) (mN (kh [an 0,ah 5 (mM l)] (aR S L R H d++[ab (ak l) 144])) (aM L R H (mN (aY l) (aM L R H (mN (aY l) (mQ (al.done (by kernel_rfl) l5)))))))))
abbrev G8:=fun S L R H (d:ay) (o n:Nat) (no e:Int) dd=>(⟨[(4,aa no),(5,aa e)],tC S L R H dd⟩:aj)
theorem ad2(S L R H d)(o n:Nat)(no e:Int)(dd){Q:bk}(hq:Q (.ret (.tuple #[aa no,aa e])) (G8 S L R H d o n no e dd).objs):aH asz 105 68 5 Q .ret (G8 S L R H d o n no e dd):=aH.ret (vs:=[aa no,aa e]) (l:=[]) (bs:=[0,1,2,3,4]) (pl:=[2,3,4]) (q:=[ao L,aq R,ak H]) (fun u=>by kernel_rfl) (by kernel_rfl) (gi L R H bd) hq
abbrev ad3:=fun S L R H d (o n:Nat) (no e:Int) (dd:ay)=>(⟨[(0,an 0),(1,di 3 o n n),(6,aa no)],G5 S L R H d⟩:aj)
theorem ad4(S L R H d)(o n:Nat)(no e:Int)(dd)(pH:(ak H).all af=true)(gY:aG asz 96 [an 0,di 3 o n n] (aR S L R H d) fun r q=>r=.ret (aa e)∧q=aR S L R H dd){Q:aV}(l4:Q .ret (G8 S L R H d o n no e dd)):al asz 68 5 (rI.drop 9) (ad3 S L R H d o n no e dd) Q:=
 aZ (adG S L R H d o n e dd gY) 1000 (av [3,1,1,1,1,1,1] (.leaf [4,5] [0,1,2,3,4] [2,3,4])) (fun u=>by kernel_rfl) (aM L R H (mN (kh [an 0,di 3 o n n] (aR S L R H d)) (aM L R H (aM L R H (mR l4)))))
end
end Go.Proofs.Ytnlkkgpcikkpoaa
namespace Go.Proofs.Ytnlkkgpcikkpoaa
open Go Vm Go.RowKit
set_option maxRecDepth 100000
def ad5(S:ad)(L:List ByteArray)(R:List Int)(H:List ap)(o n:Nat)(no:Int)(s:Option Nat×List ap×ay×Nat):aj:=
 ⟨[(0,.pointer (some ⟨0,0,none⟩)),(1,.slice (some ⟨3,o,none⟩) n n),(6,.int .i64 no),(8,.slice (some ⟨5,0,none⟩) s.2.1.length s.2.1.length),(9,.int .i64 (kI s.1))],aR S L R H s.2.2.1++[.cells (ak s.2.1) 144 false]⟩
structure ad6(f:Bool)(no:Int)(F N:Nat)(v:Int×ay)(s:Option Nat×List ap×ay×Nat):Prop where
 k:s.1=eE f s.2.1
 ok:rG no F s.2.1 s.2.2.1
 e:lx f no s.2.2.2 s.2.1 s.2.2.1=v
 m:eY s.2.2.1 s.2.1<s.2.2.2
 len:s.2.1.length=N
theorem ad7{f:Bool}{no:Int}{m:Nat}{l:List ap}{d:ay}(h:eE f l=none):lx f no m l d=(0,d):=by
 cases m with
 |zero=>rfl
 |succ m=>unfold lx;rw[h]
theorem ad8(S:ad)(L:List ByteArray)(R:List Int)(H:List ap)(d:ay)(o n:Nat)(vu:o+n≤R.length)(hn:n≤900000)(hr:jm d ((R.drop o).take n)):
 aG asz 105 [.pointer (some ⟨0,0,none⟩),.slice (some ⟨3,o,none⟩) n n] (aR S L R H d) fun r q=>
  r=.ret (.tuple #[.int .i64 (gF S.aC ((R.drop o).take n) d).1,.int .i64 (gF S.aC ((R.drop o).take n) d).2.1])∧q=aR S L R H (gF S.aC ((R.drop o).take n) d).2.2:=by
 have pH:=aY H
 have mZ:((R.drop o).take n).length=n:=by rw[anf,anA];omega
 generalize hl:(R.drop o).take n=runs at*
 refine aG.cM (n:=ct asz 105) (by kernel_rfl) ?_
 apply adJ S L R H d o n pH
 case n0=>exact rA.2 hr.dv
 case l4=>
  intro g
  have g:(bw d).2.1≠0:=by simpa using g
  have e:gF S.aC runs d=(0,(bw d).2.1,(bw d).2.2):=by
   unfold gF
   generalize bw d=c at g⊢
   obtain⟨no,e,d1⟩:=c
   exact if_pos g
  rw[e]
  exact adH S L R H d o n ⟨rfl,rfl⟩
 case l5=>
  intro g
  have g:(bw d).2.1=0:=by simpa using g
  unfold Pv
  have kK:=hr.dv.tz
  have cJ:=hr.opened g
  have PA:gF S.aC runs d=match dY runs [] (bw d).2.2 with
   |(e,H,d2)=>if e≠0 then(0,e,d2)else match lx S.aC (bw d).1 rF H d2 with
    |(e,d3)=>if e≠0 then(0,e,d3)else((bw d).1,fN runs d3):=by
   unfold gF
   generalize bw d=c at g⊢
   obtain⟨no,e,d1⟩:=c
   exact if_neg (fun h=>h g)
  rw[PA]
  clear PA
  have xu:=Pq S L R H (bw d).2.2 o n vu hn kK
  rw[hl]at xu
  have KT:=xZ runs [] (bw d).2.2 kK
  generalize(bw d).1=no at*
  generalize(bw d).2.2=d1 at*
  have hlen:(dY runs [] d1).1=0→(dY runs [] d1).2.1.length=n:=fun h=>by
   have:=(A3 runs [] [] d1 d1 kK rfl ⟨rfl,fun _ h=>(by cases h),amX _⟩ h).A2
   have:=congrArg mM this
   rw[List.length_map]at this
   rw[this]
   exact mZ
  generalize dY runs [] d1=q at*
  obtain⟨e,l,d2⟩:=q
  dsimp only at*
  have pl:=aY l
  apply adN S L R H d1 o n e l d2 no pH pl xu
  case l5=>
   intro ge
   have ge:e≠0:=by simpa using ge
   rw[if_pos ge]
   exact adL S L R H d1 o n e l d2 no ⟨rfl,rfl⟩
  case l4=>
   intro ge
   have ge:e=0:=by simpa using ge
   rw[if_neg (fun h=>h ge)]
   have cJ:=cJ ge
   have hlen:=hlen ge
   apply adP S L R H d2 l o n no (kI (eE S.aC l)) pH pl (Pr S L R H d2 l (by omega))
   ·
    have ad9:=acb
    have jw:=cJ.bS
    have hF:=hr.bS
    rw[List.drop_drop]
    refine al.eJ 8 0 (by kernel_rfl) ?_
    refine al.fJ (ad5 S L R H o n no) (fun t=>t.2.2.2) (ad6 S.aC no (eK d runs) n (lx S.aC no rF l d2)) (eE S.aC l,l,d2,rF) (by kernel_rfl) ⟨rfl,cJ,rfl,by dsimp only;omega,hlen⟩ ?_
    clear cJ pl xu hlen jw
    rintro⟨k,l1,d3,m⟩ ⟨h1,h2,h3,h4,h5⟩
    dsimp only at h1 h2 h3 h4 h5
    have pl:=aY l1
    apply adT S L R H d3 l1 o n no (kI k) pH pl
    case l5=>
     intro gk
     have gk:=of_decide_eq_false gk
     have hk:k=none:=by
      cases k with
      |none=>rfl
      |some k=>exact absurd (show(0:Int)≤(k:Int)by omega) gk
     rw[hk]at h1
     rw[ad7 h1.symm]at h3
     rw[←h3]
     rw[if_neg (fun h=>h rfl)]
     have gY:=Pb S L R H d3 o n vu (by omega) h2.dv
     rw[hl]at gY
     with_reducible (repeat first|refine QL.ret ?_|refine QL.exit ?_|refine QB.ret ?_|refine QB.ci ?_|refine QB.normal ?_|refine QB.cu (by rfl) ?_)
     apply ad4 S L R H d3 o n no (fN runs d3).1 (fN runs d3).2 pH gY
     ·exact ad2 S L R H d3 o n no (fN runs d3).1 (fN runs d3).2 ⟨rfl,rfl⟩
    case l4=>
     intro gk
     have gk:=of_decide_eq_true gk
     cases k with
     |none=>exact absurd gk (by show¬(0:Int)≤-1;omega)
     |some k=>
      obtain⟨k1,k2⟩:=A4 h1.symm
      have r:=rowAt k1
      obtain⟨w1,w2,w3,w4⟩:=h2.write (by omega) k1 k2
      have hok:=h2.ok _ (x5 k1)
      have alE:=hok.1.line
      have PB:=h2.next (by omega) k1 k2
      cases m with
      |zero=>omega
      |succ m=>
      have h3:(match eE S.aC l1 with
       |none=>(0,d3)
       |some k=>if(bN d3 no (b7 (aX l1 k).line)).1≠0 then bN d3 no (b7 (aX l1 k).line)
        else if(bX (aX l1 k) (bN d3 no (b7 (aX l1 k).line)).2).1≠0 then((bX (aX l1 k) (bN d3 no (b7 (aX l1 k).line)).2).1,(bX (aX l1 k) (bN d3 no (b7 (aX l1 k).line)).2).2.2)
        else lx S.aC no m (l1.set k (bX (aX l1 k) (bN d3 no (b7 (aX l1 k).line)).2).2.1) (bX (aX l1 k) (bN d3 no (b7 (aX l1 k).line)).2).2.2)=lx S.aC no rF l d2:=h3
      rw[←h1]at h3
      dsimp only at h3
      refine al.eJ 2 1 (by kernel_rfl) ?_
      have hex:=r.s2
      apply adW S L R H d3 l1 o n no k pH pl k1 (by omega) r.n5
      case n1=>rw[hex];exact am2 (by omega)
      case n2=>rw[hex,List.take_of_length_le (by exact amX _)];exact EJ _
      case n3=>rw[hex];exact am2 (by omega)
      case n4=>rw[hex,join_eq];exact aP _
      case n5=>
       rw[hex,join_eq]
       exact Gt.2 ⟨h2.dv,b7 _,rfl,(ls _).symm,(ls _).symm,rfl,rfl,w2⟩
      case l9=>
       intro g3
       rw[hex,join_eq,iL]at g3
       have g3:(bN d3 no (b7 (aX l1 k).line)).1≠0:=by simpa using g3
       rw[if_pos g3]at h3
       rw[←h3,if_pos g3]
       with_reducible (repeat first|refine QL.ret ?_|refine QL.exit ?_|refine QB.ret ?_|refine QB.ci ?_|refine QB.normal ?_|refine QB.cu (by rfl) ?_)
       refine adU S L R H d3 l1 o n no k ⟨?_,?_⟩
       ·rw[hex,join_eq,iL]
       ·rw[hex,join_eq,iL];rfl
      case gR=>
       intro g3
       rw[hex,join_eq,iL]at g3
       have g3:(bN d3 no (b7 (aX l1 k).line)).1=0:=by simpa using g3
       rw[if_neg (fun h=>h g3)]at h3
       unfold Py
       rw[hex,join_eq,iL]
       have gv:=Pm S L R H (bN d3 no (b7 (aX l1 k).line)).2 l1 k k1 hok.1 w1
       generalize(bN d3 no (b7 (aX l1 k).line)).2=d4 at*
       generalize bX (aX l1 k) d4=rr at*
       obtain⟨e4,y,d5⟩:=rr
       dsimp only at*
       apply adZ S L R H d4 l1 o n no k e4 (l1.set k y) d5 pH pl (aY _) gv k1 (by omega)
       case n0=>exact fe (by rw[show 0+amm (k:Int)*4=k*4 by simp]) rfl
       case l4=>
        intro g5
        have g5:e4≠0:=by simpa using g5
        rw[if_pos g5]at h3
        rw[←h3,if_pos g5]
        with_reducible (repeat first|refine QL.ret ?_|refine QL.exit ?_|refine QB.ret ?_|refine QB.ci ?_|refine QB.normal ?_|refine QB.cu (by rfl) ?_)
        exact adX S L R H d4 l1 o n no k e4 (l1.set k y) d5 ⟨rfl,rfl⟩
       case l5=>
        intro g5
        have g5:e4=0:=by simpa using g5
        rw[if_neg (fun h=>h g5)]at h3
        obtain⟨n1,n2⟩:=PB g5
        have PC:(l1.set k y).length=l1.length:=List.length_set
        unfold Pz
        rw[←PC]
        with_reducible (repeat first|refine QL.ret ?_|refine QL.exit ?_|refine QB.ret ?_|refine QB.ci ?_|refine QB.normal ?_|refine QB.cu (by rfl) ?_)
        have aea:=aY (l1.set k y)
        apply ad1 S L R H d5 (l1.set k y) o n no (kI (eE S.aC (l1.set k y))) pH aea (Pr S L R H d5 _ (by omega))
        ·
         exact QL.to (eE S.aC (l1.set k y),l1.set k y,d5,m) ⟨rfl,n1,h3,by dsimp only;omega,by dsimp only;omega⟩ (by dsimp only;omega) rfl
end Go.Proofs.Ytnlkkgpcikkpoaa
/-
 A law of the walk for a region that draws its order, over any program: if each operation, begun where what it hangs on is done, keeps the prover's word, then the region does, whatever the order.
 Conditions: the table of what each operation hangs on (D), of the effects (c), and of the phases (R) meets the closed check regOk.
-/
namespace Go.Proofs.Ytnlkkgpcikkpoaa
structure alF(V:amn→amC→Prop)(E:amC→amC→Prop)(S:amC→Prop)(dst:Option Tmp)(a:Act)(w:amC)(a':Act)(w':amC):Prop where
 v:∃v,a'=a.put dst v∧V v w'
 e:E w w'
 s:S w'
section
variable {P:Program} {l:List Oper} {Q:Exit→Act→amC→Prop} {a:Act}
end
structure alG(E:amC→amC→Prop) where
 V:amn→amC→Prop
 h:∀v w w',E w w'→V v w→V v w'
end Go.Proofs.Ytnlkkgpcikkpoaa
namespace Go.Proofs.Ytnlkkgpcikkpoaa
open Go.RowKit
section
variable {w:amC} {g:Nat} {cs:Array amn}
end
end Go.Proofs.Ytnlkkgpcikkpoaa
namespace Go.Proofs.Ytnlkkgpcikkpoaa
open Go.RowKit
end Go.Proofs.Ytnlkkgpcikkpoaa
namespace Go.Proofs.Ytnlkkgpcikkpoaa
open Go.RowKit Go.Shelf
attribute [local go_sem] Oper.semAt_some
set_option maxRecDepth 100000 in
set_option maxHeartbeats 2000000 in
theorem aeb(bs ss bn sn aJ sh N:Nat)(hN:N≤1000000)(n:Nat)(hn:2≤n)(l:Nat)(J:Nat→amC→Prop)(E:amC→Prop)(W:amC)
 (PD:∀k A,J k A→(∃cap,N≤cap∧A.cell? ⟨bs,ss,none⟩=some (.slice (some ⟨aJ,sh,none⟩) N cap))∧A.cell? ⟨bn,sn,none⟩=some (.int .i64 3))
 (hY:∀k W0,3*k<N→J k W0→YieldAt api (n-1) asz l #[.slice (some ⟨aJ,sh+3*k,none⟩) (min 3 (N-3*k)) (min 3 (N-3*k))] W0 fun e W'=>e=.returned (.bool true)∧J (k+1) W'∨e=.returned (.bool false)∧E W')
 (aec:∀k A,J k A→J k A.drew)(h0:J 0 W):CallsIn api n asz 113 (#[.func (.yield l) #[] #[]]++ #[.pointer (some ⟨bs,ss,none⟩),.pointer (some ⟨bn,sn,none⟩)]) W fun e W'=>(∃v,e=.returned v)∧(J ((N+2)/3) W'∨E W'):=by
 refine callsIn_of_wp Try.func113 rfl trivial ?_ rfl
 simp only[Try.ntmps113,List.size_toArray,List.length_cons,List.length_nil,Nat.reduceAdd,Nat.reduceSub,Array.replicate_succ,Array.replicate_zero,List.push_toArray,List.append_toArray,an6,List.cons_append]
 gi_wp2
 gi_loopw [4] (fun i wr=>∃k:Nat,3*k<N+3∧i=.int .i64 (3*k:Nat)∧J k wr) (fun i _=>N+3-(intOf i).toNat)
 case atStart=>exact⟨0,by omega,rfl,h0⟩
 case round=>
  obtain⟨k,hk,rfl,Bh⟩:=hrel
  obtain⟨⟨cap,hc,c1⟩,c2⟩:=PD k _ Bh
  by_cases gr:3*k<N
  ·have alJ:=Lib.hid (hY k _ gr Bh)
   have g1:(0:Int)≤(3*k:Nat):=by omega
   have g2:((3*k:Nat):Int)≤N:=by omega
   gi_wp2
   gi_region
   obtain⟨fn,tmps,assign,body,hy,hR⟩:=hY k _ gr (aec k _ Bh)
   replace hR:=Lib.hid hR
   gi_wp2
   all_goals
    first
     |rw[show((3*(k:Int)+((N-3*k:Nat):Int)).toNat-3*k)=min 3 (N-3*k)by omega,hy]
     |rw[show((3*(k:Int)+3).toNat-3*k)=min 3 (N-3*k)by omega,hy]
     |rw[show((3*(k:Int)+min 3 ((N-3*k:Nat):Int)).toNat-3*k)=min 3 (N-3*k)by omega,hy]
    refine⟨fun _=>by omega,?_⟩
    refine hR.out.mono ?_
    rintro e w3 (⟨rfl,PE⟩|⟨rfl,rJ⟩)
    ·obtain⟨⟨PF,Tc,c3⟩,c4⟩:=PD _ _ PE
     gi_wp2
     go_roundw
     case rel=>exact⟨k+1,by omega,by go_num,PE⟩
     case measure=>simp[intOf];omega
    ·gi_wp2
     try simp only[Exit.inBlock,Exit.then]
     refine bodyPost_ret (results_none rfl _ _ _) rfl ?_
     exact⟨⟨_,rfl⟩,.inr rJ⟩
  ·gi_wp2
   go_end0
   exact⟨⟨_,rfl⟩,.inl (by rw[show(N+2)/3=k by omega];exact Bh)⟩
end Go.Proofs.Ytnlkkgpcikkpoaa
