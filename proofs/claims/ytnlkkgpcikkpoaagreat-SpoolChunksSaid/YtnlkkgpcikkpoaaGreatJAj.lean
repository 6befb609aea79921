/- Part of the proof: Zpc, Zpb, Zpe, Zpd, Zpf, Zpo, Zpg, Zpm, Reg, Mem, Mem2, Zch. -/
import Derived.Test.YtnlkkgpcikkpoaaGreatJAi
import Derived.KernelRfl
import Derived.Orders
import Derived.Tactics2
import Derived.Laws.World
import Derived.Laws.Rows
import Derived.Below
import Derived.Laws.BytesArg
import Derived.Lib.ConvBytes
import Derived.Lib.Hide
import Derived.Laws.NewBlocks
import Derived.Laws.CopyOwn
import Derived.Lib.SlBytesConst
import Derived.Laws.Strings
import Derived.Deep.Draws
import Derived.Test.YtnlkkgpcikkpoaaGreatChecked
import Derived.WalkKit
import Derived.WalkLawsBesides
import Derived.WalkSpells
import Derived.Outline
import Derived.OwnWalk
import Derived.RangeFuncNested
import Derived.RangeFuncBound
import Derived.RangeFuncCalls
import Derived.RangeFuncLeaves
import Derived.Shelf.Abstract
import Derived.Shelf.RegionOpen
import Derived.OwnWalkIn
import Derived.TacticsInMore
import Derived.LoopNIn
import Derived.LoopIn
open Array renaming toList→apO
open Bool renaming and_false→avg,false_and→asN
open ByteArray renaming data→apH,empty→apj,mk→ap0,size→apk
open Decidable renaming not_not→aq2
open Go renaming Code→apV,FuncId→apQ,Value→ape,World→aps
open Go.Fence renaming wide→are
open Go.IntKind renaming i64→apr,u8→apA,wrap→apc
open Go.Proofs.Tryz renaming prog→av9
open Go.Value renaming bool→aqj,int→apm,pointer→aqo,string→apJ
open Int renaming toNat→apd
open List renaming all→aph,append_assoc→apK,drop_eq_getElem_cons→arb,drop_left→avf,drop_of_length_le→aqU,find?→aus,flatten_append→att,getElem?_append_right→apZ,getElem?_eq_getElem→apl,getElem?_eq_some_iff→app,length→apb,length_append→apv,length_drop→aqp,length_take→ap8,map→apS,map_append→aqa,mem_cons_of_mem→apB,mem_cons_self→apC,nil_append→aqO,take→apE,take_left'→au7,toArray→ap9
open Nat renaming beq→apw,ble→apG,ble_eq_true_of_le→apU,blt→apy,le_of_eq→arw,le_refl→apI,le_trans→arG,sub_zero→asc,zero_le→ap7
open Option renaming bind→aqc,getD→apD,isSome→asg
open Option.some renaming inj→asC
open Prod renaming fst→apo,snd→ap6
open UInt8 renaming toNat→apT
set_option linter.unusedVariables false
set_option linter.unusedSimpArgs false
set_option maxRecDepth 100000
namespace Go.Proofs.YtnlkkgpcikkpoaaGreat
open Go Vm Go.RowKit
noncomputable section
noncomputable def aef:List (apQ×Sum):=[(43,Sum.dq av9 HM)]
theorem aeg:dw av9 (dM av9 (dN aef) 50 40):=dR du mixed (ed (.cons adz .nil)) 50 40
noncomputable def aeh:List (apQ×Sum):=[(79,HQ),(80,Sum.of H9)]
theorem P8:dw av9 (dM av9 (dN aeh) 50 40):=dR du mixed (ed (.cons adB (.cons ad9 .nil))) 50 40
noncomputable def Cd:List apV:=aY (dz av9 78)
noncomputable def P9:List apV:=aY (dz av9 54)
open Tree renaming aN→mN,dj→mF,eT→mL,fz→mQ,dB→mR,fH→mE
noncomputable abbrev Ib:List apV:=(aY (inner (aY (inner (Cd.drop 2)))))
def Qa:Nat→Bool→Bool→Tree→Tree
 |0,_,_,t=>t
 |n+1,d,b,t=>.cD d b (Qa n d b t)
theorem Qb{R:bd→aj→Prop}{c v:Bool}{t:Tree}(n:Nat)(h1:c=v)(h2:t.ok R):(Qa n c v t).ok R:=by
 induction n with
 |zero=>exact h2
 |succ n ih=>exact⟨h1,ih⟩
abbrev uD:=fun S L R H d=>([ab (aJ S 1 2 3 4) 89,.abs d,ab (ap L) 9,ab (aq R) 3,ab (ak H) 114]:List ag)
abbrev Qc:=fun S L R H d (o n:Nat)=>(⟨[(0,ao 0),(8,dx 3 o n n),(9,aa n),(10,aa 0)],uD S L R H d⟩:aj)
abbrev aei:=fun S L R H d (o n:Nat)=>(⟨[(0,ao 0),(1,dx 3 o n n)],uD S L R H d⟩:aj)
theorem aej(S L R H d)(o n:Nat)(pH:(ak H).all af=true){Q:aQ}(l3:an av9 24 5 (Cd.drop 2) (Qc S L R H d o n) Q):an av9 24 5 Cd (aei S L R H d o n) Q:=
 aS bo 2 (.leaf [0,8,9,10] [0,1,2,3,4] [2,3,4]) (fun u=>by kernel_rfl) (aM L R H (mQ l3))
abbrev aek:=fun S L R H d (o n:Nat) (i:Int)=>(⟨[(0,ao 0),(8,dx 3 o n n),(9,aa n),(10,aa i)],uD S L R H d⟩:aj)
noncomputable abbrev ael(S:ad)(L:List ByteArray)(R:List Int)(H:List au)(d:ay)(o n:Nat)(i:Int):aj:=⟨[],uD S L R H d⟩
abbrev Qd:=fun S L R H d (o n:Nat) (i:Int)=>(⟨[(0,ao 0),(8,dx 3 o n n),(9,aa n),(10,aa i)],uD S L R H d⟩:aj)
theorem aem(S L R H d)(o n:Nat)(i:Int)(pH:(ak H).all af=true){Q:aQ}(l3:(decide (i<(↑n:Int)))=true→an av9 24 5 (Ib.drop 2) (aek S L R H d o n i) Q)(l4:(decide (i<(↑n:Int)))=false→Q (.exit 0) (ael S L R H d o n i)):an av9 24 5 Ib (Qd S L R H d o n i) Q:=
 aS bo 2 (.fork 0 (.leaf [0,8,9,10] [0,1,2,3,4] [2,3,4]) (.leaf [] [0,1,2,3,4] [2,3,4])) (fun u=>by kernel_rfl) (mF (c:=decide (i<(↑n:Int))) (fun h0=>(aM L R H (mQ (l3 h0)))) (fun h0=>(aM L R H (mE 0 (l4 h0)))))
abbrev Ce:=fun S L R H d (o n:Nat) (i:Int)=>(⟨[(4,aa (apo (eY d (av (aq R) (o+apd i*1)))))],[ab (aJ S 1 2 3 4) 89,.abs (ap6 (eY d (av (aq R) (o+apd i*1)))),ab (ap L) 9,ab (aq R) 3,ab (ak H) 114]⟩:aj)
theorem aen(S L R H d)(o n:Nat)(i:Int){Q:bg}(hq:Q (.ret (aa (apo (eY d (av (aq R) (o+apd i*1)))))) [ab (aJ S 1 2 3 4) 89,.abs (ap6 (eY d (av (aq R) (o+apd i*1)))),ab (ap L) 9,ab (aq R) 3,ab (ak H) 114]):aF av9 78 24 5 Q .ret (Ce S L R H d o n i):=aF.ret (vs:=[aa (apo (eY d (av (aq R) (o+apd i*1))))]) (l:=[]) (bs:=[0,1,2,3,4]) (pl:=[2,3,4]) (q:=[ap L,aq R,ak H]) (fun u=>by kernel_rfl) (by kernel_rfl) (gL L R H bc) hq
abbrev Qe:=fun S L R H d (o n:Nat) (i:Int)=>(⟨[(0,ao 0),(8,dx 3 o n n),(9,aa n),(10,.int .i64 (apc .i64 (i+1)))],[ab (aJ S 1 2 3 4) 89,.abs (ap6 (eY d (av (aq R) (o+apd i*1)))),ab (ap L) 9,ab (aq R) 3,ab (ak H) 114]⟩:aj)
theorem aeo(S L R H d)(o n:Nat)(i:Int)(pH:(ak H).all af=true)(h0:0≤i)(h1:i<n)(h2:n≤1000000)(h3:apc .i64 (i+1)=i+1){Q:aQ}(n0:(cA apr (aq R) (o+apd i*1))=true)(n1:(nQ d)=true)(l5:(apo (eY d (av (aq R) (o+apd i*1))) != 0)=true→Q .ret (Ce S L R H d o n i))(l6:(apo (eY d (av (aq R) (o+apd i*1))) != 0)=false→Q .normal (Qe S L R H d o n i)):an av9 24 5 (Ib.drop 2) (Qd S L R H d o n i) Q:=
 aS aeg 1000 (aA [0,1,1,0,1,5] (.fork 0 (.leaf [4] [0,1,2,3,4] [2,3,4]) (.leaf [0,8,9,10] [0,1,2,3,4] [2,3,4]))) (fun u=>by kernel_rfl) (mN (decide_eq_true (by omega):(decide (0≤i))=true) (mN (show(apy (apd i) n)=true by simp at pH h0 h1 h2 h3⊢ <;>omega) (mN n0 (mN n1 (mF (c:=apo (eY d (av (aq R) (o+apd i*1))) != 0) (fun h0=>(aM L R H (mR (l5 h0)))) (fun h0=>(aM L R H (mQ (an.done (by kernel_rfl) (l6 h0))))))))))
abbrev Ic:=fun S L R H d (o n:Nat)=>(⟨[(4,aa 0)],uD S L R H d⟩:aj)
theorem aep(S L R H d)(o n:Nat){Q:bg}(hq:Q (.ret (aa 0)) (Ic S L R H d o n).objs):aF av9 78 24 5 Q .ret (Ic S L R H d o n):=aF.ret (vs:=[aa 0]) (l:=[]) (bs:=[0,1,2,3,4]) (pl:=[2,3,4]) (q:=[ap L,aq R,ak H]) (fun u=>by kernel_rfl) (by kernel_rfl) (gL L R H bc) hq
noncomputable abbrev aeq(S:ad)(L:List ByteArray)(R:List Int)(H:List au)(d:ay)(o n:Nat):aj:=⟨[],uD S L R H d⟩
theorem aer(S L R H d)(o n:Nat)(pH:(ak H).all af=true){Q:aQ}(l3:Q .ret (Ic S L R H d o n)):an av9 24 5 (Cd.drop 3) (aeq S L R H d o n) Q:=
 aS bo 1000 (.leaf [4] [0,1,2,3,4] [2,3,4]) (fun u=>by kernel_rfl) (aM L R H (mR l3))
abbrev Qf:=fun S L R H d Hc (o:Nat)=>(⟨[(4,aa 0)],[ab (aJ S 1 2 3 4) 89,.abs (ap6 (ap6 (aK d (av Hc (o+0)) (av Hc (o+1)) 65))),ab (ap L) 9,ab (aq R) 3,ab (ak H) 114,ab (a8 (a8 (a8 Hc (o+3) [aqj (decide (a7 (bh (ai (apo (aK d (av Hc (o+0)) (av Hc (o+1)) 65)))) 10 ≥ 0))]) (o+2) [apJ (ap0 (ap9 (apD (aqc (cut (ai (apo (aK d (av Hc (o+0)) (av Hc (o+1)) 65))) 0 (apd (if 0>a7 (bh (ai (apo (aK d (av Hc (o+0)) (av Hc (o+1)) 65)))) 10 then 0 else a7 (bh (ai (apo (aK d (av Hc (o+0)) (av Hc (o+1)) 65)))) 10)-0)) bytesOf) [])))]) (o+1) [apm apr (apc .i64 (av (a8 (a8 Hc (o+3) [aqj (decide (a7 (bh (ai (apo (aK d (av Hc (o+0)) (av Hc (o+1)) 65)))) 10 ≥ 0))]) (o+2) [apJ (ap0 (ap9 (apD (aqc (cut (ai (apo (aK d (av Hc (o+0)) (av Hc (o+1)) 65))) 0 (apd (if 0>a7 (bh (ai (apo (aK d (av Hc (o+0)) (av Hc (o+1)) 65)))) 10 then 0 else a7 (bh (ai (apo (aK d (av Hc (o+0)) (av Hc (o+1)) 65)))) 10)-0)) bytesOf) [])))]) (o+1)+apc .i64 (a7 (bh (ai (apo (aK d (av Hc (o+0)) (av Hc (o+1)) 65)))) 10+1)))]) 114]⟩:aj)
theorem aes(S L R H d Hc)(o:Nat){Q:bg}(Hj:aph (a8 (a8 (a8 Hc (o+3) [aqj (decide (a7 (bh (ai (apo (aK d (av Hc (o+0)) (av Hc (o+1)) 65)))) 10 ≥ 0))]) (o+2) [apJ (ap0 (ap9 (apD (aqc (cut (ai (apo (aK d (av Hc (o+0)) (av Hc (o+1)) 65))) 0 (apd (if 0>a7 (bh (ai (apo (aK d (av Hc (o+0)) (av Hc (o+1)) 65)))) 10 then 0 else a7 (bh (ai (apo (aK d (av Hc (o+0)) (av Hc (o+1)) 65)))) 10)-0)) bytesOf) [])))]) (o+1) [apm apr (apc .i64 (av (a8 (a8 Hc (o+3) [aqj (decide (a7 (bh (ai (apo (aK d (av Hc (o+0)) (av Hc (o+1)) 65)))) 10 ≥ 0))]) (o+2) [apJ (ap0 (ap9 (apD (aqc (cut (ai (apo (aK d (av Hc (o+0)) (av Hc (o+1)) 65))) 0 (apd (if 0>a7 (bh (ai (apo (aK d (av Hc (o+0)) (av Hc (o+1)) 65)))) 10 then 0 else a7 (bh (ai (apo (aK d (av Hc (o+0)) (av Hc (o+1)) 65)))) 10)-0)) bytesOf) [])))]) (o+1)+apc .i64 (a7 (bh (ai (apo (aK d (av Hc (o+0)) (av Hc (o+1)) 65)))) 10+1)))]) af=true)(hq:Q (.ret (aa 0)) [ab (aJ S 1 2 3 4) 89,.abs (ap6 (ap6 (aK d (av Hc (o+0)) (av Hc (o+1)) 65))),ab (ap L) 9,ab (aq R) 3,ab (ak H) 114,ab (a8 (a8 (a8 Hc (o+3) [aqj (decide (a7 (bh (ai (apo (aK d (av Hc (o+0)) (av Hc (o+1)) 65)))) 10 ≥ 0))]) (o+2) [apJ (ap0 (ap9 (apD (aqc (cut (ai (apo (aK d (av Hc (o+0)) (av Hc (o+1)) 65))) 0 (apd (if 0>a7 (bh (ai (apo (aK d (av Hc (o+0)) (av Hc (o+1)) 65)))) 10 then 0 else a7 (bh (ai (apo (aK d (av Hc (o+0)) (av Hc (o+1)) 65)))) 10)-0)) bytesOf) [])))]) (o+1) [apm apr (apc .i64 (av (a8 (a8 Hc (o+3) [aqj (decide (a7 (bh (ai (apo (aK d (av Hc (o+0)) (av Hc (o+1)) 65)))) 10 ≥ 0))]) (o+2) [apJ (ap0 (ap9 (apD (aqc (cut (ai (apo (aK d (av Hc (o+0)) (av Hc (o+1)) 65))) 0 (apd (if 0>a7 (bh (ai (apo (aK d (av Hc (o+0)) (av Hc (o+1)) 65)))) 10 then 0 else a7 (bh (ai (apo (aK d (av Hc (o+0)) (av Hc (o+1)) 65)))) 10)-0)) bytesOf) [])))]) (o+1)+apc .i64 (a7 (bh (ai (apo (aK d (av Hc (o+0)) (av Hc (o+1)) 65)))) 10+1)))]) 114]):aF av9 54 51 6 Q .ret (Qf S L R H d Hc o):=aF.ret (vs:=[aa 0]) (l:=[]) (bs:=[0,1,2,3,4,5]) (pl:=[2,3,4,5]) (q:=[ap L,aq R,ak H,a8 (a8 (a8 Hc (o+3) [aqj (decide (a7 (bh (ai (apo (aK d (av Hc (o+0)) (av Hc (o+1)) 65)))) 10 ≥ 0))]) (o+2) [apJ (ap0 (ap9 (apD (aqc (cut (ai (apo (aK d (av Hc (o+0)) (av Hc (o+1)) 65))) 0 (apd (if 0>a7 (bh (ai (apo (aK d (av Hc (o+0)) (av Hc (o+1)) 65)))) 10 then 0 else a7 (bh (ai (apo (aK d (av Hc (o+0)) (av Hc (o+1)) 65)))) 10)-0)) bytesOf) [])))]) (o+1) [apm apr (apc .i64 (av (a8 (a8 Hc (o+3) [aqj (decide (a7 (bh (ai (apo (aK d (av Hc (o+0)) (av Hc (o+1)) 65)))) 10 ≥ 0))]) (o+2) [apJ (ap0 (ap9 (apD (aqc (cut (ai (apo (aK d (av Hc (o+0)) (av Hc (o+1)) 65))) 0 (apd (if 0>a7 (bh (ai (apo (aK d (av Hc (o+0)) (av Hc (o+1)) 65)))) 10 then 0 else a7 (bh (ai (apo (aK d (av Hc (o+0)) (av Hc (o+1)) 65)))) 10)-0)) bytesOf) [])))]) (o+1)+apc .i64 (a7 (bh (ai (apo (aK d (av Hc (o+0)) (av Hc (o+1)) 65)))) 10+1)))]]) (fun u=>by kernel_rfl) (by kernel_rfl) (gL L R H (aC Hj bc)) hq
abbrev Qg:=fun S L R H d Hc (o:Nat)=>(⟨[(4,aa (apo (ap6 (aK d (av Hc (o+0)) (av Hc (o+1)) 65))))],[ab (aJ S 1 2 3 4) 89,.abs (ap6 (ap6 (aK d (av Hc (o+0)) (av Hc (o+1)) 65))),ab (ap L) 9,ab (aq R) 3,ab (ak H) 114,ab Hc 114]⟩:aj)
theorem aet(S L R H d Hc)(o:Nat){Q:bg}(br:aph Hc af=true)(hq:Q (.ret (aa (apo (ap6 (aK d (av Hc (o+0)) (av Hc (o+1)) 65))))) [ab (aJ S 1 2 3 4) 89,.abs (ap6 (ap6 (aK d (av Hc (o+0)) (av Hc (o+1)) 65))),ab (ap L) 9,ab (aq R) 3,ab (ak H) 114,ab Hc 114]):aF av9 54 51 6 Q .ret (Qg S L R H d Hc o):=aF.ret (vs:=[aa (apo (ap6 (aK d (av Hc (o+0)) (av Hc (o+1)) 65)))]) (l:=[]) (bs:=[0,1,2,3,4,5]) (pl:=[2,3,4,5]) (q:=[ap L,aq R,ak H,Hc]) (fun u=>by kernel_rfl) (by kernel_rfl) (gL L R H (aC br bc)) hq
abbrev aeu:=fun S L R H d Hc (o:Nat)=>(⟨[(0,ao 0),(1,.pointer (some ⟨5,o,none⟩))],[ab (aJ S 1 2 3 4) 89,.abs d,ab (ap L) 9,ab (aq R) 3,ab (ak H) 114,ab Hc 114]⟩:aj)
theorem aev(S L R H d)(Hc:List ape)(o:Nat)(pH:(ak H).all af=true)(pX:Hc.all af=true)(x0:cA .i64 Hc o=true)(x1:cA .i64 Hc (o+1)=true)(x2:o+4≤(apb Hc)){Q:aQ}(n0:(nQ d)=true)(n1:(apo (ap6 (aK d (av Hc (o+0)) (av Hc (o+1)) 65))==0)=true→(yW (ai (apo (aK d (av Hc (o+0)) (av Hc (o+1)) 65))) 5 (apk (apo (aK d (av Hc (o+0)) (av Hc (o+1)) 65))) (apk (apo (aK d (av Hc (o+0)) (av Hc (o+1)) 65))))=true)(n2:(apo (ap6 (aK d (av Hc (o+0)) (av Hc (o+1)) 65))==0)=true→(apG (apd (if 0>a7 (bh (ai (apo (aK d (av Hc (o+0)) (av Hc (o+1)) 65)))) 10 then 0 else a7 (bh (ai (apo (aK d (av Hc (o+0)) (av Hc (o+1)) 65)))) 10)) (apk (apo (aK d (av Hc (o+0)) (av Hc (o+1)) 65))))=true)(n3:(apo (ap6 (aK d (av Hc (o+0)) (av Hc (o+1)) 65))==0)=true→(asg (aqc (cut (ai (apo (aK d (av Hc (o+0)) (av Hc (o+1)) 65))) 0 (apd (if 0>a7 (bh (ai (apo (aK d (av Hc (o+0)) (av Hc (o+1)) 65)))) 10 then 0 else a7 (bh (ai (apo (aK d (av Hc (o+0)) (av Hc (o+1)) 65)))) 10)-0)) bytesOf))=true)(n4:(apo (ap6 (aK d (av Hc (o+0)) (av Hc (o+1)) 65))==0)=true→(apG (o+2+1) (apb (a8 Hc (o+3) [aqj (decide (a7 (bh (ai (apo (aK d (av Hc (o+0)) (av Hc (o+1)) 65)))) 10 ≥ 0))])))=true)(n5:(apo (ap6 (aK d (av Hc (o+0)) (av Hc (o+1)) 65))==0)=true→(cA apr (a8 (a8 Hc (o+3) [aqj (decide (a7 (bh (ai (apo (aK d (av Hc (o+0)) (av Hc (o+1)) 65)))) 10 ≥ 0))]) (o+2) [apJ (ap0 (ap9 (apD (aqc (cut (ai (apo (aK d (av Hc (o+0)) (av Hc (o+1)) 65))) 0 (apd (if 0>a7 (bh (ai (apo (aK d (av Hc (o+0)) (av Hc (o+1)) 65)))) 10 then 0 else a7 (bh (ai (apo (aK d (av Hc (o+0)) (av Hc (o+1)) 65)))) 10)-0)) bytesOf) [])))]) (o+1))=true)(n6:(apo (ap6 (aK d (av Hc (o+0)) (av Hc (o+1)) 65))==0)=true→(apG (o+1+1) (apb (a8 (a8 Hc (o+3) [aqj (decide (a7 (bh (ai (apo (aK d (av Hc (o+0)) (av Hc (o+1)) 65)))) 10 ≥ 0))]) (o+2) [apJ (ap0 (ap9 (apD (aqc (cut (ai (apo (aK d (av Hc (o+0)) (av Hc (o+1)) 65))) 0 (apd (if 0>a7 (bh (ai (apo (aK d (av Hc (o+0)) (av Hc (o+1)) 65)))) 10 then 0 else a7 (bh (ai (apo (aK d (av Hc (o+0)) (av Hc (o+1)) 65)))) 10)-0)) bytesOf) [])))])))=true)(aR:aph (ap L) af=true)(be:aph (aq R) af=true)(bB:aph (ak H) af=true)(j4:(apo (ap6 (aK d (av Hc (o+0)) (av Hc (o+1)) 65))==0)=true→Q .ret (Qf S L R H d Hc o))(br:aph Hc af=true)(jY:(apo (ap6 (aK d (av Hc (o+0)) (av Hc (o+1)) 65))==0)=false→Q .ret (Qg S L R H d Hc o)):an av9 51 6 P9 (aeu S L R H d Hc o) Q:=
 aS P8 1000 (aA [2,1,0,1,3] (.fork 0 (aA [1,5,1,1,0,1,2,1,3,0,1,0,1,0,1,0,1] (.leaf [4] [0,1,2,3,4,5] [2,3,4,5])) (aA [1] (.leaf [4] [0,1,2,3,4,5] [2,3,4,5])))) (fun u=>by kernel_rfl) (mN (show(cA apr Hc (o+0))=true by assumption) (mN (show(cA apr Hc (o+1))=true by assumption) (mN n0 (mF (c:=apo (ap6 (aK d (av Hc (o+0)) (av Hc (o+1)) 65))==0) (fun h0=>(Qb 2 (aH (apo (aK d (av Hc (o+0)) (av Hc (o+1)) 65))) (mN (n1 h0) (mN (aH (apo (aK d (av Hc (o+0)) (av Hc (o+1)) 65))) (mN (show(apG (o+3+1) (apb Hc))=true by simp at pH pX x0 x1 x2 h0⊢ <;>omega) (mN (decide_eq_true (by omega):(decide (0≤if 0>a7 (bh (ai (apo (aK d (av Hc (o+0)) (av Hc (o+1)) 65)))) 10 then 0 else a7 (bh (ai (apo (aK d (av Hc (o+0)) (av Hc (o+1)) 65)))) 10))=true) (mN (n2 h0) (mN (n3 h0) (mN (n4 h0) (mN (n5 h0) (mN (n6 h0) (aM L R H (mN (show(aph (a8 (a8 (a8 Hc (o+3) [aqj (decide (a7 (bh (ai (apo (aK d (av Hc (o+0)) (av Hc (o+1)) 65)))) 10 ≥ 0))]) (o+2) [apJ (ap0 (ap9 (apD (aqc (cut (ai (apo (aK d (av Hc (o+0)) (av Hc (o+1)) 65))) 0 (apd (if 0>a7 (bh (ai (apo (aK d (av Hc (o+0)) (av Hc (o+1)) 65)))) 10 then 0 else a7 (bh (ai (apo (aK d (av Hc (o+0)) (av Hc (o+1)) 65)))) 10)-0)) bytesOf) [])))]) (o+1) [apm apr (apc .i64 (av (a8 (a8 Hc (o+3) [aqj (decide (a7 (bh (ai (apo (aK d (av Hc (o+0)) (av Hc (o+1)) 65)))) 10 ≥ 0))]) (o+2) [apJ (ap0 (ap9 (apD (aqc (cut (ai (apo (aK d (av Hc (o+0)) (av Hc (o+1)) 65))) 0 (apd (if 0>a7 (bh (ai (apo (aK d (av Hc (o+0)) (av Hc (o+1)) 65)))) 10 then 0 else a7 (bh (ai (apo (aK d (av Hc (o+0)) (av Hc (o+1)) 65)))) 10)-0)) bytesOf) [])))]) (o+1)+apc .i64 (a7 (bh (ai (apo (aK d (av Hc (o+0)) (av Hc (o+1)) 65)))) 10+1)))]) af)=true by exact li (li (li (by assumption) rfl _) rfl _) rfl _) (mR (j4 h0))))))))))))))) (fun h0=>(mN (show(apo (ap6 (aK d (av Hc (o+0)) (av Hc (o+1)) 65)) != 0)=true by simp at pH pX x0 x1 x2 h0⊢ <;>omega) (aM L R H (mN br (mR (jY h0))))))))))
abbrev Qh:=fun S L R d Hc (o:Nat)=>(⟨[(4,aa 0)],[ab (aJ S 1 2 3 4) 89,.abs (ap6 (ap6 (aK d (av Hc (o+0)) (av Hc (o+1)) 65))),ab (ap L) 9,ab (aq R) 3,ab (a8 (a8 (a8 Hc (o+3) [aqj (decide (a7 (bh (ai (apo (aK d (av Hc (o+0)) (av Hc (o+1)) 65)))) 10 ≥ 0))]) (o+2) [apJ (ap0 (ap9 (apD (aqc (cut (ai (apo (aK d (av Hc (o+0)) (av Hc (o+1)) 65))) 0 (apd (if 0>a7 (bh (ai (apo (aK d (av Hc (o+0)) (av Hc (o+1)) 65)))) 10 then 0 else a7 (bh (ai (apo (aK d (av Hc (o+0)) (av Hc (o+1)) 65)))) 10)-0)) bytesOf) [])))]) (o+1) [apm apr (apc .i64 (av (a8 (a8 Hc (o+3) [aqj (decide (a7 (bh (ai (apo (aK d (av Hc (o+0)) (av Hc (o+1)) 65)))) 10 ≥ 0))]) (o+2) [apJ (ap0 (ap9 (apD (aqc (cut (ai (apo (aK d (av Hc (o+0)) (av Hc (o+1)) 65))) 0 (apd (if 0>a7 (bh (ai (apo (aK d (av Hc (o+0)) (av Hc (o+1)) 65)))) 10 then 0 else a7 (bh (ai (apo (aK d (av Hc (o+0)) (av Hc (o+1)) 65)))) 10)-0)) bytesOf) [])))]) (o+1)+apc .i64 (a7 (bh (ai (apo (aK d (av Hc (o+0)) (av Hc (o+1)) 65)))) 10+1)))]) 114]⟩:aj)
theorem aew(S L R d Hc)(o:Nat){Q:bg}(ni:aph (a8 (a8 (a8 Hc (o+3) [aqj (decide (a7 (bh (ai (apo (aK d (av Hc (o+0)) (av Hc (o+1)) 65)))) 10 ≥ 0))]) (o+2) [apJ (ap0 (ap9 (apD (aqc (cut (ai (apo (aK d (av Hc (o+0)) (av Hc (o+1)) 65))) 0 (apd (if 0>a7 (bh (ai (apo (aK d (av Hc (o+0)) (av Hc (o+1)) 65)))) 10 then 0 else a7 (bh (ai (apo (aK d (av Hc (o+0)) (av Hc (o+1)) 65)))) 10)-0)) bytesOf) [])))]) (o+1) [apm apr (apc .i64 (av (a8 (a8 Hc (o+3) [aqj (decide (a7 (bh (ai (apo (aK d (av Hc (o+0)) (av Hc (o+1)) 65)))) 10 ≥ 0))]) (o+2) [apJ (ap0 (ap9 (apD (aqc (cut (ai (apo (aK d (av Hc (o+0)) (av Hc (o+1)) 65))) 0 (apd (if 0>a7 (bh (ai (apo (aK d (av Hc (o+0)) (av Hc (o+1)) 65)))) 10 then 0 else a7 (bh (ai (apo (aK d (av Hc (o+0)) (av Hc (o+1)) 65)))) 10)-0)) bytesOf) [])))]) (o+1)+apc .i64 (a7 (bh (ai (apo (aK d (av Hc (o+0)) (av Hc (o+1)) 65)))) 10+1)))]) af=true)(hq:Q (.ret (aa 0)) [ab (aJ S 1 2 3 4) 89,.abs (ap6 (ap6 (aK d (av Hc (o+0)) (av Hc (o+1)) 65))),ab (ap L) 9,ab (aq R) 3,ab (a8 (a8 (a8 Hc (o+3) [aqj (decide (a7 (bh (ai (apo (aK d (av Hc (o+0)) (av Hc (o+1)) 65)))) 10 ≥ 0))]) (o+2) [apJ (ap0 (ap9 (apD (aqc (cut (ai (apo (aK d (av Hc (o+0)) (av Hc (o+1)) 65))) 0 (apd (if 0>a7 (bh (ai (apo (aK d (av Hc (o+0)) (av Hc (o+1)) 65)))) 10 then 0 else a7 (bh (ai (apo (aK d (av Hc (o+0)) (av Hc (o+1)) 65)))) 10)-0)) bytesOf) [])))]) (o+1) [apm apr (apc .i64 (av (a8 (a8 Hc (o+3) [aqj (decide (a7 (bh (ai (apo (aK d (av Hc (o+0)) (av Hc (o+1)) 65)))) 10 ≥ 0))]) (o+2) [apJ (ap0 (ap9 (apD (aqc (cut (ai (apo (aK d (av Hc (o+0)) (av Hc (o+1)) 65))) 0 (apd (if 0>a7 (bh (ai (apo (aK d (av Hc (o+0)) (av Hc (o+1)) 65)))) 10 then 0 else a7 (bh (ai (apo (aK d (av Hc (o+0)) (av Hc (o+1)) 65)))) 10)-0)) bytesOf) [])))]) (o+1)+apc .i64 (a7 (bh (ai (apo (aK d (av Hc (o+0)) (av Hc (o+1)) 65)))) 10+1)))]) 114]):aF av9 54 51 5 Q .ret (Qh S L R d Hc o):=aF.ret (vs:=[aa 0]) (l:=[]) (bs:=[0,1,2,3,4]) (pl:=[2,3,4]) (q:=[ap L,aq R,a8 (a8 (a8 Hc (o+3) [aqj (decide (a7 (bh (ai (apo (aK d (av Hc (o+0)) (av Hc (o+1)) 65)))) 10 ≥ 0))]) (o+2) [apJ (ap0 (ap9 (apD (aqc (cut (ai (apo (aK d (av Hc (o+0)) (av Hc (o+1)) 65))) 0 (apd (if 0>a7 (bh (ai (apo (aK d (av Hc (o+0)) (av Hc (o+1)) 65)))) 10 then 0 else a7 (bh (ai (apo (aK d (av Hc (o+0)) (av Hc (o+1)) 65)))) 10)-0)) bytesOf) [])))]) (o+1) [apm apr (apc .i64 (av (a8 (a8 Hc (o+3) [aqj (decide (a7 (bh (ai (apo (aK d (av Hc (o+0)) (av Hc (o+1)) 65)))) 10 ≥ 0))]) (o+2) [apJ (ap0 (ap9 (apD (aqc (cut (ai (apo (aK d (av Hc (o+0)) (av Hc (o+1)) 65))) 0 (apd (if 0>a7 (bh (ai (apo (aK d (av Hc (o+0)) (av Hc (o+1)) 65)))) 10 then 0 else a7 (bh (ai (apo (aK d (av Hc (o+0)) (av Hc (o+1)) 65)))) 10)-0)) bytesOf) [])))]) (o+1)+apc .i64 (a7 (bh (ai (apo (aK d (av Hc (o+0)) (av Hc (o+1)) 65)))) 10+1)))]]) (fun u=>by kernel_rfl) (by kernel_rfl) (aC (aZ L) (aC (aG R) (aC ni bc))) hq
abbrev Qi:=fun S L R d Hc (o:Nat)=>(⟨[(4,aa (apo (ap6 (aK d (av Hc (o+0)) (av Hc (o+1)) 65))))],[ab (aJ S 1 2 3 4) 89,.abs (ap6 (ap6 (aK d (av Hc (o+0)) (av Hc (o+1)) 65))),ab (ap L) 9,ab (aq R) 3,ab Hc 114]⟩:aj)
theorem aex(S L R d Hc)(o:Nat){Q:bg}(bB:aph Hc af=true)(hq:Q (.ret (aa (apo (ap6 (aK d (av Hc (o+0)) (av Hc (o+1)) 65))))) [ab (aJ S 1 2 3 4) 89,.abs (ap6 (ap6 (aK d (av Hc (o+0)) (av Hc (o+1)) 65))),ab (ap L) 9,ab (aq R) 3,ab Hc 114]):aF av9 54 51 5 Q .ret (Qi S L R d Hc o):=aF.ret (vs:=[aa (apo (ap6 (aK d (av Hc (o+0)) (av Hc (o+1)) 65)))]) (l:=[]) (bs:=[0,1,2,3,4]) (pl:=[2,3,4]) (q:=[ap L,aq R,Hc]) (fun u=>by kernel_rfl) (by kernel_rfl) (aC (aZ L) (aC (aG R) (aC bB bc))) hq
abbrev aey:=fun S L R d Hc (o:Nat)=>(⟨[(0,ao 0),(1,.pointer (some ⟨4,o,none⟩))],[ab (aJ S 1 2 3 4) 89,.abs d,ab (ap L) 9,ab (aq R) 3,ab Hc 114]⟩:aj)
theorem aez(S L R d)(Hc:List ape)(o:Nat)(pX:Hc.all af=true)(x0:cA .i64 Hc o=true)(x1:cA .i64 Hc (o+1)=true)(x2:o+4≤(apb Hc)){Q:aQ}(n0:(nQ d)=true)(n1:(apo (ap6 (aK d (av Hc (o+0)) (av Hc (o+1)) 65))==0)=true→(yW (ai (apo (aK d (av Hc (o+0)) (av Hc (o+1)) 65))) 5 (apk (apo (aK d (av Hc (o+0)) (av Hc (o+1)) 65))) (apk (apo (aK d (av Hc (o+0)) (av Hc (o+1)) 65))))=true)(n2:(apo (ap6 (aK d (av Hc (o+0)) (av Hc (o+1)) 65))==0)=true→(apG (apd (if 0>a7 (bh (ai (apo (aK d (av Hc (o+0)) (av Hc (o+1)) 65)))) 10 then 0 else a7 (bh (ai (apo (aK d (av Hc (o+0)) (av Hc (o+1)) 65)))) 10)) (apk (apo (aK d (av Hc (o+0)) (av Hc (o+1)) 65))))=true)(n3:(apo (ap6 (aK d (av Hc (o+0)) (av Hc (o+1)) 65))==0)=true→(asg (aqc (cut (ai (apo (aK d (av Hc (o+0)) (av Hc (o+1)) 65))) 0 (apd (if 0>a7 (bh (ai (apo (aK d (av Hc (o+0)) (av Hc (o+1)) 65)))) 10 then 0 else a7 (bh (ai (apo (aK d (av Hc (o+0)) (av Hc (o+1)) 65)))) 10)-0)) bytesOf))=true)(n4:(apo (ap6 (aK d (av Hc (o+0)) (av Hc (o+1)) 65))==0)=true→(apG (o+2+1) (apb (a8 Hc (o+3) [aqj (decide (a7 (bh (ai (apo (aK d (av Hc (o+0)) (av Hc (o+1)) 65)))) 10 ≥ 0))])))=true)(n5:(apo (ap6 (aK d (av Hc (o+0)) (av Hc (o+1)) 65))==0)=true→(cA apr (a8 (a8 Hc (o+3) [aqj (decide (a7 (bh (ai (apo (aK d (av Hc (o+0)) (av Hc (o+1)) 65)))) 10 ≥ 0))]) (o+2) [apJ (ap0 (ap9 (apD (aqc (cut (ai (apo (aK d (av Hc (o+0)) (av Hc (o+1)) 65))) 0 (apd (if 0>a7 (bh (ai (apo (aK d (av Hc (o+0)) (av Hc (o+1)) 65)))) 10 then 0 else a7 (bh (ai (apo (aK d (av Hc (o+0)) (av Hc (o+1)) 65)))) 10)-0)) bytesOf) [])))]) (o+1))=true)(n6:(apo (ap6 (aK d (av Hc (o+0)) (av Hc (o+1)) 65))==0)=true→(apG (o+1+1) (apb (a8 (a8 Hc (o+3) [aqj (decide (a7 (bh (ai (apo (aK d (av Hc (o+0)) (av Hc (o+1)) 65)))) 10 ≥ 0))]) (o+2) [apJ (ap0 (ap9 (apD (aqc (cut (ai (apo (aK d (av Hc (o+0)) (av Hc (o+1)) 65))) 0 (apd (if 0>a7 (bh (ai (apo (aK d (av Hc (o+0)) (av Hc (o+1)) 65)))) 10 then 0 else a7 (bh (ai (apo (aK d (av Hc (o+0)) (av Hc (o+1)) 65)))) 10)-0)) bytesOf) [])))])))=true)(aR:aph (ap L) af=true)(be:aph (aq R) af=true)(l9:(apo (ap6 (aK d (av Hc (o+0)) (av Hc (o+1)) 65))==0)=true→Q .ret (Qh S L R d Hc o))(bB:aph Hc af=true)(iu:(apo (ap6 (aK d (av Hc (o+0)) (av Hc (o+1)) 65))==0)=false→Q .ret (Qi S L R d Hc o)):an av9 51 5 P9 (aey S L R d Hc o) Q:=
 aS P8 1000 (aA [2,1,0,1,3] (.fork 0 (aA [1,5,1,1,0,1,2,1,3,0,1,0,1,0,1,0,1] (.leaf [4] [0,1,2,3,4] [2,3,4])) (aA [1] (.leaf [4] [0,1,2,3,4] [2,3,4])))) (fun u=>by kernel_rfl) (mN (show(cA apr Hc (o+0))=true by assumption) (mN (show(cA apr Hc (o+1))=true by assumption) (mN n0 (mF (c:=apo (ap6 (aK d (av Hc (o+0)) (av Hc (o+1)) 65))==0) (fun h0=>(Qb 2 (aH (apo (aK d (av Hc (o+0)) (av Hc (o+1)) 65))) (mN (n1 h0) (mN (aH (apo (aK d (av Hc (o+0)) (av Hc (o+1)) 65))) (mN (show(apG (o+3+1) (apb Hc))=true by simp at pX x0 x1 x2 h0⊢ <;>omega) (mN (decide_eq_true (by omega):(decide (0≤if 0>a7 (bh (ai (apo (aK d (av Hc (o+0)) (av Hc (o+1)) 65)))) 10 then 0 else a7 (bh (ai (apo (aK d (av Hc (o+0)) (av Hc (o+1)) 65)))) 10))=true) (mN (n2 h0) (mN (n3 h0) (mN (n4 h0) (mN (n5 h0) (mN (n6 h0) (mN (aZ L) (mN (aG R) (mN (show(aph (a8 (a8 (a8 Hc (o+3) [aqj (decide (a7 (bh (ai (apo (aK d (av Hc (o+0)) (av Hc (o+1)) 65)))) 10 ≥ 0))]) (o+2) [apJ (ap0 (ap9 (apD (aqc (cut (ai (apo (aK d (av Hc (o+0)) (av Hc (o+1)) 65))) 0 (apd (if 0>a7 (bh (ai (apo (aK d (av Hc (o+0)) (av Hc (o+1)) 65)))) 10 then 0 else a7 (bh (ai (apo (aK d (av Hc (o+0)) (av Hc (o+1)) 65)))) 10)-0)) bytesOf) [])))]) (o+1) [apm apr (apc .i64 (av (a8 (a8 Hc (o+3) [aqj (decide (a7 (bh (ai (apo (aK d (av Hc (o+0)) (av Hc (o+1)) 65)))) 10 ≥ 0))]) (o+2) [apJ (ap0 (ap9 (apD (aqc (cut (ai (apo (aK d (av Hc (o+0)) (av Hc (o+1)) 65))) 0 (apd (if 0>a7 (bh (ai (apo (aK d (av Hc (o+0)) (av Hc (o+1)) 65)))) 10 then 0 else a7 (bh (ai (apo (aK d (av Hc (o+0)) (av Hc (o+1)) 65)))) 10)-0)) bytesOf) [])))]) (o+1)+apc .i64 (a7 (bh (ai (apo (aK d (av Hc (o+0)) (av Hc (o+1)) 65)))) 10+1)))]) af)=true by exact li (li (li (by assumption) rfl _) rfl _) rfl _) (mR (l9 h0)))))))))))))))) (fun h0=>(mN (show(apo (ap6 (aK d (av Hc (o+0)) (av Hc (o+1)) 65)) != 0)=true by simp at pX x0 x1 x2 h0⊢ <;>omega) (mN (aZ L) (mN (aG R) (mN bB (mR (iu h0)))))))))))
end
theorem Cf{H:List au}{k:Nat}(h:k<H.length):H[k]?=some (aP H k):=by
 unfold aP
 rw[List.getD_eq_getElem?_getD,apl h]
 rfl
theorem wA{H:List au}{k:Nat}(h:k<H.length):aP H k∈H:=List.mem_of_getElem? (Cf h)
theorem Cg(d:ay):∀(H:List au) (k:Nat) (h:au),k<H.length→db d (H.set k h)+eJ d (aP H k)=db d H+eJ d h
 | [],k,h,hk=>by cases hk
 |x::H,0,h,hk=>by
  show eJ d h+db d H+eJ d x=eJ d x+db d H+eJ d h
  omega
 |x::H,k+1,h,hk=>by
  have:=Cg d H k h (Nat.lt_of_succ_lt_succ hk)
  show eJ d x+db d (H.set k h)+eJ d (aP H k)=eJ d x+db d H+eJ d h
  omega
structure sC(no:Int)(F:Nat)(H:List au)(d:ay):Prop where
 cF:cj d
 ok:∀h∈H,o5 h∧h.no≠no
 bQ:b7 d no+db d H≤F
theorem sC.write{no:Int}{F:Nat}{H:List au}{d:ay}(hm:sC no F H d)(hF:F≤1000000){k:Nat}(hk:k<H.length)(ht:(aP H k).there=true):
 cj (bO d no (cd (aP H k).line)).2∧(∀f,fileOf d.files no=some f→f.size+(cd (aP H k).line).size≤1000000)∧
 b7 (bO d no (cd (aP H k).line)).2 no≤b7 d no+((aP H k).line.size+1)∧(aP H k).line.size+1≤db d H:=by
 have h1:eJ d (aP H k)≤db d H:=by
  have key:∀(l:List au),aP H k∈l→eJ d (aP H k)≤db d l:=by
   intro l
   induction l with
   |nil=>intro h;cases h
   |cons x l ih=>
    intro h
    show _≤eJ d x+db d l
    rcases List.mem_cons.1 h with h|h
    ·rw[h];omega
    ·have:=ih h;omega
  exact key H (wA hk)
 have h2:(aP H k).line.size+1≤eJ d (aP H k):=by
  unfold eJ sB
  rw[ht,if_pos rfl]
  omega
 have hf:=hm.bQ
 have hs:∀f,fileOf d.files no=some f→f.size+(cd (aP H k).line).size≤1000000:=fun f e=>by
  have:b7 d no=f.size:=by unfold b7;rw[e];rfl
  rw[mc]
  omega
 refine⟨hm.cF.write hs,hs,?_,by omega⟩
 have:=P6 d no (cd (aP H k).line)
 rw[mc]at this
 exact this
theorem sC.next{no:Int}{F:Nat}{H:List au}{d:ay}(hm:sC no F H d)(hF:F≤1000000){k:Nat}(hk:k<H.length)(ht:(aP H k).there=true)
 (hr:(bW (aP H k) (bO d no (cd (aP H k).line)).2).1=0):
 sC no F (H.set k (bW (aP H k) (bO d no (cd (aP H k).line)).2).2.1) (bW (aP H k) (bO d no (cd (aP H k).line)).2).2.2∧
 db (bW (aP H k) (bO d no (cd (aP H k).line)).2).2.2 (H.set k (bW (aP H k) (bO d no (cd (aP H k).line)).2).2.1)<db d H:=by
 obtain⟨w1,w2,w3,w4⟩:=hm.write hF hk ht
 generalize jT:(bO d no (cd (aP H k).line)).2=d1 at*
 have y0:∀m,m≠no→b7 d1 m=b7 d m:=fun m h=>by rw[←jT];exact Ia d _ h
 obtain⟨r1,r2,r3⟩:=yY w1 hr
 obtain⟨f1,f2,f3⟩:=yX (aP H k) d1
 have hok:=hm.ok _ (wA hk)
 have gj:=hok.2
 have wB:sB (aP H k)=(aP H k).line.size+1:=by unfold sB;rw[ht];rfl
 have jF:db d1 H=db d H:=by
  have key:∀l:List au,(∀h∈l,h.no≠no)→db d1 l=db d l:=by
   intro l
   induction l with
   |nil=>intro _;rfl
   |cons x l ih=>
    intro h
    show eJ d1 x+db d1 l=eJ d x+db d l
    rw[ih fun y hy=>h y (apB _ hy)]
    unfold eJ
    rw[y0 _ (h x apC)]
  exact key H fun h hh=>(hm.ok h hh).2
 have Am:=Cg d1 H k (bW (aP H k) d1).2.1 hk
 have aop:eJ d1 (aP H k)=b7 d1 (aP H k).no-(aP H k).at_.toNat+((aP H k).line.size+1):=by unfold eJ;rw[wB]
 have aoq:eJ d1 (bW (aP H k) d1).2.1=b7 d1 (aP H k).no-(aP H k).at_.toNat:=by unfold eJ;rw[r1];exact r3
 have jN:db (bW (aP H k) d1).2.2 (H.set k (bW (aP H k) d1).2.1)=db d1 (H.set k (bW (aP H k) d1).2.1):=Ca f1 _
 have hf:=hm.bQ
 refine⟨⟨w1.bW _,fun h hh=>?_,?_⟩,?_⟩
 ·rcases List.mem_or_eq_of_mem_set hh with hh|rfl
  ·exact hm.ok h hh
  ·exact⟨r2,by rw[r1];exact gj⟩
 ·rw[qV f1,jN]
  omega
 ·rw[jN]
  omega
theorem Qj(f:Bool)(no:Int):∀(n F:Nat) (H:List au) (d:ay),F≤1000000→sC no F H d→cj (mg f no n H d).2∧(mg f no n H d).2.made=d.made∧b7 (mg f no n H d).2 no≤F∧∀m,m≠no→b7 (mg f no n H d).2 m=b7 d m
 |0,F,H,d,hF,hm=>⟨hm.cF,rfl,by have:=hm.bQ;show b7 d no≤F;omega,fun m _=>rfl⟩
 |n+1,F,H,d,hF,hm=>by
  unfold mg
  cases hk:eI f H with
  |none=>exact⟨hm.cF,rfl,by have:=hm.bQ;show b7 d no≤F;omega,fun m _=>rfl⟩
  |some k=>
   obtain⟨k1,k2⟩:=wz hk
   obtain⟨w1,w2,w3,w4⟩:=hm.write hF k1 k2
   have y0:∀m,m≠no→b7 (bO d no (cd (aP H k).line)).2 m=b7 d m:=fun m h=>Ia d _ h
   have Ie:=HZ d no (cd (aP H k).line)
   have hf:=hm.bQ
   dsimp only
   split
   ·exact⟨w1,Ie,by omega,y0⟩
   obtain⟨f1,f2,f3⟩:=yX (aP H k) (bO d no (cd (aP H k).line)).2
   split
   ·exact⟨w1.bW _,f2.trans Ie,by rw[qV f1];omega,fun m h=>by rw[qV f1];exact y0 m h⟩
   ·rename_i hr
    obtain⟨n1,_⟩:=hm.next hF k1 k2 (aq2.1 hr)
    obtain⟨g1,g2,g3,g4⟩:=Qj f no n F _ _ hF n1
    exact⟨g1,g2.trans (f2.trans Ie),g3,fun m h=>by rw[g4 m h,qV f1];exact y0 m h⟩
theorem Ch{d:ay}(h:(bu d).2.1=0):(bu d).1=(d.made:Int)+1:=by
 unfold bu at h⊢
 split at h
 ·cases h
 ·rename_i h1
  rw[if_neg h1]
  split at h
  ·rename_i h2;exact absurd h h2
  ·rename_i h2
   rw[if_neg h2]
theorem Ig(d:ay)(m:Int)(hm:m≤d.made):b7 (bu d).2.2 m=b7 d m:=by
 unfold bu
 split
 ·rfl
 split
 ·rfl
 ·unfold b7 fileOf
  show((aus _ (d.files++[_])).map _|>.map _).getD 0=_
  rw[List.find?_append]
  have:(aus (fun p:Nat×ByteArray=>(p.1:Int)==m) [(d.made+1,apj)])=none:=by
   rw[List.find?_eq_none]
   intro p hp
   rw[List.mem_singleton.1 hp]
   simp only[beq_iff_eq]
   omega
  rw[this,Option.or_none]
theorem Qk{d:ay}(hd:cj d)(h:(bu d).2.1=0):b7 (bu d).2.2 (bu d).1=0:=by
 unfold b7
 rw[B0 hd h]
 rfl
structure jo(d:ay)(l:List Int):Prop where
 cF:cj d
 old:∀r∈l,r≤d.made
 bQ:eK d l≤1000000
theorem jo.opened{d:ay}{l:List Int}(h:jo d l)(he:(bu d).2.1=0)(ho:(dS l [] (bu d).2.2).1=0):
 sC (bu d).1 (eK d l) (dS l [] (bu d).2.2).2.1 (dS l [] (bu d).2.2).2.2:=by
 have jT:=h.cF.uC
 obtain⟨o1,o2,o3,o4⟩:=wy l [] _ jT
 have cQ:=yZ l [] [] (bu d).2.2 (bu d).2.2 jT rfl ⟨rfl,fun _ h=>(by cases h),apI _⟩ ho
 rw[aqO]at cQ
 refine⟨o1,fun x hx=>⟨cQ.ok x hx,?_⟩,?_⟩
 ·have:x.no∈l:=by rw[←cQ.Cb];exact List.mem_map_of_mem hx
  have:=h.old _ this
  rw[Ch he]
  omega
 ·rw[qV o2,Qk h.cF he,Ca o2]
  have h1:=cQ.eJ
  have h2:eK (bu d).2.2 l=eK d l:=by
   have key:∀l:List Int,(∀r∈l,r≤d.made)→eK (bu d).2.2 l=eK d l:=by
    intro l
    induction l with
    |nil=>intro _;rfl
    |cons x l ih=>
     intro h
     unfold eK
     rw[ih fun y hy=>h y (apB _ hy),Ig d x (h x apC)]
   exact key l h.old
  omega
structure aeA(d:ay)(l:List Int)(r:Int×Int×ay):Prop where
 cF:cj r.2.2
 made:d.made≤r.2.2.made
 no:r.2.1=0→r.1=(d.made:Int)+1∧r.2.2.made=d.made+1∧b7 r.2.2 r.1≤eK d l
 old:∀m:Int,m≤d.made→b7 r.2.2 m≤b7 d m
theorem Ql(f:Bool){l:List Int}{d:ay}(h:jo d l):aeA d l (g9 f l d):=by
 have jT:=h.cF.uC
 have nK:=H2 (d:=d)
 have jk:∀m:Int,m≤d.made→b7 (bu d).2.2 m=b7 d m:=fun m hm=>Ig d m hm
 have cQ:=h.opened
 obtain⟨o1,o2,o3,o4⟩:=wy l [] _ jT
 have gj:=Ch (d:=d)
 unfold g9
 generalize bu d=c at*
 obtain⟨no,e,d1⟩:=c
 dsimp only at*
 split
 ·rename_i he
  rw[if_neg he]at nK
  exact⟨jT,by dsimp only;omega,fun h=>absurd h he,fun m hm=>arw (jk m hm)⟩
 rename_i he
 have he:e=0:=aq2.1 he
 rw[if_pos he]at nK
 have cQ:=cQ he
 have gj:=gj he
 generalize dS l [] d1=q at*
 obtain⟨e2,H,d2⟩:=q
 dsimp only at*
 split
 ·rename_i dY
  exact⟨o1,by dsimp only;omega,fun h=>absurd h dY,fun m hm=>arw ((qV o2 m).trans (jk m hm))⟩
 rename_i dY
 have cQ:=cQ (aq2.1 dY)
 obtain⟨m1,m2,m3,m4⟩:=Qj f no sA (eK d l) H d2 h.bQ cQ
 generalize mg f no sA H d2=q at*
 obtain⟨e3,d3⟩:=q
 dsimp only at*
 have hold:∀m:Int,m≤d.made→b7 d3 m=b7 d m:=fun m hm=>by rw[m4 m (by omega),qV o2,jk m hm]
 split
 ·rename_i qT
  exact⟨m1,by dsimp only;omega,fun h=>absurd h qT,fun m hm=>arw (hold m hm)⟩
 obtain⟨g1,g2,g3⟩:=Cc l d3 m1
 refine⟨g1,by dsimp only;omega,fun _=>⟨gj,by dsimp only;omega,arG (g3 no) m3⟩,fun m hm=>arG (g3 m) (arw (hold m hm))⟩
noncomputable section
def aeB(S:ad)(L:List ByteArray)(R:List Int)(H:List au)(d:ay)(no e:Int)(y:au)(dd:ay):List (apQ×Sum):=[(54,Sum.one (fun _ _=>some [0,1,2,3,4,6]) [ao 0,ao 5] (aO S L R H d++[ab (kr ⟨no,0,apj,false⟩) 114]) (.ret (aa e)) (aO S L R H dd++[ab (kr y) 114]))]
theorem aeC(S:ad)(L:List ByteArray)(R:List Int)(H:List au)(d:ay)(no e:Int)(y:au)(dd:ay)(dk:aE av9 54 [ao 0,ao 5] (aO S L R H d++[ab (kr ⟨no,0,apj,false⟩) 114]) fun r o=>r=.ret (aa e)∧o=aO S L R H dd++[ab (kr y) 114]):dw av9 (dM av9 (dN (aeB S L R H d no e y dd)) 50 40):=
 dR du mixed (ed (.cons (bp.one dk) .nil)) 50 40
noncomputable def Ci:List apV:=aY (dz av9 76)
noncomputable def uE:List apV:=aY (dz av9 53)
open Tree renaming aN→mN,dj→mF,eT→mL,fz→mQ,dB→mR,fH→mE
noncomputable abbrev sD:List apV:=(aY (inner (aY (inner (uE.drop 3)))))
noncomputable abbrev Ih:List apV:=(aY (inner (aY (inner (Ci.drop 3)))))
def Qm:Nat→Bool→Bool→Tree→Tree
 |0,_,_,t=>t
 |n+1,d,b,t=>.cD d b (Qm n d b t)
theorem pZ{R:bd→aj→Prop}{c v:Bool}{t:Tree}(n:Nat)(h1:c=v)(h2:t.ok R):(Qm n c v t).ok R:=by
 induction n with
 |zero=>exact h2
 |succ n ih=>exact⟨h1,ih⟩
abbrev ls:=fun S L R H d=>([ab (aJ S 1 2 3 4) 89,.abs d,ab (ap L) 9,ab (aq R) 3,ab (ak H) 114]:List ag)
abbrev aeD:=fun S L R H d (o n:Nat)=>(⟨[(0,ao 0),(6,b8),(11,dx 3 o n n),(12,aa n),(13,aa 0)],ls S L R H d⟩:aj)
abbrev aeE:=fun S L R H d (o n:Nat)=>(⟨[(0,ao 0),(1,dx 3 o n n)],ls S L R H d⟩:aj)
theorem aeF(S L R H d)(o n:Nat)(pH:(ak H).all af=true){Q:aQ}(l3:an av9 30 5 (Ci.drop 3) (aeD S L R H d o n) Q):an av9 30 5 Ci (aeE S L R H d o n) Q:=
 aS bo 3 (.leaf [0,6,11,12,13] [0,1,2,3,4] [2,3,4]) (fun u=>by kernel_rfl) (aM L R H (mQ l3))
abbrev jv:=fun S L R H d l=>([ab (aJ S 1 2 3 4) 89,.abs d,ab (ap L) 9,ab (aq R) 3,ab (ak H) 114,ab (ak l) 114]:List ag)
abbrev aeG:=fun S L R H d l (o n:Nat) (i:Int)=>(⟨[(0,ao 0),(6,ah 5 (apb l)),(11,dx 3 o n n),(12,aa n),(13,aa i)],jv S L R H d l⟩:aj)
abbrev aeH:=fun S L R H d l (o n:Nat) (i:Int)=>(⟨[(6,ah 5 (apb l))],jv S L R H d l⟩:aj)
abbrev aeI:=fun S L R H d l (o n:Nat) (i:Int)=>(⟨[(0,ao 0),(6,ah 5 (apb l)),(11,dx 3 o n n),(12,aa n),(13,aa i)],jv S L R H d l⟩:aj)
theorem aeJ(S L R H d l)(o n:Nat)(i:Int)(pH:(ak H).all af=true)(pL:(ak l).all af=true){Q:aQ}(l4:(decide (i<(↑n:Int)))=true→an av9 30 5 (Ih.drop 2) (aeG S L R H d l o n i) Q)(l5:(decide (i<(↑n:Int)))=false→Q (.exit 0) (aeH S L R H d l o n i)):an av9 30 5 Ih (aeI S L R H d l o n i) Q:=
 aS bo 2 (.fork 0 (.leaf [0,6,11,12,13] [0,1,2,3,4,5] [2,3,4,5]) (.leaf [6] [0,1,2,3,4,5] [2,3,4,5])) (fun u=>by kernel_rfl) (mF (c:=decide (i<(↑n:Int))) (fun h0=>(aM L R H (mN (aU l) (mQ (l4 h0))))) (fun h0=>(aM L R H (mN (aU l) (mE 0 (l5 h0))))))
abbrev Qn:=fun S L R H (d:ay) (l:List au) (o n:Nat) (no e:Int) (y:au) dd (i:Int)=>(⟨[(4,b8),(5,aa e)],[ab (aJ S 1 2 3 4) 89,.abs dd,ab (ap L) 9,ab (aq R) 3,ab (ak H) 114]⟩:aj)
theorem aeK(S L R H d l)(o n:Nat)(no e:Int)(y dd)(i:Int){Q:bg}(hq:Q (.ret (.tuple #[b8,aa e])) [ab (aJ S 1 2 3 4) 89,.abs dd,ab (ap L) 9,ab (aq R) 3,ab (ak H) 114]):aF av9 76 30 5 Q .ret (Qn S L R H d l o n no e y dd i):=aF.ret (vs:=[b8,aa e]) (l:=[]) (bs:=[0,1,2,3,4]) (pl:=[2,3,4]) (q:=[ap L,aq R,ak H]) (fun u=>by kernel_rfl) (by kernel_rfl) (gL L R H bc) hq
abbrev Qo:=fun S L R H (d:ay) l (o n:Nat) (no e:Int) y dd (i:Int)=>(⟨[(0,ao 0),(6,ah 5 (apb l+1)),(11,dx 3 o n n),(12,aa n),(13,.int .i64 (apc .i64 (i+1)))],[ab (aJ S 1 2 3 4) 89,.abs dd,ab (ap L) 9,ab (aq R) 3,ab (ak H) 114,ab (ak l++[aa (au.no y),aa (au.at_ y),apJ (au.line y),aqj (au.there y)]) 114]⟩:aj)
abbrev aeL:=fun S L R H d l (o n:Nat) (no e:Int) (y:au) (dd:ay) (i:Int)=>(⟨[(0,ao 0),(6,ah 5 (apb l)),(11,dx 3 o n n),(12,aa n),(13,aa i)],jv S L R H d l⟩:aj)
theorem aeM(S L R H d l)(o n:Nat)(no e:Int)(y dd)(i:Int)(pH:(ak H).all af=true)(pL:(ak l).all af=true)(dk:aE av9 54 [ao 0,ao 5] (aO S L R H d++[ab (kr ⟨no,0,apj,false⟩) 114]) fun r o=>r=.ret (aa e)∧o=aO S L R H dd++[ab (kr y) 114])(h0:0≤i)(h1:i<n)(h2:n≤1000000)(h3:apc .i64 (i+1)=i+1)(h4:(apb l)≤1000000){Q:aQ}(n0:(cA apr (aq R) (o+apd i*1))=true)(n1:(eD [ao 0,ao 5] [ao 0,ao 5] [ab (aJ S 1 2 3 4) 89,ag.abs d,ab (ap L) 9,ab (aq R) 3,ab (ak H) 114,ab [aa (av (aq R) (o+apd i*1)),aa 0,apJ (ap0 #[]),aqj false] 114] (aO S L R H d++[ab [aa no,aa 0,apJ apj,aqj false] 114]))=true)(aR:aph (ap L) af=true)(be:aph (aq R) af=true)(bB:aph (ak H) af=true)(l5:(e != 0)=true→Q .ret (Qn S L R H d l o n no e y dd i))(n6:(e != 0)=false→(apG (apb l+1) 1000000)=true)(n7:(e != 0)=false→(apw (0+apb l*4) (apb (ak l)))=true)(l8:(e != 0)=false→Q .normal (Qo S L R H d l o n no e y dd i)):an av9 30 5 (Ih.drop 2) (aeL S L R H d l o n no e y dd i) Q:=
 aS (aeC S L R H d no e y dd dk) 1000 (aA [0,1,1,0,1,5,1,1,3,1,1,1] (.fork 1 (.leaf [4,5] [0,1,2,3,4] [2,3,4]) (aA [2,3,5,1] (.leaf [0,6,11,12,13] [0,1,2,3,4,8] [2,3,4,8])))) (fun u=>by kernel_rfl) (mN (decide_eq_true (by omega):(decide (0≤i))=true) (mN (show(apy (apd i) n)=true by simp at pH pL dk h0 h1 h2 h3 h4⊢ <;>omega) (mN n0 (aM L R H (mN n1 (aM L R H (mF (c:=e != 0) (fun h0=>(aM L R H (mR (l5 h0)))) (fun h0=>(mN (n6 h0) (mN (ln _:(full (apb l) (apb l))=true) (mN (n7 h0) (aM L R H (mN (show(aph (ak l++[aa (au.no y),aa (au.at_ y),apJ (au.line y),aqj (au.there y)]) af)=true by exact iq (by assumption) rfl) (mQ (an.done (by kernel_rfl) (l8 h0))))))))))))))))
abbrev Qp:=fun S L R H d l=>(⟨[(4,ah 5 (apb l)),(5,aa 0)],jv S L R H d l⟩:aj)
theorem aeN(S L R H d l){Q:bg}(hq:Q (.ret (.tuple #[ah 5 (apb l),aa 0])) (jv S L R H d l)):aF av9 76 30 5 Q .ret (Qp S L R H d l):=aF.ret (vs:=[ah 5 (apb l),aa 0]) (l:=[]) (bs:=[0,1,2,3,4,5]) (pl:=[2,3,4,5]) (q:=[ap L,aq R,ak H,ak l]) (fun u=>by kernel_rfl) (by kernel_rfl) (gL L R H (aC (aU l) bc)) hq
abbrev aeO:=fun S L R H d l=>(⟨[(6,ah 5 (apb l))],jv S L R H d l⟩:aj)
theorem aeP(S L R H d l)(pH:(ak H).all af=true)(pL:(ak l).all af=true){Q:aQ}(l4:Q .ret (Qp S L R H d l)):an av9 30 5 (Ci.drop 4) (aeO S L R H d l) Q:=
 aS bo 1000 (.leaf [4,5] [0,1,2,3,4,5] [2,3,4,5]) (fun u=>by kernel_rfl) (aM L R H (mN (aU l) (mR l4)))
abbrev aeQ:=fun S L R H d l=>(⟨[(0,ao 0),(1,ah 5 (apb l)),(5,aa (-1)),(8,ah 5 (apb l)),(9,aa (apb l)),(10,aa 0)],jv S L R H d l⟩:aj)
abbrev aeR:=fun S L R H d l=>(⟨[(0,ao 0),(1,ah 5 (apb l))],jv S L R H d l⟩:aj)
theorem aeS(S L R H d l)(pH:(ak H).all af=true)(pL:(ak l).all af=true){Q:aQ}(l4:an av9 36 6 (uE.drop 3) (aeQ S L R H d l) Q):an av9 36 6 uE (aeR S L R H d l) Q:=
 aS bo 3 (.leaf [0,1,5,8,9,10] [0,1,2,3,4,5] [2,3,4,5]) (fun u=>by kernel_rfl) (aM L R H (mN (aU l) (mQ l4)))
abbrev aeT:=fun S L R H d l (k i:Int)=>(⟨[(0,ao 0),(1,ah 5 (apb l)),(5,aa k),(8,ah 5 (apb l)),(9,aa (apb l)),(10,aa i)],jv S L R H d l⟩:aj)
abbrev aeU:=fun S L R H d l (k i:Int)=>(⟨[(5,aa k)],jv S L R H d l⟩:aj)
abbrev aeV:=fun S L R H d l (k i:Int)=>(⟨[(0,ao 0),(1,ah 5 (apb l)),(5,aa k),(8,ah 5 (apb l)),(9,aa (apb l)),(10,aa i)],jv S L R H d l⟩:aj)
theorem aeW(S L R H d l)(k i:Int)(pH:(ak H).all af=true)(pL:(ak l).all af=true){Q:aQ}(l4:(decide (i<(↑(apb l):Int)))=true→an av9 36 6 (sD.drop 2) (aeT S L R H d l k i) Q)(l5:(decide (i<(↑(apb l):Int)))=false→Q (.exit 0) (aeU S L R H d l k i)):an av9 36 6 sD (aeV S L R H d l k i) Q:=
 aS bo 2 (.fork 0 (.leaf [0,1,5,8,9,10] [0,1,2,3,4,5] [2,3,4,5]) (.leaf [5] [0,1,2,3,4,5] [2,3,4,5])) (fun u=>by kernel_rfl) (mF (c:=decide (i<(↑(apb l):Int))) (fun h0=>(aM L R H (mN (aU l) (mQ (l4 h0))))) (fun h0=>(aM L R H (mN (aU l) (mE 0 (l5 h0))))))
abbrev Qq:=fun S L R H d l (i:Int)=>(⟨[(0,ao 0),(1,ah 5 (apb l)),(5,aa i),(8,ah 5 (apb l)),(9,aa (apb l)),(10,.int .i64 (apc .i64 (i+1)))],jv S L R H d l⟩:aj)
abbrev Qr:=fun S L R H d l (i:Int)=>(⟨[(0,ao 0),(1,ah 5 (apb l)),(5,aa (-1)),(8,ah 5 (apb l)),(9,aa (apb l)),(10,.int .i64 (apc .i64 (i+1)))],jv S L R H d l⟩:aj)
abbrev aeX:=fun S L R H d l (i:Int)=>(⟨[(0,ao 0),(1,ah 5 (apb l)),(5,aa (-1)),(8,ah 5 (apb l)),(9,aa (apb l)),(10,aa i)],jv S L R H d l⟩:aj)
theorem aeY(S L R H d l)(i:Int)(pH:(ak H).all af=true)(pL:(ak l).all af=true)(h0:0≤i)(h1:i<(apb l))(h2:(apb l)≤1000000)(h3:apc .i64 (i+1)=i+1){Q:aQ}(n0:(apG (0+apd i*4+4) (apb (ak l)))=true)(n1:(cA apr (ak l) (0+apd i*4))=true)(n2:(cA apr (ak l) (0+apd i*4+1))=true)(n3:(eS (ak l) (0+apd i*4+1+1))=true)(n4:(oJ (ak l) (0+apd i*4+1+1+1))=true)(l9:(gR (ak l) (0+apd i*4+1+1+1))=true→Q .normal (Qq S L R H d l i))(j4:(gR (ak l) (0+apd i*4+1+1+1))=false→Q .normal (Qr S L R H d l i)):an av9 36 6 (sD.drop 2) (aeX S L R H d l i) Q:=
 aS sw 1000 (aA [0,1,1,0,1,1,1,1,1] (.fork 2 (aA [1,1,21,3] (.leaf [0,1,5,8,9,10] [0,1,2,3,4,5] [2,3,4,5])) (aA [0,0,0,0] (.leaf [0,1,5,8,9,10] [0,1,2,3,4,5] [2,3,4,5])))) (fun u=>by kernel_rfl) (mN (decide_eq_true (by omega):(decide (0≤i))=true) (mN (show(apy (apd i) (apb l))=true by simp at pH pL h0 h1 h2 h3⊢ <;>omega) (mN n0 (mN n1 (mN n2 (mN n3 (mN n4 (mF (c:=gR (ak l) (0+apd i*4+1+1+1)) (fun h0=>(pZ 4 h0 (aM L R H (mN (aU l) (mQ (an.done (by kernel_rfl) (l9 h0))))))) (fun h0=>(pZ 4 h0 (aM L R H (mN (aU l) (mQ (an.done (by kernel_rfl) (j4 h0)))))))))))))))
abbrev Qs:=fun S L R H d l (k:Nat) (i:Int)=>(⟨[(0,ao 0),(1,ah 5 (apb l)),(5,aa i),(8,ah 5 (apb l)),(9,aa (apb l)),(10,.int .i64 (apc .i64 (i+1)))],jv S L R H d l⟩:aj)
abbrev Qt:=fun S L R H d l (k:Nat) (i:Int)=>(⟨[(0,ao 0),(1,ah 5 (apb l)),(5,aa k),(8,ah 5 (apb l)),(9,aa (apb l)),(10,.int .i64 (apc .i64 (i+1)))],jv S L R H d l⟩:aj)
abbrev Qu:=fun S L R H d l (k:Nat) (i:Int)=>(⟨[(0,ao 0),(1,ah 5 (apb l)),(5,aa k),(8,ah 5 (apb l)),(9,aa (apb l)),(10,.int .i64 (apc .i64 (i+1)))],jv S L R H d l⟩:aj)
abbrev aeZ:=fun S L R H d l (k:Nat) (i:Int)=>(⟨[(0,ao 0),(1,ah 5 (apb l)),(5,aa k),(8,ah 5 (apb l)),(9,aa (apb l)),(10,aa i)],jv S L R H d l⟩:aj)
theorem ae0(S L R H d l)(k:Nat)(i:Int)(pH:(ak H).all af=true)(pL:(ak l).all af=true)(h0:0≤i)(h1:i<(apb l))(h2:(apb l)≤1000000)(h3:apc .i64 (i+1)=i+1)(h4:k<(apb l)){Q:aQ}(n0:(apG (0+apd i*4+4) (apb (ak l)))=true)(n1:(cA apr (ak l) (0+apd i*4))=true)(n2:(cA apr (ak l) (0+apd i*4+1))=true)(n3:(eS (ak l) (0+apd i*4+1+1))=true)(n4:(oJ (ak l) (0+apd i*4+1+1+1))=true)(n5:(gR (ak l) (0+apd i*4+1+1+1))=true→(eS (ak l) (0+apd (↑k:Int)*4+2))=true)(n6:(gR (ak l) (0+apd i*4+1+1+1))=true→(qR [ab (aJ S 1 2 3 4) 89,ag.abs d,ab (ap L) 9,ab (aq R) 3,ab (ak H) 114])=true)(iu:(gR (ak l) (0+apd i*4+1+1+1))=true→(decide (aV (ad.aB S) (aX (ak l) (0+apd i*4+1+1)) (aX (ak l) (0+apd (↑k:Int)*4+2))<0))=true→Q .normal (Qs S L R H d l k i))(jY:(gR (ak l) (0+apd i*4+1+1+1))=true→(decide (aV (ad.aB S) (aX (ak l) (0+apd i*4+1+1)) (aX (ak l) (0+apd (↑k:Int)*4+2))<0))=false→Q .normal (Qt S L R H d l k i))(nt:(gR (ak l) (0+apd i*4+1+1+1))=false→Q .normal (Qu S L R H d l k i)):an av9 36 6 (sD.drop 2) (aeZ S L R H d l k i) Q:=
 aS sw 1000 (aA [0,1,1,0,1,1,1,1,1] (.fork 2 (aA [1,1,14,3,4,1,5,1,1,1,1,1,1,3,3] (.fork 0 (.leaf [0,1,5,8,9,10] [0,1,2,3,4,5] [2,3,4,5]) (.leaf [0,1,5,8,9,10] [0,1,2,3,4,5] [2,3,4,5]))) (aA [0,0,0,0] (.leaf [0,1,5,8,9,10] [0,1,2,3,4,5] [2,3,4,5])))) (fun u=>by kernel_rfl) (mN (decide_eq_true (by omega):(decide (0≤i))=true) (mN (show(apy (apd i) (apb l))=true by simp at pH pL h0 h1 h2 h3 h4⊢ <;>omega) (mN n0 (mN n1 (mN n2 (mN n3 (mN n4 (mF (c:=gR (ak l) (0+apd i*4+1+1+1)) (fun h0=>(pZ 2 h0 (mN (show(apy (apd (↑k:Int)) (apb l))=true by simp at pH pL h0 h1 h2 h3 h4 h0⊢ <;>omega) (mN (n5 h0) (aM L R H (mN (n6 h0) (aM L R H (pZ 2 h0 (mF (c:=decide (aV (ad.aB S) (aX (ak l) (0+apd i*4+1+1)) (aX (ak l) (0+apd (↑k:Int)*4+2))<0)) (fun h1=>(aM L R H (mN (aU l) (mQ (an.done (by kernel_rfl) (iu h0 h1)))))) (fun h1=>(aM L R H (mN (aU l) (mQ (an.done (by kernel_rfl) (jY h0 h1))))))))))))))) (fun h0=>(pZ 4 h0 (aM L R H (mN (aU l) (mQ (an.done (by kernel_rfl) (nt h0)))))))))))))))
abbrev Ii:=fun S L R H d l (k:Int)=>(⟨[(4,aa k)],jv S L R H d l⟩:aj)
theorem ae1(S L R H d l)(k:Int){Q:bg}(hq:Q (.ret (aa k)) (Ii S L R H d l k).objs):aF av9 53 36 6 Q .ret (Ii S L R H d l k):=aF.ret (vs:=[aa k]) (l:=[]) (bs:=[0,1,2,3,4,5]) (pl:=[2,3,4,5]) (q:=[ap L,aq R,ak H,ak l]) (fun u=>by kernel_rfl) (by kernel_rfl) (gL L R H (aC (aU l) bc)) hq
abbrev ae2:=fun S L R H d l (k:Int)=>(⟨[(5,aa k)],jv S L R H d l⟩:aj)
theorem ae3(S L R H d l)(k:Int)(pH:(ak H).all af=true)(pL:(ak l).all af=true){Q:aQ}(l4:Q .ret (Ii S L R H d l k)):an av9 36 6 (uE.drop 4) (ae2 S L R H d l k) Q:=
 aS bo 1000 (.leaf [4] [0,1,2,3,4,5] [2,3,4,5]) (fun u=>by kernel_rfl) (aM L R H (mN (aU l) (mR l4)))
abbrev ae4:=fun S L R H d=>(⟨[(0,ao 0),(1,ah 4 (apb H)),(5,aa (-1)),(8,ah 4 (apb H)),(9,aa (apb H)),(10,aa 0)],ls S L R H d⟩:aj)
abbrev ae5:=fun S L R H d=>(⟨[(0,ao 0),(1,ah 4 (apb H))],ls S L R H d⟩:aj)
theorem ae6(S L R H d)(pH:(ak H).all af=true){Q:aQ}(l3:an av9 36 5 (uE.drop 3) (ae4 S L R H d) Q):an av9 36 5 uE (ae5 S L R H d) Q:=
 aS bo 3 (.leaf [0,1,5,8,9,10] [0,1,2,3,4] [2,3,4]) (fun u=>by kernel_rfl) (aM L R H (mQ l3))
abbrev ae7:=fun S L R H d (k i:Int)=>(⟨[(0,ao 0),(1,ah 4 (apb H)),(5,aa k),(8,ah 4 (apb H)),(9,aa (apb H)),(10,aa i)],ls S L R H d⟩:aj)
abbrev ae8:=fun S L R H d (k i:Int)=>(⟨[(5,aa k)],ls S L R H d⟩:aj)
abbrev ae9:=fun S L R H d (k i:Int)=>(⟨[(0,ao 0),(1,ah 4 (apb H)),(5,aa k),(8,ah 4 (apb H)),(9,aa (apb H)),(10,aa i)],ls S L R H d⟩:aj)
theorem afa(S L R H d)(k i:Int)(pH:(ak H).all af=true){Q:aQ}(l3:(decide (i<(↑(apb H):Int)))=true→an av9 36 5 (sD.drop 2) (ae7 S L R H d k i) Q)(l4:(decide (i<(↑(apb H):Int)))=false→Q (.exit 0) (ae8 S L R H d k i)):an av9 36 5 sD (ae9 S L R H d k i) Q:=
 aS bo 2 (.fork 0 (.leaf [0,1,5,8,9,10] [0,1,2,3,4] [2,3,4]) (.leaf [5] [0,1,2,3,4] [2,3,4])) (fun u=>by kernel_rfl) (mF (c:=decide (i<(↑(apb H):Int))) (fun h0=>(aM L R H (mQ (l3 h0)))) (fun h0=>(aM L R H (mE 0 (l4 h0)))))
abbrev Qv:=fun S L R H d (i:Int)=>(⟨[(0,ao 0),(1,ah 4 (apb H)),(5,aa i),(8,ah 4 (apb H)),(9,aa (apb H)),(10,.int .i64 (apc .i64 (i+1)))],ls S L R H d⟩:aj)
abbrev Qw:=fun S L R H d (i:Int)=>(⟨[(0,ao 0),(1,ah 4 (apb H)),(5,aa (-1)),(8,ah 4 (apb H)),(9,aa (apb H)),(10,.int .i64 (apc .i64 (i+1)))],ls S L R H d⟩:aj)
abbrev afb:=fun S L R H d (i:Int)=>(⟨[(0,ao 0),(1,ah 4 (apb H)),(5,aa (-1)),(8,ah 4 (apb H)),(9,aa (apb H)),(10,aa i)],ls S L R H d⟩:aj)
theorem afc(S L R H d)(i:Int)(pH:(ak H).all af=true)(h0:0≤i)(h1:i<(apb H))(h2:(apb H)≤1000000)(h3:apc .i64 (i+1)=i+1){Q:aQ}(n0:(apG (0+apd i*4+4) (apb (ak H)))=true)(n1:(cA apr (ak H) (0+apd i*4))=true)(n2:(cA apr (ak H) (0+apd i*4+1))=true)(n3:(eS (ak H) (0+apd i*4+1+1))=true)(n4:(oJ (ak H) (0+apd i*4+1+1+1))=true)(l8:(gR (ak H) (0+apd i*4+1+1+1))=true→Q .normal (Qv S L R H d i))(l9:(gR (ak H) (0+apd i*4+1+1+1))=false→Q .normal (Qw S L R H d i)):an av9 36 5 (sD.drop 2) (afb S L R H d i) Q:=
 aS sw 1000 (aA [0,1,1,0,1,1,1,1,1] (.fork 2 (aA [1,1,21,3] (.leaf [0,1,5,8,9,10] [0,1,2,3,4] [2,3,4])) (aA [0,0,0,0] (.leaf [0,1,5,8,9,10] [0,1,2,3,4] [2,3,4])))) (fun u=>by kernel_rfl) (mN (decide_eq_true (by omega):(decide (0≤i))=true) (mN (show(apy (apd i) (apb H))=true by simp at pH h0 h1 h2 h3⊢ <;>omega) (mN n0 (mN n1 (mN n2 (mN n3 (mN n4 (mF (c:=gR (ak H) (0+apd i*4+1+1+1)) (fun h0=>(pZ 4 h0 (aM L R H (mQ (an.done (by kernel_rfl) (l8 h0)))))) (fun h0=>(pZ 4 h0 (aM L R H (mQ (an.done (by kernel_rfl) (l9 h0))))))))))))))
abbrev Qx:=fun S L R H d (k:Nat) (i:Int)=>(⟨[(0,ao 0),(1,ah 4 (apb H)),(5,aa i),(8,ah 4 (apb H)),(9,aa (apb H)),(10,.int .i64 (apc .i64 (i+1)))],ls S L R H d⟩:aj)
abbrev Qy:=fun S L R H d (k:Nat) (i:Int)=>(⟨[(0,ao 0),(1,ah 4 (apb H)),(5,aa k),(8,ah 4 (apb H)),(9,aa (apb H)),(10,.int .i64 (apc .i64 (i+1)))],ls S L R H d⟩:aj)
abbrev Qz:=fun S L R H d (k:Nat) (i:Int)=>(⟨[(0,ao 0),(1,ah 4 (apb H)),(5,aa k),(8,ah 4 (apb H)),(9,aa (apb H)),(10,.int .i64 (apc .i64 (i+1)))],ls S L R H d⟩:aj)
abbrev afd:=fun S L R H d (k:Nat) (i:Int)=>(⟨[(0,ao 0),(1,ah 4 (apb H)),(5,aa k),(8,ah 4 (apb H)),(9,aa (apb H)),(10,aa i)],ls S L R H d⟩:aj)
theorem afe(S L R H d)(k:Nat)(i:Int)(pH:(ak H).all af=true)(h0:0≤i)(h1:i<(apb H))(h2:(apb H)≤1000000)(h3:apc .i64 (i+1)=i+1)(h4:k<(apb H)){Q:aQ}(n0:(apG (0+apd i*4+4) (apb (ak H)))=true)(n1:(cA apr (ak H) (0+apd i*4))=true)(n2:(cA apr (ak H) (0+apd i*4+1))=true)(n3:(eS (ak H) (0+apd i*4+1+1))=true)(n4:(oJ (ak H) (0+apd i*4+1+1+1))=true)(n5:(gR (ak H) (0+apd i*4+1+1+1))=true→(eS (ak H) (0+apd (↑k:Int)*4+2))=true)(n6:(gR (ak H) (0+apd i*4+1+1+1))=true→(qR [ab (aJ S 1 2 3 4) 89,ag.abs d,ab (ap L) 9,ab (aq R) 3,ab (ak H) 114])=true)(j4:(gR (ak H) (0+apd i*4+1+1+1))=true→(decide (aV (ad.aB S) (aX (ak H) (0+apd i*4+1+1)) (aX (ak H) (0+apd (↑k:Int)*4+2))<0))=true→Q .normal (Qx S L R H d k i))(iu:(gR (ak H) (0+apd i*4+1+1+1))=true→(decide (aV (ad.aB S) (aX (ak H) (0+apd i*4+1+1)) (aX (ak H) (0+apd (↑k:Int)*4+2))<0))=false→Q .normal (Qy S L R H d k i))(jY:(gR (ak H) (0+apd i*4+1+1+1))=false→Q .normal (Qz S L R H d k i)):an av9 36 5 (sD.drop 2) (afd S L R H d k i) Q:=
 aS sw 1000 (aA [0,1,1,0,1,1,1,1,1] (.fork 2 (aA [1,1,14,3,4,1,5,1,1,1,1,1,1,3,3] (.fork 0 (.leaf [0,1,5,8,9,10] [0,1,2,3,4] [2,3,4]) (.leaf [0,1,5,8,9,10] [0,1,2,3,4] [2,3,4]))) (aA [0,0,0,0] (.leaf [0,1,5,8,9,10] [0,1,2,3,4] [2,3,4])))) (fun u=>by kernel_rfl) (mN (decide_eq_true (by omega):(decide (0≤i))=true) (mN (show(apy (apd i) (apb H))=true by simp at pH h0 h1 h2 h3 h4⊢ <;>omega) (mN n0 (mN n1 (mN n2 (mN n3 (mN n4 (mF (c:=gR (ak H) (0+apd i*4+1+1+1)) (fun h0=>(pZ 2 h0 (mN (show(apy (apd (↑k:Int)) (apb H))=true by simp at pH h0 h1 h2 h3 h4 h0⊢ <;>omega) (mN (n5 h0) (aM L R H (mN (n6 h0) (aM L R H (pZ 2 h0 (mF (c:=decide (aV (ad.aB S) (aX (ak H) (0+apd i*4+1+1)) (aX (ak H) (0+apd (↑k:Int)*4+2))<0)) (fun h1=>(aM L R H (mQ (an.done (by kernel_rfl) (j4 h0 h1))))) (fun h1=>(aM L R H (mQ (an.done (by kernel_rfl) (iu h0 h1)))))))))))))) (fun h0=>(pZ 4 h0 (aM L R H (mQ (an.done (by kernel_rfl) (jY h0))))))))))))))
abbrev Ij:=fun S L R H d (k:Int)=>(⟨[(4,aa k)],ls S L R H d⟩:aj)
theorem aff(S L R H d)(k:Int){Q:bg}(hq:Q (.ret (aa k)) (Ij S L R H d k).objs):aF av9 53 36 5 Q .ret (Ij S L R H d k):=aF.ret (vs:=[aa k]) (l:=[]) (bs:=[0,1,2,3,4]) (pl:=[2,3,4]) (q:=[ap L,aq R,ak H]) (fun u=>by kernel_rfl) (by kernel_rfl) (gL L R H bc) hq
abbrev afg:=fun S L R H d (k:Int)=>(⟨[(5,aa k)],ls S L R H d⟩:aj)
theorem afh(S L R H d)(k:Int)(pH:(ak H).all af=true){Q:aQ}(l3:Q .ret (Ij S L R H d k)):an av9 36 5 (uE.drop 4) (afg S L R H d k) Q:=
 aS bo 1000 (.leaf [4] [0,1,2,3,4] [2,3,4]) (fun u=>by kernel_rfl) (aM L R H (mR l3))
end
theorem QC{R:List Int}{k:Nat}{x:Int}(h:R[k]?=some x):av (aq R) k=x∧cA .i64 (aq R) k=true:=by
 have hk:k<R.length:=(app.1 h).1
 refine⟨?_,A6 hk⟩
 rw[F3 hk]
 exact(app.1 h).2
theorem QD{R:List Int}{o n i:Nat}(h:i<n)(hr:o+n≤R.length):∃x,R[o+i]?=some x∧((R.drop o).take n).drop i=x::((R.drop o).take n).drop (i+1):=by
 refine⟨R[o+i],apl (by omega),?_⟩
 have hl:i<((R.drop o).take n).length:=by rw[ap8,aqp];omega
 rw[arb hl]
 congr 1
 rw[List.getElem_take,List.getElem_drop]
def Ik(S:ad)(L:List ByteArray)(R:List Int)(H:List au)(o n:Nat)(s:Nat×ay):aj:=⟨[(0,.pointer (some ⟨0,0,none⟩)),(8,.slice (some ⟨3,o,none⟩) n n),(9,iZ n),(10,iZ s.1)],aO S L R H s.2⟩
structure afi(l:List Int)(d0:ay)(s:Nat×ay):Prop where
 i:s.1≤l.length
 e:fK (l.drop s.1) s.2=fK l d0
 ok:cj s.2
theorem QF(S:ad)(L:List ByteArray)(R:List Int)(H:List au)(d:ay)(o n:Nat)(wC:o+n≤R.length)(hn:n≤1000000)(hd:cj d):
 aE av9 78 [.pointer (some ⟨0,0,none⟩),.slice (some ⟨3,o,none⟩) n n] (aO S L R H d) fun r q=>r=.ret (.int .i64 (fK ((R.drop o).take n) d).1)∧q=aO S L R H (fK ((R.drop o).take n) d).2:=by
 have pH:=aU H
 refine aE.cT (n:=cn av9 78) (by kernel_rfl) ?_
 have nG:((R.drop o).take n).length=n:=by rw[ap8,aqp];omega
 apply aej S L R H d o n pH
 ·
  rw[show Qc S L R H d o n=Ik S L R H o n (0,d)from rfl]
  refine an.eU 2 0 (by kernel_rfl) ?_
  refine an.fS (Ik S L R H o n) (fun t=>n-t.1) (afi ((R.drop o).take n) d) (0,d) (by kernel_rfl) ⟨ap7 _,by simp,hd⟩ ?_
  clear hd
  rintro⟨i,d1⟩ ⟨h1,h2,h3⟩
  dsimp only at h1 h2 h3
  apply aem S L R H d1 o n i pH
  case l4=>
   intro g
   have g:=of_decide_eq_false g
   rw[aqU (by omega)]at h2
   have h2:(0,d1)=fK ((R.drop o).take n) d:=h2
   rw[←h2]
   with_reducible (repeat first|refine QL.ret ?_|refine QL.exit ?_|refine QB.ret ?_|refine QB.cp ?_|refine QB.normal ?_|refine QB.cy (by rfl) ?_)
   apply aer S L R H d1 o n pH
   ·exact aep S L R H d1 o n ⟨rfl,rfl⟩
  case l3=>
   intro g
   have g:=of_decide_eq_true g
   obtain⟨x,hx,ww⟩:=QD (R:=R) (o:=o) (n:=n) (i:=i) (by omega) wC
   obtain⟨e1,e2⟩:=QC hx
   rw[ww]at h2
   have hr:=h3.remove x
   apply aeo S L R H d1 o n i pH (by omega) g hn (bI (by omega) (by omega))
   case n0=>rw[show o+apd (i:Int)*1=o+i by simp];exact e2
   case n1=>exact pT.2 h3
   case l5=>
    intro ge
    rw[show o+apd (i:Int)*1=o+i by simp,e1]at ge
    have ge:(eY d1 x).1≠0:=by simpa using ge
    have h2:(if(eY d1 x).1≠0 then eY d1 x else fK (((R.drop o).take n).drop (i+1)) (eY d1 x).2)=fK ((R.drop o).take n) d:=h2
    rw[if_pos ge]at h2
    rw[←h2]
    with_reducible (repeat first|refine QL.ret ?_|refine QL.exit ?_|refine QB.ret ?_|refine QB.cp ?_|refine QB.normal ?_|refine QB.cy (by rfl) ?_)
    unfold Ce
    rw[show o+apd (i:Int)*1=o+i by simp,e1]
    have:=aen S L R H d1 o n i (Q:=fun r q=>r=.ret (.int .i64 (eY d1 x).1)∧q=aO S L R H (eY d1 x).2) (by rw[show o+apd (i:Int)*1=o+i by simp,e1];exact⟨rfl,rfl⟩)
    unfold Ce at this
    rw[show o+apd (i:Int)*1=o+i by simp,e1]at this
    exact this
   case l6=>
    intro ge
    rw[show o+apd (i:Int)*1=o+i by simp,e1]at ge
    have ge:¬(eY d1 x).1≠0:=by simpa using ge
    have h2:(if(eY d1 x).1≠0 then eY d1 x else fK (((R.drop o).take n).drop (i+1)) (eY d1 x).2)=fK ((R.drop o).take n) d:=h2
    rw[if_neg ge]at h2
    refine QL.to (i+1,(eY d1 x).2) ⟨by dsimp only;omega,h2,hr.1⟩ (by dsimp only;omega) ?_
    unfold Qe Ik
    rw[show o+apd (i:Int)*1=o+i by simp,e1,fA (by omega)]
    rfl
theorem afj(A C:List ape)(a b c e x y z:ape):a8 (a8 (a8 (A++([a,b,c,e]++C)) (A.length+3) [x]) (A.length+2) [y]) (A.length+1) [z]=A++([a,z,y,x]++C):=by
 have one:∀(U V:List ape) (u v:ape),a8 (U++(u::V)) U.length [v]=U++(v::V):=fun U V u v=>by
  unfold a8
  rw[au7,apK,show U.length+[v].length=(U++[u]).length by simp,show U++u::V=(U++[u])++V by simp,avf]
  ·rfl
  ·rfl
 have s1:a8 (A++([a,b,c,e]++C)) (A.length+3) [x]=A++([a,b,c,x]++C):=by
  have:=one (A++[a,b,c]) C e x
  simpa using this
 have s2:a8 (A++([a,b,c,x]++C)) (A.length+2) [y]=A++([a,b,y,x]++C):=by
  have:=one (A++[a,b]) (x::C) c y
  simpa using this
 have s3:a8 (A++([a,b,y,x]++C)) (A.length+1) [z]=A++([a,z,y,x]++C):=by
  have:=one (A++[a]) (y::x::C) b z
  simpa using this
 rw[s1,s2,s3]
theorem afk(A C:List ape)(a b c e x y:ape):a8 (a8 (A++([a,b,c,e]++C)) (A.length+3) [x]) (A.length+2) [y]=A++([a,b,y,x]++C):=by
 have one:∀(U V:List ape) (u v:ape),a8 (U++(u::V)) U.length [v]=U++(v::V):=fun U V u v=>by
  unfold a8
  rw[au7,apK,show U.length+[v].length=(U++[u]).length by simp,show U++u::V=(U++[u])++V by simp,avf]
  ·rfl
  ·rfl
 have s1:a8 (A++([a,b,c,e]++C)) (A.length+3) [x]=A++([a,b,c,x]++C):=by
  have:=one (A++[a,b,c]) C e x
  simpa using this
 have s2:a8 (A++([a,b,c,x]++C)) (A.length+2) [y]=A++([a,b,y,x]++C):=by
  have:=one (A++[a,b]) (x::C) c y
  simpa using this
 rw[s1,s2]
theorem oB{a b:List ape}{n:Nat}(h:n+b.length≤a.length):(a8 a n b).length=a.length:=by
 unfold a8
 simp only[apv,ap8,aqp]
 omega
theorem QG{H:List au}{k:Nat}(hk:k<H.length):∃A C:List ape,ak H=A++(kr (aP H k)++C)∧A.length=k*4∧∀h',ak (H.set k h')=A++(kr h'++C):=by
 refine⟨ak (H.take k),ak (H.drop (k+1)),?_,?_,fun h'=>?_⟩
 ·conv=>lhs;rw[←List.take_append_drop k H]
  unfold ak
  rw[aqa,att,arb hk]
  have:H[k]=aP H k:=by
   have:=Cf hk
   rw[apl hk]at this
   exact asC this
  rw[this]
  rfl
 ·rw[yD,ap8];rw[show min k H.length=k by omega]
 ·rw[List.set_eq_take_append_cons_drop,if_pos hk]
  unfold ak
  rw[aqa,att]
  rfl
theorem QH(A C:List ape)(a b c e:ape):(A++([a,b,c,e]++C))[A.length]?=some a∧(A++([a,b,c,e]++C))[A.length+1]?=some b∧(A++([a,b,c,e]++C))[A.length+2]?=some c∧(A++([a,b,c,e]++C))[A.length+3]?=some e:=by
 refine⟨?_,?_,?_,?_⟩
 ·simp
 ·rw[apZ (by omega),show A.length+1-A.length=1 by omega];rfl
 ·rw[apZ (by omega),show A.length+2-A.length=2 by omega];rfl
 ·rw[apZ (by omega),show A.length+3-A.length=3 by omega];rfl
theorem bytesOf_take(b:ByteArray)(n:Nat):bytesOf ((ai b).take n)=some (b.data.toList.take n):=by
 unfold ai
 rw[←List.map_take]
 exact MM _
theorem Cj(b:ByteArray)(n:Nat)(h:n≤b.size):(cut (ai b) 0 n).bind bytesOf=some (b.data.toList.take n):=by
 unfold cut
 rw[show apG (0+n) (ai b).length=true from apU (by rw[nj];omega)]
 exact bytesOf_take b n
theorem QI(b:ByteArray)(n:Nat):ap0 (b.data.toList.take n).toArray=b.extract 0 n:=by
 apply ByteArray.ext
 apply Array.ext'
 simp
theorem Il(k:Int):(if 0>k then 0 else k)=max k 0:=by
 by_cases h:0>k
 ·rw[if_pos h];omega
 ·rw[if_neg h];omega
theorem Im{H:List au}{k:Nat}(hk:k<H.length):(ak H)[k*4]?=some (.int .i64 (aP H k).no)∧(ak H)[k*4+1]?=some (.int .i64 (aP H k).at_)∧(ak H)[k*4+2]?=some (.string (aP H k).line)∧(ak H)[k*4+3]?=some (.bool (aP H k).there):=by
 obtain⟨A,C,h1,h2,_⟩:=QG hk
 rw[h1,←h2]
 exact QH A C _ _ _ _
theorem QJ{H:List au}{k:Nat}(hk:k<H.length):av (ak H) (k*4)=(aP H k).no∧cA .i64 (ak H) (k*4)=true:=by
 unfold av cA;rw[(Im hk).1];exact⟨rfl,rfl⟩
theorem QK{H:List au}{k:Nat}(hk:k<H.length):av (ak H) (k*4+1)=(aP H k).at_∧cA .i64 (ak H) (k*4+1)=true:=by
 unfold av cA;rw[(Im hk).2.1];exact⟨rfl,rfl⟩
theorem Ck{H:List au}{k:Nat}(hk:k<H.length)(b:ByteArray)(h0:0≤(aP H k).at_)(h1:(aP H k).at_≤1000000)(hb:b.size≤65):
 a8 (a8 (a8 (ak H) (k*4+3) [aqj (decide (a7 b 10 ≥ 0))]) (k*4+2) [apJ (ap0 (ap9 (apD (aqc (cut (ai b) 0 (apd (if 0>a7 b 10 then 0 else a7 b 10)-0)) bytesOf) [])))]) (k*4+1) [apm apr (apc .i64 (av (a8 (a8 (ak H) (k*4+3) [aqj (decide (a7 b 10 ≥ 0))]) (k*4+2) [apJ (ap0 (ap9 (apD (aqc (cut (ai b) 0 (apd (if 0>a7 b 10 then 0 else a7 b 10)-0)) bytesOf) [])))]) (k*4+1)+apc .i64 (a7 b 10+1)))]=ak (H.set k (B9 (aP H k) b))∧
 cA .i64 (a8 (a8 (ak H) (k*4+3) [aqj (decide (a7 b 10 ≥ 0))]) (k*4+2) [apJ (ap0 (ap9 (apD (aqc (cut (ai b) 0 (apd (if 0>a7 b 10 then 0 else a7 b 10)-0)) bytesOf) [])))]) (k*4+1)=true:=by
 obtain⟨A,C,e1,e2,e3⟩:=QG hk
 have k0:=P0 b 10
 have k1:=B8 b 10
 rw[Il,asc]
 have hn:(max (a7 b 10) 0).toNat≤b.size:=by
  by_cases h:0≤a7 b 10
  ·have:=k1 h;omega
  ·omega
 have aor:a7 b 10≤64:=by
  by_cases h:0≤a7 b 10
  ·have:=k1 h;omega
  ·omega
 rw[Cj b _ hn,Option.getD_some,QI,e3,e1,←e2]
 have hm:(a8 (a8 (A++(kr (aP H k)++C)) (A.length+3) [aqj (decide (a7 b 10 ≥ 0))]) (A.length+2) [apJ (b.extract 0 (max (a7 b 10) 0).toNat)])[A.length+1]?=some (.int .i64 (aP H k).at_):=by
  unfold kr
  rw[afk]
  exact(QH A C _ _ _ _).2.1
 have hi:av (a8 (a8 (A++(kr (aP H k)++C)) (A.length+3) [aqj (decide (a7 b 10 ≥ 0))]) (A.length+2) [apJ (b.extract 0 (max (a7 b 10) 0).toNat)]) (A.length+1)=(aP H k).at_:=by
  unfold av;rw[hm]
 refine⟨?_,?_⟩
 ·rw[hi,bI (z:=a7 b 10+1) (by omega) (by omega),bI (by omega) (by omega)]
  unfold kr
  rw[afj]
  rfl
 ·unfold cA;rw[hm];rfl
theorem Cm{d:ay}{no p:Int}(h:(aK d no p 65).2.1=0):(aK d no p 65).1.size≤65:=by
 have:=(P3 h).2.2
 omega
theorem QM{H:List au}{k:Nat}(hk:k<H.length):H.set k (aP H k)=H:=by
 apply List.ext_getElem?
 intro i
 rw[List.getElem?_set]
 split
 ·rename_i e
  subst e
  exact(Cf hk).symm
 ·rfl
theorem QN{h:au}{d:ay}(e:(aK d h.no h.at_ 65).2.1=0):bW h d=(0,B9 h (aK d h.no h.at_ 65).1,(aK d h.no h.at_ 65).2.2):=by
 unfold bW;rw[if_neg (fun g=>g e)]
theorem QO{h:au}{d:ay}(e:(aK d h.no h.at_ 65).2.1≠0):bW h d=((aK d h.no h.at_ 65).2.1,h,(aK d h.no h.at_ 65).2.2):=by
 unfold bW;rw[if_pos e]
theorem QP(S:ad)(L:List ByteArray)(R:List Int)(H:List au)(d:ay)(l:List au)(k:Nat)(hk:k<l.length)(hok:o5 (aP l k))(hd:cj d):
 aE av9 54 [.pointer (some ⟨0,0,none⟩),.pointer (some ⟨5,k*4,none⟩)] (aO S L R H d++[.cells (ak l) 114 false]) fun r q=>
  r=.ret (.int .i64 (bW (aP l k) d).1)∧q=aO S L R H (bW (aP l k) d).2.2++[.cells (ak (l.set k (bW (aP l k) d).2.1)) 114 false]:=by
 have pH:=aU H
 have pl:=aU l
 obtain⟨a0,b0⟩:=QJ hk
 obtain⟨a1,b1⟩:=QK hk
 have hlen:k*4+4≤(ak l).length:=by rw[yD];omega
 have a0:av (ak l) (k*4+0)=(aP l k).no:=a0
 have k0:∀b:ByteArray,(if 0>a7 b 10 then 0 else a7 b 10).toNat≤b.size:=fun b=>by
  have:=B8 b 10
  rw[Il]
  by_cases h:0≤a7 b 10
  ·have:=this h;omega
  ·omega
 refine aE.cT (n:=cn av9 54) (by kernel_rfl) ?_
 apply aev S L R H d (ak l) (k*4) pH pl b0 b1 hlen
 case aR=>simp
 case be=>simp
 case bB=>exact pH
 case br=>exact pl
 case n0=>exact pT.2 hd
 case n1=>intro _;exact H8.2 ⟨_,rfl,rfl,rfl,rfl⟩
 case n2=>intro _;rw[a0,a1,jl];exact apU (k0 _)
 case n3=>intro _;rw[a0,a1,jl,asc,Cj _ _ (k0 _)];rfl
 case n4=>intro _;rw[oB (by show k*4+3+1≤_;omega)];exact apU (by omega)
 case n6=>
  intro _
  rw[oB (by rw[oB (by show k*4+3+1≤_;omega)];show k*4+2+1≤_;omega),oB (by show k*4+3+1≤_;omega)]
  exact apU (by omega)
 case n5=>
  intro g
  rw[a0,a1]at g
  have g:(aK d (aP l k).no (aP l k).at_ 65).2.1=0:=by simpa using g
  rw[a0,a1,jl]
  exact(Ck hk _ hok.iX hok.lU (Cm g)).2
 case j4=>
  intro g
  rw[a0,a1]at g
  have g:(aK d (aP l k).no (aP l k).at_ 65).2.1=0:=by simpa using g
  have hn:=(Ck hk _ hok.iX hok.lU (Cm g)).1
  refine aes S L R H d (ak l) (k*4) ?_ ?_
  ·rw[a0,a1,jl,hn];exact aU _
  ·rw[a0,a1,jl,hn,QN g];exact⟨rfl,rfl⟩
 case jY=>
  intro g
  rw[a0,a1]at g
  have g:(aK d (aP l k).no (aP l k).at_ 65).2.1≠0:=by simpa using g
  refine aet S L R H d (ak l) (k*4) pl ?_
  rw[a0,a1,QO g,QM hk];exact⟨rfl,rfl⟩
theorem afl(S:ad)(L:List ByteArray)(R:List Int)(l:List au)(d:ay)(k:Nat)(hk:k<l.length)(hok:o5 (aP l k))(hd:cj d):
 aE av9 54 [.pointer (some ⟨0,0,none⟩),.pointer (some ⟨4,k*4,none⟩)] (aO S L R l d) fun r q=>
  r=.ret (.int .i64 (bW (aP l k) d).1)∧q=aO S L R (l.set k (bW (aP l k) d).2.1) (bW (aP l k) d).2.2:=by
 have pl:=aU l
 obtain⟨a0,b0⟩:=QJ hk
 obtain⟨a1,b1⟩:=QK hk
 have hlen:k*4+4≤(ak l).length:=by rw[yD];omega
 have a0:av (ak l) (k*4+0)=(aP l k).no:=a0
 have k0:∀b:ByteArray,(if 0>a7 b 10 then 0 else a7 b 10).toNat≤b.size:=fun b=>by
  have:=B8 b 10
  rw[Il]
  by_cases h:0≤a7 b 10
  ·have:=this h;omega
  ·omega
 refine aE.cT (n:=cn av9 54) (by kernel_rfl) ?_
 apply aez S L R d (ak l) (k*4) pl b0 b1 hlen
 case aR=>simp
 case be=>simp
 case bB=>exact pl
 case n0=>exact pT.2 hd
 case n1=>intro _;exact H8.2 ⟨_,rfl,rfl,rfl,rfl⟩
 case n2=>intro _;rw[a0,a1,jl];exact apU (k0 _)
 case n3=>intro _;rw[a0,a1,jl,asc,Cj _ _ (k0 _)];rfl
 case n4=>intro _;rw[oB (by show k*4+3+1≤_;omega)];exact apU (by omega)
 case n6=>
  intro _
  rw[oB (by rw[oB (by show k*4+3+1≤_;omega)];show k*4+2+1≤_;omega),oB (by show k*4+3+1≤_;omega)]
  exact apU (by omega)
 case n5=>
  intro g
  rw[a0,a1]at g
  have g:(aK d (aP l k).no (aP l k).at_ 65).2.1=0:=by simpa using g
  rw[a0,a1,jl]
  exact(Ck hk _ hok.iX hok.lU (Cm g)).2
 case l9=>
  intro g
  rw[a0,a1]at g
  have g:(aK d (aP l k).no (aP l k).at_ 65).2.1=0:=by simpa using g
  have hn:=(Ck hk _ hok.iX hok.lU (Cm g)).1
  refine aew S L R d (ak l) (k*4) ?_ ?_
  ·rw[a0,a1,jl,hn];exact aU _
  ·rw[a0,a1,jl,hn,QN g];exact⟨rfl,rfl⟩
 case iu=>
  intro g
  rw[a0,a1]at g
  have g:(aK d (aP l k).no (aP l k).at_ 65).2.1≠0:=by simpa using g
  refine aex S L R d (ak l) (k*4) pl ?_
  rw[a0,a1,QO g,QM hk];exact⟨rfl,rfl⟩
theorem QQ:bR av9 114=some 4:=by kernel_rfl
def p8(S:ad)(L:List ByteArray)(R:List Int)(H:List au)(x:Int×List au×ay)(r:bx)(q:List ag):Prop:=
 if x.1=0 then r=.ret (.tuple #[.slice (some ⟨5,0,none⟩) x.2.1.length x.2.1.length,.int .i64 0])∧q=aO S L R H x.2.2++[.cells (ak x.2.1) 114 false]
 else r=.ret (.tuple #[.slice none 0 0,.int .i64 x.1])∧q=aO S L R H x.2.2
def QR(S:ad)(L:List ByteArray)(R:List Int)(H:List au)(x:Int×List au×ay):Bool→QT (bx×List ag)
 |true=>.done (.ret (.tuple #[.slice (some ⟨5,0,none⟩) x.2.1.length x.2.1.length,.int .i64 0]),aO S L R H x.2.2++[.cells (ak x.2.1) 114 false])
 |false=>.done (.ret (.tuple #[.slice none 0 0,.int .i64 x.1]),aO S L R H x.2.2)
noncomputable def y3(S:ad)(L:List ByteArray)(R:List Int)(H:List au)(d:ay)(o n:Nat)(x:Int×List au×ay):Sum:=⟨fun _ _=>some [0,1,2,3,4],fun a ob=>.rS (eD a [.pointer (some ⟨0,0,none⟩),.slice (some ⟨3,o,none⟩) n n] ob (aO S L R H d)) (.ask (x.1==0) (QR S L R H x))⟩
theorem afm{a args:List ape}{o objs:List ag}(h:eD a args o objs=true):a=args∧o=objs:=by
 unfold eD at h
 exact @of_decide_eq_true _ (Classical.propDecidable _) h
theorem QS{S:ad}{L:List ByteArray}{R:List Int}{H:List au}{d:ay}{o n:Nat}{x:Int×List au×ay}(h:aE av9 76 [.pointer (some ⟨0,0,none⟩),.slice (some ⟨3,o,none⟩) n n] (aO S L R H d) (p8 S L R H x)):
 bp av9 76 (y3 S L R H d o n x):=by
 intro a ob r o' hg
 unfold y3 at hg
 dsimp only at hg
 obtain⟨h1,vG⟩:=QT.tT hg
 obtain⟨rfl,rfl⟩:=afm h1
 refine h.mono fun r1 o1 hp=>?_
 unfold p8 at hp
 have hg:(QR S L R H x (x.1==0)).run=some (r,o'):=vG
 cases hk:(x.1==0)with
 |true=>
  rw[hk]at hg
  cases hg
  rw[if_pos (by simpa using hk)]at hp
  exact hp
 |false=>
  rw[hk]at hg
  cases hg
  rw[if_neg (by simpa using hk)]at hp
  exact hp
structure afn(l:List au)(i:Nat):Prop where
 n0:apG (0+apd (i:Int)*4+4) (ak l).length=true
 n1:cA .i64 (ak l) (0+apd (i:Int)*4)=true
 n2:cA .i64 (ak l) (0+apd (i:Int)*4+1)=true
 n3:eS (ak l) (0+apd (i:Int)*4+1+1)=true
 n4:oJ (ak l) (0+apd (i:Int)*4+1+1+1)=true
 b:gR (ak l) (0+apd (i:Int)*4+1+1+1)=(aP l i).there
 s:aX (ak l) (0+apd (i:Int)*4+1+1)=(aP l i).line
 s2:aX (ak l) (0+apd (i:Int)*4+2)=(aP l i).line
 n5:eS (ak l) (0+apd (i:Int)*4+2)=true
theorem rowAt{l:List au}{i:Nat}(h:i<l.length):afn l i:=by
 obtain⟨a,b,c,d⟩:=Im h
 have e:0+apd (i:Int)*4=i*4:=by simp
 refine⟨?_,?_,?_,?_,?_,?_,?_,?_,?_⟩
 ·rw[e,yD];exact apU (by omega)
 ·rw[e];unfold cA;rw[a];rfl
 ·rw[e];unfold cA;rw[b];rfl
 ·rw[e];unfold eS;rw[show i*4+1+1=i*4+2 from rfl,c]
 ·rw[e];unfold oJ;rw[show i*4+1+1+1=i*4+3 from rfl,d]
 ·rw[e];unfold gR;rw[show i*4+1+1+1=i*4+3 from rfl,d]
 ·rw[e];unfold aX;rw[show i*4+1+1=i*4+2 from rfl,c]
 ·rw[e];unfold aX;rw[c]
 ·rw[e];unfold eS;rw[c]
def Ip(S:ad)(L:List ByteArray)(R:List Int)(H:List au)(o n:Nat)(s:Nat×List au×ay):aj:=
 ⟨[(0,.pointer (some ⟨0,0,none⟩)),(6,.slice (some ⟨5,0,none⟩) s.2.1.length s.2.1.length),(11,.slice (some ⟨3,o,none⟩) n n),(12,.int .i64 n),(13,iZ s.1)],aO S L R H s.2.2++[.cells (ak s.2.1) 114 false]⟩
structure afo(l:List Int)(d0:ay)(s:Nat×List au×ay):Prop where
 i:s.1≤l.length
 e:dS (l.drop s.1) s.2.1 s.2.2=dS l [] d0
 ok:cj s.2.2
 bQ:s.2.1.length=s.1
theorem afp(l:List au)(y:au):ak l++[apm apr y.no,apm apr y.at_,apJ y.line,aqj y.there]=ak (l++[y]):=by
 unfold ak
 rw[aqa,att]
 simp[kr]
theorem QU(S:ad)(L:List ByteArray)(R:List Int)(H:List au)(d:ay)(o n:Nat)(wC:o+n≤R.length)(hn:n≤900000)(hd:cj d):
 aE av9 76 [.pointer (some ⟨0,0,none⟩),.slice (some ⟨3,o,none⟩) n n] (aO S L R H d) (p8 S L R H (dS ((R.drop o).take n) [] d)):=by
 have pH:=aU H
 have nG:((R.drop o).take n).length=n:=by rw[ap8,aqp];omega
 refine aE.cT (n:=cn av9 76) (by kernel_rfl) ?_
 apply aeF S L R H d o n pH
 ·
  refine an.Ba 6 114 (s:=4) QQ (by rfl) (by rfl) (by rfl:_=Ip S L R H o n (0,[],d)) ?_
  refine an.eU 3 0 (by kernel_rfl) ?_
  refine an.fS (Ip S L R H o n) (fun t=>n-t.1) (afo ((R.drop o).take n) d) (0,[],d) (by kernel_rfl) ⟨ap7 _,by simp,hd,rfl⟩ ?_
  clear hd
  rintro⟨i,l,d1⟩ ⟨h1,h2,h3,h4⟩
  dsimp only at h1 h2 h3 h4
  have pl:=aU l
  apply aeJ S L R H d1 l o n i pH pl
  case l5=>
   intro g
   have g:=of_decide_eq_false g
   rw[aqU (by omega)]at h2
   have h2:(0,l,d1)=dS ((R.drop o).take n) [] d:=h2
   rw[←h2]
   with_reducible (repeat first|refine QL.ret ?_|refine QL.exit ?_|refine QB.ret ?_|refine QB.cp ?_|refine QB.normal ?_|refine QB.cy (by rfl) ?_)
   apply aeP S L R H d1 l pH pl
   ·
    refine aeN S L R H d1 l ?_
    unfold p8
    rw[if_pos rfl]
    exact⟨rfl,rfl⟩
  case l4=>
   intro g
   have g:=of_decide_eq_true g
   obtain⟨x,hx,ww⟩:=QD (R:=R) (o:=o) (n:=n) (i:=i) (by omega) wC
   obtain⟨e1,e2⟩:=QC hx
   rw[ww]at h2
   have ei:o+apd (i:Int)*1=o+i:=by simp
   have gd:=QP S L R H d1 [⟨x,0,apj,false⟩] 0 (by simp) ⟨Int.le_refl _,by show(0:Int)≤1000000;omega,ap7 _⟩ h3
   have h5:=h3.bW ⟨x,0,apj,false⟩
   have h2:(if(bW ⟨x,0,apj,false⟩ d1).1≠0 then((bW ⟨x,0,apj,false⟩ d1).1,[],(bW ⟨x,0,apj,false⟩ d1).2.2)else dS (((R.drop o).take n).drop (i+1)) (l++[(bW ⟨x,0,apj,false⟩ d1).2.1]) (bW ⟨x,0,apj,false⟩ d1).2.2)=dS ((R.drop o).take n) [] d:=h2
   have gd:aE av9 54 [.pointer (some ⟨0,0,none⟩),.pointer (some ⟨5,0,none⟩)] (aO S L R H d1++[.cells (kr ⟨x,0,apj,false⟩) 114 false]) fun r q=>r=.ret (.int .i64 (bW ⟨x,0,apj,false⟩ d1).1)∧q=aO S L R H (bW ⟨x,0,apj,false⟩ d1).2.2++[.cells (kr (bW ⟨x,0,apj,false⟩ d1).2.1) 114 false]:=by
    refine gd.mono fun r q hq=>?_
    obtain⟨q1,q2⟩:=hq
    refine⟨q1,q2.trans ?_⟩
    show aO S L R H _++[.cells (ak [_]) _ false]=_
    unfold ak
    rw[List.map_cons,List.map_nil,List.flatten_cons,List.flatten_nil,List.append_nil]
    rfl
   generalize bW ⟨x,0,apj,false⟩ d1=rr at gd h5 h2
   obtain⟨e,y,dd⟩:=rr
   dsimp only at gd h5 h2
   apply aeM S L R H d1 l o n x e y dd i pH pl gd (by omega) g (by omega) (bI (by omega) (by omega)) (by omega)
   case aR=>simp
   case be=>simp
   case bB=>exact pH
   case n0=>rw[ei];exact e2
   case n1=>rw[ei,e1];exact fo rfl rfl
   case n6=>intro _;exact apU (by omega)
   case n7=>intro _;rw[yD,Nat.zero_add];exact Nat.beq_refl _
   case l5=>
    intro ge
    have ge:e≠0:=by simpa using ge
    rw[if_pos ge]at h2
    rw[←h2]
    with_reducible (repeat first|refine QL.ret ?_|refine QL.exit ?_|refine QB.ret ?_|refine QB.cp ?_|refine QB.normal ?_|refine QB.cy (by rfl) ?_)
    refine aeK S L R H d1 l o n x e y dd i ?_
    unfold p8
    rw[if_neg ge]
    exact⟨rfl,rfl⟩
   case l8=>
    intro ge
    have ge:¬e≠0:=by simpa using ge
    rw[if_neg ge]at h2
    refine QL.to (i+1,l++[y],dd) ⟨by dsimp only;omega,h2,h5,by dsimp only;rw[apv,h4];rfl⟩ (by dsimp only;omega) ?_
    unfold Qo Ip
    rw[afp,fA (by omega)]
    dsimp only
    rw[apv]
    rfl
def leI(ob:List ag)(b:Nat)(H:List au)(s:Nat×Option Nat):aj:=
 ⟨[(0,.pointer (some ⟨0,0,none⟩)),(1,.slice (some ⟨b,0,none⟩) H.length H.length),(5,.int .i64 (kI s.2)),(8,.slice (some ⟨b,0,none⟩) H.length H.length),(9,.int .i64 (H.length:Int)),(10,iZ s.1)],ob⟩
structure Cn(f:Bool)(H:List au)(s:Nat×Option Nat):Prop where
 i:s.1≤H.length
 e:kw f H (H.drop s.1) s.1 s.2=eI f H
 k:∀j,s.2=some j→j<H.length
theorem Iq{H:List au}{i:Nat}(h:i<H.length):H.drop i=aP H i::H.drop (i+1):=by
 rw[arb h]
 congr 1
 have:=Cf h
 rw[apl h]at this
 exact asC this
theorem QV(S:ad)(L:List ByteArray)(R:List Int)(H:List au)(d:ay)(l:List au)(hl:l.length≤1000000):
 aE av9 53 [.pointer (some ⟨0,0,none⟩),.slice (some ⟨5,0,none⟩) l.length l.length] (aO S L R H d++[.cells (ak l) 114 false]) fun r q=>
  r=.ret (.int .i64 (kI (eI S.aB l)))∧q=aO S L R H d++[.cells (ak l) 114 false]:=by
 have pH:=aU H
 have pl:=aU l
 refine aE.cT (n:=cn av9 53) (by kernel_rfl) ?_
 apply aeS S L R H d l pH pl
 ·
  refine an.eU 3 0 (by kernel_rfl) ?_
  refine an.fS (leI (aO S L R H d++[.cells (ak l) 114 false]) 5 l) (fun t=>l.length-t.1) (Cn S.aB l) (0,none) (by kernel_rfl) ⟨ap7 _,rfl,fun j h=>by cases h⟩ ?_
  rintro⟨i,k⟩ ⟨h1,h2,h3⟩
  dsimp only at h1 h2 h3
  apply aeW S L R H d l (kI k) i pH pl
  case l5=>
   intro g
   have g:=of_decide_eq_false g
   rw[aqU (by omega)]at h2
   have h2:k=eI S.aB l:=h2
   rw[←h2]
   with_reducible (repeat first|refine QL.ret ?_|refine QL.exit ?_|refine QB.ret ?_|refine QB.cp ?_|refine QB.normal ?_|refine QB.cy (by rfl) ?_)
   apply ae3 S L R H d l (kI k) pH pl
   ·exact ae1 S L R H d l (kI k) ⟨rfl,rfl⟩
  case l4=>
   intro g
   have g:=of_decide_eq_true g
   have hi:i<l.length:=by omega
   obtain⟨n0,n1,n2,n3,n4,xb,xs,QW,n5⟩:=rowAt hi
   rw[Iq hi]at h2
   have h2:kw S.aB l (l.drop (i+1)) (i+1) (if jn S.aB l (aP l i) k then some i else k)=eI S.aB l:=h2
   have next:∀k',kw S.aB l (l.drop (i+1)) (i+1) k'=eI S.aB l→(∀j,k'=some j→j<l.length)→Cn S.aB l (i+1,k'):=fun k' a b=>⟨hi,a,b⟩
   cases k with
   |none=>
    apply aeY S L R H d l i pH pl (by omega) g hl (bI (by omega) (by omega)) n0 n1 n2 n3 n4
    case l9=>
     intro gb
     rw[xb]at gb
     rw[show jn S.aB l (aP l i) none=true from gb,if_pos rfl]at h2
     refine QL.to (i+1,some i) (next _ h2 fun j h=>by cases h;exact hi) (by dsimp only;omega) ?_
     unfold Qq leI
     rw[fA (by omega)]
     rfl
    case j4=>
     intro gb
     rw[xb]at gb
     rw[show jn S.aB l (aP l i) none=false from gb,if_neg (by simp)]at h2
     refine QL.to (i+1,none) (next _ h2 fun j h=>by cases h) (by dsimp only;omega) ?_
     unfold Qr leI
     rw[fA (by omega)]
     rfl
   |some k=>
    have hk:=h3 k rfl
    have r2:=rowAt hk
    apply ae0 S L R H d l k i pH pl (by omega) g hl (bI (by omega) (by omega)) hk n0 n1 n2 n3 n4
    case n5=>intro _;exact r2.n5
    case n6=>intro _;exact wh rfl
    case iu=>
     intro gb gc
     rw[xb]at gb
     rw[xs,r2.s2]at gc
     rw[show jn S.aB l (aP l i) (some k)=true by show((aP l i).there&&decide (aV S.aB (aP l i).line (aP l k).line<0))=true;rw[gb,gc];rfl,if_pos rfl]at h2
     refine QL.to (i+1,some i) (next _ h2 fun j h=>by cases h;exact hi) (by dsimp only;omega) ?_
     unfold Qs leI
     rw[fA (by omega)]
     rfl
    case jY=>
     intro gb gc
     rw[xs,r2.s2]at gc
     rw[show jn S.aB l (aP l i) (some k)=false by show((aP l i).there&&decide (aV S.aB (aP l i).line (aP l k).line<0))=false;rw[gc,avg],if_neg (by simp)]at h2
     refine QL.to (i+1,some k) (next _ h2 fun j h=>by cases h;exact hk) (by dsimp only;omega) ?_
     unfold Qt leI
     rw[fA (by omega)]
     rfl
    case nt=>
     intro gb
     rw[xb]at gb
     rw[show jn S.aB l (aP l i) (some k)=false by show((aP l i).there&&decide (aV S.aB (aP l i).line (aP l k).line<0))=false;rw[gb,asN],if_neg (by simp)]at h2
     refine QL.to (i+1,some k) (next _ h2 fun j h=>by cases h;exact hk) (by dsimp only;omega) ?_
     unfold Qu leI
     rw[fA (by omega)]
     rfl
theorem afq(S:ad)(L:List ByteArray)(R:List Int)(d:ay)(l:List au)(hl:l.length≤1000000):
 aE av9 53 [.pointer (some ⟨0,0,none⟩),.slice (some ⟨4,0,none⟩) l.length l.length] (aO S L R l d) fun r q=>
  r=.ret (.int .i64 (kI (eI S.aB l)))∧q=aO S L R l d:=by
 have pl:=aU l
 refine aE.cT (n:=cn av9 53) (by kernel_rfl) ?_
 apply ae6 S L R l d pl
 ·
  refine an.eU 3 0 (by kernel_rfl) ?_
  refine an.fS (leI (aO S L R l d) 4 l) (fun t=>l.length-t.1) (Cn S.aB l) (0,none) (by kernel_rfl) ⟨ap7 _,rfl,fun j h=>by cases h⟩ ?_
  rintro⟨i,k⟩ ⟨h1,h2,h3⟩
  dsimp only at h1 h2 h3
  apply afa S L R l d (kI k) i pl
  case l4=>
   intro g
   have g:=of_decide_eq_false g
   rw[aqU (by omega)]at h2
   have h2:k=eI S.aB l:=h2
   rw[←h2]
   with_reducible (repeat first|refine QL.ret ?_|refine QL.exit ?_|refine QB.ret ?_|refine QB.cp ?_|refine QB.normal ?_|refine QB.cy (by rfl) ?_)
   apply afh S L R l d (kI k) pl
   ·exact aff S L R l d (kI k) ⟨rfl,rfl⟩
  case l3=>
   intro g
   have g:=of_decide_eq_true g
   have hi:i<l.length:=by omega
   obtain⟨n0,n1,n2,n3,n4,xb,xs,QW,n5⟩:=rowAt hi
   rw[Iq hi]at h2
   have h2:kw S.aB l (l.drop (i+1)) (i+1) (if jn S.aB l (aP l i) k then some i else k)=eI S.aB l:=h2
   have next:∀k',kw S.aB l (l.drop (i+1)) (i+1) k'=eI S.aB l→(∀j,k'=some j→j<l.length)→Cn S.aB l (i+1,k'):=fun k' a b=>⟨hi,a,b⟩
   cases k with
   |none=>
    apply afc S L R l d i pl (by omega) g hl (bI (by omega) (by omega)) n0 n1 n2 n3 n4
    case l8=>
     intro gb
     rw[xb]at gb
     rw[show jn S.aB l (aP l i) none=true from gb,if_pos rfl]at h2
     refine QL.to (i+1,some i) (next _ h2 fun j h=>by cases h;exact hi) (by dsimp only;omega) ?_
     unfold Qv leI
     rw[fA (by omega)]
     rfl
    case l9=>
     intro gb
     rw[xb]at gb
     rw[show jn S.aB l (aP l i) none=false from gb,if_neg (by simp)]at h2
     refine QL.to (i+1,none) (next _ h2 fun j h=>by cases h) (by dsimp only;omega) ?_
     unfold Qw leI
     rw[fA (by omega)]
     rfl
   |some k=>
    have hk:=h3 k rfl
    have r2:=rowAt hk
    apply afe S L R l d k i pl (by omega) g hl (bI (by omega) (by omega)) hk n0 n1 n2 n3 n4
    case n5=>intro _;exact r2.n5
    case n6=>intro _;exact wh rfl
    case j4=>
     intro gb gc
     rw[xb]at gb
     rw[xs,r2.s2]at gc
     rw[show jn S.aB l (aP l i) (some k)=true by show((aP l i).there&&decide (aV S.aB (aP l i).line (aP l k).line<0))=true;rw[gb,gc];rfl,if_pos rfl]at h2
     refine QL.to (i+1,some i) (next _ h2 fun j h=>by cases h;exact hi) (by dsimp only;omega) ?_
     unfold Qx leI
     rw[fA (by omega)]
     rfl
    case iu=>
     intro gb gc
     rw[xs,r2.s2]at gc
     rw[show jn S.aB l (aP l i) (some k)=false by show((aP l i).there&&decide (aV S.aB (aP l i).line (aP l k).line<0))=false;rw[gc,avg],if_neg (by simp)]at h2
     refine QL.to (i+1,some k) (next _ h2 fun j h=>by cases h;exact hk) (by dsimp only;omega) ?_
     unfold Qy leI
     rw[fA (by omega)]
     rfl
    case jY=>
     intro gb
     rw[xb]at gb
     rw[show jn S.aB l (aP l i) (some k)=false by show((aP l i).there&&decide (aV S.aB (aP l i).line (aP l k).line<0))=false;rw[gb,asN],if_neg (by simp)]at h2
     refine QL.to (i+1,some k) (next _ h2 fun j h=>by cases h;exact hk) (by dsimp only;omega) ?_
     unfold Qz leI
     rw[fA (by omega)]
     rfl
noncomputable section
noncomputable def afr:List (apQ×Sum):=[(97,Sum.dq av9 BU)]
theorem afs:dw av9 (dM av9 (dN afr) 50 40):=dR du mixed (ed (.cons PC .nil)) 50 40
noncomputable def aft(S:ad)(L:List ByteArray)(R:List Int)(H:List au)(d:ay)(o n:Nat)(e:Int)(l:List au)(dd:ay):List (apQ×Sum):=[(76,y3 S L R H d o n (e,l,dd))]
theorem afu(S:ad)(L:List ByteArray)(R:List Int)(H:List au)(d:ay)(o n:Nat)(e:Int)(l:List au)(dd:ay)(dk:aE av9 76 [ao 0,dx 3 o n n] (aO S L R H d) (p8 S L R H (e,l,dd))):dw av9 (dM av9 (dN (aft S L R H d o n e l dd)) 50 40):=
 dR du mixed (ed (.cons (QS dk) .nil)) 50 40
def afv(S:ad)(L:List ByteArray)(R:List Int)(H:List au)(d:ay)(l:List au)(k:Int):List (apQ×Sum):=[(53,Sum.one (fun _ _=>some [0,1,2,3,4,5]) [ao 0,ah 5 l.length] (aO S L R H d++[ab (ak l) 114]) (.ret (aa k)) (aO S L R H d++[ab (ak l) 114]))]
theorem QX(S:ad)(L:List ByteArray)(R:List Int)(H:List au)(d:ay)(l:List au)(k:Int)(hle:aE av9 53 [ao 0,ah 5 (apb l)] (aO S L R H d++[ab (ak l) 114]) fun r q=>r=.ret (aa k)∧q=aO S L R H d++[ab (ak l) 114]):dw av9 (dM av9 (dN (afv S L R H d l k)) 50 40):=
 dR du mixed (ed (.cons (bp.one hle) .nil)) 50 40
noncomputable def afw:List (apQ×Sum):=[(98,Sum.dq av9 BV)]
theorem afx:dw av9 (dM av9 (dN afw) 50 40):=dR du mixed (ed (.cons PE .nil)) 50 40
def afy(S:ad)(L:List ByteArray)(R:List Int)(H:List au)(d:ay)(l:List au)(k:Nat)(e:Int)(l1:List au)(dd:ay):List (apQ×Sum):=[(54,Sum.one (fun _ _=>some [0,1,2,3,4,5]) [ao 0,.pointer (some ⟨5,k*4,none⟩)] (aO S L R H d++[ab (ak l) 114]) (.ret (aa e)) (aO S L R H dd++[ab (ak l1) 114]))]
theorem afz(S:ad)(L:List ByteArray)(R:List Int)(H:List au)(d:ay)(l:List au)(k:Nat)(e:Int)(l1:List au)(dd:ay)(gd:aE av9 54 [ao 0,.pointer (some ⟨5,k*4,none⟩)] (aO S L R H d++[ab (ak l) 114]) fun r q=>r=.ret (aa e)∧q=aO S L R H dd++[ab (ak l1) 114]):dw av9 (dM av9 (dN (afy S L R H d l k e l1 dd)) 50 40):=
 dR du mixed (ed (.cons (bp.one gd) .nil)) 50 40
def afA(S:ad)(L:List ByteArray)(R:List Int)(H:List au)(d:ay)(o n:Nat)(e:Int)(dd:ay):List (apQ×Sum):=[(78,Sum.one (fun _ _=>some [0,1,2,3,4]) [ao 0,dx 3 o n n] (aO S L R H d) (.ret (aa e)) (aO S L R H dd))]
theorem afB(S:ad)(L:List ByteArray)(R:List Int)(H:List au)(d:ay)(o n:Nat)(e:Int)(dd:ay)(iz:aE av9 78 [ao 0,dx 3 o n n] (aO S L R H d) fun r q=>r=.ret (aa e)∧q=aO S L R H dd):dw av9 (dM av9 (dN (afA S L R H d o n e dd)) 50 40):=
 dR du mixed (ed (.cons (bp.one iz) .nil)) 50 40
noncomputable def sE:List apV:=aY (dz av9 102)
open Tree renaming aN→mN,dj→mF,eT→mL,fz→mQ,dB→mR,fH→mE
noncomputable abbrev Co:List apV:=(aY (inner (aY (inner (sE.drop 8)))))
noncomputable abbrev Ir:List apV:=(aY (inner (Co.drop 2)))
abbrev It:=fun S L R H d (o n:Nat)=>(⟨[(4,aa 0),(5,aa (apo (ap6 (bu d))))],[ab (aJ S 1 2 3 4) 89,.abs (ap6 (ap6 (bu d))),ab (ap L) 9,ab (aq R) 3,ab (ak H) 114]⟩:aj)
theorem afC(S L R H d)(o n:Nat){Q:bg}(hq:Q (.ret (.tuple #[aa 0,aa (apo (ap6 (bu d)))])) (It S L R H d o n).objs):aF av9 102 68 5 Q .ret (It S L R H d o n):=aF.ret (vs:=[aa 0,aa (apo (ap6 (bu d)))]) (l:=[]) (bs:=[0,1,2,3,4]) (pl:=[2,3,4]) (q:=[ap L,aq R,ak H]) (fun u=>by kernel_rfl) (by kernel_rfl) (gL L R H bc) hq
abbrev QY:=fun S L R H d (o n:Nat)=>(⟨[(0,ao 0),(1,dx 3 o n n),(6,aa (apo (bu d)))],[ab (aJ S 1 2 3 4) 89,.abs (ap6 (ap6 (bu d))),ab (ap L) 9,ab (aq R) 3,ab (ak H) 114]⟩:aj)
abbrev Cp:=fun S L R H d=>([ab (aJ S 1 2 3 4) 89,.abs d,ab (ap L) 9,ab (aq R) 3,ab (ak H) 114]:List ag)
abbrev afD:=fun S L R H d (o n:Nat)=>(⟨[(0,ao 0),(1,dx 3 o n n)],Cp S L R H d⟩:aj)
theorem afE(S L R H d)(o n:Nat)(pH:(ak H).all af=true){Q:aQ}(n0:(nQ d)=true)(l4:(apo (ap6 (bu d)) != 0)=true→Q .ret (It S L R H d o n))(l5:(apo (ap6 (bu d)) != 0)=false→an av9 68 5 (sE.drop 4) (QY S L R H d o n) Q):an av9 68 5 sE (afD S L R H d o n) Q:=
 aS afs 4 (aA [5] (.fork 0 (.leaf [4,5] [0,1,2,3,4] [2,3,4]) (.leaf [0,1,6] [0,1,2,3,4] [2,3,4]))) (fun u=>by kernel_rfl) (mN n0 (mF (c:=apo (ap6 (bu d)) != 0) (fun h0=>(aM L R H (mR (l4 h0)))) (fun h0=>(aM L R H (mQ (l5 h0))))))
abbrev afF:=fun S L R H (d:ay) (o n:Nat) (e:Int) l dd (no:Int)=>(⟨[(0,ao 0),(1,dx 3 o n n),(6,aa no),(8,ah 5 (apb l))],[ab (aJ S 1 2 3 4) 89,.abs dd,ab (ap L) 9,ab (aq R) 3,ab (ak H) 114,ab (ak l) 114]⟩:aj)
abbrev Iu:=fun S L R H dd=>([ab (aJ S 1 2 3 4) 89,.abs dd,ab (ap L) 9,ab (aq R) 3,ab (ak H) 114]:List ag)
abbrev Iv:=fun S L R H (d:ay) (o n:Nat) (e:Int) (l:List au) dd (no:Int)=>(⟨[(4,aa 0),(5,aa e)],Iu S L R H dd⟩:aj)
theorem afG(S L R H d)(o n:Nat)(e:Int)(l dd)(no:Int){Q:bg}(hq:Q (.ret (.tuple #[aa 0,aa e])) (Iv S L R H d o n e l dd no).objs):aF av9 102 68 5 Q .ret (Iv S L R H d o n e l dd no):=aF.ret (vs:=[aa 0,aa e]) (l:=[]) (bs:=[0,1,2,3,4]) (pl:=[2,3,4]) (q:=[ap L,aq R,ak H]) (fun u=>by kernel_rfl) (by kernel_rfl) (gL L R H bc) hq
abbrev afH:=fun S L R H d (o n:Nat) (e:Int) (l:List au) (dd:ay) (no:Int)=>(⟨[(0,ao 0),(1,dx 3 o n n),(6,aa no)],Cp S L R H d⟩:aj)
theorem afI(S L R H d)(o n:Nat)(e:Int)(l dd)(no:Int)(pH:(ak H).all af=true)(pL:(ak l).all af=true)(dk:aE av9 76 [ao 0,dx 3 o n n] (aO S L R H d) (p8 S L R H (e,l,dd))){Q:aQ}(l4:(e==0)=true→an av9 68 5 ((sE.drop 4).drop 3) (afF S L R H d o n e l dd no) Q)(l5:(e==0)=false→Q .ret (Iv S L R H d o n e l dd no)):an av9 68 5 (sE.drop 4) (afH S L R H d o n e l dd no) Q:=
 aS (afu S L R H d o n e l dd dk) 3 (aA [3,1,1,1] (.fork 0 (aA [1,1,1,1] (.leaf [0,1,6,8] [0,1,2,3,4,5] [2,3,4,5])) (aA [1,1,1,1] (.leaf [4,5] [0,1,2,3,4] [2,3,4])))) (fun u=>by kernel_rfl) (aM L R H (mN (ll [ao 0,dx 3 o n n] (aO S L R H d)) (mF (c:=e==0) (fun h0=>(aM L R H (mN (aU l) (aM L R H (mN (aU l) (mQ (l4 h0))))))) (fun h0=>(aM L R H (mN (show(e != 0)=true by simp at pH pL dk h0⊢ <;>omega) (aM L R H (mR (l5 h0)))))))))
abbrev uF:=fun S L R H d l=>([ab (aJ S 1 2 3 4) 89,.abs d,ab (ap L) 9,ab (aq R) 3,ab (ak H) 114,ab (ak l) 114]:List ag)
abbrev afJ:=fun S L R H d l (o n:Nat) (no k:Int)=>(⟨[(0,ao 0),(1,dx 3 o n n),(6,aa no),(8,ah 5 (apb l)),(9,aa k)],uF S L R H d l⟩:aj)
abbrev QZ:=fun S L R H d l (o n:Nat) (no k:Int)=>(⟨[(0,ao 0),(1,dx 3 o n n),(6,aa no),(8,ah 5 (apb l))],uF S L R H d l⟩:aj)
theorem afK(S L R H d l)(o n:Nat)(no k:Int)(pH:(ak H).all af=true)(pL:(ak l).all af=true)(hle:aE av9 53 [ao 0,ah 5 (apb l)] (aO S L R H d++[ab (ak l) 114]) fun r q=>r=.ret (aa k)∧q=aO S L R H d++[ab (ak l) 114]){Q:aQ}(l5:an av9 68 5 ((sE.drop 7).drop 1) (afJ S L R H d l o n no k) Q):an av9 68 5 (sE.drop 7) (QZ S L R H d l o n no k) Q:=
 aS (QX S L R H d l k hle) 1 (aA [3,1,1,1,1,1,1,1,1] (.leaf [0,1,6,8,9] [0,1,2,3,4,5] [2,3,4,5])) (fun u=>by kernel_rfl) (aM L R H (mN (aU l) (mN (ll [ao 0,ah 5 (apb l)] (aO S L R H d++[ab (ak l) 114])) (aM L R H (mN (aU l) (aM L R H (mN (aU l) (mQ l5))))))))
abbrev afL:=fun S L R H d l (o n:Nat) (no k:Int)=>(⟨[(0,ao 0),(1,dx 3 o n n),(6,aa no),(8,ah 5 (apb l)),(9,aa k)],uF S L R H d l⟩:aj)
abbrev afM:=fun S L R H d (l:List au) (o n:Nat) (no k:Int)=>(⟨[(0,ao 0),(1,dx 3 o n n),(6,aa no)],Cp S L R H d⟩:aj)
abbrev afN:=fun S L R H d l (o n:Nat) (no k:Int)=>(⟨[(0,ao 0),(1,dx 3 o n n),(6,aa no),(8,ah 5 (apb l)),(9,aa k)],uF S L R H d l⟩:aj)
theorem afO(S L R H d l)(o n:Nat)(no k:Int)(pH:(ak H).all af=true)(pL:(ak l).all af=true){Q:aQ}(l4:(decide (k ≥ 0))=true→an av9 68 5 (Co.drop 2) (afL S L R H d l o n no k) Q)(l5:(decide (k ≥ 0))=false→Q (.exit 0) (afM S L R H d l o n no k)):an av9 68 5 Co (afN S L R H d l o n no k) Q:=
 aS bo 2 (.fork 0 (.leaf [0,1,6,8,9] [0,1,2,3,4,5] [2,3,4,5]) (.leaf [0,1,6] [0,1,2,3,4] [2,3,4])) (fun u=>by kernel_rfl) (mF (c:=decide (k ≥ 0)) (fun h0=>(aM L R H (mN (aU l) (mQ (l4 h0))))) (fun h0=>(aM L R H (mE 0 (l5 h0)))))
abbrev Q0:=fun S L R H d l (o n:Nat) (no:Int) (k:Nat)=>(⟨[(4,aa 0),(5,aa (apo (bO d no (bh (apS (fun b=>apm apA (↑(apT b):Int)) (apE (apk (aX (ak l) (0+apd (↑k:Int)*4+2))) (apO (apH (aX (ak l) (0+apd (↑k:Int)*4+2)))))++[apm apA 10])))))],[ab (aJ S 1 2 3 4) 89,.abs (ap6 (bO d no (bh (apS (fun b=>apm apA (↑(apT b):Int)) (apE (apk (aX (ak l) (0+apd (↑k:Int)*4+2))) (apO (apH (aX (ak l) (0+apd (↑k:Int)*4+2)))))++[apm apA 10])))),ab (ap L) 9,ab (aq R) 3,ab (ak H) 114]⟩:aj)
theorem afP(S L R H d l)(o n:Nat)(no:Int)(k:Nat){Q:bg}(hq:Q (.ret (.tuple #[aa 0,aa (apo (bO d no (bh (apS (fun b=>apm apA (↑(apT b):Int)) (apE (apk (aX (ak l) (0+apd (↑k:Int)*4+2))) (apO (apH (aX (ak l) (0+apd (↑k:Int)*4+2)))))++[apm apA 10]))))])) [ab (aJ S 1 2 3 4) 89,.abs (ap6 (bO d no (bh (apS (fun b=>apm apA (↑(apT b):Int)) (apE (apk (aX (ak l) (0+apd (↑k:Int)*4+2))) (apO (apH (aX (ak l) (0+apd (↑k:Int)*4+2)))))++[apm apA 10])))),ab (ap L) 9,ab (aq R) 3,ab (ak H) 114]):aF av9 102 68 5 Q .ret (Q0 S L R H d l o n no k):=aF.ret (vs:=[aa 0,aa (apo (bO d no (bh (apS (fun b=>apm apA (↑(apT b):Int)) (apE (apk (aX (ak l) (0+apd (↑k:Int)*4+2))) (apO (apH (aX (ak l) (0+apd (↑k:Int)*4+2)))))++[apm apA 10]))))]) (l:=[]) (bs:=[0,1,2,3,4]) (pl:=[2,3,4]) (q:=[ap L,aq R,ak H]) (fun u=>by kernel_rfl) (by kernel_rfl) (gL L R H bc) hq
abbrev Q2:=fun S L R H d l (o n:Nat) (no:Int) (k:Nat)=>(⟨[(0,ao 0),(1,dx 3 o n n),(6,aa no),(8,ah 5 (apb l)),(9,aa k)],[ab (aJ S 1 2 3 4) 89,.abs (ap6 (bO d no (bh (apS (fun b=>apm apA (↑(apT b):Int)) (apE (apk (aX (ak l) (0+apd (↑k:Int)*4+2))) (apO (apH (aX (ak l) (0+apd (↑k:Int)*4+2)))))++[apm apA 10])))),ab (ap L) 9,ab (aq R) 3,ab (ak H) 114,ab (ak l) 114]⟩:aj)
abbrev afQ:=fun S L R H d l (o n:Nat) (no:Int) (k:Nat)=>(⟨[(0,ao 0),(1,dx 3 o n n),(6,aa no),(8,ah 5 (apb l)),(9,aa k)],uF S L R H d l⟩:aj)
theorem afR(S L R H d l)(o n:Nat)(no:Int)(k:Nat)(pH:(ak H).all af=true)(pL:(ak l).all af=true)(h0:k<(apb l))(h1:(apb l)≤1000000){Q:aQ}(n0:(eS (ak l) (0+apd (↑k:Int)*4+2))=true)(n1:(apG (0+apk (aX (ak l) (0+apd (↑k:Int)*4+2))) 1000000)=true)(n2:(aph (apS (fun b=>apm apA (↑(apT b):Int)) (apE (apk (aX (ak l) (0+apd (↑k:Int)*4+2))) (apO (apH (aX (ak l) (0+apd (↑k:Int)*4+2)))))) Value.oneCell')=true)(n3:(apG (apk (aX (ak l) (0+apd (↑k:Int)*4+2))+1) 1000000)=true)(n4:(aph (apS (fun b=>apm apA (↑(apT b):Int)) (apE (apk (aX (ak l) (0+apd (↑k:Int)*4+2))) (apO (apH (aX (ak l) (0+apd (↑k:Int)*4+2)))))++[apm apA 10]) af)=true)(n5:(yS d no (apS (fun b=>apm apA (↑(apT b):Int)) (apE (apk (aX (ak l) (0+apd (↑k:Int)*4+2))) (apO (apH (aX (ak l) (0+apd (↑k:Int)*4+2)))))++[apm apA 10]) 5 false (apk (aX (ak l) (0+apd (↑k:Int)*4+2))+1) (apk (aX (ak l) (0+apd (↑k:Int)*4+2))+1))=true)(l9:(apo (bO d no (bh (apS (fun b=>apm apA (↑(apT b):Int)) (apE (apk (aX (ak l) (0+apd (↑k:Int)*4+2))) (apO (apH (aX (ak l) (0+apd (↑k:Int)*4+2)))))++[apm apA 10]))) != 0)=true→Q .ret (Q0 S L R H d l o n no k))(iu:(apo (bO d no (bh (apS (fun b=>apm apA (↑(apT b):Int)) (apE (apk (aX (ak l) (0+apd (↑k:Int)*4+2))) (apO (apH (aX (ak l) (0+apd (↑k:Int)*4+2)))))++[apm apA 10]))) != 0)=false→an av9 68 5 (Ir.drop 3) (Q2 S L R H d l o n no k) Q):an av9 68 5 Ir (afQ S L R H d l o n no k) Q:=
 aS afx 3 (aA [2,3,0,1,10,1,1,1,2,3,5,1,5,1,1] (.fork 0 (.leaf [4,5] [0,1,2,3,4] [2,3,4]) (.leaf [0,1,6,8,9] [0,1,2,3,4,5] [2,3,4,5]))) (fun u=>by kernel_rfl) (mN (show(apy (apd (↑k:Int)) (apb l))=true by simp at pH pL h0 h1⊢ <;>omega) (mN n0 (mN n1 (mN n2 (mN (show(apw (apb (apS (fun b=>apm apA (↑(apT b):Int)) (apE (apk (aX (ak l) (0+apd (↑k:Int)*4+2))) (apO (apH (aX (ak l) (0+apd (↑k:Int)*4+2))))))) (apk (aX (ak l) (0+apd (↑k:Int)*4+2))*1))=true by simp) (mN n3 (mN (ln _:(full (apk (aX (ak l) (0+apd (↑k:Int)*4+2))) (apk (aX (ak l) (0+apd (↑k:Int)*4+2))))=true) (mN (show(apw (0+apk (aX (ak l) (0+apd (↑k:Int)*4+2))*1) (apb (apS (fun b=>apm apA (↑(apT b):Int)) (apE (apk (aX (ak l) (0+apd (↑k:Int)*4+2))) (apO (apH (aX (ak l) (0+apd (↑k:Int)*4+2))))))))=true by simp) (mN n4 (mN n5 (mN n4 (mF (c:=apo (bO d no (bh (apS (fun b=>apm apA (↑(apT b):Int)) (apE (apk (aX (ak l) (0+apd (↑k:Int)*4+2))) (apO (apH (aX (ak l) (0+apd (↑k:Int)*4+2)))))++[apm apA 10]))) != 0) (fun h0=>(aM L R H (mR (l9 h0)))) (fun h0=>(aM L R H (mN (aU l) (mQ (iu h0)))))))))))))))))
abbrev Iw:=fun S L R H (d:ay) (l:List au) (o n:Nat) (no:Int) (k:Nat) (e:Int) (l1:List au) dd=>(⟨[(4,aa 0),(5,aa e)],Iu S L R H dd⟩:aj)
theorem afS(S L R H d l)(o n:Nat)(no:Int)(k:Nat)(e:Int)(l1 dd){Q:bg}(hq:Q (.ret (.tuple #[aa 0,aa e])) (Iw S L R H d l o n no k e l1 dd).objs):aF av9 102 68 5 Q .ret (Iw S L R H d l o n no k e l1 dd):=aF.ret (vs:=[aa 0,aa e]) (l:=[]) (bs:=[0,1,2,3,4]) (pl:=[2,3,4]) (q:=[ap L,aq R,ak H]) (fun u=>by kernel_rfl) (by kernel_rfl) (gL L R H bc) hq
abbrev Q3:=fun S L R H (d:ay) (l:List au) (o n:Nat) (no:Int) (k:Nat) (e:Int) l1 dd=>(⟨[(0,ao 0),(1,dx 3 o n n),(6,aa no),(8,ah 5 (apb l))],[ab (aJ S 1 2 3 4) 89,.abs dd,ab (ap L) 9,ab (aq R) 3,ab (ak H) 114,ab (ak l1) 114]⟩:aj)
abbrev afT:=fun S L R H d l (o n:Nat) (no:Int) (k:Nat) (e:Int) (l1:List au) (dd:ay)=>(⟨[(0,ao 0),(1,dx 3 o n n),(6,aa no),(8,ah 5 (apb l)),(9,aa k)],uF S L R H d l⟩:aj)
theorem afU(S L R H d l)(o n:Nat)(no:Int)(k:Nat)(e:Int)(l1 dd)(pH:(ak H).all af=true)(pL:(ak l).all af=true)(p1:(ak l1).all af=true)(gd:aE av9 54 [ao 0,.pointer (some ⟨5,k*4,none⟩)] (aO S L R H d++[ab (ak l) 114]) fun r q=>r=.ret (aa e)∧q=aO S L R H dd++[ab (ak l1) 114])(h0:k<(apb l))(h1:(apb l)≤1000000){Q:aQ}(n0:(eD [ao 0,aqo (some (Addr.mk 5 (0+apd (↑k:Int)*4) none))] [ao 0,aqo (some (Addr.mk 5 (k*4) none))] [ab (aJ S 1 2 3 4) 89,ag.abs d,ab (ap L) 9,ab (aq R) 3,ab (ak H) 114,ab (ak l) 114] (aO S L R H d++[ab (ak l) 114]))=true)(l4:(e != 0)=true→Q .ret (Iw S L R H d l o n no k e l1 dd))(l5:(e != 0)=false→Q .normal (Q3 S L R H d l o n no k e l1 dd)):an av9 68 5 (Ir.drop 3) (afT S L R H d l o n no k e l1 dd) Q:=
 aS (afz S L R H d l k e l1 dd gd) 1000 (aA [0,3,3,1,1,1,1,1,1,1,1] (.fork 0 (.leaf [4,5] [0,1,2,3,4] [2,3,4]) (.leaf [0,1,6,8] [0,1,2,3,4,5] [2,3,4,5]))) (fun u=>by kernel_rfl) (mN (show(apy (apd (↑k:Int)) (apb l))=true by simp at pH pL p1 gd h0 h1⊢ <;>omega) (aM L R H (mN (aU l) (mN n0 (aM L R H (mN (aU l1) (mF (c:=e != 0) (fun h0=>(aM L R H (mR (l4 h0)))) (fun h0=>(aM L R H (mN (aU l1) (mQ (an.done (by kernel_rfl) (l5 h0)))))))))))))
abbrev afV:=fun S L R H d l (o n:Nat) (no k:Int)=>(⟨[(0,ao 0),(1,dx 3 o n n),(6,aa no),(8,ah 5 (apb l)),(9,aa k)],uF S L R H d l⟩:aj)
theorem afW(S L R H d l)(o n:Nat)(no k:Int)(pH:(ak H).all af=true)(pL:(ak l).all af=true)(hle:aE av9 53 [ao 0,ah 5 (apb l)] (aO S L R H d++[ab (ak l) 114]) fun r q=>r=.ret (aa k)∧q=aO S L R H d++[ab (ak l) 114]){Q:aQ}(l5:Q .normal (afV S L R H d l o n no k)):an av9 68 5 (Co.drop 3) (QZ S L R H d l o n no k) Q:=
 aS (QX S L R H d l k hle) 1000 (aA [3,1,1,1,1,1,1,1,1] (.leaf [0,1,6,8,9] [0,1,2,3,4,5] [2,3,4,5])) (fun u=>by kernel_rfl) (aM L R H (mN (aU l) (mN (ll [ao 0,ah 5 (apb l)] (aO S L R H d++[ab (ak l) 114])) (aM L R H (mN (aU l) (aM L R H (mN (aU l) (mQ (an.done (by kernel_rfl) l5)))))))))
abbrev Ix:=fun S L R H (d:ay) (o n:Nat) (no e:Int) dd=>(⟨[(4,aa no),(5,aa e)],Iu S L R H dd⟩:aj)
theorem afX(S L R H d)(o n:Nat)(no e:Int)(dd){Q:bg}(hq:Q (.ret (.tuple #[aa no,aa e])) (Ix S L R H d o n no e dd).objs):aF av9 102 68 5 Q .ret (Ix S L R H d o n no e dd):=aF.ret (vs:=[aa no,aa e]) (l:=[]) (bs:=[0,1,2,3,4]) (pl:=[2,3,4]) (q:=[ap L,aq R,ak H]) (fun u=>by kernel_rfl) (by kernel_rfl) (gL L R H bc) hq
abbrev afY:=fun S L R H d (o n:Nat) (no e:Int) (dd:ay)=>(⟨[(0,ao 0),(1,dx 3 o n n),(6,aa no)],Cp S L R H d⟩:aj)
theorem afZ(S L R H d)(o n:Nat)(no e:Int)(dd)(pH:(ak H).all af=true)(iz:aE av9 78 [ao 0,dx 3 o n n] (aO S L R H d) fun r q=>r=.ret (aa e)∧q=aO S L R H dd){Q:aQ}(l4:Q .ret (Ix S L R H d o n no e dd)):an av9 68 5 (sE.drop 9) (afY S L R H d o n no e dd) Q:=
 aS (afB S L R H d o n e dd iz) 1000 (aA [3,1,1,1,1,1,1] (.leaf [4,5] [0,1,2,3,4] [2,3,4])) (fun u=>by kernel_rfl) (aM L R H (mN (ll [ao 0,dx 3 o n n] (aO S L R H d)) (aM L R H (aM L R H (mR l4)))))
end
def af0(S:ad)(L:List ByteArray)(R:List Int)(H:List au)(o n:Nat)(no:Int)(s:Option Nat×List au×ay×Nat):aj:=
 ⟨[(0,.pointer (some ⟨0,0,none⟩)),(1,.slice (some ⟨3,o,none⟩) n n),(6,.int .i64 no),(8,.slice (some ⟨5,0,none⟩) s.2.1.length s.2.1.length),(9,.int .i64 (kI s.1))],aO S L R H s.2.2.1++[.cells (ak s.2.1) 114 false]⟩
structure af1(f:Bool)(no:Int)(F N:Nat)(v:Int×ay)(s:Option Nat×List au×ay×Nat):Prop where
 k:s.1=eI f s.2.1
 ok:sC no F s.2.1 s.2.2.1
 e:mg f no s.2.2.2 s.2.1 s.2.2.1=v
 m:db s.2.2.1 s.2.1<s.2.2.2
 len:s.2.1.length=N
theorem af2{f:Bool}{no:Int}{m:Nat}{l:List au}{d:ay}(h:eI f l=none):mg f no m l d=(0,d):=by
 cases m with
 |zero=>rfl
 |succ m=>unfold mg;rw[h]
theorem af3(S:ad)(L:List ByteArray)(R:List Int)(H:List au)(d:ay)(o n:Nat)(wC:o+n≤R.length)(hn:n≤900000)(hr:jo d ((R.drop o).take n)):
 aE av9 102 [.pointer (some ⟨0,0,none⟩),.slice (some ⟨3,o,none⟩) n n] (aO S L R H d) fun r q=>
  r=.ret (.tuple #[.int .i64 (g9 S.aB ((R.drop o).take n) d).1,.int .i64 (g9 S.aB ((R.drop o).take n) d).2.1])∧q=aO S L R H (g9 S.aB ((R.drop o).take n) d).2.2:=by
 have pH:=aU H
 have nG:((R.drop o).take n).length=n:=by rw[ap8,aqp];omega
 generalize hl:(R.drop o).take n=runs at*
 refine aE.cT (n:=cn av9 102) (by kernel_rfl) ?_
 apply afE S L R H d o n pH
 case n0=>exact pT.2 hr.cF
 case l4=>
  intro g
  have g:(bu d).2.1≠0:=by simpa using g
  have e:g9 S.aB runs d=(0,(bu d).2.1,(bu d).2.2):=by
   unfold g9
   generalize bu d=c at g⊢
   obtain⟨no,e,d1⟩:=c
   exact if_pos g
  rw[e]
  exact afC S L R H d o n ⟨rfl,rfl⟩
 case l5=>
  intro g
  have g:(bu d).2.1=0:=by simpa using g
  unfold QY
  have jT:=hr.cF.uC
  have cQ:=hr.opened g
  have Q4:g9 S.aB runs d=match dS runs [] (bu d).2.2 with
   |(e,H,d2)=>if e≠0 then(0,e,d2)else match mg S.aB (bu d).1 sA H d2 with
    |(e,d3)=>if e≠0 then(0,e,d3)else((bu d).1,fK runs d3):=by
   unfold g9
   generalize bu d=c at g⊢
   obtain⟨no,e,d1⟩:=c
   exact if_neg (fun h=>h g)
  rw[Q4]
  clear Q4
  have yq:=QU S L R H (bu d).2.2 o n wC hn jT
  rw[hl]at yq
  have MB:=wy runs [] (bu d).2.2 jT
  generalize(bu d).1=no at*
  generalize(bu d).2.2=d1 at*
  have hlen:(dS runs [] d1).1=0→(dS runs [] d1).2.1.length=n:=fun h=>by
   have:=(yZ runs [] [] d1 d1 jT rfl ⟨rfl,fun _ h=>(by cases h),apI _⟩ h).Cb
   have:=congrArg apb this
   rw[List.length_map]at this
   rw[this]
   exact nG
  generalize dS runs [] d1=q at*
  obtain⟨e,l,d2⟩:=q
  dsimp only at*
  have pl:=aU l
  apply afI S L R H d1 o n e l d2 no pH pl yq
  case l5=>
   intro ge
   have ge:e≠0:=by simpa using ge
   rw[if_pos ge]
   exact afG S L R H d1 o n e l d2 no ⟨rfl,rfl⟩
  case l4=>
   intro ge
   have ge:e=0:=by simpa using ge
   rw[if_neg (fun h=>h ge)]
   have cQ:=cQ ge
   have hlen:=hlen ge
   apply afK S L R H d2 l o n no (kI (eI S.aB l)) pH pl (QV S L R H d2 l (by omega))
   ·
    have Q5:=aea
    have iL:=cQ.bQ
    have hF:=hr.bQ
    rw[List.drop_drop]
    refine an.eU 8 0 (by kernel_rfl) ?_
    refine an.fS (af0 S L R H o n no) (fun t=>t.2.2.2) (af1 S.aB no (eK d runs) n (mg S.aB no sA l d2)) (eI S.aB l,l,d2,sA) (by kernel_rfl) ⟨rfl,cQ,rfl,by dsimp only;omega,hlen⟩ ?_
    clear cQ pl yq hlen iL
    rintro⟨k,l1,d3,m⟩ ⟨h1,h2,h3,h4,h5⟩
    dsimp only at h1 h2 h3 h4 h5
    have pl:=aU l1
    apply afO S L R H d3 l1 o n no (kI k) pH pl
    case l5=>
     intro gk
     have gk:=of_decide_eq_false gk
     have hk:k=none:=by
      cases k with
      |none=>rfl
      |some k=>exact absurd (show(0:Int)≤(k:Int)by omega) gk
     rw[hk]at h1
     rw[af2 h1.symm]at h3
     rw[←h3]
     rw[if_neg (fun h=>h rfl)]
     have iz:=QF S L R H d3 o n wC (by omega) h2.cF
     rw[hl]at iz
     with_reducible (repeat first|refine QL.ret ?_|refine QL.exit ?_|refine QB.ret ?_|refine QB.cp ?_|refine QB.normal ?_|refine QB.cy (by rfl) ?_)
     apply afZ S L R H d3 o n no (fK runs d3).1 (fK runs d3).2 pH iz
     ·exact afX S L R H d3 o n no (fK runs d3).1 (fK runs d3).2 ⟨rfl,rfl⟩
    case l4=>
     intro gk
     have gk:=of_decide_eq_true gk
     cases k with
     |none=>exact absurd gk (by show¬(0:Int)≤-1;omega)
     |some k=>
      obtain⟨k1,k2⟩:=wz h1.symm
      have r:=rowAt k1
      obtain⟨w1,w2,w3,w4⟩:=h2.write (by omega) k1 k2
      have hok:=h2.ok _ (wA k1)
      have aos:=hok.1.line
      have Q6:=h2.next (by omega) k1 k2
      cases m with
      |zero=>omega
      |succ m=>
      have h3:(match eI S.aB l1 with
       |none=>(0,d3)
       |some k=>if(bO d3 no (cd (aP l1 k).line)).1≠0 then bO d3 no (cd (aP l1 k).line)
        else if(bW (aP l1 k) (bO d3 no (cd (aP l1 k).line)).2).1≠0 then((bW (aP l1 k) (bO d3 no (cd (aP l1 k).line)).2).1,(bW (aP l1 k) (bO d3 no (cd (aP l1 k).line)).2).2.2)
        else mg S.aB no m (l1.set k (bW (aP l1 k) (bO d3 no (cd (aP l1 k).line)).2).2.1) (bW (aP l1 k) (bO d3 no (cd (aP l1 k).line)).2).2.2)=mg S.aB no sA l d2:=h3
      rw[←h1]at h3
      dsimp only at h3
      refine an.eU 2 1 (by kernel_rfl) ?_
      have hex:=r.s2
      apply afR S L R H d3 l1 o n no k pH pl k1 (by omega) r.n5
      case n1=>rw[hex];exact apU (by omega)
      case n2=>rw[hex,List.take_of_length_le (by exact apI _)];exact F9 _
      case n3=>rw[hex];exact apU (by omega)
      case n4=>rw[hex,join_eq];exact lj _
      case n5=>
       rw[hex,join_eq]
       exact HP.2 ⟨h2.cF,cd _,rfl,(mc _).symm,(mc _).symm,rfl,rfl,w2⟩
      case l9=>
       intro g3
       rw[hex,join_eq,jl]at g3
       have g3:(bO d3 no (cd (aP l1 k).line)).1≠0:=by simpa using g3
       rw[if_pos g3]at h3
       rw[←h3,if_pos g3]
       with_reducible (repeat first|refine QL.ret ?_|refine QL.exit ?_|refine QB.ret ?_|refine QB.cp ?_|refine QB.normal ?_|refine QB.cy (by rfl) ?_)
       refine afP S L R H d3 l1 o n no k ⟨?_,?_⟩
       ·rw[hex,join_eq,jl]
       ·rw[hex,join_eq,jl];rfl
      case iu=>
       intro g3
       rw[hex,join_eq,jl]at g3
       have g3:(bO d3 no (cd (aP l1 k).line)).1=0:=by simpa using g3
       rw[if_neg (fun h=>h g3)]at h3
       unfold Q2
       rw[hex,join_eq,jl]
       have gd:=QP S L R H (bO d3 no (cd (aP l1 k).line)).2 l1 k k1 hok.1 w1
       generalize(bO d3 no (cd (aP l1 k).line)).2=d4 at*
       generalize bW (aP l1 k) d4=rr at*
       obtain⟨e4,y,d5⟩:=rr
       dsimp only at*
       apply afU S L R H d4 l1 o n no k e4 (l1.set k y) d5 pH pl (aU _) gd k1 (by omega)
       case n0=>exact fo (by rw[show 0+apd (k:Int)*4=k*4 by simp]) rfl
       case l4=>
        intro g5
        have g5:e4≠0:=by simpa using g5
        rw[if_pos g5]at h3
        rw[←h3,if_pos g5]
        with_reducible (repeat first|refine QL.ret ?_|refine QL.exit ?_|refine QB.ret ?_|refine QB.cp ?_|refine QB.normal ?_|refine QB.cy (by rfl) ?_)
        exact afS S L R H d4 l1 o n no k e4 (l1.set k y) d5 ⟨rfl,rfl⟩
       case l5=>
        intro g5
        have g5:e4=0:=by simpa using g5
        rw[if_neg (fun h=>h g5)]at h3
        obtain⟨n1,n2⟩:=Q6 g5
        have Q7:(l1.set k y).length=l1.length:=List.length_set
        unfold Q3
        rw[←Q7]
        with_reducible (repeat first|refine QL.ret ?_|refine QL.exit ?_|refine QB.ret ?_|refine QB.cp ?_|refine QB.normal ?_|refine QB.cy (by rfl) ?_)
        have af4:=aU (l1.set k y)
        apply afW S L R H d5 (l1.set k y) o n no (kI (eI S.aB (l1.set k y))) pH af4 (QV S L R H d5 _ (by omega))
        ·
         exact QL.to (eI S.aB (l1.set k y),l1.set k y,d5,m) ⟨rfl,n1,h3,by dsimp only;omega,by dsimp only;omega⟩ (by dsimp only;omega) rfl
end Go.Proofs.YtnlkkgpcikkpoaaGreat
/-
 A law of the walk for a region that draws its order, over any program: if each operation, begun where what it hangs on is done, keeps the prover's word, then the region does, whatever the order.
 Conditions: the table of what each operation hangs on (D), of the effects (c), and of the phases (R) meets the closed check regOk.
-/
namespace Go.Proofs.YtnlkkgpcikkpoaaGreat
structure aot(V:ape→aps→Prop)(E:aps→aps→Prop)(S:aps→Prop)(dst:Option Tmp)(a:Act)(w:aps)(a':Act)(w':aps):Prop where
 v:∃v,a'=a.put dst v∧V v w'
 e:E w w'
 s:S w'
section
variable {P:Program} {l:List Oper} {Q:Exit→Act→aps→Prop} {a:Act}
end
structure aou(E:aps→aps→Prop) where
 V:ape→aps→Prop
 h:∀v w w',E w w'→V v w→V v w'
end Go.Proofs.YtnlkkgpcikkpoaaGreat
namespace Go.Proofs.YtnlkkgpcikkpoaaGreat
open Go.RowKit
section
variable {w:aps} {g:Nat} {cs:Array ape}
end
end Go.Proofs.YtnlkkgpcikkpoaaGreat
namespace Go.Proofs.YtnlkkgpcikkpoaaGreat
open Go.RowKit
end Go.Proofs.YtnlkkgpcikkpoaaGreat
namespace Go.Proofs.YtnlkkgpcikkpoaaGreat
open Go.RowKit Go.Shelf
attribute [local go_sem] Oper.semAt_some
set_option maxRecDepth 100000 in
set_option maxHeartbeats 2000000 in
theorem af5(bs ss bn sn aI sh N:Nat)(hN:N≤1000000)(n:Nat)(hn:2≤n)(l:Nat)(J:Nat→aps→Prop)(E:aps→Prop)(W:aps)
 (Q8:∀k A,J k A→(∃cap,N≤cap∧A.cell? ⟨bs,ss,none⟩=some (.slice (some ⟨aI,sh,none⟩) N cap))∧A.cell? ⟨bn,sn,none⟩=some (.int .i64 3))
 (hY:∀k W0,3*k<N→J k W0→YieldAt are (n-1) av9 l #[.slice (some ⟨aI,sh+3*k,none⟩) (min 3 (N-3*k)) (min 3 (N-3*k))] W0 fun e W'=>e=.returned (.bool true)∧J (k+1) W'∨e=.returned (.bool false)∧E W')
 (af6:∀k A,J k A→J k A.drew)(h0:J 0 W):CallsIn are n av9 124 (#[.func (.yield l) #[] #[]]++ #[.pointer (some ⟨bs,ss,none⟩),.pointer (some ⟨bn,sn,none⟩)]) W fun e W'=>(∃v,e=.returned v)∧(J ((N+2)/3) W'∨E W'):=by
 refine callsIn_of_wp Tryz.func124 rfl trivial ?_ rfl
 simp only[Tryz.ntmps124,List.size_toArray,List.length_cons,List.length_nil,Nat.reduceAdd,Nat.reduceSub,Array.replicate_succ,Array.replicate_zero,List.push_toArray,List.append_toArray,aqO,List.cons_append]
 gi_wp2
 gi_loopw [4] (fun i wr=>∃k:Nat,3*k<N+3∧i=.int .i64 (3*k:Nat)∧J k wr) (fun i _=>N+3-(intOf i).toNat)
 case atStart=>exact⟨0,by omega,rfl,h0⟩
 case round=>
  obtain⟨k,hk,rfl,Cq⟩:=hrel
  obtain⟨⟨cap,hc,c1⟩,c2⟩:=Q8 k _ Cq
  by_cases gO:3*k<N
  ·have aov:=Lib.hid (hY k _ gO Cq)
   have g1:(0:Int)≤(3*k:Nat):=by omega
   have g2:((3*k:Nat):Int)≤N:=by omega
   gi_wp2
   gi_region
   obtain⟨fn,tmps,assign,body,hy,hR⟩:=hY k _ gO (af6 k _ Cq)
   replace hR:=Lib.hid hR
   gi_wp2
   all_goals
    first
     |rw[show((3*(k:Int)+((N-3*k:Nat):Int)).toNat-3*k)=min 3 (N-3*k)by omega,hy]
     |rw[show((3*(k:Int)+3).toNat-3*k)=min 3 (N-3*k)by omega,hy]
     |rw[show((3*(k:Int)+min 3 ((N-3*k:Nat):Int)).toNat-3*k)=min 3 (N-3*k)by omega,hy]
    refine⟨fun _=>by omega,?_⟩
    refine hR.out.mono ?_
    rintro e w3 (⟨rfl,Q9⟩|⟨rfl,sF⟩)
    ·obtain⟨⟨Ra,U5,c3⟩,c4⟩:=Q8 _ _ Q9
     gi_wp2
     go_roundw
     case rel=>exact⟨k+1,by omega,by go_num,Q9⟩
     case measure=>simp[intOf];omega
    ·gi_wp2
     try simp only[Exit.inBlock,Exit.then]
     refine bodyPost_ret (results_none rfl _ _ _) rfl ?_
     exact⟨⟨_,rfl⟩,.inr sF⟩
  ·gi_wp2
   go_end0
   exact⟨⟨_,rfl⟩,.inl (by rw[show(N+2)/3=k by omega];exact Cq)⟩
end Go.Proofs.YtnlkkgpcikkpoaaGreat
