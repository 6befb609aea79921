/- Part of the proof: Dkt, Dku, Dkv, Zui, Zuj, Zrf, Zuk, Sva, SvI, SvP, SvB, Shut. -/
import Derived.Test.YtnlkkgpcikkpoaaGreatJAn
import Derived.KernelRfl
import Derived.Test.YtnlkkgpcikkpoaaGreatJAm
import Derived.Test.YtnlkkgpcikkpoaaGreatJAe
import Derived.ProofKit
import Derived.ChangeArms
import Derived.SizedLaws
import Derived.Deep.Slices
import Derived.DataReads
import Derived.Test.YtnlkkgpcikkpoaaGreatChecked
import Derived.Test.YtnlkkgpcikkpoaaGreatJAl
import Derived.Test.YtnlkkgpcikkpoaaGreatRows
import Derived.WalkKit
import Derived.OpenShut
import Derived.ShutString
import Derived.ChangeOld
import Derived.Below
import Derived.Deep.Fields
import Derived.ChangeSame
open Array renaming getElem?_eq_some_iff->asq,length_toList->atq,toList->arN
open Bool renaming and_eq_true->BV
open ByteArray renaming data->arK,empty->KI,toList->asA
open Classical renaming propDecidable->arT
open Go renaming Code->ar3,DataW->avL,Field->au3,FuncId->arY,MemPlace->avY,Program->arC,TypeId->KS,Value->Dy,World->arB
open Go.Addr renaming add->axT
open Go.ByteArray renaming toList_eq->auU
open Go.DataW renaming TrodAll->aw0,trod->avb,weights->avo,weightsAll->aut,weightsEach->auE
open Go.IntKind renaming i64->Ul,u8->Um,wrap->m6
open Go.Lib renaming compareBytes->asM
open Go.Op renaming bytesLess->auc
open Go.Proofs.Tryz renaming prog->auN,prog->fK
open Go.Value renaming agg->av9,bool->asu,int->KJ,string->arS
open Go.World renaming cells?_some->axk
open Int renaming toNat->m5
open List renaming all->DC,append_assoc->arI,append_nil->asg,drop_drop->asI,drop_of_length_le->as7,flatten_cons->avc,getElem?_append_left->asl,getElem?_append_right->asd,getElem?_eq_getElem->KH,getElem?_eq_none->asC,getElem?_eq_some_iff->KP,length->nG,length_append->KO,length_cons->ar4,length_nil->as2,length_take->asj,map->arV,map_cons->asn,mem_append_left->asi,mem_append_right->asc,mem_cons->arD,mem_cons_of_mem->arG,mem_cons_self->arH,mem_map->as8,mem_range->auG,mem_singleton->ar0,nil_append->asK,range->atX,take_append_drop->asD
open List.cons renaming injEq->axD
open Nat renaming beq->arE,blt->arF,eq_of_beq_eq_true->arJ,le_refl->arO,le_trans->atW,mul_le_mul_right->aui,mul_one->atV,succ_mul->avC,zero_le->asb
open Option renaming map_some->asO
open Option.some renaming injEq->DE
open UInt8 renaming ofNat->zW,toNat->arR
set_option linter.unusedVariables false
set_option linter.unusedSimpArgs false
set_option maxRecDepth 100000
namespace Go.Proofs.YtnlkkgpcikkpoaaGreat
open Go Vm Go.RowKit
theorem aoc(ro:Bool):aF fK 32 [.slice (some ⟨0,0,none⟩) 0 0] [.cells [] 77 ro] λr o=>r=.ret (.slice (some ⟨1,0,none⟩) 0 0)/\o=[.cells [] 77 ro,.cells [] 77 false]:=by
 refine aF.O0 (Q:=λr o=>(r=.ret (.slice (some ⟨1,0,none⟩) 0 0)/\o=[.cells [] 77 ro,.cells [] 77 false])\/(r=.ret (.slice none 0 0)/\o=[.cells [] 77 ro])) 77 (s:=2) (by kernel_rfl) (by simp) ?_ ?_
 ·refine aF.dv (n:=cp fK 32) (by kernel_rfl) ?_
  apply an5 true ro
  refine ao.NW ⟨0,3,4,52⟩ 77 ⟨0,0,none⟩ (by kernel_rfl) (by kernel_rfl) (by rfl) (by rfl) ?_
  intro b
  cases b with
  |true=>exact an8 ro (an6 ro (.inr ⟨rfl,rfl⟩))
  |false=>exact aob ro (an9 ro (.inl ⟨rfl,rfl⟩))
 ·rintro r o (⟨rfl,rfl⟩|⟨rfl,rfl⟩)
  ·exact⟨by simp,by simp,.inl ⟨rfl,rfl⟩⟩
  ·exact⟨by simp,by simp,.inr ⟨rfl,rfl,rfl⟩⟩
theorem aod(sc:List (Int×Int))(ro:Bool)(hs:sc.length<=100000):aF fK 32 [.slice (some ⟨0,0,none⟩) sc.length sc.length] [.cells (aI sc) 77 ro] λr o=>r=.ret (.slice (some ⟨1,0,none⟩) sc.length sc.length)/\o=[.cells (aI sc) 77 ro,.cells (aI sc) 77 false]:=by
 by_cases h0:sc.length=0
 ·have e:sc=[]:=List.eq_nil_of_length_eq_zero h0
  subst e
  exact aoc ro
 ·refine aF.dv (n:=cp fK 32) (by kernel_rfl) ?_
  have e:([]:List Dy)++List.take (sc.length*2) (aI sc)=aI sc:=by
   rw[asK,List.take_of_length_le (by rw[pD];exact arO _)]
  apply an2 sc ro (by omega) hs (pD _)
  case n0=>exact uF (nq (bt _) _)
  case aY=>exact bt _
  case l2=>
   refine an1 sc ro (bt _) ⟨by rw[Nat.zero_add],?_⟩
   rw[e]
noncomputable def vz(l:List Dy)(n m:Nat)(el:KS):Bool:=@decide (∃sc:List (Int×Int),l=aI sc/\n=sc.length/\m=n/\n<=100000/\el=77) (arT _)
noncomputable def K2(a:List Dy)(o:List ak):Option (Bool×bD×List ak):=match a,o with
 | [.slice (some ⟨0,0,none⟩) n m],[.cells l el ro]=>some (vz l n m el,.ret (.slice (some ⟨1,0,none⟩) n n),[.cells l el ro,.cells l el false])
 |_,_=>none
theorem aoe:bB fK 32 (Sum.of K2):=bB.of λa o r o' hg=>by
 unfold K2 at hg
 split at hg
 ·rename_i n m l el ro
  simp only[DE,Prod.mk.injEq]at hg
  obtain⟨h1,rfl,rfl⟩:=hg
  obtain⟨sc,rfl,rfl,rfl,h2,rfl⟩:=@of_decide_eq_true _ (arT _) h1
  exact aod sc ro h2
 ·cases hg
theorem Vc{sc:List (Int×Int)}(h:sc.length<=100000):vz (aI sc) sc.length sc.length 77=true:=by
 unfold vz
 exact(@decide_eq_true_iff _ (arT _)).2 ⟨sc,rfl,rfl,rfl,h,rfl⟩
noncomputable def aof:List (arY×Sum):=[(32,Sum.of K2)]
theorem Vd:dD fK (dM fK (dP aof) 50 40):=dU dC mixed (ee (.cons aoe .nil)) 50 40
noncomputable section
def Ve:List ar3:=a7 (dI fK 11)
open Tree renaming aQ->mN,dE->mF,fj->mL,fY->mQ,dN->mR,gH->mE
def Vf:Nat->Bool->Bool->Tree->Tree
 |0,_,_,t=>t
 |n+1,d,b,t=>.cY d b (Vf n d b t)
theorem Vg{R:bf->ai->Prop}{c v:Bool}{t:Tree}(n:Nat)(h1:c=v)(h2:t.ok R):(Vf n c v t).ok R:=by
 induction n with
 |zero=>exact h2
 |succ n ih=>exact⟨h1,ih⟩
abbrev K3(sc:List (Int×Int)):ai:=⟨[(2,ap 1)],[.cells (aI sc) 77 true,ab ([aq 2 (nG sc),.map (some 3),aa 0,aa 0,aa 0]) 80,ab (aI sc) 77,.map ([]) 0]⟩
theorem aog(sc:List (Int×Int)){Q:bu}(aY:DC (aI sc) ag)(kG:DC (bI [0,1,2,3] ([])) ag=true)(hq:Q (.ret (ap 1)) (K3 sc).objs):aG fK 11 8 1 Q .ret (K3 sc):=aG.ret (vs:=[ap 1]) (l:=[]) (bs:=[0,1,2,3]) (pl:=[0,2,3]) (q:=[aI sc,aI sc,bI [0,1,2,3] ([])]) (λu=>by kernel_rfl) (by kernel_rfl) (aD aY (aD (by assumption) (aD kG be))) hq
theorem aoh(sc:List (Int×Int))(h2:vz (aI sc) (nG sc) (nG sc) 77=true){Q:aU}(n0:(DC (aI sc) ag))(aY:DC (aI sc) ag)(bh:DC (bI [0,3,1,2] ([])) ag)(l3:Q .ret (K3 sc)):ao fK 8 1 Ve ⟨[(0,aq 0 (nG sc))],[.cells (aI sc) 77 true]⟩ Q:=
 aV Vd 1000 (aB [3,1,1] (.leaf [2] [0,3,1,2] [0,1,2])) (λu=>by kernel_rfl) (mN (bt sc) (mN (show(vz (aI sc) (nG sc) (nG sc) 77)=true by assumption) (mN (bt sc) (mN (bt sc) (mN (bt sc) (mN bh (mR l3)))))))
abbrev K4(sc:List (Int×Int)):ai:=⟨[(2,ap 1)],[ab (aI sc) 77,ab ([aq 2 (nG sc),.map (some 3),aa 0,aa 0,aa 0]) 80,ab (aI sc) 77,.map ([]) 0]⟩
theorem aoi(sc:List (Int×Int)){Q:bu}(cC:DC (bI [0,1,2,3] ([])) ag=true)(hq:Q (.ret (ap 1)) (K4 sc).objs):aG fK 11 8 1 Q .ret (K4 sc):=aG.ret (vs:=[ap 1]) (l:=[]) (bs:=[0,1,2,3]) (pl:=[0,2,3]) (q:=[aI sc,aI sc,bI [0,1,2,3] ([])]) (λu=>by kernel_rfl) (by kernel_rfl) (aD (bt sc) (aD (bt sc) (aD cC be))) hq
theorem aoj(sc:List (Int×Int))(h2:vz (aI sc) (nG sc) (nG sc) 77=true){Q:aU}(n0:(DC (aI sc) ag))(aY:DC (aI sc) ag)(bh:DC (bI [0,3,1,2] ([])) ag)(l3:Q .ret (K4 sc)):ao fK 8 1 Ve ⟨[(0,aq 0 (nG sc))],[ab (aI sc) 77]⟩ Q:=
 aV Vd 1000 (aB [3,1,1,1] (.leaf [2] [0,3,1,2] [0,1,2])) (λu=>by kernel_rfl) (mN (bt sc) (mN (show(vz (aI sc) (nG sc) (nG sc) 77)=true by assumption) (Vg 2 (bt sc) (Vg 2 (bt sc) (mN bh (mR l3))))))
end
theorem aok(sc:List (Int×Int))(ro:Bool)(hs:sc.length<=100000):aF fK 11 [.slice (some ⟨0,0,none⟩) sc.length sc.length] [.cells (aI sc) 77 ro] λr o=>r=.ret (.pointer (some ⟨1,0,none⟩))/\o=[.cells (aI sc) 77 ro,.abs ⟨sc,[],0,0,0⟩]:=by
 refine aF.trim (Q:=λr o=>r=.ret (.pointer (some ⟨1,0,none⟩))/\o=[.cells (aI sc) 77 ro,.abs ⟨sc,[],0,0,0⟩,.dead,.dead]) (aF.Zv (Q1:=λr o=>r=.ret (.pointer (some ⟨1,0,none⟩))/\o=[.cells (aI sc) 77 ro,.cells [.slice (some ⟨2,0,none⟩) sc.length sc.length,.map (some 3),.int .i64 0,.int .i64 0,.int .i64 0] 80 false,.cells (aI sc) 77 false,.map [] 0]) ?_ ?_) ?_
 ·refine aF.dv (n:=cp fK 11) (by kernel_rfl) ?_
  cases ro with
  |true=>exact aoh sc (Vc hs) (bt _) (bt _) (by rfl) (aog sc (bt _) (by rfl) ⟨rfl,rfl⟩)
  |false=>exact aoj sc (Vc hs) (bt _) (bt _) (by rfl) (aoi sc (by rfl) ⟨rfl,rfl⟩)
 ·rintro v o' ⟨rfl,rfl⟩ B w₀ ρ w' hw
  obtain⟨r,S,h1,h2,h3⟩:=ZF hw (by simp) rfl rfl (bt _) (pD _) rfl
  refine⟨1,r,_,S,[1,2,3],by simp,h1,h2,rfl,λk hk=>?_,rfl,rfl⟩
  obtain⟨y,hy,o,q,a,b,c,e,f⟩:=h3 k hk
  exact⟨y,o,q,by rcases hy with rfl|rfl|rfl<;>rfl,a,b,c,e,f⟩
 ·rintro r o ⟨rfl,rfl⟩
  exact⟨[0,1],[0],_,_,[aI sc],rfl,λc hc=>by rw[ar0]at hc;subst hc;exact bt _,rfl,rfl⟩
noncomputable section
theorem K5:aF fK 10 [] [] λr' o'=>r'=.ret (.bool true)/\o'=[]:=by
 refine aF.dv (n:=cp fK 10) (by kernel_rfl) ?_
 exact aw (an0 ⟨rfl,rfl⟩)
def aol(e:Int)(_:List Dy)(o:List ak):Option (bD×List ak):=some (.ret (aa e),o)
def aom(kd pn:Int)(A B b:ByteArray)(C:List Int)(e:Int):List (arY×Sum):=[(31,Sum.fn fK 31 (nY fK) (aol e)),(10,⟨yX,λa o=>match a,o with
 | [],[]=>.done (.ret (.bool true),[])
 |_,_=>.fail⟩)]
theorem aon(kd pn:Int)(A B b:ByteArray)(C:List Int)(e:Int):dD fK (dM fK (dP (aom kd pn A B b C e)) 50 40):=dU dC mixed (ee (.cons bB.fn (.cons (bB.closed K5) .nil))) 50 40
def aoo(pn:Int)(A B b:ByteArray)(C:List Int):List (arY×Sum):=[(59,Sum.one (nY fK) [.agg #[aa 11,aa pn,aq 0 A.size,aq 1 B.size]] [.cells (af A) 5 true,.cells (af B) 5 true] (.ret (aa 0)) [.cells (af A) 5 true,.cells (af B) 5 true]),(11,Sum.one (nY fK) [ci] [] (.ret (ap 0)) [.abs (mZ [])])]
theorem aop(pn:Int)(A B b:ByteArray)(C:List Int)(zY:aF fK 59 [.agg #[aa 11,aa pn,aq 0 A.size,aq 1 B.size]] [.cells (af A) 5 true,.cells (af B) 5 true] λr q=>r=.ret (aa 0)/\q=[.cells (af A) 5 true,.cells (af B) 5 true])(sG:aF fK 11 [ci] [] λr q=>r=.ret (ap 0)/\q=[.abs (mZ [])]):dD fK (dM fK (dP (aoo pn A B b C)) 50 40):=dU dC mixed (ee (.cons (bB.one zY) (.cons (bB.one sG) .nil))) 50 40
def aoq(pn:Int)(A B b:ByteArray)(C:List Int)(S0 S:ad)(L:List ByteArray)(R:List Int)(H:List au)(d:aA)(o:ByteArray)(nd er hd t:Int):List (arY×Sum):=[(13,Sum.one (λ_ _=>some [7,6,8,9,10,5,3,2]) [.iface 37 (ap 0),aq 5 1,aq 6 C.length] (aP S0 [] [] [] (mZ [])++[ab (ow ⟨b,true,0,0,0⟩ b 7) 30,.cells (ay C) 3 true,.cells (af b) 5 true]) (.ret (.agg (mg o nd er hd t).toArray)) (zT ⟨S,L,R,H,d⟩ ⟨b,true,0,0,0⟩ b C)),(10,⟨yX,λa o=>match a,o with
 | [],[]=>.done (.ret (.bool true),[])
 |_,_=>.fail⟩)]
theorem aor(pn:Int)(A B b:ByteArray)(C:List Int)(S0 S:ad)(L:List ByteArray)(R:List Int)(H:List au)(d:aA)(o:ByteArray)(nd er hd t:Int)(om:aF fK 13 [.iface 37 (ap 0),aq 5 1,aq 6 (nG C)] (aP S0 [] [] [] (mZ [])++[ab (ow ⟨b,true,0,0,0⟩ b 7) 30,.cells (ay C) 3 true,.cells (af b) 5 true]) λr q=>r=.ret (.agg (mg o nd er hd t).toArray)/\q=(zT ⟨S,L,R,H,d⟩ ⟨b,true,0,0,0⟩ b C)):dD fK (dM fK (dP (aoq pn A B b C S0 S L R H d o nd er hd t)) 50 40):=dU dC mixed (ee (.cons (bB.one om) (.cons (bB.closed K5) .nil))) 50 40
def aos(ML:List Dy->List ByteArray)(a:List Dy)(ob:List ak):Option (bD×List ak):=match a,ob with
 | [_],[.cells c ty rb]=>some (.ret (.agg #[.slice (some ⟨1,0,none⟩) (ML c).length (ML c).length,.bool true,.int .i64 0,.int .i64 0,.int .i64 0]),[.cells c ty rb,.cells (ah (ML c)) 9 false])
 |_,_=>none
def aot(pn:Int)(A B b:ByteArray)(C:List Int)(d:aA)(o:ByteArray)(nd hd t:Int)(ML:List Dy->List ByteArray):List (arY×Sum):=[(14,Sum.fn fK 14 (nY fK) (aos ML)),(15,KY)]
theorem aou(pn:Int)(A B b:ByteArray)(C:List Int)(d:aA)(o:ByteArray)(nd hd t:Int)(ML:List Dy->List ByteArray):dD fK (dM fK (dP (aot pn A B b C d o nd hd t ML)) 50 40):=dU dC mixed (ee (.cons bB.fn (.cons anE .nil))) 50 40
def aov(CT:List Dy->ByteArray->Int)(a:List Dy)(ob:List ak):Option (bD×List ak):=match a,ob with
 | [_,.string x],[.cells c ty rb]=>some (.ret (.int .i64 (CT c x)),[.cells c ty rb])
 |_,_=>none
def aow(pn:Int)(A B b:ByteArray)(C:List Int)(l w:List ByteArray)(CT:List Dy->ByteArray->Int):List (arY×Sum):=[(16,Sum.fn fK 16 (nY fK) (aov CT)),(10,⟨yX,λa o=>match a,o with
 | [],[]=>.done (.ret (.bool true),[])
 |_,_=>.fail⟩)]
theorem Vh(pn:Int)(A B b:ByteArray)(C:List Int)(l w:List ByteArray)(CT:List Dy->ByteArray->Int):dD fK (dM fK (dP (aow pn A B b C l w CT)) 50 40):=dU dC mixed (ee (.cons bB.fn (.cons (bB.closed K5) .nil))) 50 40
def oY:List ar3:=a7 (dI fK 3)
open Tree renaming aQ->mN,dE->mF,fj->mL,fY->mQ,dN->mR,gH->mE
abbrev zZ:List ar3:=(a7 (inner (a7 (inner (oY.drop 16)))))
abbrev vA:List ar3:=(a7 (inner (zZ.drop 2)))
abbrev K6:List ar3:=(oY.drop 4)
abbrev Vi:List ar3:=(oY.drop 11)
abbrev Vj:List ar3:=(oY.drop 8)
def Vk:Nat->Bool->Bool->Tree->Tree
 |0,_,_,t=>t
 |n+1,d,b,t=>.cY d b (Vk n d b t)
theorem iu{R:bf->ai->Prop}{c v:Bool}{t:Tree}(n:Nat)(h1:c=v)(h2:t.ok R):(Vk n c v t).ok R:=by
 induction n with
 |zero=>exact h2
 |succ n ih=>exact⟨h1,ih⟩
abbrev qK:=λA B b C=>([.cells (af A) 5 true,.cells (af B) 5 true,.cells (af b) 5 true,.cells (ay C) 3 true]:List ak)
abbrev tL(kd pn:Int)(A B b:ByteArray)(C:List Int)(e:Int):ai:=⟨[(6,.bool true)],qK A B b C⟩
theorem xG(kd pn:Int)(A B b C)(e:Int){Q:bu}(hq:Q (.ret (.bool true)) (tL kd pn A B b C e).objs):aG fK 3 141 4 Q .ret (tL kd pn A B b C e):=aG.ret (vs:=[.bool true]) (l:=[]) (bs:=[0,1,2,3]) (pl:=[0,1,2,3]) (q:=[af A,af B,af b,ay C]) (λu=>by kernel_rfl) (by kernel_rfl) (aD (aE A) (aD (aE B) (aD (aE b) (aD (aS C) be)))) hq
abbrev aox:=λ(kd pn:Int) (A B b:ByteArray) C (e:Int)=>(⟨[(2,aq 3 (nG C)),(3,ap 4),(7,aq 5 1)],[.cells (af A) 5 true,.cells (af B) 5 true,.cells (af b) 5 true,.cells (ay C) 3 true,ab ([aa kd,aa pn,aq 0 A.size,aq 1 B.size]) 24,ab ([aq 2 b.size,.bool true,aa 0,aa 0,aa 0]) 30]⟩:ai)
abbrev aoy:=λ(kd pn:Int) (A B b:ByteArray) C (e:Int)=>(⟨[(0,.agg #[aa kd,aa pn,aq 0 A.size,aq 1 B.size]),(1,aq 2 b.size),(2,aq 3 (nG C))],qK A B b C⟩:ai)
theorem aoz(kd pn:Int)(A B b:ByteArray)(C)(e:Int){Q:aU}(l4:(decide ((A.size:Int)>1000))->Q .ret (tL kd pn A B b C e))(l5:(decide ((A.size:Int)>1000))=false->(decide ((B.size:Int)>1000))->Q .ret (tL kd pn A B b C e))(l6:(decide ((A.size:Int)>1000))=false->(decide ((B.size:Int)>1000))=false->(decide ((b.size:Int)>4500))->Q .ret (tL kd pn A B b C e))(l7:(decide ((A.size:Int)>1000))=false->(decide ((B.size:Int)>1000))=false->(decide ((b.size:Int)>4500))=false->(decide ((↑(nG C):Int)>3000))->Q .ret (tL kd pn A B b C e))(n8:(decide ((A.size:Int)>1000))=false->(decide ((B.size:Int)>1000))=false->(decide ((b.size:Int)>4500))=false->(decide ((↑(nG C):Int)>3000))=false->(tH auN 31 [av9 #[aa kd,aa pn,aq 0 A.size,aq 1 B.size]] [ak.cells (af A) 5 true,ak.cells (af B) 5 true] (bD.ret (aa e)) [ak.cells (af A) 5 true,ak.cells (af B) 5 true])=true)(l9:(decide ((A.size:Int)>1000))=false->(decide ((B.size:Int)>1000))=false->(decide ((b.size:Int)>4500))=false->(decide ((↑(nG C):Int)>3000))=false->(e==0)->(kd==11)->ao fK 141 4 K6 (aox kd pn A B b C e) Q)(jJ:(decide ((A.size:Int)>1000))=false->(decide ((B.size:Int)>1000))=false->(decide ((b.size:Int)>4500))=false->(decide ((↑(nG C):Int)>3000))=false->(e==0)->(kd==11)=false->Q .ret (tL kd pn A B b C e))(iJ:(decide ((A.size:Int)>1000))=false->(decide ((B.size:Int)>1000))=false->(decide ((b.size:Int)>4500))=false->(decide ((↑(nG C):Int)>3000))=false->(e==0)=false->Q .ret (tL kd pn A B b C e)):ao fK 141 4 oY (aoy kd pn A B b C e) Q:=
 aV (aon kd pn A B b C e) 4 (.fork 4 (aB [1,1,1,1] (.leaf [6] [0,1,2,3] [0,1,2,3])) (aB [0,2,2,0] (.fork 0 (aB [1,1,1] (.leaf [6] [0,1,2,3] [0,1,2,3])) (aB [0,2,0] (.fork 11 (.leaf [6] [0,1,2,3] [0,1,2,3]) (.fork 7 (.leaf [6] [0,1,2,3] [0,1,2,3]) (aB [19,1,1] (.fork 0 (aB [1,3,1] (.fork 0 (aB [1,3,1] (.leaf [2,3,7] [0,1,2,3,4,5] [0,1,2,3])) (aB [0,0,0] (.leaf [6] [0,1,2,3] [0,1,2,3])))) (aB [0,0,0] (.leaf [6] [0,1,2,3] [0,1,2,3])))))))))) (λu=>by kernel_rfl) (mF (c:=decide ((A.size:Int)>1000)) (λh0=>(iu 4 h0 (mN (aE A) (mN (aE B) (mN (aE b) (mN (aS C) (mR (l4 h0)))))))) (λh0=>(iu 4 h0 (mF (c:=decide ((B.size:Int)>1000)) (λh1=>(iu 3 h1 (mN (aE A) (mN (aE B) (mN (aE b) (mN (aS C) (mR (l5 h0 h1)))))))) (λh1=>(iu 3 h1 (mF (c:=decide ((b.size:Int)>4500)) (λh2=>(mN (aE A) (mN (aE B) (mN (aE b) (mN (aS C) (mR (l6 h0 h1 h2))))))) (λh2=>(mF (c:=decide ((↑(nG C):Int)>3000)) (λh3=>(mN (aE A) (mN (aE B) (mN (aE b) (mN (aS C) (mR (l7 h0 h1 h2 h3))))))) (λh3=>(mN (aE A) (mN (aE B) (mN (n8 h0 h1 h2 h3) (mF (c:=e==0) (λh4=>(iu 3 h4 (mF (c:=kd==11) (λh5=>(iu 3 h5 (mN (aE A) (mN (aE B) (mN (aE b) (mN (aS C) (mQ (l9 h0 h1 h2 h3 h4 h5)))))))) (λh5=>(iu 3 h5 (mN (aE A) (mN (aE B) (mN (aE b) (mN (aS C) (mR (jJ h0 h1 h2 h3 h4 h5))))))))))) (λh4=>(iu 3 h4 (mN (aE A) (mN (aE B) (mN (aE b) (mN (aS C) (mR (iJ h0 h1 h2 h3 h4))))))))))))))))))))))
abbrev aoA:=λ(pn:Int) (A B b:ByteArray) C=>(⟨[(2,aq 3 (nG C)),(3,ap 4),(7,aq 5 1),(8,ap 6),(9,ap 7)],[.cells (af A) 5 true,.cells (af B) 5 true,.cells (af b) 5 true,.cells (ay C) 3 true,ab ([aa 11,aa pn,aq 0 A.size,aq 1 B.size]) 24,ab ([aq 2 b.size,.bool true,aa 0,aa 0,aa 0]) 30,.abs (mZ []),ab ([aa 0,.bool false,.bool false,.int .u8 0,.int .u8 0,.int .u8 0,.int .u8 0,.int .u8 0,.int .u8 0,.int .u8 0,.int .u8 0,.int .u8 0,.int .u8 0,.int .u8 0,.int .u8 0,.int .u8 0,.int .u8 0,.int .u8 0,.int .u8 0,.int .u8 0,.int .u8 0,.int .u8 0,.int .u8 0,.int .u8 0,.int .u8 0,.int .u8 0,.int .u8 0,.int .u8 0,.int .u8 0,.int .u8 0,.int .u8 0,.int .u8 0,.int .u8 0,.int .u8 0,.int .u8 0,.int .u8 0,.int .u8 0,.int .u8 0,.int .u8 0,.int .u8 0,.int .u8 0,.int .u8 0,.int .u8 0,.int .u8 0,.int .u8 0,.int .u8 0,.int .u8 0,.int .u8 0,.int .u8 0,.int .u8 0,.int .u8 0,.int .u8 0,.int .u8 0,.int .u8 0,.int .u8 0,.int .u8 0,.int .u8 0,.int .u8 0,.int .u8 0,.int .u8 0,.int .u8 0,.int .u8 0,.int .u8 0,.int .u8 0,.int .u8 0,.int .u8 0,.int .u8 0,aa 0,.bool false,ap 6,.bool (pn==1),ci,aa 0,ci,ci,.bool false,aa 0,.bool false]) 89]⟩:ai)
abbrev aoB:=λ(pn:Int) (A B b:ByteArray) C=>(⟨[(2,aq 3 (nG C)),(3,ap 4),(7,aq 5 1)],[.cells (af A) 5 true,.cells (af B) 5 true,.cells (af b) 5 true,.cells (ay C) 3 true,ab [aa 11,aa pn,aq 0 A.size,aq 1 B.size] 24,ab [aq 2 b.size,.bool true,aa 0,aa 0,aa 0] 30]⟩:ai)
theorem aoC(pn:Int)(A B:ByteArray)(b C)(zY:aF fK 59 [.agg #[aa 11,aa pn,aq 0 A.size,aq 1 B.size]] [.cells (af A) 5 true,.cells (af B) 5 true] λr q=>r=.ret (aa 0)/\q=[.cells (af A) 5 true,.cells (af B) 5 true])(sG:aF fK 11 [ci] [] λr q=>r=.ret (ap 0)/\q=[.abs (mZ [])]){Q:aU}(l6:ao fK 141 4 (K6.drop 4) (aoA pn A B b C) Q):ao fK 141 4 K6 (aoB pn A B b C) Q:=
 aV (aop pn A B b C zY sG) 4 (aB [3,13,1,1] (.leaf [2,3,7,8,9] [0,1,2,3,4,5,6,9] [0,1,2,3])) (λu=>by kernel_rfl) (mN (kC [ci] []) (mN (aE A) (mN (aE B) (mN (kC [av9 #[aa 11,aa pn,aq 0 A.size,aq 1 B.size]] [ak.cells (af A) 5 true,ak.cells (af B) 5 true]) (mN (aE A) (mN (aE B) (mN (aE b) (mN (aS C) (mQ l6)))))))))
abbrev DW(pn:Int)(A B b:ByteArray)(C:List Int)(S0 S:ad)(L:List ByteArray)(R:List Int)(H:List au)(d:aA)(o:ByteArray)(nd er hd t:Int):ai:=⟨[(6,.bool true)],qK A B b C⟩
theorem Vl(pn:Int)(A B b C S0 S L R H d o)(nd er hd t:Int){Q:bu}(hq:Q (.ret (.bool true)) (DW pn A B b C S0 S L R H d o nd er hd t).objs):aG fK 3 141 4 Q .ret (DW pn A B b C S0 S L R H d o nd er hd t):=aG.ret (vs:=[.bool true]) (l:=[]) (bs:=[0,1,2,3]) (pl:=[0,1,2,3]) (q:=[af A,af B,af b,ay C]) (λu=>by kernel_rfl) (by kernel_rfl) (aD (aE A) (aD (aE B) (aD (aE b) (aD (aS C) be)))) hq
abbrev aoD(pn:Int)(A B b:ByteArray)(C:List Int)(S0 S:ad)(L:List ByteArray)(R:List Int)(H:List au)(d:aA)(o:ByteArray)(nd er hd t:Int):ai:=⟨[(6,.bool false)],qK A B b C⟩
abbrev aoE:=λ(pn:Int) (A B b:ByteArray) C (S0 S:ad) (L:List ByteArray) (R:List Int) (H:List au) d o (nd er hd t:Int)=>(⟨[(3,ap 4),(7,aq 5 1),(8,ap 6),(11,ap 7)],[.cells (af A) 5 true,.cells (af B) 5 true,.cells (af b) 5 true,.cells (ay C) 3 true,ab ([aa 11,aa pn,aq 0 A.size,aq 1 B.size]) 24,ab ([aq 2 b.size,.bool true,aa 0,aa 0,aa 0]) 30,.abs d,ab ([.string o,.string (KI),.string (KI),.string (KI),aa nd,aa er,aa hd,aa t,aa 0,aa 0,aa 0,.bool false]) 43]⟩:ai)
abbrev aoF:=λ(pn:Int) (A B b:ByteArray) C S0 (S:ad) (L:List ByteArray) (R:List Int) (H:List au) (d:aA) (o:ByteArray) (nd er hd t:Int)=>(⟨[(2,aq 3 (nG C)),(3,ap 4),(7,aq 5 1),(8,ap 6),(9,ap 7)],[.cells (af A) 5 true,.cells (af B) 5 true,.cells (af b) 5 true,.cells (ay C) 3 true,ab [aa 11,aa pn,aq 0 A.size,aq 1 B.size] 24,ab [aq 2 b.size,.bool true,aa 0,aa 0,aa 0] 30,.abs (mZ []),ab (aL S0 6 8 9 10) 89,ab (ah []) 9,ab (ay []) 3,ab (an []) 114]⟩:ai)
theorem aoG(pn:Int)(A B b C S0 S L R H d o)(nd er hd t:Int)(pH:(an H).all ag=true)(om:aF fK 13 [.iface 37 (ap 0),aq 5 1,aq 6 (nG C)] (aP S0 [] [] [] (mZ [])++[ab (ow ⟨b,true,0,0,0⟩ b 7) 30,.cells (ay C) 3 true,.cells (af b) 5 true]) λr q=>r=.ret (.agg (mg o nd er hd t).toArray)/\q=(zT ⟨S,L,R,H,d⟩ ⟨b,true,0,0,0⟩ b C)){Q:aU}(l5:(er != 0)->(er==20)->Q .ret (DW pn A B b C S0 S L R H d o nd er hd t))(l6:(er != 0)->(er==20)=false->(er==17)->Q .ret (DW pn A B b C S0 S L R H d o nd er hd t))(l7:(er != 0)->(er==20)=false->(er==17)=false->Q .ret (aoD pn A B b C S0 S L R H d o nd er hd t))(l8:(er != 0)=false->ao fK 141 4 (Vj.drop 3) (aoE pn A B b C S0 S L R H d o nd er hd t) Q):ao fK 141 4 Vj (aoF pn A B b C S0 S L R H d o nd er hd t) Q:=
 aV (aor pn A B b C S0 S L R H d o nd er hd t om) 3 (aB [9,1,1,1,1,1] (.fork 2 (.fork 1 (aB [1,1,1] (.leaf [6] [0,1,2,3] [0,1,2,3])) (aB [0,2,0] (.fork 0 (aB [3] (.leaf [6] [0,1,2,3] [0,1,2,3])) (aB [0] (.leaf [6] [0,1,2,3] [0,1,2,3]))))) (.leaf [3,7,8,11] [0,1,2,3,4,5,6,14] [0,1,2,3]))) (λu=>by kernel_rfl) (mN (aS C) (mN (aE b) (mN (kC [Value.iface 37 (ap 0),aq 5 1,aq 6 (nG C)] (aP S0 [] [] [] (mZ [])++[ab [aq 7 b.size,asu true,aa 0,aa 0,aa 0] 30,ak.cells (ay C) 3 true,ak.cells (af b) 5 true])) (aO L R H (mF (c:=er != 0) (λh0=>(mF (c:=er==20) (λh1=>(iu 3 h1 (mN (aE A) (mN (aE B) (mN (aE b) (mN (aS C) (mR (l5 h0 h1)))))))) (λh1=>(iu 3 h1 (mF (c:=er==17) (λh2=>(mN h2 (mN (aE A) (mN (aE B) (mN (aE b) (mN (aS C) (mR (l6 h0 h1 h2)))))))) (λh2=>(mN h2 (mN (aE A) (mN (aE B) (mN (aE b) (mN (aS C) (mR (l7 h0 h1 h2))))))))))))) (λh0=>(mN (aE A) (mN (aE B) (mN (aE b) (mN (aS C) (mQ (l8 h0))))))))))))
abbrev aoH(pn:Int)(A B b:ByteArray)(C:List Int)(d:aA)(o:ByteArray)(nd hd t:Int)(ML:List Dy->List ByteArray):ai:=⟨[(6,.bool false)],qK A B b C⟩
abbrev Vn:=λ(pn:Int) (A B:ByteArray) b C (d:aA) o (nd hd t:Int) (ML:List Dy->List ByteArray)=>(⟨[(3,ap 4),(12,aq 5 (nG (ML (af b)))),(13,aq 6 (nG (ML (arV (λb=>KJ Um (↑(arR b):Int)) (arN (arK o)))))),(14,aa 0)],[.cells (af A) 5 true,.cells (af B) 5 true,.cells (af b) 5 true,.cells (ay C) 3 true,ab ([aa 11,aa pn,aq 0 A.size,aq 1 B.size]) 24,ab (ah (ML (af b))) 9,ab (ah (ML (arV (λb=>KJ Um (↑(arR b):Int)) (arN (arK o))))) 9]⟩:ai)
abbrev K7:=λ(pn:Int) (A B b:ByteArray) C d o (nd hd t:Int) (ML:List Dy->List ByteArray)=>(⟨[(3,ap 4),(7,aq 5 1),(8,ap 6),(11,ap 7)],[.cells (af A) 5 true,.cells (af B) 5 true,.cells (af b) 5 true,.cells (ay C) 3 true,ab [aa 11,aa pn,aq 0 A.size,aq 1 B.size] 24,ab [aq 2 b.size,.bool true,aa 0,aa 0,aa 0] 30,.abs d,ab (mg o nd 0 hd t) 43]⟩:ai)
theorem aoI(pn:Int)(A B)(b:ByteArray)(C)(d:aA)(o:ByteArray)(nd hd t:Int)(ML:List Dy->List ByteArray)(h0:d.files.isEmpty=true){Q:aU}(n0:(tH auN 14 [av9 #[aq 0 b.size,asu true,aa 0,aa 0,aa 0]] [ak.cells (af b) 5 true] (bD.ret (av9 #[aq 1 (nG (ML (af b))),asu true,aa 0,aa 0,aa 0])) [ak.cells (af b) 5 true,ab (ah (ML (af b))) 9]))(n1:(DC (arV (λb=>KJ Um (↑(arR b):Int)) (arN (arK o))) ag)=true)(n2:(tH auN 14 [av9 #[aq 0 o.size,asu true,aa 0,aa 0,aa 0]] [ab (arV (λb=>KJ Um (↑(arR b):Int)) (arN (arK o))) 5] (bD.ret (av9 #[aq 1 (nG (ML (arV (λb=>KJ Um (↑(arR b):Int)) (arN (arK o))))),asu true,aa 0,aa 0,aa 0])) [ab (arV (λb=>KJ Um (↑(arR b):Int)) (arN (arK o))) 5,ab (ah (ML (arV (λb=>KJ Um (↑(arR b):Int)) (arN (arK o))))) 9])=true)(aY:DC (af A) ag)(bh:DC (af B) ag)(bT:DC (af b) ag)(bO:DC (ay C) ag)(l7:((↑(nG (ML (af b))):Int) != (↑(nG (ML (arV (λb=>KJ Um (↑(arR b):Int)) (arN (arK o))))):Int))->Q .ret (aoH pn A B b C d o nd hd t ML))(n8:((↑(nG (ML (af b))):Int) != (↑(nG (ML (arV (λb=>KJ Um (↑(arR b):Int)) (arN (arK o))))):Int))=false->(oS d)=true)(l9:((↑(nG (ML (af b))):Int) != (↑(nG (ML (arV (λb=>KJ Um (↑(arR b):Int)) (arN (arK o))))):Int))=false->ao fK 141 4 (Vi.drop 5) (Vn pn A B b C d o nd hd t ML) Q):ao fK 141 4 Vi (K7 pn A B b C d o nd hd t ML) Q:=
 aV (aou pn A B b C d o nd hd t ML) 5 (aB [7,1,1,9,1,1,1] (.fork 2 (aB [1,1,1,1] (.leaf [6] [0,1,2,3] [0,1,2,3])) (aB [0,3,1,0,2,0] (.leaf [3,12,13,14] [0,1,2,3,4,8,10] [0,1,2,3,8,10])))) (λu=>by kernel_rfl) (mN (aE b) (mN n0 (mN (aW (ML (af b))) (mN n1 (mN n2 (mN n1 (mN (aW (ML (arV (λb=>KJ Um (↑(arR b):Int)) (arN (arK o))))) (mF (c:=(↑(nG (ML (af b))):Int) != (↑(nG (ML (arV (λb=>KJ Um (↑(arR b):Int)) (arN (arK o))))):Int)) (λh0=>(iu 4 h0 (mN (aE A) (mN (aE B) (mN (aE b) (mN (aS C) (mR (l7 h0)))))))) (λh0=>(mN h0 (mN (n8 h0) (mN (show(List.isEmpty (aA.files d))=true by assumption) (iu 3 h0 (mN (aE A) (mN (aE B) (mN (aE b) (mN (aS C) (mN (aW (ML (af b))) (mN (aW (ML (arV (λb=>KJ Um (↑(arR b):Int)) (arN (arK o))))) (mQ (l9 h0)))))))))))))))))))))
abbrev DX:=λ(pn:Int) (A B:ByteArray) b C l w=>([.cells (af A) 5 true,.cells (af B) 5 true,.cells (af b) 5 true,.cells (ay C) 3 true,ab ([aa 11,aa pn,aq 0 A.size,aq 1 B.size]) 24,ab (ah l) 9,ab (ah w) 9]:List ak)
abbrev aoJ:=λ(pn:Int) A B b C l w (CT:List Dy->ByteArray->Int) (i:Int)=>(⟨[(3,ap 4),(12,aq 5 (nG l)),(13,aq 6 (nG w)),(14,aa i)],DX pn A B b C l w⟩:ai)
abbrev aoK(pn:Int)(A B b:ByteArray)(C:List Int)(l w:List ByteArray)(CT:List Dy->ByteArray->Int)(i:Int):ai:=⟨[],qK A B b C⟩
abbrev DY:=λ(pn:Int) (A B:ByteArray) b C l w (CT:List Dy->ByteArray->Int) (i:Int)=>(⟨[(3,ap 4),(12,aq 5 (nG l)),(13,aq 6 (nG w)),(14,aa i)],[.cells (af A) 5 true,.cells (af B) 5 true,.cells (af b) 5 true,.cells (ay C) 3 true,ab [aa 11,aa pn,aq 0 A.size,aq 1 B.size] 24,ab (ah l) 9,ab (ah w) 9]⟩:ai)
theorem aoL(pn:Int)(A B b C l w)(CT:List Dy->ByteArray->Int)(i:Int){Q:aU}(l6:(decide (i<(↑(nG w):Int)))->ao fK 141 4 (zZ.drop 2) (aoJ pn A B b C l w CT i) Q)(l7:(decide (i<(↑(nG w):Int)))=false->Q (.exit 0) (aoK pn A B b C l w CT i)):ao fK 141 4 zZ (DY pn A B b C l w CT i) Q:=
 aV bp 2 (.fork 1 (.leaf [3,12,13,14] [0,1,2,3,4,5,6] [0,1,2,3,5,6]) (.leaf [] [0,1,2,3] [0,1,2,3])) (λu=>by kernel_rfl) (mF (c:=decide (i<(↑(nG w):Int))) (λh0=>(mN (aE A) (mN (aE B) (mN (aE b) (mN (aS C) (mN (aW l) (mN (aW w) (mQ (l6 h0))))))))) (λh0=>(mN (aE A) (mN (aE B) (mN (aE b) (mN (aS C) (mE 0 (l7 h0))))))))
abbrev Vo(pn:Int)(A B b:ByteArray)(C:List Int)(l w:List ByteArray)(CT:List Dy->ByteArray->Int)(i:Int):ai:=⟨[(6,.bool false)],qK A B b C⟩
abbrev z1:=λ(pn:Int) A B b C l w (CT:List Dy->ByteArray->Int) (i:Int)=>(⟨[(3,ap 4),(12,aq 5 (nG l)),(13,aq 6 (nG w)),(14,aa i)],DX pn A B b C l w⟩:ai)
theorem aoM(pn:Int)(A B b C l w)(CT:List Dy->ByteArray->Int)(i:Int)(h0:0<=i)(h1:i<(nG w))(h2:(nG w)<=1000000)(h3:m6 .i64 (i-1)=i-1){Q:aU}(n0:(decide (i>0))->(pn==0)->(dY (ah w) (0+m5 i*1)))(n1:(decide (i>0))->(pn==0)->(dY (ah w) (0+m5 (m6 .i64 (i-1))*1)))(l6:(decide (i>0))->(pn==0)->(auc (asA (aR (ah w) (0+m5 i*1))) (asA (aR (ah w) (0+m5 (m6 .i64 (i-1))*1))))->Q .ret (Vo pn A B b C l w CT i))(l9:(decide (i>0))->(pn==0)->(auc (asA (aR (ah w) (0+m5 i*1))) (asA (aR (ah w) (0+m5 (m6 .i64 (i-1))*1))))=false->ao fK 141 4 (vA.drop 2) (z1 pn A B b C l w CT i) Q)(n10:(decide (i>0))->(pn==0)=false->(pn==1)->(dY (ah w) (0+m5 i*1)))(n11:(decide (i>0))->(pn==0)=false->(pn==1)->(dY (ah w) (0+m5 (m6 .i64 (i-1))*1)))(kH:(decide (i>0))->(pn==0)=false->(pn==1)->(!(auc (asA (aR (ah w) (0+m5 i*1))) (asA (aR (ah w) (0+m5 (m6 .i64 (i-1))*1)))||asA (aR (ah w) (0+m5 i*1))==asA (aR (ah w) (0+m5 (m6 .i64 (i-1))*1))))->Q .ret (Vo pn A B b C l w CT i))(oq:(decide (i>0))->(pn==0)=false->(pn==1)->(!(auc (asA (aR (ah w) (0+m5 i*1))) (asA (aR (ah w) (0+m5 (m6 .i64 (i-1))*1)))||asA (aR (ah w) (0+m5 i*1))==asA (aR (ah w) (0+m5 (m6 .i64 (i-1))*1))))=false->ao fK 141 4 (vA.drop 2) (z1 pn A B b C l w CT i) Q)(vq:(decide (i>0))->(pn==0)=false->(pn==1)=false->ao fK 141 4 (vA.drop 2) (z1 pn A B b C l w CT i) Q)(Dk:(decide (i>0))=false->ao fK 141 4 (vA.drop 2) (z1 pn A B b C l w CT i) Q):ao fK 141 4 vA (DY pn A B b C l w CT i) Q:=
 aV bp 2 (.fork 0 (aB [1,3,1] (.fork 0 (aB [1,1,0,1,1,1,0,1,1,1,1,1,0,1,1,1,0,1,1,1,1,1] (.fork 0 (aB [1,1,1,1,1,1,1] (.leaf [6] [0,1,2,3] [0,1,2,3])) (aB [0,2,0,0,0,0,0,0,0,0,0,0,0,0,0,1,0,1] (.leaf [3,12,13,14] [0,1,2,3,4,5,6] [0,1,2,3,5,6])))) (aB [0,0,0,0,0,0,0,0,0,1,0,1] (.fork 5 (aB [1,1,0,1,1,1,0,1,1,1,1,1,0,1,1,1,0,1,1,3,1,3] (.fork 0 (.leaf [6] [0,1,2,3] [0,1,2,3]) (.leaf [3,12,13,14] [0,1,2,3,4,5,6] [0,1,2,3,5,6]))) (aB [0,0,0,0,0,0,0,0,0,2,1,3] (.leaf [3,12,13,14] [0,1,2,3,4,5,6] [0,1,2,3,5,6])))))) (aB [0,0,0,0,0,0,0] (.leaf [3,12,13,14] [0,1,2,3,4,5,6] [0,1,2,3,5,6]))) (λu=>by kernel_rfl) (mF (c:=decide (i>0)) (λh0=>(iu 3 h0 (mF (c:=pn==0) (λh1=>(iu 2 h1 (mN (decide_eq_true (by omega):(decide (0<=i))=true) (mN (show(arF (m5 i) (nG w))=true by simp at h0 h1 h2 h3 h0 h1⊢ <;>omega) (mN h1 (mN (n0 h0 h1) (iu 4 h1 (mN (show(decide (0<=m6 .i64 (i-1)))=true by simp at h0 h1 h2 h3 h0 h1⊢ <;>omega) (mN (show(arF (m5 (m6 .i64 (i-1))) (nG w))=true by simp at h0 h1 h2 h3 h0 h1⊢ <;>omega) (mN h1 (mN (n1 h0 h1) (mN h1 (mN h0 (mN h1 (mN h0 (mF (c:=auc (asA (aR (ah w) (0+m5 i*1))) (asA (aR (ah w) (0+m5 (m6 .i64 (i-1))*1)))) (λh2=>(iu 4 h2 (mN h0 (mN h2 (mN h0 (mN (aE A) (mN (aE B) (mN (aE b) (mN (aS C) (mR (l6 h0 h1 h2))))))))))) (λh2=>(iu 3 h2 (iu 10 (show(pn==1)=false by simp at h0 h1 h2 h3 h0 h1 h2⊢ <;>omega) (mN h2 (mN (show(pn==1)=false by simp at h0 h1 h2 h3 h0 h1 h2⊢ <;>omega) (mN h0 (mN h2 (mN h0 (mN (aE A) (mN (aE B) (mN (aE b) (mN (aS C) (mN (aW l) (mN (aW w) (mQ (l9 h0 h1 h2)))))))))))))))))))))))))))))))) (λh1=>(iu 9 h1 (mN h0 (mN h1 (mN h0 (mF (c:=pn==1) (λh2=>(iu 2 h2 (mN (decide_eq_true (by omega):(decide (0<=i))=true) (mN (show(arF (m5 i) (nG w))=true by simp at h0 h1 h2 h3 h0 h1 h2⊢ <;>omega) (mN h2 (mN (n10 h0 h1 h2) (iu 4 h2 (mN (show(decide (0<=m6 .i64 (i-1)))=true by simp at h0 h1 h2 h3 h0 h1 h2⊢ <;>omega) (mN (show(arF (m5 (m6 .i64 (i-1))) (nG w))=true by simp at h0 h1 h2 h3 h0 h1 h2⊢ <;>omega) (mN h2 (mN (n11 h0 h1 h2) (iu 2 h2 (iu 2 h0 (mF (c:= !(auc (asA (aR (ah w) (0+m5 i*1))) (asA (aR (ah w) (0+m5 (m6 .i64 (i-1))*1)))||asA (aR (ah w) (0+m5 i*1))==asA (aR (ah w) (0+m5 (m6 .i64 (i-1))*1)))) (λh3=>(mN (aE A) (mN (aE B) (mN (aE b) (mN (aS C) (mR (kH h0 h1 h2 h3))))))) (λh3=>(mN (aE A) (mN (aE B) (mN (aE b) (mN (aS C) (mN (aW l) (mN (aW w) (mQ (oq h0 h1 h2 h3))))))))))))))))))))))) (λh2=>(iu 10 h2 (iu 2 h0 (mN (aE A) (mN (aE B) (mN (aE b) (mN (aS C) (mN (aW l) (mN (aW w) (mQ (vq h0 h1 h2)))))))))))))))))))) (λh0=>(iu 7 h0 (mN (aE A) (mN (aE B) (mN (aE b) (mN (aS C) (mN (aW l) (mN (aW w) (mQ (Dk h0)))))))))))
abbrev aoN(pn:Int)(A B b:ByteArray)(C:List Int)(l w:List ByteArray)(CT:List Dy->ByteArray->Int)(i:Int):ai:=⟨[(6,.bool false)],qK A B b C⟩
abbrev aoO:=λ(pn:Int) A B b C l w (CT:List Dy->ByteArray->Int) (i:Int)=>(⟨[(3,ap 4),(12,aq 5 (nG l)),(13,aq 6 (nG w)),(14,aa i)],DX pn A B b C l w⟩:ai)
theorem aoP(pn:Int)(A B b C l w)(CT:List Dy->ByteArray->Int)(i:Int)(h0:0<=i)(h1:i<(nG w))(h2:(nG w)<=1000000)(h3:m6 .i64 (i+1)=i+1){Q:aU}(n0:(dY (ah w) (0+m5 i*1)))(n1:(tH auN 16 [aq 0 (nG l),arS (aR (ah w) (0+m5 i*1))] [ab (ah l) 9] (bD.ret (aa (CT (ah l) (aR (ah w) (0+m5 i*1))))) [ab (ah l) 9]))(n2:(tH auN 16 [aq 0 (nG w),arS (aR (ah w) (0+m5 i*1))] [ab (ah w) 9] (bD.ret (aa (CT (ah w) (aR (ah w) (0+m5 i*1))))) [ab (ah w) 9]))(l7:(CT (ah l) (aR (ah w) (0+m5 i*1)) != CT (ah w) (aR (ah w) (0+m5 i*1)))->Q .ret (aoN pn A B b C l w CT i))(jJ:(CT (ah l) (aR (ah w) (0+m5 i*1)) != CT (ah w) (aR (ah w) (0+m5 i*1)))=false->Q .normal (aoO pn A B b C l w CT i)):ao fK 141 4 (vA.drop 2) (DY pn A B b C l w CT i) Q:=
 aV (Vh pn A B b C l w CT) 1000 (aB [0,1,1,0,1,3,1,1,0,1,1,0,1,3,1,1] (.fork 0 (.leaf [6] [0,1,2,3] [0,1,2,3]) (.leaf [3,12,13,14] [0,1,2,3,4,5,6] [0,1,2,3,5,6]))) (λu=>by kernel_rfl) (mN (decide_eq_true (by omega):(decide (0<=i))=true) (mN (show(arF (m5 i) (nG w))=true by simp at h0 h1 h2 h3⊢ <;>omega) (mN n0 (mN (aW l) (mN n1 (mN (aW l) (mN (decide_eq_true (by omega):(decide (0<=i))=true) (mN (show(arF (m5 i) (nG w))=true by simp at h0 h1 h2 h3⊢ <;>omega) (mN n0 (mN (aW w) (mN n2 (mN (aW w) (mF (c:=CT (ah l) (aR (ah w) (0+m5 i*1)) != CT (ah w) (aR (ah w) (0+m5 i*1))) (λh0=>(mN (aE A) (mN (aE B) (mN (aE b) (mN (aS C) (mR (l7 h0))))))) (λh0=>(mN (aE A) (mN (aE B) (mN (aE b) (mN (aS C) (mN (aW l) (mN (aW w) (mQ (ao.done (by kernel_rfl) (jJ h0)))))))))))))))))))))))
abbrev Vp:=λ(pn:Int) A B b C l w (CT:List Dy->ByteArray->Int) (i:Int)=>(⟨[(3,ap 4),(12,aq 5 (nG l)),(13,aq 6 (nG w)),(14,.int .i64 (m6 .i64 (i+1)))],DX pn A B b C l w⟩:ai)
theorem aoQ(pn:Int)(A B b C l w)(CT:List Dy->ByteArray->Int)(i:Int){Q:aU}(l6:Q .normal (Vp pn A B b C l w CT i)):ao fK 141 4 (zZ.drop 3) (DY pn A B b C l w CT i) Q:=
 aV bp 1000 (.leaf [3,12,13,14] [0,1,2,3,4,5,6] [0,1,2,3,5,6]) (λu=>by kernel_rfl) (mN (aE A) (mN (aE B) (mN (aE b) (mN (aS C) (mN (aW l) (mN (aW w) (mQ (ao.done (by kernel_rfl) l6))))))))
abbrev K8(pn:Int)(A B b:ByteArray)(C:List Int)(l w:List ByteArray)(CT:List Dy->ByteArray->Int):ai:=⟨[(6,.bool true)],qK A B b C⟩
theorem aoR(pn:Int)(A B b C l w)(CT:List Dy->ByteArray->Int){Q:bu}(hq:Q (.ret (.bool true)) (K8 pn A B b C l w CT).objs):aG fK 3 141 4 Q .ret (K8 pn A B b C l w CT):=aG.ret (vs:=[.bool true]) (l:=[]) (bs:=[0,1,2,3]) (pl:=[0,1,2,3]) (q:=[af A,af B,af b,ay C]) (λu=>by kernel_rfl) (by kernel_rfl) (aD (aE A) (aD (aE B) (aD (aE b) (aD (aS C) be)))) hq
abbrev aoS(pn:Int)(A B b:ByteArray)(C:List Int)(l w:List ByteArray)(CT:List Dy->ByteArray->Int):ai:=⟨[],qK A B b C⟩
theorem aoT(pn:Int)(A B b C l w)(CT:List Dy->ByteArray->Int){Q:aU}(l4:Q .ret (K8 pn A B b C l w CT)):ao fK 141 4 (oY.drop 17) (aoS pn A B b C l w CT) Q:=
 aV (Vh pn A B b C l w CT) 1000 (.leaf [6] [0,1,2,3] [0,1,2,3]) (λu=>by kernel_rfl) (mN (aE A) (mN (aE B) (mN (aE b) (mN (aS C) (mR l4)))))
end
theorem aF.aoU{P:arC}{f:arY}{Q:bD->List ak->Prop}(el:KS){s:Nat}(hz:bZ P el=some s)(h:aF P f [.slice (some ⟨0,0,none⟩) 0 0] [.cells [] el false] Q):aF P f [.slice none 0 0] [] Q:=by
 intro B w₀ ρ w args' h1 h2 h3 h4
 obtain⟨ρ1,g1,g2,g3,r0,g4⟩:=WR.Ha (objs:=[]) h4 hz (by decide)
 have gM:Vm.Full ρ1:=λq=>by
  obtain⟨y,a,b⟩:=h1 q
  exact⟨y,a,g1 _ _ b⟩
 have kX:∀x,x< [ak.cells [] el false].length->∃r,ρ1 x=some r:=λx hx=>by
  have:x=0:=by simp at hx;omega
  subst this
  exact⟨_,g4⟩
 obtain⟨v',l2,e1,a1,a2⟩:=h3.gT
 have hv:=VR.su rfl a1
 subst hv
 have GB:LR ρ1 [.slice (some ⟨0,0,none⟩) 0 0] args'.toList:=by
  rw[e1,a2.kO]
  exact LR.cons (.eJ _ _) (LR.nil _)
 refine(h B w₀ ρ1 w args' gM kX GB g2).mono λe w' he=>?_
 obtain⟨r,o',ρ',b1,b2,b3,b4,b5,b6⟩:=he
 exact⟨r,o',ρ',b1,b2,b3,b4,b5,λx hx=>by cases hx⟩
theorem aoV:aF fK 11 [.slice none 0 0] [] λr o=>r=.ret (.pointer (some ⟨0,0,none⟩))/\o=[.abs (mZ [])]:=by
 have h1:=aok [] false (asb _)
 have h2:aF fK 11 [.slice none 0 0] [] λr o=>r=.ret (.pointer (some ⟨1,0,none⟩))/\o=[.cells (aI []) 77 false,.abs (mZ [])]:=aF.aoU 77 (s:=2) (by kernel_rfl) h1
 exact aF.trim h2 λr o de=>⟨[1],[],.ret (.pointer (some ⟨0,0,none⟩)),[.abs (mZ [])],[],by rw[de.1,de.2];rfl,be,rfl,rfl⟩
theorem Vq:∀x y:List UInt8,auc x y=decide (asM x y<0)
 | [],[]=>rfl
 |_::_,[]=>rfl
 | [],_::_=>rfl
 |a::x,b::y=>by
  unfold auc asM
  by_cases h1:a<b
  ·rw[if_pos h1,decide_eq_true h1];rfl
  ·rw[if_neg h1,decide_eq_false h1]
   by_cases h2:b<a
   ·rw[if_pos h2]
    have:(a==b)=false:=by
     rw[beq_eq_false_iff_ne]
     intro e
     rw[e]at h2
     exact absurd h2 (UInt8.lt_irrefl b)
    rw[this]
    rfl
   ·rw[if_neg h2]
    have:a=b:=UInt8.le_antisymm (by simpa using h2) (by simpa using h1)
    subst this
    rw[Vq x y]
    simp
theorem Vr(a b:ByteArray):auc a.toList b.toList=decide (b8 a b<0):=by
 rw[auU,auU,Vq]
 rfl
theorem Vs:∀(x:List UInt8) (dy l:List UInt8),(10:UInt8)∉x->dy.length+x.length<=64->dH (x++10::l) dy=(⟨(dy++x).toArray⟩::(dH l []).1,(dH l []).2)
 | [],dy,l,h,hl=>by
  rw[asK,zX,if_pos rfl,asg]
 |y::x,dy,l,h,hl=>by
  have hy:¬y=10:=λe=>h (by rw[e];exact arH)
  simp only[ar4]at hl
  rw[List.cons_append,zX,if_neg hy,if_neg (by omega),Vs x (dy++[y]) l (λhm=>h (arG _ hm)) (by rw[KO,List.length_singleton];omega),arI]
  rfl
theorem K9:∀l:List ByteArray,(∀x∈l,jX x)->dH (fw l).data.toList []=(l,some [])
 | [],h=>rfl
 |x::l,h=>by
  have hx:=h x arH
  have hs:=hx.small
  have hd:(fw (x::l)).data.toList=x.data.toList++10::(fw l).data.toList:=by
   show(bM x++fw l).data.toList=_
   rw[ByteArray.data_append,Array.toList_append,Ua,arI]
   rfl
  rw[hd,Vs _ _ _ hx.none (by show 0+x.size<=64;omega),K9 l λy hy=>h y (arG _ hy)]
  have:(⟨([]++x.data.toList).toArray⟩:ByteArray)=x:=Du (by simp)
  rw[this]
theorem aoW{l:List ByteArray}(h:∀x∈l,jX x):ji (fw l) true=l:=by
 unfold ji
 rw[K9 l h]
 show l++gQ []=l
 exact asg l
abbrev aoX(K N:Int)(A B b:ByteArray)(C:List Int):List Dy:=[.agg #[.int .i64 K,.int .i64 N,.slice (some ⟨0,0,none⟩) A.size A.size,.slice (some ⟨1,0,none⟩) B.size B.size],.slice (some ⟨2,0,none⟩) b.size b.size,.slice (some ⟨3,0,none⟩) C.length C.length]
abbrev vB(A B b:ByteArray)(C:List Int):List ak:=[.cells (af A) 5 true,.cells (af B) 5 true,.cells (af b) 5 true,.cells (ay C) 3 true]
abbrev rZ(A B b:ByteArray)(C:List Int)(r:bD)(o:List ak):Prop:=r=.ret (.bool true)/\o=vB A B b C
def DZ(cs:List Dy):ByteArray:=⟨((bytesOf cs).getD []).toArray⟩
theorem Vt(b:ByteArray):DZ (af b)=b:=by
 unfold DZ
 rw[Za]
 exact Du (by simp)
def La:List Dy->List ByteArray:=arV λv=>match v with| .string s=>s|_=>KI
theorem aoY(l:List ByteArray):La (ah l)=l:=by
 unfold La ah
 rw[List.map_map]
 exact(List.map_congr_left λx _=>rfl).trans (List.map_id l)
theorem aoZ{n:Nat}(hn:n=cp fK 3)(pn:Int)(ta:0<=pn/\pn<=1)(A B b:ByteArray)(C:List Int)(l w:List ByteArray)(hp:w.Perm l)(hs:dp (aN (pn==1)) w)(hw:w.length<=900000):
 ao fK n 4 (oY.drop 16) ⟨[(3,.pointer (some ⟨4,0,none⟩)),(12,.slice (some ⟨5,0,none⟩) l.length l.length),(13,.slice (some ⟨6,0,none⟩) w.length w.length),(14,.int .i64 0)],
  vB A B b C++[.cells [.int .i64 11,.int .i64 pn,.slice (some ⟨0,0,none⟩) A.size A.size,.slice (some ⟨1,0,none⟩) B.size B.size] 24 false,.cells (ah l) 9 false,.cells (ah w) 9 false]⟩
  (aG fK 3 n 4 (rZ A B b C)):=by
 subst hn
 have hl:l.length<=900000:=by rw[<-hp.length_eq];exact hw
 obtain⟨CT,ao0⟩:∃CT:List Dy->ByteArray->Int,∀c x,CT c x=(((La c).count x:Nat):Int):=⟨_,λ_ _=>rfl⟩
 have D1:∀(k:List ByteArray) x,CT (ah k) x=((k.count x:Nat):Int):=λk x=>by rw[ao0,aoY]
 refine ao.eX 16 0 (by kernel_rfl) ?_
 refine ao.gu (λi:Nat=>⟨[(3,.pointer (some ⟨4,0,none⟩)),(12,.slice (some ⟨5,0,none⟩) l.length l.length),(13,.slice (some ⟨6,0,none⟩) w.length w.length),(14,.int .i64 (i:Nat))],vB A B b C++[.cells [.int .i64 11,.int .i64 pn,.slice (some ⟨0,0,none⟩) A.size A.size,.slice (some ⟨1,0,none⟩) B.size B.size] 24 false,.cells (ah l) 9 false,.cells (ah w) 9 false]⟩) (λi=>w.length-i) (λi=>i<=w.length) 0 (by kernel_rfl) (asb _) ?_
 intro i h1
 apply aoL pn A B b C l w CT i
 case l7=>
  intro g
  with_reducible (repeat first|refine QL.ret ?_|refine QL.exit ?_|refine QB.ret ?_|refine QB.cw ?_|refine QB.normal ?_|refine QB.cJ (by rfl) ?_)
  apply aoT pn A B b C l w CT
  ·exact aoR pn A B b C l w CT ⟨rfl,rfl⟩
 case l6=>
  intro g
  have g:=of_decide_eq_true g
  have hi:i<w.length:=by omega
  have fV:=bK (z:=(i:Int)+1) (by omega) (by omega)
  have dg:=bK (z:=(i:Int)-1) (by omega) (by omega)
  have hx:aR (ah w) (0+m5 (i:Int)*1)=w[i]:=by rw[show 0+m5 (i:Int)*1=i by omega];exact yT hi
  refine ao.eX 2 1 (by kernel_rfl) ?_
  have rest:ao fK (cp fK 3) 4 (vA.drop 2) (z1 pn A B b C l w CT i) (QB 1 (λd'=>ao fK (cp fK 3) 4 (zZ.drop (2+1)) d' (QL (λi:Nat=>⟨[(3,.pointer (some ⟨4,0,none⟩)),(12,.slice (some ⟨5,0,none⟩) l.length l.length),(13,.slice (some ⟨6,0,none⟩) w.length w.length),(14,.int .i64 (i:Nat))],vB A B b C++[.cells [.int .i64 11,.int .i64 pn,.slice (some ⟨0,0,none⟩) A.size A.size,.slice (some ⟨1,0,none⟩) B.size B.size] 24 false,.cells (ah l) 9 false,.cells (ah w) 9 false]⟩) (λi=>w.length-i) (λi=>i<=w.length) i (QB 0 (λd'=>ao fK (cp fK 3) 4 (oY.drop (16+1)) d' (aG fK 3 (cp fK 3) 4 (rZ A B b C))) (aG fK 3 (cp fK 3) 4 (rZ A B b C))))) (QL (λi:Nat=>⟨[(3,.pointer (some ⟨4,0,none⟩)),(12,.slice (some ⟨5,0,none⟩) l.length l.length),(13,.slice (some ⟨6,0,none⟩) w.length w.length),(14,.int .i64 (i:Nat))],vB A B b C++[.cells [.int .i64 11,.int .i64 pn,.slice (some ⟨0,0,none⟩) A.size A.size,.slice (some ⟨1,0,none⟩) B.size B.size] 24 false,.cells (ah l) 9 false,.cells (ah w) 9 false]⟩) (λi=>w.length-i) (λi=>i<=w.length) i (QB 0 (λd'=>ao fK (cp fK 3) 4 (oY.drop (16+1)) d' (aG fK 3 (cp fK 3) 4 (rZ A B b C))) (aG fK 3 (cp fK 3) 4 (rZ A B b C))))):=by
   apply aoP pn A B b C l w CT i (by omega) (by omega) (by omega) fV
   case n0=>rw[show 0+m5 (i:Int)*1=i by omega];exact uG hi
   case n1=>rw[D1];exact DK (US l _ false hl)
   case n2=>rw[D1];exact DK (US w _ false hw)
   case l7=>intro h;rw[D1,D1,hp.count_eq]at h;simp at h
   case jJ=>
    intro _
    refine QB.normal ?_
    apply aoQ pn A B b C l w CT i
    ·
     refine QL.to (i+1) (by omega) (by omega) ?_
     unfold Vp
     rw[fV]
     rfl
  have prev:∀(oG:0<i),aR (ah w) (0+m5 (m6 .i64 ((i:Int)-1))*1)=w[i-1]:=λoG=>by
   rw[dg,show 0+m5 ((i:Int)-1)*1=i-1 by omega];exact yT (by omega)
  have Vu:∀(oG:0<i),dY (ah w) (0+m5 (m6 .i64 ((i:Int)-1))*1)=true:=λoG=>by
   rw[dg,show 0+m5 ((i:Int)-1)*1=i-1 by omega];exact uG (by omega)
  have ord:∀(oG:0<i),¬aN (pn==1) w[i] w[i-1]<0:=λoG=>by
   have:=List.pairwise_iff_getElem.1 hs (i-1) i (by omega) hi (by omega)
   exact oT.1 this
  apply aoM pn A B b C l w CT i (by omega) (by omega) (by omega) dg
  case n0=>intro _ _;rw[show 0+m5 (i:Int)*1=i by omega];exact uG hi
  case n1=>intro h0 _;exact Vu (by have:=of_decide_eq_true h0;omega)
  case n10=>intro _ _ _;rw[show 0+m5 (i:Int)*1=i by omega];exact uG hi
  case n11=>intro h0 _ _;exact Vu (by have:=of_decide_eq_true h0;omega)
  case l6=>
   intro h0 hz h
   have h0:0<i:=by have:=of_decide_eq_true h0;omega
   have hz:pn=0:=by simpa using hz
   rw[hx,prev h0,Vr]at h
   have h:=of_decide_eq_true h
   have:=ord h0
   rw[hz]at this
   exact absurd h this
  case l9=>intro _ _ _;exact rest
  case kH=>
   intro h0 _ hz h
   have h0:0<i:=by have:=of_decide_eq_true h0;omega
   have hz:pn=1:=by simpa using hz
   have ho:=ord h0
   rw[hz]at ho
   have ho:¬b8 w[i-1] w[i]<0:=ho
   rw[hx,prev h0,Vr,JB]at h
   exfalso
   have h:(decide (b8 w[i] w[i-1]<0)||decide (w[i]=w[i-1]))=false:=by simpa using h
   rw[Bool.or_eq_false_iff]at h
   have a1:¬b8 w[i] w[i-1]<0:=of_decide_eq_false h.1
   exact of_decide_eq_false h.2 ((og false).PQ _ _ a1 ho)
  case oq=>intro _ _ _ _;exact rest
  case vq=>intro _ _ _;exact rest
  case Dk=>intro _;exact rest
structure Fin(x:MS):Prop where
 cL:ct x.d
 cl:x.S.closed=false
theorem Fin.fail{x:MS}(h:Fin x)(e:Int):Fin (x.fail e):=⟨h.cL,h.cl⟩
theorem Lb(S:ad)(L:List ByteArray)(R:List Int)(d:aA):(cM S L R d).2.1.closed=S.closed:=by unfold cM;split;rfl;split;rfl;rfl
theorem D2:∀(l:List ByteArray) (s:cm),(cx l s).2.1.closed=s.1.closed
 | [],s=>rfl
 |x::l,s=>by
  unfold cx
  split
  ·split
   ·exact Lb _ _ _ _
   ·exact(D2 l _).trans (Lb _ _ _ _)
  ·exact D2 l _
theorem Lc(S:ad)(R:List Int)(H:List au)(d:aA):(cy S R H d).2.1.closed=S.closed:=by unfold cy;split<;>rfl
theorem Ld{S:ad}{R:List Int}{H:List au}{d:aA}(h:ct d):ct (cy S R H d).2.2:=by
 unfold cy
 split
 ·exact h
 ·exact(CV R d h).1
theorem Fin.feed{F:Nat}{x:MS}(h:lh F x)(hf:Fin x)(b:ByteArray):Fin (bX x b).2:=by
 obtain⟨S,L,R,H,d⟩:=x
 obtain⟨⟨hg,hc,hH,yl,ca⟩,dX,fk,de,tE,TX⟩:=h
 dsimp only[MS.z]at*
 obtain⟨c1,c2,c3,c4⟩:=zL b.data.toList S [] hc λx hx=>by cases hx
 obtain⟨s1,s2,s3,s4,s5,s6,s7,s8,s9,Tq,Ts,Kc,Kd⟩:=xo b.data.toList S []
 unfold bX
 dsimp only
 generalize bW b.data.toList S []=o at*
 obtain⟨e,S1,M⟩:=o
 dsimp only at*
 have oO:Good F (S1,L,R,d):=⟨⟨by rw[show((S1,L,R,d):cm).1.rn=S1.rn from rfl,s6];exact hg.ok.len,by rw[show((S1,L,R,d):cm).1.sn=S1.sn from rfl,s8];exact hg.ok.runs,hg.ok.cL,hg.ok.made,by rw[show((S1,L,R,d):cm).1.bJ=S1.bJ from rfl,s7];exact hg.ok.bJ,hg.ok.bR⟩,hg.old,hg.bR⟩
 have h3:=(zI M F (S1,L,R,d) oO c2).1
 have h4:=D2 M (S1,L,R,d)
 generalize cx M (S1,L,R,d)=o at*
 obtain⟨f,t⟩:=o
 dsimp only at*
 have ft:Fin (fJ t H):=⟨h3.cL,h4.trans (Kc.trans hf.cl)⟩
 split
 ·exact ft.fail _
 split
 ·exact ft.fail _
 ·exact ft
theorem Vv(s:cm):(fo s).2.1.closed=s.1.closed:=by
 unfold fo
 split
 ·rfl
 ·exact D2 _ _
theorem ao1(s:cm)(H:List au):(jt s H).2.1.1.closed=s.1.closed:=by
 unfold jt
 split
 ·rfl
 ·generalize dj s.1.aC s.2.2.1.length s.2.2.1 s.2.2.2=o
  obtain⟨a,R,d⟩:=o
  dsimp only
  generalize dB R [] d=o
  obtain⟨e,l,dd⟩:=o
  dsimp only
  split<;>rfl
theorem ao2(s:cm)(H:List au):(gI s H).2.1.1.closed=s.1.closed:=by
 unfold gI
 split
 ·exact Vv s
 have h:(kJ (fo s).2).1.closed=s.1.closed:=Vv s
 unfold rS
 split
 ·exact h
 unfold qG
 have h2:(fq (kJ (fo s).2)).2.1.closed=s.1.closed:=by
  unfold fq
  split
  ·exact(Lb _ _ _ _).trans h
  ·exact h
 split
 ·exact h2
 ·exact(ao1 _ _).trans h2
theorem Fin.ends{F:Nat}{x:MS}(h:lh F x)(hf:Fin x)(hF:F<=800000):Fin (e9 x).2:=by
 have hl:=Dn (s:=x.z) (H:=x.H) h.ok.pQ h.ok.cut hF h.ok.kh
 have hc:=ao2 x.z x.H
 unfold e9
 generalize gI x.z x.H=o at*
 obtain⟨e,t,G⟩:=o
 dsimp only at*
 have ft:Fin (fJ t G):=⟨hl.cL,hc.trans hf.cl⟩
 split
 ·exact ft.fail _
 have h2:=Ld (S:=t.1) (R:=t.2.2.1) (H:=G) ft.cL
 have h3:=Lc t.1 t.2.2.1 G t.2.2.2
 have h2:ct (cy t.1 t.2.2.1 G t.2.2.2).2.2:=h2
 generalize cy t.1 t.2.2.1 G t.2.2.2=o at*
 obtain⟨f,U,d3⟩:=o
 dsimp only at*
 have fu:Fin ⟨U,t.2.1,t.2.2.1,G,d3⟩:=⟨h2,h3.trans ft.cl⟩
 split
 ·exact fu.fail _
 ·exact fu
theorem Fin.more{x:MS}(hf:Fin x):Fin (fv x).2.2:=by
 unfold fv
 split
 ·have h2:ct (cy x.S.pop x.R x.H x.d).2.2:=Ld hf.cL
  have h3:(cy x.S.pop x.R x.H x.d).2.1.closed=x.S.closed:=Lc _ _ _ _
  generalize cy x.S.pop x.R x.H x.d=o at*
  obtain⟨f,U,d3⟩:=o
  dsimp only at*
  have fu:Fin ⟨U,x.L,x.R,x.H,d3⟩:=⟨h2,h3.trans hf.cl⟩
  split
  ·exact fu.fail _
  ·exact fu
 ·split
  ·exact hf
  ·rename_i k _
   have h1:=ct.bE hf.cL (aK x.H k)
   generalize bE (aK x.H k) x.d=o at*
   obtain⟨e,y,dd⟩:=o
   dsimp only at*
   have fy:Fin ⟨x.S,x.L,x.R,x.H.set k y,dd⟩:=⟨h1,hf.cl⟩
   split
   ·exact fy.fail _
   have h2:ct (cy x.S x.R (x.H.set k y) dd).2.2:=Ld h1
   have h3:(cy x.S x.R (x.H.set k y) dd).2.1.closed=x.S.closed:=Lc _ _ _ _
   generalize cy x.S x.R (x.H.set k y) dd=o at*
   obtain⟨f,U,d3⟩:=o
   dsimp only at*
   have fu:Fin ⟨U,x.L,x.R,x.H.set k y,d3⟩:=⟨h2,h3.trans hf.cl⟩
   split
   ·exact fu.fail _
   ·exact fu
theorem D3(s:aX)(C:List Int)(hs:s.bytes.size<=800000):∀(m k:Nat) (g:DS),jP s k g->Fin g.x->Fin (dR s C m k g).x
 |0,k,g,h,hf=>hf
 |m+1,k,g,h,hf=>by
  unfold dR
  by_cases hc:g.er=0/\g.nd≠-1
  ·rw[if_pos hc]
   unfold fF
   by_cases h2:g.nd= -2
   ·rw[if_pos h2]
    exact D3 s C hs m (k+1) _ (h.kL hc.1 h2) hf.more
   ·rw[if_neg h2]
    obtain⟨F,f1,f2,f3⟩:=h.feed hc.1 hc.2 h2
    by_cases ht:g.t<s.bytes.size
    ·rw[if_pos ht]
     exact D3 s C hs m (k+1) _ (h.ju hc.1 hc.2 h2 ht) (Fin.feed f1 hf _)
    ·rw[if_neg ht]
     by_cases he:s.ended=true/\g.w=false
     ·rw[if_pos he]
      have rW:=h.t
      exact D3 s C hs m (k+1) _ (h.jO hc.1 hc.2 h2 hs) (Fin.ends f1 hf (by omega))
     ·rw[if_neg he]
      exact hf
  ·rw[if_neg hc]
   exact hf
theorem ao3(f:Bool)(sc:List (Int×Int))(s:aX)(C:List Int)(h:sc.length<=1000000)(hs:s.bytes.size<=4500)(m:Nat):Fin (dR s C m 0 (li (gj f sc))).x:=by
 have hx:=DB f h
 exact D3 s C (by omega) m 0 (li (gj f sc)) ⟨rfl,asb _,arO _,hx.inv,λ_=>.inr (.inr ⟨0,hx,rfl,rfl⟩),by show(0:Int)<=0/\(0:Int)<=320;omega⟩ ⟨KL h,rfl⟩
theorem Vw(b:ByteArray)(rb:Bool)(hb:b.size<=900000){r:List UInt8}(hc:(dH b.data.toList []).2=some r)(q:List Dy)(hq:q=af b)(ML:List Dy->List ByteArray)(hM:ML q=ji b true):
 tH fK 14 [.agg #[.slice (some ⟨0,0,none⟩) b.size b.size,.bool true,.int .i64 0,.int .i64 0,.int .i64 0]] [.cells q 5 rb] (.ret (.agg #[.slice (some ⟨1,0,none⟩) (ML q).length (ML q).length,.bool true,.int .i64 0,.int .i64 0,.int .i64 0])) [.cells q 5 rb,.cells (ah (ML q)) 9 false]=true:=by
 have h:=anj b rb true 0 0 0 hb
 have hR:pT b true 0 0 0=[.bool true,.int .i64 0,.int .i64 0,.int .i64 0]:=by unfold pT;rw[hc];rfl
 rw[hR]at h
 rw[hM,hq]
 exact DK h
theorem ao4{n:Nat}(hn:n=cp fK 3)(pn:Int)(ta:0<=pn/\pn<=1)(A B b:ByteArray)(C:List Int)(d:aA)(o:ByteArray)(nd hd t:Int)(hb:b.size<=4500)(hok:ct d)(hf:d.files=[]){M:List ByteArray}{r:List UInt8}(hc:dH b.data.toList []=(M,some r))(ho:o=fw (bb (aN (pn==1)) (M++gQ r)))(ML:List Dy->List ByteArray)(D4:∀c,ML c=ji (DZ c) true):
 ao fK n 4 (oY.drop 11) (K7 pn A B b C d o nd hd t ML) (aG fK 3 n 4 (rZ A B b C)):=by
 have hT:=og (pn==1)
 obtain⟨p1,p2⟩:=DF b.data.toList [] (by simp) (by simp)
 have rh:=DH b.data.toList []
 have hlen:b.data.toList.length=b.size:=rfl
 rw[hc]at p1 p2 rh
 dsimp only at p1 p2 rh
 have Vx:ji b true=M++gQ r:=by unfold ji;rw[hc];rfl
 have du:∀x∈bb (aN (pn==1)) (M++gQ r),jX x:=λx hx=>by
  have hx:=(ib _).mem_iff.1 hx
  rcases List.mem_append.1 hx with hx|hx
  ·exact p1 x hx
  ·unfold gQ at hx
   split at hx
   ·cases hx
   ·rw[ar0.1 hx];exact p2 r rfl
 have hW:ji o true=bb (aN (pn==1)) (M++gQ r):=by rw[ho];exact aoW du
 have ao5:(dH o.data.toList []).2=some []:=by rw[ho,K9 _ du]
 have KR:a8 (M++gQ r)<=4600:=by
  rw[lg]
  unfold gQ
  split
  ·show a8 M+0<=_;simp only[as2]at rh;omega
  ·have:=(p2 r rfl).small
   show a8 M+((⟨r.toArray⟩:ByteArray).size+1+0)<=_
   simp only[as2]at rh
   omega
 have ama:o.size<=4600:=by rw[ho,xw,pO (ib _)];exact KR
 have CJ:=rO (bb (aN (pn==1)) (M++gQ r))
 rw[pO (ib _)]at CJ
 have Le:ML (af b)=ji b true:=by rw[D4,Vt]
 have ao6:ML (af o)=ji o true:=by rw[D4,Vt]
 have Lf:ML (arV (λb=>KJ Um (↑(arR b):Int)) (arN (arK o)))=ji o true:=ao6
 have ao7:=aoZ hn pn ta A B b C (ji b true) (ji o true) (by rw[hW,Vx];exact ib _) (by rw[hW];exact ny hT _) (by rw[hW];omega)
 subst hn
 apply aoI pn A B b C d o nd hd t ML (by rw[hf];rfl)
 case n0=>exact Vw b true (by omega) (by rw[hc]) _ rfl ML Le
 case n1=>show(af o).all ag=true;simp
 case n2=>exact Vw o false (by omega) ao5 _ rfl ML Lf
 case aY=>simp
 case bh=>simp
 case bT=>simp
 case bO=>simp
 case l7=>
  intro h
  rw[Le,Lf,hW,Vx,lG]at h
  simp at h
 case n8=>intro _;exact qz.2 hok
 case l9=>
  intro _
  unfold Vn
  rw[Le,Lf]
  exact ao7
theorem ao8{n:Nat}(hn:n=cp fK 3)(pn:Int)(ta:0<=pn/\pn<=1)(A B b:ByteArray)(C:List Int)(hb:b.size<=4500)(hC:C.length<=3000):
 ao fK n 4 (oY.drop 8) ⟨[(2,.slice (some ⟨3,0,none⟩) C.length C.length),(3,.pointer (some ⟨4,0,none⟩)),(7,.slice (some ⟨5,0,none⟩) 1 1),(8,.pointer (some ⟨6,0,none⟩)),(9,.pointer (some ⟨7,0,none⟩))],
  vB A B b C++[.cells [.int .i64 11,.int .i64 pn,.slice (some ⟨0,0,none⟩) A.size A.size,.slice (some ⟨1,0,none⟩) B.size B.size] 24 false,.cells [.slice (some ⟨2,0,none⟩) b.size b.size,.bool true,.int .i64 0,.int .i64 0,.int .i64 0] 30 false,.abs (mZ []),.cells (aL (KK (pn==1)) 6 8 9 10) 89 false,.cells (ah []) 9 false,.cells (ay []) 3 false,.cells (an []) 114 false]⟩
  (aG fK 3 n 4 (rZ A B b C)):=by
 have hx:=DB (pn==1) (sc:=[]) (asb _)
 have FB:b=b.extract 0 b.size:=ByteArray.extract_zero_size.symm
 have om:=al7 (gj (pn==1) []) ⟨b,true,0,0,0⟩ b C hx rfl hb FB (arO _) hb hC
 have nT:=ao3 (pn==1) [] ⟨b,true,0,0,0⟩ C (asb _) hb mY
 have Dh:=amS (pn==1) ⟨b,true,0,0,0⟩ C hb rfl
 generalize dR ⟨b,true,0,0,0⟩ C mY 0 (li (gj (pn==1) []))=g at om nT Dh
 obtain⟨⟨S,L,R,H,d⟩,o,nd,er,hd,t,w⟩:=g
 obtain⟨h1,h2⟩:=Dh
 have hok:=nT.cL
 dsimp only at h1 h2 hok
 have pH:=aZ H
 obtain⟨ML,D4⟩:∃ML:List Dy->List ByteArray,∀c,ML c=ji (DZ c) true:=⟨_,λ_=>rfl⟩
 have ao9:er=0->ao fK n 4 (oY.drop 11) (K7 pn A B b C d o nd hd t ML) (aG fK 3 n 4 (rZ A B b C)):=λe=>by
  obtain⟨a,M,r,c,e2⟩:=h2 e
  exact ao4 hn pn ta A B b C d o nd hd t hb hok a c e2 ML D4
 subst hn
 apply aoG pn A B b C (KK (pn==1)) S L R H d o nd er hd t pH om
 case l5=>intro _ _;exact Vl pn A B b C _ S L R H d o nd er hd t ⟨rfl,rfl⟩
 case l6=>intro _ _ _;exact Vl pn A B b C _ S L R H d o nd er hd t ⟨rfl,rfl⟩
 case l7=>
  intro a1 a2 a3
  have a1:er≠0:=by simpa using a1
  have a2:er≠20:=by simpa using a2
  have a3:er≠17:=by simpa using a3
  omega
 case l8=>
  intro a1
  have a1:er=0:=by simpa using a1
  subst a1
  exact ao9 rfl
theorem apa(A B b:ByteArray)(K N:Int)(C:List Int):
 aF fK 3 (aoX K N A B b C) (vB A B b C) (rZ A B b C):=by
 obtain⟨e,vo⟩:∃e,A.size<=1000/\B.size<=1000->aF fK 31 (DU K N A B) (tK A B) (λr o=>r=.ret (.int .i64 e)/\o=tK A B)/\(e=0->K=11->A.size=0/\B.size=0/\0<=N/\N<=1):=by
  by_cases h:A.size<=1000/\B.size<=1000
  ·obtain⟨e,a,b⟩:=anX K N A B h.1 h.2
   exact⟨e,λ_=>⟨a,b⟩⟩
  ·exact⟨0,λg=>absurd g h⟩
 refine aF.dv (n:=cp fK 3) (by kernel_rfl) ?_
 apply aoz K N A B b C e
 case l4=>intro _;exact xG K N A B b C e ⟨rfl,rfl⟩
 case l5=>intro _ _;exact xG K N A B b C e ⟨rfl,rfl⟩
 case l6=>intro _ _ _;exact xG K N A B b C e ⟨rfl,rfl⟩
 case l7=>intro _ _ _ _;exact xG K N A B b C e ⟨rfl,rfl⟩
 case n8=>intro g1 g2 _ _;exact DK (vo ⟨by have:=of_decide_eq_false g1;omega,by have:=of_decide_eq_false g2;omega⟩).1
 case jJ=>intro _ _ _ _ _ _;exact xG K N A B b C e ⟨rfl,rfl⟩
 case iJ=>intro _ _ _ _ _;exact xG K N A B b C e ⟨rfl,rfl⟩
 case l9=>
  intro g1 g2 g3 g4 g5 g6
  have hA:A.size<=1000:=by have:=of_decide_eq_false g1;omega
  have hB:B.size<=1000:=by have:=of_decide_eq_false g2;omega
  have g3:=of_decide_eq_false g3
  have g4:=of_decide_eq_false g4
  have g5:e=0:=by simpa using g5
  have g6:K=11:=by simpa using g6
  subst g6
  have hp:=(vo ⟨hA,hB⟩).2 g5 rfl
  have zY:=anY N A B hA hB hp.1 hp.2.1 hp.2.2.1 hp.2.2.2
  apply aoC N A B b C zY aoV
  ·
   have h:=ao8 rfl N hp.2.2 A B b C (by omega) (by omega)
   refine ao.nr 7 71 9 (s:=1) (by kernel_rfl) rfl rfl (by rfl) rfl ?_
   refine ao.nr 7 73 3 (s:=1) (by kernel_rfl) rfl rfl (by rfl) rfl ?_
   refine ao.nr 7 74 114 (s:=4) (by kernel_rfl) rfl rfl (by rfl) rfl ?_
   exact h
end Go.Proofs.YtnlkkgpcikkpoaaGreat
namespace Go.Proofs.YtnlkkgpcikkpoaaGreat.Vm
open Go.RowKit Go.Deep
section
variable {P:arC}
def xH(P:arC):List au3->Nat->Nat->Bool
 | [],off,mW=>arE off mW
 |f::l,off,mW=>arE f.offset off&&xH P l (off+P.cellsOf f.type) mW
def xI(P:arC):Nat->KS->Bool
 |0,_=>false
 |d+1,t=>match P.underlying t with
  |some .bool|some (.int _)|some .string=>true
  |some (.slice e)=>xI P d e&&arF 0 (P.cellsOf e)
  |some (.struct fs)=>xH P fs.toList 0 (P.cellsOf t)&&fs.toList.all λf=>xI P d f.type
  |some (.array n e)=>xI P d e&&arE (n*P.cellsOf e) (P.cellsOf t)
  |_=>false
def r9(P:arC)(e:KS):Bool:=match P.underlying e with
 |some .bool|some (.int _)|some .string=>arE (P.cellsOf e) 1
 |_=>false
def Mt(P:arC):Nat->KS->List SV->Prop
 |0,_,_=>False
 |d+1,t,svs=>match P.underlying t with
  |some .bool=>∃b,svs=[.val (.bool b)]
  |some (.int k)=>∃n,svs=[.val (.int k n)]/\k.min<=n/\n<=k.max
  |some .string=>∃s:ByteArray,svs=[.val (.string s)]/\s.size<=reachBytes
  |some (.slice e)=>match r9 P e with
   |true=>∃c:List Dy,svs=[.cells c.length c e]/\c.length*P.bytesOf e<=reachBytes/\∀v∈c,Mt P d e [.val v]
   |false=>∃(n:Nat) (row:Nat->List SV),svs=[.rows n (P.cellsOf e) row]/\n*P.bytesOf e<=reachBytes/\∀i,i<n->Mt P d e (row i)
  |some (.struct fs)=>∃parts:List (List SV),svs=parts.flatten/\bS (λ(f:au3) p=>Mt P d f.type p) fs.toList parts
  |some (.array n e)=>∃parts:List (List SV),svs=parts.flatten/\parts.length=n/\∀p∈parts,Mt P d e p
  |_=>False
variable {H:Type} {enc:KS×Dy->H} {w:arB} {B:Nat->Prop}
theorem il.append{a b:List SV}{a' b':List Dy}(h:il P w B a a')(h':il P w B b b'):il P w B (a++b) (a'++b'):=by
 refine⟨by simp[h.len,h'.len],λi s v hs hv=>?_⟩
 by_cases hi:i<a.length
 ·rw[asl hi]at hs
  rw[asl (by rw[<-h.len];exact hi)]at hv
  exact h.at_ i s v hs hv
 ·rw[asd (by omega)]at hs
  rw[asd (by rw[<-h.len];omega),<-h.len]at hv
  exact h'.at_ _ s v hs hv
theorem il.nil:il P w B [] []:=⟨rfl,λi s v h=>by simp at h⟩
theorem il.one{s:SV}{v:Dy}(h:SR P w B s v):il P w B [s] [v]:=⟨rfl,λi s' v' h1 h2=>by
 cases i with
 |zero=>simp at h1 h2;subst h1 h2;exact h
 |succ i=>simp at h1⟩
theorem Vy(b off j:Nat):(⟨b,off,none⟩:Addr).add j=⟨b,off+j,none⟩:=by
 unfold axT
 by_cases h:j=0
 ·rw[if_pos h,h];rfl
 ·rw[if_neg h]
theorem Vz{b o:Nat}{v:Dy}(h:w.cell? ⟨b,o,none⟩=some v):∃c el fr,w.heap[b]?=some (.cells c el fr)/\c[o]?=some v:=by
 unfold World.cell? at h
 dsimp only at h
 split at h
 ·rename_i c el fr hb
  exact⟨c,el,fr,hb,by simpa using h⟩
 ·cases h
theorem VA{α β:Type}{f:α->Option β}{a:α}{l:List α}{r:List β}(h:(a::l).mapM f=some r):∃b r',f a=some b/\l.mapM f=some r'/\r=b::r':=by
 simp only[List.mapM_cons,Option.bind_eq_bind,Option.bind_eq_some_iff,Option.pure_def,DE]at h
 obtain⟨b,h1,r',h2,h3⟩:=h
 exact⟨b,r',h1,h2,h3.symm⟩
theorem xJ(hB:∀b,b<w.heap.size->B b):∀(d:Nat) (t:KS) (ie:Nat) (cs:List Dy) (x:avL H×List avY),xI P d t=true->
 avb enc P w 0 (λ_=>true) true ie t cs=some x->(∀n∈x.1.weights P t,n<=reachBytes)->∃svs,il P w B svs cs/\Mt P d t svs
 |0,t,ie,cs,x,hp,h,hw=>by cases hp
 |d+1,t,ie,cs,x,hp,h,hw=>by
  unfold xI at hp
  unfold Mt
  split at hp
  ·rename_i ht
   obtain⟨b,rfl,rfl⟩:=DataW.trod_bool ht h
   exact⟨_,.one (.val _ rfl),b,rfl⟩
  ·rename_i k ht
   obtain⟨n,rfl,rfl,tx⟩:=DataW.trod_int ht h
   simp only[Lit.wf,BV,decide_eq_true_eq]at tx
   exact⟨_,.one (.val _ rfl),n,rfl,tx⟩
  ·rename_i ht
   obtain⟨s,rfl,rfl,hs⟩:=DataW.trod_string ht h
   refine⟨_,.one (.val _ rfl),s,rfl,?_⟩
   have:=hw s.data.toList.length (by unfold avo;simp)
   simpa using this
  ·rename_i e ht
   simp only[BV]at hp
   obtain⟨xf,hc⟩:=hp
   have hc:=ed.1 hc
   rcases open_slice ht h with⟨rfl,rfl⟩|⟨a,len,cap,m,n,D,Pl,rfl,_,yy,aqS,hm,rfl,hi⟩
   ·cases ho:r9 P e with
    |true=>exact⟨_,.one (.nil e none),[],rfl,by simp,by simp⟩
    |false=>exact⟨_,.one (.qQ (P.cellsOf e) (λ_=>[]) none),0,λ_=>[],rfl,by simp,by simp⟩
   ·have hm:m=cap:=by simpa using hm
    subst hm
    have CP:∀i,i<m->∀q∈(D i).weights P e,q<=reachBytes:=λi iU q hq=>by
     refine hw q ?_
     unfold avo
     rw[ht]
     refine arG _ ?_
     have mem:∀{ds:List (avL H)} {d:avL H},d∈ds->q∈d.weights P e->q∈aut P e ds:=by
      intro ds
      induction ds with
      |nil=>intro d hd;cases hd
      |cons d0 ds ih=>
       intro d hd hq
       unfold aut
       rcases arD.1 hd with rfl|hd
       ·exact asi _ hq
       ·exact asc _ (ih hd hq)
     by_cases hl:i<len
     ·exact asi _ (mem (as8.2 ⟨i,auG.2 hl,rfl⟩) hq)
     ·exact asc _ (mem (as8.2 ⟨i-len,auG.2 (by omega),by congr 1;omega⟩) hq)
    have DM:len*P.bytesOf e<=reachBytes:=by
     have:=hw ((len+(m-len))*P.bytesOf e) (by unfold avo;rw[ht];simp)
     exact atW (aui _ (by omega)) this
    by_cases wA:m=0
    ·obtain rfl:len=0:=by omega
     subst wA
     cases ho:r9 P e with
     |true=>exact⟨_,.one (.nil e (some a)),[],rfl,by simp,by simp⟩
     |false=>exact⟨_,.one (.qQ (P.cellsOf e) (λ_=>[]) (some a)),0,λ_=>[],rfl,by simp,by simp⟩
    ·-- the block
     have qc:∀i,i<m->∀k,k<P.cellsOf e->∃v,w.cell? ((a.add (i*P.cellsOf e)).add k)=some v:=λi iU k hk=>by
      obtain⟨iR,h1,_⟩:=hi i iU
      obtain⟨_,h2,h3⟩:=axk h1
      rw[h3 k hk]
      exact⟨_,KH (by omega)⟩
     obtain⟨b,off,spot⟩:=a
     have apb:spot=none:=by
      obtain⟨v,hv⟩:=qc 0 (by omega) 0 hc
      have:=World.cell?_spot hv
      rw[Nat.zero_mul]at this
      unfold axT at this
      rw[if_pos rfl,if_pos rfl]at this
      exact this
     subst apb
     have Lg:∀i k,(((⟨b,off,none⟩:Addr).add (i*P.cellsOf e)).add k)=⟨b,off+i*P.cellsOf e+k,none⟩:=λi k=>by rw[Vy,Vy]
     obtain⟨c',cj,fr,xz,-⟩:∃c el fr,w.heap[b]?=some (.cells c el fr)/\True:=by
      obtain⟨v,hv⟩:=qc 0 (by omega) 0 hc
      rw[Lg]at hv
      obtain⟨c,el,fr,h1,_⟩:=Vz hv
      exact⟨c,el,fr,h1,trivial⟩
     have ca:∀i,i<m->∀k,k<P.cellsOf e->∃v,w.cell? ⟨b,off+i*P.cellsOf e+k,none⟩=some v/\c'[off+i*P.cellsOf e+k]?=some v:=λi iU k hk=>by
      obtain⟨v,hv⟩:=qc i iU k hk
      rw[Lg]at hv
      obtain⟨c,el,aqT,h1,h2⟩:=Vz hv
      rw[xz]at h1
      cases h1
      exact⟨v,hv,h2⟩
     have vx:off+m*P.cellsOf e<=c'.size:=by
      obtain⟨v,_,hv⟩:=ca (m-1) (by omega) (P.cellsOf e-1) (by omega)
      have:=(asq.1 hv).1
      have e1:(m-1)*P.cellsOf e+P.cellsOf e=m*P.cellsOf e:=by
       conv=>rhs;rw[show m=(m-1)+1 by omega,avC]
      omega
     have Ds:b<w.heap.size:=(asq.1 xz).1
     have cc:∀s,bZ P e=some s->s=P.cellsOf e:=λs hs=>by
      unfold bZ at hs
      unfold Program.cellsOf
      rw[hs];rfl
     have mI:∀i,i<m->∃svs iR,il P w B svs iR/\Mt P d e svs/\iR.length=P.cellsOf e/\∀k v,iR[k]?=some v->c'[off+i*P.cellsOf e+k]?=some v:=λi iU=>by
      obtain⟨iR,h1,h2⟩:=hi i iU
      obtain⟨_,h3,h4⟩:=axk h1
      obtain⟨svs,h5,h6⟩:=xJ hB d e n iR _ xf h2 (CP i iU)
      refine⟨svs,iR,h5,h6,h3,λk v hv=>?_⟩
      have hk:k<P.cellsOf e:=by rw[<-h3];exact(KP.1 hv).1
      obtain⟨u,vT,ud⟩:=ca i iU k hk
      rw[<-Lg,h4 k hk,hv]at vT
      cases vT
      exact ud
     cases ho:r9 P e with
     |true=>
      have h1:P.cellsOf e=1:=by
       unfold r9 at ho
       split at ho<;>first|exact arJ ho|cases ho
      have key:∀i,i<m->∃v,ag v=true/\Mt P d e [.val v]/\c'[off+i]?=some v:=λi iU=>by
       obtain⟨svs,iR,g1,g2,g3,g4⟩:=mI i iU
       rw[h1]at g3 g4
       obtain⟨v,rfl⟩:∃v,iR=[v]:=by
        match iR,g3 with
        | [v],_=>exact⟨v,rfl⟩
       have hv:=g4 0 v rfl
       rw[atV,Nat.add_zero]at hv
       have hl:=g1.len
       obtain⟨s,rfl⟩:∃s,svs=[s]:=by
        match svs,hl with
        | [s],_=>exact⟨s,rfl⟩
       have hs:=g1.at_ 0 s v rfl rfl
       have Lh:=g2
       cases d with
       |zero=>cases xf
       |succ d=>
        unfold Mt at g2
        unfold r9 at ho
        split at ho
        ·rename_i oB
         rw[oB]at g2
         obtain⟨b',e1⟩:=g2
         cases e1
         cases hs
         exact⟨_,rfl,Lh,hv⟩
        ·rename_i oB
         rw[oB]at g2
         obtain⟨b',e1,_⟩:=g2
         cases e1
         cases hs
         exact⟨_,rfl,Lh,hv⟩
        ·rename_i oB
         rw[oB]at g2
         obtain⟨b',e1,_⟩:=g2
         cases e1
         cases hs
         exact⟨_,rfl,Lh,hv⟩
        ·cases ho
      let c:List Dy:=(atX len).map λi=>if hi:i<m then(key i hi).choose else undef
      have du:c.length=len:=by simp[c]
      have VB:∀i v,c[i]?=some v->∃hi:i<m,v=(key i hi).choose:=λi v hv=>by
       have qZ:i<len:=by rw[<-du];exact(KP.1 hv).1
       have iU:i<m:=by omega
       refine⟨iU,?_⟩
       simp only[c,List.getElem?_map,List.getElem?_range qZ,asO,DE]at hv
       rw[dif_pos iU]at hv
       exact hv.symm
      refine⟨[.cells c.length c e],.one ?_,c,rfl,by rw[du];exact DM,λv hv=>?_⟩
      ·have:SR P w B (.cells len c e) (.slice (some ⟨b,off,none⟩) len m):=.cells len c e b off m c' cj fr (hB b Ds) xz (λi v hv=>by
        obtain⟨iU,rfl⟩:=VB i v hv
        obtain⟨k1,k2,k3⟩:=(key i iU).choose_spec
        exact⟨k1,k3⟩) (by rw[du];rw[h1]at vx;omega) yy (λs hs=>by rw[cc s hs];exact vx)
       rw[du]
       exact this
      ·obtain⟨i,hi⟩:=List.getElem?_of_mem hv
       obtain⟨iU,rfl⟩:=VB i v hi
       exact(key i iU).choose_spec.2.1
     |false=>
      let row:Nat->List SV:=λi=>if hi:i<m then(mI i hi).choose else[]
      have hr:∀i (hi:i<m),row i=(mI i hi).choose:=λi hi=>by simp[row,hi]
      have uD:∀i,i<m->∃iR,il P w B (row i) iR/\Mt P d e (row i)/\iR.length=P.cellsOf e/\∀k v,iR[k]?=some v->c'[off+i*P.cellsOf e+k]?=some v:=λi hi=>by
       rw[hr i hi];exact(mI i hi).choose_spec
      let u:Nat->Nat->Dy:=λi k=>(c'[off+i*P.cellsOf e+k]?).getD undef
      refine⟨[.rows len (P.cellsOf e) row],.one (.rows len (P.cellsOf e) row b off m c' cj fr (hB b Ds) xz (atW (Nat.add_le_add_left (aui _ yy) _) vx) yy vx (λi hi=>?_) u (λi k hi hk=>?_) λi k sv hi hk=>?_),len,row,rfl,DM,λi hi=>?_⟩
      ·obtain⟨iR,g1,g2,g3,g4⟩:=uD i (by omega)
       rw[g1.len,g3]
      ·obtain⟨v,_,hv⟩:=ca i (by omega) k hk
       show _=some ((c'[off+i*P.cellsOf e+k]?).getD undef)
       rw[hv];rfl
      ·obtain⟨iR,g1,g2,g3,g4⟩:=uD i (by omega)
       have yo:k<iR.length:=by rw[<-g1.len];exact(KP.1 hk).1
       have hv:=g4 k _ (KH yo)
       have:u i k=iR[k]:=by show(c'[off+i*P.cellsOf e+k]?).getD undef=_;rw[hv];rfl
       rw[this]
       exact g1.at_ k sv _ hk (KH yo)
      ·obtain⟨iR,g1,g2,g3,g4⟩:=uD i (by omega)
       exact g2
  ·rename_i fs ht
   simp only[BV]at hp
   obtain⟨apc,lv⟩:=hp
   cases ie with
   |zero=>cases h
   |succ ie=>
    unfold avb at h
    simp only[ht]at h
    split at h
    ·rename_i hlen
     cases pa:(fs.toList.mapM λf=>avb enc P w 0 (λ_=>true) true ie f.type ((cs.drop f.offset).take (P.cellsOf f.type)))with
     |none=>rw[pa]at h;cases h
     |some xs=>
      rw[pa]at h
      simp only[asO,DE]at h
      subst h
      have im:∀n∈auE P (fs.toList.map (·.type)) (xs.map (·.1)),n<=reachBytes:=λn hn=>hw n (by unfold avo;rw[ht];exact hn)
      have key:∀(l:List au3) (off:Nat) (xs:List (avL H×List avY)),xH P l off (P.cellsOf t)=true->(l.all λf=>xI P d f.type)=true->
       (l.mapM λf=>avb enc P w 0 (λ_=>true) true ie f.type ((cs.drop f.offset).take (P.cellsOf f.type)))=some xs->
       (∀n∈auE P (l.map (·.type)) (xs.map (·.1)),n<=reachBytes)->off<=cs.length->
       ∃parts:List (List SV),il P w B parts.flatten (cs.drop off)/\bS (λ(f:au3) p=>Mt P d f.type p) l parts:=by
       intro l
       induction l with
       |nil=>
        intro off xs rW _ _ _ apd
        have:=arJ rW
        refine⟨[],?_,.nil⟩
        rw[as7 (by omega)]
        exact .nil
       |cons f l ih=>
        intro off xs rW qe hm rR apd
        simp only[xH,BV]at rW
        simp only[List.all_cons,BV]at qe
        obtain⟨x0,ko,oI,jy,rfl⟩:=VA hm
        have e0:=arJ rW.1
        rw[e0]at oI
        have ape:off+P.cellsOf f.type<=cs.length:=by
         have:∀(l:List au3) (o mW:Nat),xH P l o mW=true->o<=mW:=by
          intro l
          induction l with
          |nil=>intro o mW h;exact Nat.le_of_eq (arJ h)
          |cons f l ih=>intro o mW h;simp only[xH,BV]at h;have:=ih _ _ h.2;omega
         have:=this _ _ _ rW.2
         omega
        obtain⟨svs,s1,s2⟩:=xJ hB d f.type ie _ _ qe.1 oI (λn hn=>rR n (by
         simp only[asn,auE]
         exact asi _ hn))
        obtain⟨parts,p1,p2⟩:=ih (off+P.cellsOf f.type) ko rW.2 qe.2 jy (λn hn=>rR n (by
         simp only[asn,auE]
         exact asc _ hn)) ape
        refine⟨svs::parts,?_,.cons s2 p2⟩
        have e1:cs.drop off=(cs.drop off).take (P.cellsOf f.type)++cs.drop (off+P.cellsOf f.type):=by
         rw[<-asI,asD]
        rw[avc,e1]
        exact s1.append p1
      obtain⟨parts,p1,p2⟩:=key fs.toList 0 xs apc lv pa im (asb _)
      exact⟨parts.flatten,by simpa using p1,parts,rfl,p2⟩
    ·cases h
  ·rename_i n e ht
   simp only[BV]at hp
   obtain⟨xf,hc⟩:=hp
   have hc:=arJ hc
   cases ie with
   |zero=>cases h
   |succ ie=>
    unfold avb at h
    simp only[ht]at h
    split at h
    ·rename_i hlen
     cases pa:((atX n).mapM λi=>avb enc P w 0 (λ_=>true) true ie e ((cs.drop (i*P.cellsOf e)).take (P.cellsOf e)))with
     |none=>rw[pa]at h;cases h
     |some xs=>
      rw[pa]at h
      simp only[asO,DE]at h
      subst h
      have im:∀q∈aut P e (xs.map (·.1)),q<=reachBytes:=λq hq=>hw q (by unfold avo;rw[ht];exact hq)
      have key:∀(k o:Nat) (xs:List (avL H×List avY)),o+k=n->
       ((List.range' o k).mapM λi=>avb enc P w 0 (λ_=>true) true ie e ((cs.drop (i*P.cellsOf e)).take (P.cellsOf e)))=some xs->
       (∀q∈aut P e (xs.map (·.1)),q<=reachBytes)->
       ∃parts:List (List SV),il P w B parts.flatten (cs.drop (o*P.cellsOf e))/\parts.length=k/\∀p∈parts,Mt P d e p:=by
       intro k
       induction k with
       |zero=>
        intro o xs ho _ _
        refine⟨[],?_,rfl,λp hp=>by cases hp⟩
        have ho:o=n:=by omega
        rw[as7 (by rw[hlen,<-hc,ho];omega)]
        exact .nil
       |succ k ih=>
        intro o xs ho hm rR
        rw[List.range'_succ]at hm
        obtain⟨x0,ko,oI,jy,rfl⟩:=VA hm
        obtain⟨svs,s1,s2⟩:=xJ hB d e ie _ _ xf oI (λq hq=>rR q (by
         simp only[asn,aut]
         exact asi _ hq))
        obtain⟨parts,p1,p2,p3⟩:=ih (o+1) ko (by omega) jy (λq hq=>rR q (by
         simp only[asn,aut]
         exact asc _ hq))
        refine⟨svs::parts,?_,by simp[p2],λp hp=>?_⟩
        ·have e1:cs.drop (o*P.cellsOf e)=(cs.drop (o*P.cellsOf e)).take (P.cellsOf e)++cs.drop ((o+1)*P.cellsOf e):=by
          rw[avC,<-asI,asD]
         rw[avc,e1]
         exact s1.append p1
        ·rcases arD.1 hp with rfl|hp
         ·exact s2
         ·exact p3 p hp
      obtain⟨parts,p1,p2,p3⟩:=key n 0 xs (by omega) (by rw[<-List.range_eq_range'];exact pa) im
      exact⟨parts.flatten,by simpa using p1,parts,rfl,p2,p3⟩
    ·cases h
  ·cases hp
termination_by d=>d
theorem aF.apf{f:arY}{svs:List SV}{iG:List Dy}{Q:bD->List ak->Prop}(h:aF P f iG (hI svs) Q)(iq:Nat.ble (lL svs) 262144=true){w:arB}{args':Array Dy}{VC:List Dy}
 (hv:∀ρ,LR ρ (m7 svs 0) VC->LR ρ iG args'.toList)
 (hs:il P w (λk=>k<w.heap.size) svs VC)(Li:Env (λk=>k<w.heap.size) w:=by exact λ_ _=>trivial):Calls P f args' w λe w'=>∃r o ρ',Q r o/\CR ρ' r e/\Below w.heap.size w w':=by
 have iq:=Nat.le_of_ble_eq_true iq
 obtain⟨ρ,_,h1,h2⟩:=ye (k:=0) (g:=λ_=>none) hs (WR.start (P:=P) w Li) (λ_ _=>rfl)
 have h2:=hv _ h2
 let ρ2:Ren:=λx=>match small x with
  |true=>ρ x
  |false=>some (wj (x-262144))
 have dX:∀x,small x=true->ρ2 x=ρ x:=λx h=>by show(match small x with|true=>_|false=>_)=_;rw[h]
 have lU:∀x,small x=false->ρ2 x=some (wj (x-262144)):=λx h=>by show(match small x with|true=>_|false=>_)=_;rw[h]
 have gM:Full ρ2:=λq=>by
  obtain⟨n,h⟩:=Nw q
  exact⟨n+262144,Bo n,by rw[lU _ (Bo n)];simp[h]⟩
 have hlen:=sA svs
 have Lj:∀x,jk (λ_=>none) 0 (hI svs) x=(hI svs)[x]? :=by
  have key:∀(l:List ak) (g:Nat->Option ak) (k x:Nat),jk g k l x=if k<=x/\x<k+l.length then l[x-k]?else g x:=by
   intro l
   induction l with
   |nil=>intro g k x;rw[if_neg (by simp only[as2];omega)];rfl
   |cons o l ih=>
    intro g k x
    show jk (cX g k o) (k+1) l x=_
    rw[ih]
    simp only[ar4]
    by_cases hx:x=k
    ·subst hx;rw[if_neg (by omega),fB,if_pos (by omega),Nat.sub_self];rfl
    ·rw[eB _ hx]
     by_cases h2:k<=x/\x<k+(l.length+1)
     ·rw[if_pos (by omega),if_pos h2,show x-k=x-(k+1)+1 by omega];rfl
     ·rw[if_neg (by omega),if_neg h2]
  intro x
  rw[key]
  by_cases hx:x<(hI svs).length
  ·rw[if_pos (by omega)];simp
  ·rw[if_neg (by omega),asC (by omega)]
 have VD:∀x,(hI svs)[x]? ≠none->small x=true:=λx hx=>by
  have:x<(hI svs).length:=by
   by_cases h:x<(hI svs).length
   ·exact h
   ·exact absurd (asC (by omega)) hx
  exact ij.2 (by have:(2:Nat)^18=262144:=rfl;omega)
 have hle:∀x r,ρ x=some r->ρ2 x=some r:=λx r hx=>by
  cases hs:small x with
  |true=>rw[dX x hs,hx]
  |false=>
   have:jk (λ_=>none) 0 (hI svs) x=none:=by
    rw[Lj]
    cases hq:(hI svs)[x]?with
    |none=>rfl
    |some o=>have:=VD x (by rw[hq];exact λe=>by cases e);rw[hs]at this;cases this
   rw[h1.fresh x this]at hx
   cases hx
 have dg:WR P (λk=>k<w.heap.size) w ρ2 (cu (hI svs)) w:=by
  have ix:∀x o,cu (hI svs) x=some o->o≠ .dead->jk (λ_=>none) 0 (hI svs) x=some o/\ρ2 x=ρ x:=λx o hx br=>by
   cases hs:small x with
   |true=>rw[cH hs]at hx;exact⟨by rw[Lj];exact hx,dX x hs⟩
   |false=>rw[iE hs]at hx;cases hx;exact absurd rfl br
  exact
   {below:=h1.below,env:=h1.env,size:=h1.size
    live:=by
     intro x o r hx hr hl
     obtain⟨a,b⟩:=ix x o hx (by rintro rfl;cases hl)
     obtain⟨o',c1,c2,c3⟩:=h1.live x o r a (b▸hr) hl
     exact⟨o',c1,c2.mono hle,c3⟩
    inj:=by
     intro x y ox oy rx ry hx hy lD cD lE dq hd he
     obtain⟨a,b⟩:=ix x ox hx (by rintro rfl;cases lE)
     obtain⟨a',b'⟩:=ix y oy hy (by rintro rfl;cases dq)
     exact h1.inj x y ox oy rx ry a a' (b▸lD) (b'▸cD) lE dq hd he
    fresh:=by
     intro x hx
     cases hs:small x with
     |true=>rw[cH hs]at hx;rw[dX x hs];exact h1.fresh x (by rw[Lj];exact hx)
     |false=>rw[iE hs]at hx;cases hx
    rows:=by
     intro x n size row hx
     obtain⟨a,b⟩:=ix x _ hx (by intro e;cases e)
     obtain⟨r,c1,c2⟩:=h1.rows x n size row a
     exact⟨r,by rw[b];exact c1,c2⟩
    nil:=by
     intro x el ro r hx hr
     obtain⟨a,b⟩:=ix x _ hx (by intro e;cases e)
     exact h1.nil x el ro r a (b▸hr)
    named:=by
     intro x o hx br
     obtain⟨a,b⟩:=ix x o hx br
     rw[b]
     exact h1.named x o a br
    abs:=h1.abs.next (λx d hx=>ix x _ hx (by intro e;cases e)) (λk _ a b=>⟨rfl,a,λy o r hy hr hl=>by
     obtain⟨p,q⟩:=ix y o hy (by rintro rfl;cases hl)
     exact b y o r p (q▸hr) hl⟩) (arO _)}
 have fk:∀o∈hI svs,o≠ .dead:=by
  have:∀l:List SV,∀o∈hI l,o≠ .dead:=by
   intro l
   induction l with
   |nil=>intro o ho;cases ho
   |cons s l ih=>
    intro o ho
    cases s with
    |val v=>exact ih o ho
    |cells n c el=>
     rcases arD.1 ho with rfl|ho
     ·intro e;cases e
     ·exact ih o ho
    |rows n s r=>
     rcases arD.1 ho with rfl|ho
     ·intro e;cases e
     ·exact ih o ho
  exact this svs
 have Bs:∀x,x<(hI svs).length->∃r,ρ2 x=some r:=λx hx=>by
  have hg:=KH hx
  have hs:=VD x (by rw[hg];exact λe=>by cases e)
  exact dg.named x _ (by rw[cH hs];exact hg) (fk _ (List.getElem_mem hx))
 refine(h _ w ρ2 w args' gM Bs ⟨h2.len,λi v v' a b=>(h2.at_ i v v' a b).mono hle⟩ dg).mono λe w' he=>?_
 obtain⟨r,o,ρ',q1,q2,_,q4,_⟩:=he
 exact⟨r,o,ρ',q1,q2,q4.below.below⟩
end
end Go.Proofs.YtnlkkgpcikkpoaaGreat.Vm
namespace Go.Proofs.YtnlkkgpcikkpoaaGreat.Vm
open Go.RowKit
section
variable {P:arC} {w:arB} {B:Nat->Prop}
theorem D5{d:Nat}{t:KS}{k:IntKind}{svs:List SV}(ht:P.underlying t=some (.int k))(h:Mt P (d+1) t svs):∃n,svs=[.val (.int k n)]/\k.min<=n/\n<=k.max:=by
 unfold Mt at h;rw[ht]at h;exact h
theorem apg{d:Nat}{t:KS}{fs:Array au3}{svs:List SV}(ht:P.underlying t=some (.struct fs))(h:Mt P (d+1) t svs):
 ∃parts:List (List SV),svs=parts.flatten/\bS (λ(f:au3) p=>Mt P d f.type p) fs.toList parts:=by
 unfold Mt at h;rw[ht]at h;exact h
theorem VE{d:Nat}{t e:KS}{svs:List SV}(ht:P.underlying t=some (.slice e))(ho:r9 P e=true)(h:Mt P (d+1) t svs):
 ∃c:List Dy,svs=[.cells c.length c e]/\c.length*P.bytesOf e<=reachBytes/\∀v∈c,Mt P d e [.val v]:=by
 unfold Mt at h;rw[ht]at h;dsimp only at h;rw[ho]at h;exact h
theorem aph{α β:Type}{R:α->β->Prop}{l:List β}(h:bS R [] l):l=[]:=by cases h;rfl
theorem D6{α β:Type}{R:α->β->Prop}{a:α}{rL:List α}{l:List β}(h:bS R (a::rL) l):∃b bs,l=b::bs/\R a b/\bS R rL bs:=by
 cases h with
 |cons h t=>exact⟨_,_,rfl,h,t⟩
theorem Lk{d:Nat}{t e:KS}{svs:List SV}(ht:P.underlying t=some (.slice e))(he:P.underlying e=some (.int .u8))(ho:r9 P e=true)(hb:P.bytesOf e=1)(h:Mt P (d+2) t svs):
 ∃b:ByteArray,svs=[.cells b.size (af b) e]/\b.size<=reachBytes:=by
 obtain⟨c,rfl,h1,h2⟩:=VE ht ho h
 rw[hb,atV]at h1
 have key:∀c:List Dy,(∀v∈c,Mt P (d+1) e [.val v])->∃l:List UInt8,c=l.map λx=>KJ .u8 (x.toNat:Int):=by
  intro c
  induction c with
  |nil=>intro _;exact⟨[],rfl⟩
  |cons v c ih=>
   intro hv
   obtain⟨l,rfl⟩:=ih λv gJ=>hv v (arG _ gJ)
   obtain⟨n,e1,nm,ky⟩:=D5 he (hv v arH)
   simp only[axD,SV.val.injEq,and_true]at e1
   subst e1
   have h0:(0:Int)<=n:=nm
   have aqU:n<=(255:Int):=ky
   refine⟨zW n.toNat::l,?_⟩
   simp only[asn]
   congr 2
   have:(zW n.toNat).toNat=n.toNat:=by
    rw[UInt8.toNat_ofNat']
    exact Nat.mod_eq_of_lt (by omega)
   rw[this]
   omega
 obtain⟨l,rfl⟩:=key c h2
 refine⟨⟨l.toArray⟩,?_,?_⟩
 ·have:af ⟨l.toArray⟩=l.map λx=>KJ .u8 (x.toNat:Int):=by unfold af;simp
  rw[this]
  congr 1
  congr 1
  show _=(l.toArray).size
  simp
 ·have:(⟨l.toArray⟩:ByteArray).size=l.length:=by show(l.toArray).size=_;simp
  rw[this];simpa using h1
theorem api{d:Nat}{t e:KS}{svs:List SV}(ht:P.underlying t=some (.slice e))(he:P.underlying e=some (.int .i64))(ho:r9 P e=true)(h:Mt P (d+2) t svs):
 ∃l:List Int,svs=[.cells l.length (ay l) e]/\l.length*P.bytesOf e<=reachBytes/\∀x∈l,Ul.min<=x/\x<=Ul.max:=by
 obtain⟨c,rfl,h1,h2⟩:=VE ht ho h
 have key:∀c:List Dy,(∀v∈c,Mt P (d+1) e [.val v])->∃l:List Int,c=ay l/\∀x∈l,Ul.min<=x/\x<=Ul.max:=by
  intro c
  induction c with
  |nil=>intro _;exact⟨[],rfl,λs hs=>by cases hs⟩
  |cons v c ih=>
   intro hv
   obtain⟨l,rfl,hl⟩:=ih λv gJ=>hv v (arG _ gJ)
   obtain⟨n,e1,h0,h1⟩:=D5 he (hv v arH)
   simp only[axD,SV.val.injEq,and_true]at e1
   subst e1
   exact⟨n::l,rfl,λx hx=>by rcases arD.1 hx with rfl|hx;exact⟨h0,h1⟩;exact hl x hx⟩
 obtain⟨l,rfl,hl⟩:=key c h2
 exact⟨l,by rw[BG],by rw[BG]at h1;exact h1,hl⟩
end
end Go.Proofs.YtnlkkgpcikkpoaaGreat.Vm
namespace Go.Proofs.YtnlkkgpcikkpoaaGreat
open Go Vm Go.RowKit
theorem apj{w:arB}{B:Nat->Prop}{v:Dy}{svs:List SV}(h:Mt fK 10 25 svs)(hs:il fK w B svs [v]):
 ∃l:List Int,(∀x∈l,Ul.min<=x/\x<=Ul.max)/\SR fK w B (.cells l.length (ay l) 3) v:=by
 obtain⟨l,rfl,_,h2⟩:=api (d:=8) Tryz.underlying25 Tryz.underlying3 (by kernel_rfl) h
 exact⟨l,h2,hs.at_ 0 _ _ rfl rfl⟩
end Go.Proofs.YtnlkkgpcikkpoaaGreat
namespace Go.Proofs.YtnlkkgpcikkpoaaGreat.Vm
open Go.RowKit
section
variable {P:arC}
theorem aF.apk{f:arY}{svs:List SV}{o:List ak}(k:Nat)(h:aF P f (.agg ((m7 svs 0).take k).toArray::(m7 svs 0).drop k) (hI svs) λr o'=>r=.ret (.bool true)/\o'=o)(iq:Nat.ble (lL svs) 262144=true){w:arB}{fields:Array Dy}{rest:List Dy}
 (hk:fields.size=k)(hs:il P w (λk=>k<w.heap.size) svs (fields.toList++rest))(Li:Env (λk=>k<w.heap.size) w:=by exact λ_ _=>trivial):Calls P f (.agg fields::rest).toArray w λe w'=>e=.returned (.bool true)/\Below w.heap.size w w':=by
 refine(aF.apf h iq (args':=(.agg fields::rest).toArray) (λρ hl=>?_) hs Li).mono λe w' he=>?_
 ·have hlen:=hl.len
  rw[KO,atq (xs:=fields),hk]at hlen
  refine⟨by simp only[ar4,List.length_drop];omega,λi v v' a b=>?_⟩
  cases i with
  |zero=>
   cases a;cases b
   refine .agg _ _ (by rw[asj,atq (xs:=fields)];omega) λi v v' a b=>?_
   have a:((m7 svs 0).take k)[i]?=some v:=a
   have b:fields.toList[i]?=some v':=b
   have hi:i<k:=by
    have:=(KP.1 a).1
    rw[asj]at this
    omega
   refine hl.at_ i v v' ?_ ?_
   ·rw[List.getElem?_take,if_pos hi]at a
    exact a
   ·rw[asl (by rw[atq (xs:=fields)];omega)]
    exact b
  |succ i=>
   refine hl.at_ (k+i) v v' ?_ ?_
   ·have a:((m7 svs 0).drop k)[i]?=some v:=a
    rw[List.getElem?_drop]at a
    exact a
   ·have b:rest[i]?=some v':=b
    rw[asd (by rw[atq (xs:=fields)];omega),atq (xs:=fields),hk]
    rw[show k+i-k=i by omega]
    exact b
 ·obtain⟨r,o,ρ',⟨rfl,_⟩,h2,h3⟩:=he
  cases e with
  |returned v'=>
   have:v'=.bool true:=VR.vK h2
   exact⟨by rw[this],h3⟩
  |panicked chain=>cases h2
  |outgrown=>cases h2
end
end Go.Proofs.YtnlkkgpcikkpoaaGreat.Vm
namespace Go.Proofs.YtnlkkgpcikkpoaaGreat
open Go Vm Go.RowKit
theorem apl{w:arB}{B:Nat->Prop}{v:Dy}{svs:List SV}(h:Mt fK 10 22 svs)(hs:il fK w B svs [v]):
 ∃l:ByteArray,SR fK w B (.cells l.size (af l) 5) v:=by
 obtain⟨l,rfl,_⟩:=Lk Tryz.underlying22 Tryz.underlying5 (by kernel_rfl) (by kernel_rfl) h
 exact⟨l,hs.at_ 0 _ _ rfl rfl⟩
end Go.Proofs.YtnlkkgpcikkpoaaGreat
namespace Go.Proofs.YtnlkkgpcikkpoaaGreat
open Go.ChangeShapes Go.WideShapes Go.ChangeAt Go.RowKit Go.Deep
theorem own:ownKnob fK.godebug=none:=by kernel_rfl
theorem laidOut:laidOutB fK=true:=by kernel_rfl
section
variable {H:Type} {enc:KS×Dy->H} {P:arC} {w:arB} {base:Nat} {spare:Nat->Bool} {held:Bool}
theorem VF(hl:laidOutB P=true){W W':arB}(hb:Below W.heap.size W W'):∀{ts:List KS} {vs:List Dy} {ds:List (avL H)} {p:List avY},
 (∀t∈ts,P.readableRec t=true/\t<P.types.size)->aw0 enc P W 0 (λ_=>true) true ts vs ds p->(∀x∈p,x.block<W.heap.size)->
 aw0 enc P W' 0 (λb=>decide (b<W.heap.size)) true ts vs ds p
 | [],[],[],p,_,h,_=>h
 |t::ts,v::vs,d::ds,p,ht,h,hlt=>by
  obtain⟨p1,q1,h1,h2,rfl⟩:=h
  exact⟨p1,q1,Below.trod hl (ht t (by simp)).1 (ht t (by simp)).2 h1 hb (λx hx=>hlt x (by simp[hx])),
   VF hl hb (λt' h'=>ht t' (by simp[h'])) h2 (λx hx=>hlt x (by simp[hx])),rfl⟩
 | [],_::_,_,_,_,h,_=>h.elim
 | [],[],_::_,_,_,h,_=>h.elim
 |_::_,[],_,_,_,h,_=>h.elim
 |_::_,_::_,[],_,_,h,_=>h.elim
end
end Go.Proofs.YtnlkkgpcikkpoaaGreat
