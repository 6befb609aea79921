/- Part of the proof: Zqe, Zqf, Zqg, Zqh, Zqi, Zqj, Zqk, Zql, Lru. -/
import Derived.Test.YtnlkkgpcikkpoaaJAl
import Derived.KernelRfl
import Derived.Test.YtnlkkgpcikkpoaaJAf
open ByteArray renaming data_extract→apo,empty→amw,mk→am7,size→ams
open Classical renaming propDecidable→amR
open Decidable renaming not_not→aoa
open Go.IntKind renaming i64→amA,wrap→aml
open Go.Proofs.Try renaming prog→anm,prog→asz
open Int renaming tmod→aod,tmod_lt_of_pos→aqC,toNat→amm,toNat_natCast→aoK
open List renaming all→amq,drop→an4,eq_nil_of_length_eq_zero→ant,getElem?_eq_getElem→amt,length→mM,length_set→anU,mem_append→amU,mem_singleton→ank,nil_append→an6,take→amM,toArray→ang
open Nat renaming ble→amO,le_refl→amX,mul_one→aoQ,zero_add→an8,zero_le→ann
open Option renaming bind→anj,getD→amL,isSome→apf
set_option linter.unusedVariables false
set_option linter.unusedSimpArgs false
namespace Go.Proofs.Ytnlkkgpcikkpoaa
noncomputable section
open Go Vm Go.RowKit
set_option maxRecDepth 100000
def ah0(a:List Value)(_:Nat→Option ai):Option (List Nat):=match a with
 | [_,_,.slice (some ⟨b,_,_⟩) _ _]=>some [0,1,10,11,12,b]
 |_=>none
def ah1(S:ad)(L:List ByteArray)(R:List Int)(H:List ap)(d:ay)(T:ad)(K:List ByteArray)(Rr:List Int)(G:List ap)(dd:ay)(e z:Int)(x:ByteArray):List (FuncId×Sum):=[(72,Sum.one (lh asz) [an 0] (aR S L R H d) (.ret (.tuple #[ah 5 1,aa e])) (aR T K Rr G dd++Bv x)),(71,Sum.one (lh asz) [an 0] (aR T K Rr G dd) (.ret (aa z)) (aR T K Rr G dd))]
theorem ah2(S:ad)(L:List ByteArray)(R:List Int)(H:List ap)(d:ay)(T:ad)(K:List ByteArray)(Rr:List Int)(G:List ap)(dd:ay)(e z:Int)(x:ByteArray)(tK:aG asz 72 [an 0] (aR S L R H d) fun r q=>r=.ret (.tuple #[ah 5 1,aa e])∧q=aR T K Rr G dd++Bv x)(iz:aG asz 71 [an 0] (aR T K Rr G dd) fun r q=>r=.ret (aa z)∧q=(aR T K Rr G dd)):dg asz (dE asz (dF (ah1 S L R H d T K Rr G dd e z x)) 50 40):=dJ cZ mixed (dQ (.cons (bp.one tK) (.cons (bp.one iz) .nil))) 50 40
def ah3(S:ad)(L:List ByteArray)(R:List Int)(H:List ap)(d:ay)(T:ad)(K:List ByteArray)(Rr:List Int)(G:List ap)(dd:ay)(e z:Int)(c:ByteArray)(C:List Int)(k cv:Int):List (FuncId×Sum):=[(70,Sum.one ah0 [an 0,aa 0,ah 5 c.size] (aR S L R H d++[ab (ag c) 5]) (.ret (.tuple #[cd,aa e])) (nl (ab (ag c) 5) T K Rr G dd)),(71,Sum.one (lh asz) [an 0] (aR T K Rr G dd) (.ret (aa z)) (aR T K Rr G dd)),(20,Sum.one (fun _ _=>some [6]) [ah 0 C.length,aa k] [.cells (aq C) 3 true] (.ret (aa cv)) [.cells (aq C) 3 true])]
theorem ah4(S:ad)(L:List ByteArray)(R:List Int)(H:List ap)(d:ay)(T:ad)(K:List ByteArray)(Rr:List Int)(G:List ap)(dd:ay)(e z:Int)(c:ByteArray)(C:List Int)(k cv:Int)(nq:aG asz 70 [an 0,aa 0,ah 5 c.size] (aR S L R H d++[ab (ag c) 5]) fun r q=>r=.ret (.tuple #[cd,aa e])∧q=nl (ab (ag c) 5) T K Rr G dd)(iz:aG asz 71 [an 0] (aR T K Rr G dd) fun r q=>r=.ret (aa z)∧q=(aR T K Rr G dd))(oB:aG asz 20 [ah 0 (mM C),aa k] [.cells (aq C) 3 true] fun r q=>r=.ret (aa cv)∧q=[.cells (aq C) 3 true]):dg asz (dE asz (dF (ah3 S L R H d T K Rr G dd e z c C k cv)) 50 40):=dJ cZ mixed (dQ (.cons (bp.one nq) (.cons (bp.one iz) (.cons (bp.one oB) .nil)))) 50 40
def ah5(S:ad)(L:List ByteArray)(R:List Int)(H:List ap)(d:ay)(T:ad)(K:List ByteArray)(Rr:List Int)(G:List ap)(dd:ay)(e z:Int):List (FuncId×Sum):=[(69,Sum.one (lh asz) [an 0,aa 0] (aR S L R H d) (.ret (.tuple #[cd,aa e])) (iM T K Rr G dd)),(71,Sum.one (lh asz) [an 0] (aR T K Rr G dd) (.ret (aa z)) (aR T K Rr G dd))]
theorem ah6(S:ad)(L:List ByteArray)(R:List Int)(H:List ap)(d:ay)(T:ad)(K:List ByteArray)(Rr:List Int)(G:List ap)(dd:ay)(e z:Int)(vF:aG asz 69 [an 0,aa 0] (aR S L R H d) fun r q=>r=.ret (.tuple #[cd,aa e])∧q=iM T K Rr G dd)(iz:aG asz 71 [an 0] (aR T K Rr G dd) fun r q=>r=.ret (aa z)∧q=(aR T K Rr G dd)):dg asz (dE asz (dF (ah5 S L R H d T K Rr G dd e z)) 50 40):=dJ cZ mixed (dQ (.cons (bp.one vF) (.cons (bp.one iz) .nil))) 50 40
noncomputable def yf:List Code:=ba (dy asz 13)
open Tree renaming aU→mN,dh→mF,eQ→mL,fw→mQ,dz→mR,fI→mE
noncomputable abbrev vG:List Code:=(ba (inner (ba (inner (yf.drop 4)))))
def QY:Nat→Bool→Bool→Tree→Tree
 |0,_,_,t=>t
 |n+1,d,b,t=>.cD d b (QY n d b t)
theorem vH{R:bf→aj→Prop}{c v:Bool}{t:Tree}(n:Nat)(h1:c=v)(h2:t.ok R):(QY n c v t).ok R:=by
 induction n with
 |zero=>exact h2
 |succ n ih=>exact⟨h1,ih⟩
abbrev HT:=fun S L R H d s C=>(⟨[(0,.iface 29 (an 0)),(1,ah 5 1),(2,ah 6 (mM C)),(6,an 7),(7,an 8),(8,an 9),(9,aa 0)],[ab (aQ S 1 10 11 12) 64,.abs d,.dead,.dead,.dead,cL [s],.cells (aq C) 3 true,ab ([.string (am7 #[]),.string (am7 #[]),.string (am7 #[]),.string (am7 #[]),aa 0,aa 0,aa 0,aa 0,aa 0,aa 0,aa 0,.bool false]) 45,ab ([.string (am7 #[]),.string (am7 #[]),.string (am7 #[]),.string (am7 #[]),aa (ad.at_ S),aa 0,aa 0,aa 0,aa 0,aa 0,aa 0,.bool false]) 45,ab ([.bool false,.bool false,.bool false,.bool false]) 73,ab (ao L) 9,ab (aq R) 3,ab (ak H) 144]⟩:aj)
abbrev ah7:=fun S L R H d s C=>(⟨[(0,.iface 29 (an 0)),(1,ah 5 1),(2,ah 6 (mM C))],[ab (aQ S 1 7 8 9) 64,.abs d,.dead,.dead,.dead,cL [s],.cells (aq C) 3 true,ab (ao L) 9,ab (aq R) 3,ab (ak H) 144]⟩:aj)
theorem ah8(S:ad)(L R H d s C)(pH:(ak H).all af=true)(h0:S.over=false)(h1:S.more=false)(h2:S.at_=0){Q:aV}(aW:amq (aq C) af=true)(be:amq (ao L) af=true)(bB:amq (aq R) af=true)(br:amq (ak H) af=true)(l4:al asz 148 7 (yf.drop 4) (HT S L R H d s C) Q):al asz 148 7 yf (ah7 S L R H d s C) Q:=
 aZ bo 4 (av [8,2] (.leaf [0,1,2,6,7,8,9] [0,1,2,3,4,5,6,10,11,12,7,8,9] [6,7,8,9])) (fun u=>by kernel_rfl) (mN (show(ad.over S)=false by assumption) (mN (show(ad.more S)=false by assumption) (mN (aS C) (aM L R H (mQ l4)))))
abbrev vI:=fun S L R H d s C o (nd er hd t:Int) (w:Bool) (k:Int)=>(⟨[(0,.iface 29 (an 0)),(1,ah 5 1),(2,ah 6 (mM C)),(6,an 7),(7,an 8),(8,an 9),(9,aa k)],[ab (aQ S 1 10 11 12) 64,.abs d,.dead,.dead,.dead,cL [s],.cells (aq C) 3 true,ab jb 45,ab (kp o nd er hd t) 45,ab (kS w) 73,ab (ao L) 9,ab (aq R) 3,ab (ak H) 144]⟩:aj)
abbrev Bw:=fun S L R H d s C o (nd er hd t:Int)=>([ab (aQ S 1 9 10 11) 64,.abs d,.dead,.dead,.dead,cL [s],.cells (aq C) 3 true,ab jb 45,ab (kp o nd er hd t) 45,ab (ao L) 9,ab (aq R) 3,ab (ak H) 144]:List ai)
abbrev HU:=fun S L R H d s C o (nd er hd t:Int) (w:Bool) (k:Int)=>(⟨[(6,an 7),(7,an 8)],Bw S L R H d s C o nd er hd t⟩:aj)
abbrev ah9:=fun S L R H d s C o (nd er hd t:Int) (w:Bool) (k:Int)=>(⟨[(6,an 7),(7,an 8)],Bw S L R H d s C o nd er hd t⟩:aj)
abbrev aia:=fun S L R H d s C o (nd er hd t:Int) (w:Bool) (k:Int)=>(⟨[(6,an 7),(7,an 8)],Bw S L R H d s C o nd er hd t⟩:aj)
abbrev aib:=fun S L R H d s C o (nd er hd t:Int) (w:Bool) (k:Int)=>(⟨[(0,.iface 29 (an 0)),(1,ah 5 1),(2,ah 6 (mM C)),(6,an 7),(7,an 8),(8,an 9),(9,aa k)],[ab (aQ S 1 10 11 12) 64,.abs d,.dead,.dead,.dead,cL [s],.cells (aq C) 3 true,ab jb 45,ab (kp o nd er hd t) 45,ab (kS w) 73,ab (ao L) 9,ab (aq R) 3,ab (ak H) 144]⟩:aj)
theorem aic(S L R H d s C o)(nd er hd t:Int)(w:Bool)(k:Int)(pH:(ak H).all af=true){Q:aV}(l4:(decide (k<100000))=true→(er==0)=true→(nd != -1)=true→al asz 148 7 (vG.drop 2) (vI S L R H d s C o nd er hd t w k) Q)(l5:(decide (k<100000))=true→(er==0)=true→(nd != -1)=false→Q (.exit 0) (HU S L R H d s C o nd er hd t w k))(l6:(decide (k<100000))=true→(er==0)=false→Q (.exit 0) (ah9 S L R H d s C o nd er hd t w k))(l7:(decide (k<100000))=false→Q (.exit 0) (aia S L R H d s C o nd er hd t w k)):al asz 148 7 vG (aib S L R H d s C o nd er hd t w k) Q:=
 aZ bo 2 (.fork 0 (av [1,3,1] (.fork 0 (av [1,3,1] (.fork 0 (.leaf [0,1,2,6,7,8,9] [0,1,2,3,4,5,6,7,8,9,10,11,12] [6,10,11,12]) (.leaf [6,7] [0,1,2,3,4,5,6,7,8,10,11,12] [6,10,11,12]))) (av [0,0,0] (.leaf [6,7] [0,1,2,3,4,5,6,7,8,10,11,12] [6,10,11,12])))) (av [0,0,0] (.leaf [6,7] [0,1,2,3,4,5,6,7,8,10,11,12] [6,10,11,12]))) (fun u=>by kernel_rfl) (mF (c:=decide (k<100000)) (fun h0=>(vH 3 h0 (mF (c:=er==0) (fun h1=>(vH 3 h1 (mF (c:=nd != -1) (fun h2=>(mN (aS C) (aM L R H (mQ (l4 h0 h1 h2))))) (fun h2=>(mN (aS C) (aM L R H (mE 0 (l5 h0 h1 h2)))))))) (fun h1=>(vH 3 h1 (mN (aS C) (aM L R H (mE 0 (l6 h0 h1))))))))) (fun h0=>(vH 3 h0 (mN (aS C) (aM L R H (mE 0 (l7 h0)))))))
abbrev aid:=fun(S:ad) (L:List ByteArray) (R:List Int) (H:List ap) (d:ay) s C o (hd t:Int) (w:Bool) T K Rr G dd (e z:Int) (x:ByteArray) (k:Int)=>(⟨[(0,.iface 29 (an 0)),(1,ah 5 1),(2,ah 6 (mM C)),(6,an 7),(7,an 8),(8,an 9),(9,.int .i64 (aml .i64 (k+1)))],[ab (aQ T 1 10 11 12) 64,.abs dd,.dead,.dead,.dead,cL [s],.cells (aq C) 3 true,ab jb 45,ab ([.string (o++am7 (ang (amL (anj (cut (ag (b7 x)) 0 (x.size+1)) bytesOf) []))),.string (amw),.string (amw),.string (amw),aa (-1),aa e,aa (if z>hd then z else hd),aa t,aa 0,aa 0,aa 0,.bool true]) 45,ab (kS w) 73,ab (ao K) 9,ab (aq Rr) 3,ab (ak G) 144]⟩:aj)
abbrev aie:=fun(S:ad) (L:List ByteArray) (R:List Int) (H:List ap) (d:ay) s C o (hd t:Int) (w:Bool) T K Rr G dd (e z:Int) (x:ByteArray) (k:Int)=>(⟨[(0,.iface 29 (an 0)),(1,ah 5 1),(2,ah 6 (mM C)),(6,an 7),(7,an 8),(8,an 9),(9,.int .i64 (aml .i64 (k+1)))],[ab (aQ T 1 10 11 12) 64,.abs dd,.dead,.dead,.dead,cL [s],.cells (aq C) 3 true,ab jb 45,ab ([.string (o++am7 (ang (amL (anj (cut (ag (b7 x)) 0 (x.size+1)) bytesOf) []))),.string (amw),.string (amw),.string (amw),aa (-2),aa e,aa (if z>hd then z else hd),aa t,aa 0,aa 0,aa 0,.bool true]) 45,ab (kS w) 73,ab (ao K) 9,ab (aq Rr) 3,ab (ak G) 144]⟩:aj)
abbrev aif:=fun(S:ad) (L:List ByteArray) (R:List Int) (H:List ap) (d:ay) s C o (hd t:Int) (w:Bool) T K Rr G dd (e z:Int) (x:ByteArray) (k:Int)=>(⟨[(0,.iface 29 (an 0)),(1,ah 5 1),(2,ah 6 (mM C)),(6,an 7),(7,an 8),(8,an 9),(9,.int .i64 (aml .i64 (k+1)))],[ab (aQ T 1 10 11 12) 64,.abs dd,.dead,.dead,.dead,cL [s],.cells (aq C) 3 true,ab jb 45,ab ([.string (o++am7 (ang (amL (anj (cut (ag (b7 x)) 0 (x.size+1)) bytesOf) []))),.string (amw),.string (amw),.string (amw),aa (ad.at_ T),aa e,aa (if z>hd then z else hd),aa t,aa 0,aa 0,aa 0,.bool true]) 45,ab (kS w) 73,ab (ao K) 9,ab (aq Rr) 3,ab (ak G) 144]⟩:aj)
abbrev QZ:=fun(S:ad) (L:List ByteArray) (R:List Int) (H:List ap) (d:ay) s C o (hd t:Int) (w:Bool) T K Rr G dd (e z:Int) (x:ByteArray) (k:Int)=>(⟨[(0,.iface 29 (an 0)),(1,ah 5 1),(2,ah 6 (mM C)),(6,an 7),(7,an 8),(8,an 9),(9,.int .i64 (aml .i64 (k+1)))],[ab (aQ T 1 10 11 12) 64,.abs dd,.dead,.dead,.dead,cL [s],.cells (aq C) 3 true,ab jb 45,ab ([.string (o++am7 (ang (amL (anj (cut (ag (b7 x)) 0 (x.size+1)) bytesOf) []))),.string (amw),.string (amw),.string (amw),aa (-1),aa e,aa (if z>hd then z else hd),aa t,aa 0,aa 0,aa 0,.bool false]) 45,ab (kS w) 73,ab (ao K) 9,ab (aq Rr) 3,ab (ak G) 144]⟩:aj)
abbrev Q0:=fun(S:ad) (L:List ByteArray) (R:List Int) (H:List ap) (d:ay) s C o (hd t:Int) (w:Bool) T K Rr G dd (e z:Int) (x:ByteArray) (k:Int)=>(⟨[(0,.iface 29 (an 0)),(1,ah 5 1),(2,ah 6 (mM C)),(6,an 7),(7,an 8),(8,an 9),(9,.int .i64 (aml .i64 (k+1)))],[ab (aQ T 1 10 11 12) 64,.abs dd,.dead,.dead,.dead,cL [s],.cells (aq C) 3 true,ab jb 45,ab ([.string (o++am7 (ang (amL (anj (cut (ag (b7 x)) 0 (x.size+1)) bytesOf) []))),.string (amw),.string (amw),.string (amw),aa (-2),aa e,aa (if z>hd then z else hd),aa t,aa 0,aa 0,aa 0,.bool false]) 45,ab (kS w) 73,ab (ao K) 9,ab (aq Rr) 3,ab (ak G) 144]⟩:aj)
abbrev Q2:=fun(S:ad) (L:List ByteArray) (R:List Int) (H:List ap) (d:ay) s C o (hd t:Int) (w:Bool) T K Rr G dd (e z:Int) (x:ByteArray) (k:Int)=>(⟨[(0,.iface 29 (an 0)),(1,ah 5 1),(2,ah 6 (mM C)),(6,an 7),(7,an 8),(8,an 9),(9,.int .i64 (aml .i64 (k+1)))],[ab (aQ T 1 10 11 12) 64,.abs dd,.dead,.dead,.dead,cL [s],.cells (aq C) 3 true,ab jb 45,ab ([.string (o++am7 (ang (amL (anj (cut (ag (b7 x)) 0 (x.size+1)) bytesOf) []))),.string (amw),.string (amw),.string (amw),aa (ad.at_ T),aa e,aa (if z>hd then z else hd),aa t,aa 0,aa 0,aa 0,.bool false]) 45,ab (kS w) 73,ab (ao K) 9,ab (aq Rr) 3,ab (ak G) 144]⟩:aj)
abbrev aih:=fun S L R H d s C o (hd t:Int) (w:Bool) (T:ad) (K:List ByteArray) (Rr:List Int) (G:List ap) (dd:ay) (e z:Int) (x:ByteArray) (k:Int)=>(⟨[(0,.iface 29 (an 0)),(1,ah 5 1),(2,ah 6 (mM C)),(6,an 7),(7,an 8),(8,an 9),(9,aa k)],[ab (aQ S 1 10 11 12) 64,.abs d,.dead,.dead,.dead,cL [s],.cells (aq C) 3 true,ab jb 45,ab (kp o (-2) 0 hd t) 45,ab (kS w) 73,ab (ao L) 9,ab (aq R) 3,ab (ak H) 144]⟩:aj)
theorem aii(S L R H d s C)(o:ByteArray)(hd t:Int)(w:Bool)(T K Rr G dd)(e z:Int)(x:ByteArray)(k:Int)(pH:(ak H).all af=true)(pG:(ak G).all af=true)(tK:aG asz 72 [an 0] (aR S L R H d) fun r q=>r=.ret (.tuple #[ah 5 1,aa e])∧q=aR T K Rr G dd++Bv x)(iz:aG asz 71 [an 0] (aR T K Rr G dd) fun r q=>r=.ret (aa z)∧q=(aR T K Rr G dd))(h0:aml .i64 (k+1)=k+1)(h1:x.size≤64){Q:aV}(n1:(decide (aml .i64 (0+(↑(x.size+1):Int))>1024))=true→(apf (anj (cut (ag (b7 x)) 0 (x.size+1)) bytesOf))=true)(n2:(decide (aml .i64 (0+(↑(x.size+1):Int))>1024))=true→(decide ((↑(o.size+ams (am7 (ang (amL (anj (cut (ag (b7 x)) 0 (x.size+1)) bytesOf) [])))):Int)≤9223372036854775807))=true)(l5:(decide (aml .i64 (0+(↑(x.size+1):Int))>1024))=true→(ad.over T)=true→Q .normal (aid S L R H d s C o hd t w T K Rr G dd e z x k))(l6:(decide (aml .i64 (0+(↑(x.size+1):Int))>1024))=true→(ad.over T)=false→(ad.more T)=true→Q .normal (aie S L R H d s C o hd t w T K Rr G dd e z x k))(l7:(decide (aml .i64 (0+(↑(x.size+1):Int))>1024))=true→(ad.over T)=false→(ad.more T)=false→Q .normal (aif S L R H d s C o hd t w T K Rr G dd e z x k))(n8:(decide (aml .i64 (0+(↑(x.size+1):Int))>1024))=false→(apf (anj (cut (ag (b7 x)) 0 (x.size+1)) bytesOf))=true)(n9:(decide (aml .i64 (0+(↑(x.size+1):Int))>1024))=false→(decide ((↑(o.size+ams (am7 (ang (amL (anj (cut (ag (b7 x)) 0 (x.size+1)) bytesOf) [])))):Int)≤9223372036854775807))=true)(gR:(decide (aml .i64 (0+(↑(x.size+1):Int))>1024))=false→(ad.over T)=true→Q .normal (QZ S L R H d s C o hd t w T K Rr G dd e z x k))(kL:(decide (aml .i64 (0+(↑(x.size+1):Int))>1024))=false→(ad.over T)=false→(ad.more T)=true→Q .normal (Q0 S L R H d s C o hd t w T K Rr G dd e z x k))(pt:(decide (aml .i64 (0+(↑(x.size+1):Int))>1024))=false→(ad.over T)=false→(ad.more T)=false→Q .normal (Q2 S L R H d s C o hd t w T K Rr G dd e z x k)):al asz 148 7 (vG.drop 2) (aih S L R H d s C o hd t w T K Rr G dd e z x k) Q:=
 aZ (ah2 S L R H d T K Rr G dd e z x tK iz) 1000 (av [7,1,1,1,1,1,1,1] (.fork 6 (av [44,1,0,1,15,1,1,1,1,1,1] (.fork 6 (.leaf [0,1,2,6,7,8,9] [0,1,2,3,4,5,6,7,8,9,10,11,12] [6,10,11,12]) (.fork 1 (.leaf [0,1,2,6,7,8,9] [0,1,2,3,4,5,6,7,8,9,10,11,12] [6,10,11,12]) (.leaf [0,1,2,6,7,8,9] [0,1,2,3,4,5,6,7,8,9,10,11,12] [6,10,11,12])))) (av [42,1,0,1,15,1,1,1,1,1,1] (.fork 6 (.leaf [0,1,2,6,7,8,9] [0,1,2,3,4,5,6,7,8,9,10,11,12] [6,10,11,12]) (.fork 1 (.leaf [0,1,2,6,7,8,9] [0,1,2,3,4,5,6,7,8,9,10,11,12] [6,10,11,12]) (.leaf [0,1,2,6,7,8,9] [0,1,2,3,4,5,6,7,8,9,10,11,12] [6,10,11,12])))))) (fun u=>by kernel_rfl) (aM L R H (mN (kh [an 0] (aR S L R H d)) (mN (aN K) (mN (aS Rr) (mN (aY G) (mN (aI (b7 x)) (mF (c:=decide (aml .i64 (0+(↑(x.size+1):Int))>1024)) (fun h0=>(mN (n1 h0) (mN (n2 h0) (mN (aN K) (mN (aS Rr) (mN (aY G) (mN (kh [an 0] (aR T K Rr G dd)) (mN (aN K) (mN (aS Rr) (mN (aY G) (mF (c:=ad.over T) (fun h1=>(mN (aS C) (mN (aN K) (mN (aS Rr) (mN (aY G) (mQ (al.done (by kernel_rfl) (l5 h0 h1)))))))) (fun h1=>(mF (c:=ad.more T) (fun h2=>(mN (aS C) (mN (aN K) (mN (aS Rr) (mN (aY G) (mQ (al.done (by kernel_rfl) (l6 h0 h1 h2)))))))) (fun h2=>(mN (aS C) (mN (aN K) (mN (aS Rr) (mN (aY G) (mQ (al.done (by kernel_rfl) (l7 h0 h1 h2))))))))))))))))))))) (fun h0=>(mN (n8 h0) (mN (n9 h0) (mN (aN K) (mN (aS Rr) (mN (aY G) (mN (kh [an 0] (aR T K Rr G dd)) (mN (aN K) (mN (aS Rr) (mN (aY G) (mF (c:=ad.over T) (fun h1=>(mN (aS C) (mN (aN K) (mN (aS Rr) (mN (aY G) (mQ (al.done (by kernel_rfl) (gR h0 h1)))))))) (fun h1=>(mF (c:=ad.more T) (fun h2=>(mN (aS C) (mN (aN K) (mN (aS Rr) (mN (aY G) (mQ (al.done (by kernel_rfl) (kL h0 h1 h2)))))))) (fun h2=>(mN (aS C) (mN (aN K) (mN (aS Rr) (mN (aY G) (mQ (al.done (by kernel_rfl) (pt h0 h1 h2))))))))))))))))))))))))))))
abbrev Q3:=fun(S:ad) (L:List ByteArray) (R:List Int) (H:List ap) (d:ay) s C o (hd t:Int) (w:Bool) T K Rr G dd (e z:Int) (c:ByteArray) (k cv:Int)=>(⟨[(0,.iface 29 (an 0)),(1,ah 5 1),(2,ah 6 (mM C)),(6,an 7),(7,an 8),(8,an 9),(9,.int .i64 (aml .i64 (k+1)))],[ab (aQ T 1 10 11 12) 64,.abs dd,.dead,.dead,.dead,cL [s],.cells (aq C) 3 true,ab jb 45,ab ([.string o,.string (amw),.string (amw),.string (amw),aa (-1),aa e,aa (if z>hd then z else hd),.int .i64 (if aml .i64 (t+cv)<(↑(ams (bD.bytes (amL [s][0]? dk))):Int)then aml .i64 (t+cv)else(↑(ams (bD.bytes (amL [s][0]? dk))):Int)),aa 0,aa 0,aa 0,.bool false]) 45,ab (kS w) 73,ab (ao K) 9,ab (aq Rr) 3,ab (ak G) 144]⟩:aj)
abbrev Q4:=fun(S:ad) (L:List ByteArray) (R:List Int) (H:List ap) (d:ay) s C o (hd t:Int) (w:Bool) T K Rr G dd (e z:Int) (c:ByteArray) (k cv:Int)=>(⟨[(0,.iface 29 (an 0)),(1,ah 5 1),(2,ah 6 (mM C)),(6,an 7),(7,an 8),(8,an 9),(9,.int .i64 (aml .i64 (k+1)))],[ab (aQ T 1 10 11 12) 64,.abs dd,.dead,.dead,.dead,cL [s],.cells (aq C) 3 true,ab jb 45,ab ([.string o,.string (amw),.string (amw),.string (amw),aa (-2),aa e,aa (if z>hd then z else hd),.int .i64 (if aml .i64 (t+cv)<(↑(ams (bD.bytes (amL [s][0]? dk))):Int)then aml .i64 (t+cv)else(↑(ams (bD.bytes (amL [s][0]? dk))):Int)),aa 0,aa 0,aa 0,.bool false]) 45,ab (kS w) 73,ab (ao K) 9,ab (aq Rr) 3,ab (ak G) 144]⟩:aj)
abbrev Q5:=fun(S:ad) (L:List ByteArray) (R:List Int) (H:List ap) (d:ay) s C o (hd t:Int) (w:Bool) T K Rr G dd (e z:Int) (c:ByteArray) (k cv:Int)=>(⟨[(0,.iface 29 (an 0)),(1,ah 5 1),(2,ah 6 (mM C)),(6,an 7),(7,an 8),(8,an 9),(9,.int .i64 (aml .i64 (k+1)))],[ab (aQ T 1 10 11 12) 64,.abs dd,.dead,.dead,.dead,cL [s],.cells (aq C) 3 true,ab jb 45,ab ([.string o,.string (amw),.string (amw),.string (amw),aa (ad.at_ T),aa e,aa (if z>hd then z else hd),.int .i64 (if aml .i64 (t+cv)<(↑(ams (bD.bytes (amL [s][0]? dk))):Int)then aml .i64 (t+cv)else(↑(ams (bD.bytes (amL [s][0]? dk))):Int)),aa 0,aa 0,aa 0,.bool false]) 45,ab (kS w) 73,ab (ao K) 9,ab (aq Rr) 3,ab (ak G) 144]⟩:aj)
abbrev aij:=fun S L R H d s C o (hd t:Int) (w:Bool) (T:ad) (K:List ByteArray) (Rr:List Int) (G:List ap) (dd:ay) (e z:Int) (c:ByteArray) (k cv:Int)=>(⟨[(0,.iface 29 (an 0)),(1,ah 5 1),(2,ah 6 (mM C)),(6,an 7),(7,an 8),(8,an 9),(9,aa k)],[ab (aQ S 1 10 11 12) 64,.abs d,.dead,.dead,.dead,cL [s],.cells (aq C) 3 true,ab jb 45,ab (kp o 0 0 hd t) 45,ab (kS w) 73,ab (ao L) 9,ab (aq R) 3,ab (ak H) 144]⟩:aj)
theorem aik(S L R H d)(s:bD)(C o)(hd t:Int)(w:Bool)(T K Rr G dd)(e z:Int)(c:ByteArray)(k cv:Int)(pH:(ak H).all af=true)(pG:(ak G).all af=true)(nq:aG asz 70 [an 0,aa 0,ah 5 c.size] (aR S L R H d++[ab (ag c) 5]) fun r q=>r=.ret (.tuple #[cd,aa e])∧q=nl (ab (ag c) 5) T K Rr G dd)(iz:aG asz 71 [an 0] (aR T K Rr G dd) fun r q=>r=.ret (aa z)∧q=(aR T K Rr G dd))(oB:aG asz 20 [ah 0 (mM C),aa k] [.cells (aq C) 3 true] fun r q=>r=.ret (aa cv)∧q=[.cells (aq C) 3 true])(h0:aml .i64 (k+1)=k+1)(h1:0≤t)(h2:t<s.bytes.size)(h3:s.bytes.size≤4500)(h4:1≤cv)(h5:cv≤32)(h6:aml .i64 (t+cv)=t+cv){Q:aV}(n1:(amq (amM ((amm (if aml .i64 (t+cv)<(↑(ams (bD.bytes (amL [s][0]? dk))):Int)then aml .i64 (t+cv)else(↑(ams (bD.bytes (amL [s][0]? dk))):Int))-amm t)*1) (an4 (0+amm t*1) (ag (bD.bytes (amL [s][0]? dk))))) Value.oneCell')=true)(n2:(dX [an 0,aa 0,ah 5 (0+(amm (if aml .i64 (t+cv)<(↑(ams (bD.bytes (amL [s][0]? dk))):Int)then aml .i64 (t+cv)else(↑(ams (bD.bytes (amL [s][0]? dk))):Int))-amm t))] [an 0,aa 0,ah 5 c.size] [ab (aQ S 1 2 3 4) 64,ai.abs d,ab (ao L) 9,ab (aq R) 3,ab (ak H) 144,ab ([]++amM ((amm (if aml .i64 (t+cv)<(↑(ams (bD.bytes (amL [s][0]? dk))):Int)then aml .i64 (t+cv)else(↑(ams (bD.bytes (amL [s][0]? dk))):Int))-amm t)*1) (an4 (0+amm t*1) (ag (bD.bytes (amL [s][0]? dk))))) 5] (aR S L R H d++[ab (ag c) 5]))=true)(l5:(ad.over T)=true→Q .normal (Q3 S L R H d s C o hd t w T K Rr G dd e z c k cv))(l6:(ad.over T)=false→(ad.more T)=true→Q .normal (Q4 S L R H d s C o hd t w T K Rr G dd e z c k cv))(l7:(ad.over T)=false→(ad.more T)=false→Q .normal (Q5 S L R H d s C o hd t w T K Rr G dd e z c k cv)):al asz 148 7 (vG.drop 2) (aij S L R H d s C o hd t w T K Rr G dd e z c k cv) Q:=
 aZ (ah4 S L R H d T K Rr G dd e z c C k cv nq iz oB) 1000 (av [31,9,1,6,1,1,1,1,0,1,1,1,1,11,1,1,1,1,1,1,1,1,13,1,1,1,1,1,1] (.fork 6 (.leaf [0,1,2,6,7,8,9] [0,1,2,3,4,5,6,7,8,9,17,18,19] [6,17,18,19]) (.fork 1 (.leaf [0,1,2,6,7,8,9] [0,1,2,3,4,5,6,7,8,9,17,18,19] [6,17,18,19]) (.leaf [0,1,2,6,7,8,9] [0,1,2,3,4,5,6,7,8,9,17,18,19] [6,17,18,19])))) (fun u=>by kernel_rfl) (mN (show(decide (t<(↑(ams (bD.bytes (amL [s][0]? dk))):Int)))=true by simp at pH pG nq iz oB h0 h1 h2 h3 h4 h5 h6⊢ <;>omega) (mN (aS C) (mN (kh [ah 0 (mM C),aa k] [ai.cells (aq C) 3 true]) (mN (decide_eq_true (by omega):(decide (0≤t))=true) (mN (decide_eq_true (by omega):(decide (0≤if aml .i64 (t+cv)<(↑(ams (bD.bytes (amL [s][0]? dk))):Int)then aml .i64 (t+cv)else(↑(ams (bD.bytes (amL [s][0]? dk))):Int)))=true) (mN (show(amO (amm t) (amm (if aml .i64 (t+cv)<(↑(ams (bD.bytes (amL [s][0]? dk))):Int)then aml .i64 (t+cv)else(↑(ams (bD.bytes (amL [s][0]? dk))):Int))))=true by simp at pH pG nq iz oB h0 h1 h2 h3 h4 h5 h6⊢ <;>omega) (mN (show(amO (amm (if aml .i64 (t+cv)<(↑(ams (bD.bytes (amL [s][0]? dk))):Int)then aml .i64 (t+cv)else(↑(ams (bD.bytes (amL [s][0]? dk))):Int))) (ams (bD.bytes (amL [s][0]? dk))))=true by simp at pH pG nq iz oB h0 h1 h2 h3 h4 h5 h6⊢ <;>omega) (mN (show(amO (0+amm t*1+(amm (if aml .i64 (t+cv)<(↑(ams (bD.bytes (amL [s][0]? dk))):Int)then aml .i64 (t+cv)else(↑(ams (bD.bytes (amL [s][0]? dk))):Int))-amm t)*1) (mM (ag (bD.bytes (amL [s][0]? dk)))))=true by simp at pH pG nq iz oB h0 h1 h2 h3 h4 h5 h6⊢ <;>omega) (mN (show(amO (0+(amm (if aml .i64 (t+cv)<(↑(ams (bD.bytes (amL [s][0]? dk))):Int)then aml .i64 (t+cv)else(↑(ams (bD.bytes (amL [s][0]? dk))):Int))-amm t)) 1000000)=true by simp at pH pG nq iz oB h0 h1 h2 h3 h4 h5 h6⊢ <;>omega) (mN n1 (mN (show(Nat.beq (mM (amM ((amm (if aml .i64 (t+cv)<(↑(ams (bD.bytes (amL [s][0]? dk))):Int)then aml .i64 (t+cv)else(↑(ams (bD.bytes (amL [s][0]? dk))):Int))-amm t)*1) (an4 (0+amm t*1) (ag (bD.bytes (amL [s][0]? dk)))))) ((amm (if aml .i64 (t+cv)<(↑(ams (bD.bytes (amL [s][0]? dk))):Int)then aml .i64 (t+cv)else(↑(ams (bD.bytes (amL [s][0]? dk))):Int))-amm t)*1))=true by simp at pH pG nq iz oB h0 h1 h2 h3 h4 h5 h6⊢ <;>omega) (aM L R H (mN (show(amq ([]++amM ((amm (if aml .i64 (t+cv)<(↑(ams (bD.bytes (amL [s][0]? dk))):Int)then aml .i64 (t+cv)else(↑(ams (bD.bytes (amL [s][0]? dk))):Int))-amm t)*1) (an4 (0+amm t*1) (ag (bD.bytes (amL [s][0]? dk))))) af)=true by simp) (mN n2 (mN (aI c) (mN (aN K) (mN (aS Rr) (mN (aY G) (mN (aN K) (mN (aS Rr) (mN (aY G) (mN (kh [an 0] (aR T K Rr G dd)) (mN (aN K) (mN (aS Rr) (mN (aY G) (mF (c:=ad.over T) (fun h0=>(mN (aS C) (mN (aN K) (mN (aS Rr) (mN (aY G) (mQ (al.done (by kernel_rfl) (l5 h0)))))))) (fun h0=>(mF (c:=ad.more T) (fun h1=>(mN (aS C) (mN (aN K) (mN (aS Rr) (mN (aY G) (mQ (al.done (by kernel_rfl) (l6 h0 h1)))))))) (fun h1=>(mN (aS C) (mN (aN K) (mN (aS Rr) (mN (aY G) (mQ (al.done (by kernel_rfl) (l7 h0 h1))))))))))))))))))))))))))))))))))))
abbrev Q6:=fun(S:ad) (L:List ByteArray) (R:List Int) (H:List ap) (d:ay) s C o (hd:Int) T K Rr G dd (e z k:Int)=>(⟨[(0,.iface 29 (an 0)),(1,ah 5 1),(2,ah 6 (mM C)),(6,an 7),(7,an 8),(8,an 9),(9,.int .i64 (aml .i64 (k+1)))],[ab (aQ T 1 10 11 12) 64,.abs dd,.dead,.dead,.dead,cL [s],.cells (aq C) 3 true,ab jb 45,ab ([.string o,.string (amw),.string (amw),.string (amw),aa (-1),aa e,aa (if z>hd then z else hd),aa (ams (bD.bytes s)),aa 0,aa 0,aa 0,.bool false]) 45,ab ([.bool true,.bool false,.bool false,.bool false]) 73,ab (ao K) 9,ab (aq Rr) 3,ab (ak G) 144]⟩:aj)
abbrev Q7:=fun(S:ad) (L:List ByteArray) (R:List Int) (H:List ap) (d:ay) s C o (hd:Int) T K Rr G dd (e z k:Int)=>(⟨[(0,.iface 29 (an 0)),(1,ah 5 1),(2,ah 6 (mM C)),(6,an 7),(7,an 8),(8,an 9),(9,.int .i64 (aml .i64 (k+1)))],[ab (aQ T 1 10 11 12) 64,.abs dd,.dead,.dead,.dead,cL [s],.cells (aq C) 3 true,ab jb 45,ab ([.string o,.string (amw),.string (amw),.string (amw),aa (-2),aa e,aa (if z>hd then z else hd),aa (ams (bD.bytes s)),aa 0,aa 0,aa 0,.bool false]) 45,ab ([.bool true,.bool false,.bool false,.bool false]) 73,ab (ao K) 9,ab (aq Rr) 3,ab (ak G) 144]⟩:aj)
abbrev Q8:=fun(S:ad) (L:List ByteArray) (R:List Int) (H:List ap) (d:ay) s C o (hd:Int) T K Rr G dd (e z k:Int)=>(⟨[(0,.iface 29 (an 0)),(1,ah 5 1),(2,ah 6 (mM C)),(6,an 7),(7,an 8),(8,an 9),(9,.int .i64 (aml .i64 (k+1)))],[ab (aQ T 1 10 11 12) 64,.abs dd,.dead,.dead,.dead,cL [s],.cells (aq C) 3 true,ab jb 45,ab ([.string o,.string (amw),.string (amw),.string (amw),aa (ad.at_ T),aa e,aa (if z>hd then z else hd),aa (ams (bD.bytes s)),aa 0,aa 0,aa 0,.bool false]) 45,ab ([.bool true,.bool false,.bool false,.bool false]) 73,ab (ao K) 9,ab (aq Rr) 3,ab (ak G) 144]⟩:aj)
abbrev ail:=fun S L R H d (s:bD) C o (hd:Int) (T:ad) (K:List ByteArray) (Rr:List Int) (G:List ap) (dd:ay) (e z k:Int)=>(⟨[(0,.iface 29 (an 0)),(1,ah 5 1),(2,ah 6 (mM C)),(6,an 7),(7,an 8),(8,an 9),(9,aa k)],[ab (aQ S 1 10 11 12) 64,.abs d,.dead,.dead,.dead,cL [s],.cells (aq C) 3 true,ab jb 45,ab (kp o 0 0 hd s.bytes.size) 45,ab (kS false) 73,ab (ao L) 9,ab (aq R) 3,ab (ak H) 144]⟩:aj)
theorem aim(S L R H d)(s:bD)(C o)(hd:Int)(T K Rr G dd)(e z k:Int)(pH:(ak H).all af=true)(pG:(ak G).all af=true)(vF:aG asz 69 [an 0,aa 0] (aR S L R H d) fun r q=>r=.ret (.tuple #[cd,aa e])∧q=iM T K Rr G dd)(iz:aG asz 71 [an 0] (aR T K Rr G dd) fun r q=>r=.ret (aa z)∧q=(aR T K Rr G dd))(h0:aml .i64 (k+1)=k+1)(h1:s.ended=true){Q:aV}(n0:(dX [an 0,aa 0] [an 0,aa 0] [ab (aQ S 1 2 3 4) 64,ai.abs d,ab (ao L) 9,ab (aq R) 3,ab (ak H) 144] (aR S L R H d))=true)(n1:(dX [an 0] [an 0] [ab (aQ T 1 2 3 4) 64,ai.abs dd,ab (ao K) 9,ab (aq Rr) 3,ab (ak G) 144] (aR T K Rr G dd))=true)(aW:amq (aq C) af=true)(l3:(ad.over T)=true→Q .normal (Q6 S L R H d s C o hd T K Rr G dd e z k))(l4:(ad.over T)=false→(ad.more T)=true→Q .normal (Q7 S L R H d s C o hd T K Rr G dd e z k))(l5:(ad.over T)=false→(ad.more T)=false→Q .normal (Q8 S L R H d s C o hd T K Rr G dd e z k)):al asz 148 7 (vG.drop 2) (ail S L R H d s C o hd T K Rr G dd e z k) Q:=
 aZ (ah6 S L R H d T K Rr G dd e z vF iz) 1000 (av [30,9,1,3,3,1,9,1,1,1,1,1,1,13,1,1,1,1,1,1] (.fork 6 (.leaf [0,1,2,6,7,8,9] [0,1,2,3,4,5,6,7,8,9,17,18,19] [6,17,18,19]) (.fork 1 (.leaf [0,1,2,6,7,8,9] [0,1,2,3,4,5,6,7,8,9,17,18,19] [6,17,18,19]) (.leaf [0,1,2,6,7,8,9] [0,1,2,3,4,5,6,7,8,9,17,18,19] [6,17,18,19])))) (fun u=>by kernel_rfl) (mN (show(decide ((↑(ams (bD.bytes s)):Int)<(↑(ams (bD.bytes (amL [s][0]? dk))):Int)))=false by simp) (vH 5 (show(bD.ended (amL [s][0]? dk))=true by assumption) (aM L R H (mN n0 (mN (aN K) (mN (aS Rr) (mN (aY G) (mN (aN K) (mN (aS Rr) (mN (aY G) (mN n1 (mN (aN K) (mN (aS Rr) (mN (aY G) (mF (c:=ad.over T) (fun h0=>(mN (aS C) (mN (aN K) (mN (aS Rr) (mN (aY G) (mQ (al.done (by kernel_rfl) (l3 h0)))))))) (fun h0=>(mF (c:=ad.more T) (fun h1=>(mN (aS C) (mN (aN K) (mN (aS Rr) (mN (aY G) (mQ (al.done (by kernel_rfl) (l4 h0 h1)))))))) (fun h1=>(mN (aS C) (mN (aN K) (mN (aS Rr) (mN (aY G) (mQ (al.done (by kernel_rfl) (l5 h0 h1)))))))))))))))))))))))))
abbrev Q9:=fun S L R H d (s:bD) C o (hd:Int) (w:Bool) (k:Int)=>(⟨[(6,an 7),(7,an 8)],[ab (aQ S 1 9 10 11) 64,.abs d,.dead,.dead,.dead,cL [s],.cells (aq C) 3 true,ab jb 45,ab (kp o 0 0 hd s.bytes.size) 45,ab (ao L) 9,ab (aq R) 3,ab (ak H) 144]⟩:aj)
abbrev HV:=fun S L R H d (s:bD) C o (hd:Int) (w:Bool) (k:Int)=>(⟨[(0,.iface 29 (an 0)),(1,ah 5 1),(2,ah 6 (mM C)),(6,an 7),(7,an 8),(8,an 9),(9,aa k)],[ab (aQ S 1 10 11 12) 64,.abs d,.dead,.dead,.dead,cL [s],.cells (aq C) 3 true,ab jb 45,ab (kp o 0 0 hd s.bytes.size) 45,ab (kS w) 73,ab (ao L) 9,ab (aq R) 3,ab (ak H) 144]⟩:aj)
theorem ain(S L R H d)(s:bD)(C o)(hd:Int)(w:Bool)(k:Int)(pH:(ak H).all af=true)(h0:s.ended=false){Q:aV}(aW:amq (aq C) af=true)(be:amq (ao L) af=true)(bB:amq (aq R) af=true)(br:amq (ak H) af=true)(l4:Q (.exit 0) (Q9 S L R H d s C o hd w k)):al asz 148 7 (vG.drop 2) (HV S L R H d s C o hd w k) Q:=
 aZ bo 1000 (av [30,8,0,0,0,0] (.leaf [6,7] [0,1,2,3,4,5,6,7,8,10,11,12] [6,10,11,12])) (fun u=>by kernel_rfl) (mN (show(decide ((↑(ams (bD.bytes s)):Int)<(↑(ams (bD.bytes (amL [s][0]? dk))):Int)))=false by simp) (vH 5 (show(bD.ended (amL [s][0]? dk))=false by assumption) (mN (aS C) (aM L R H (mE 0 l4)))))
abbrev Ra:=fun S L R H d s C o (nd er hd t:Int)=>(⟨[(6,an 7)],[ab (aQ S 1 8 9 10) 64,.abs d,.dead,.dead,.dead,cL [s],.cells (aq C) 3 true,ab ([.string o,.string (amw),.string (amw),.string (amw),aa nd,aa er,aa hd,aa t,aa 0,aa 0,aa 0,.bool false]) 45,ab (ao L) 9,ab (aq R) 3,ab (ak H) 144]⟩:aj)
theorem aio(S L R H d s C o)(nd er hd t:Int){Q:bk}(hq:Q (.ret (.agg (ang [.string o,.string (amw),.string (amw),.string (amw),aa nd,aa er,aa hd,aa t,aa 0,aa 0,aa 0,.bool false]))) [ab (aQ S 1 7 8 9) 64,.abs d,.dead,.dead,.dead,cL [s],.cells (aq C) 3 true,ab (ao L) 9,ab (aq R) 3,ab (ak H) 144]):aH asz 13 148 7 Q .ret (Ra S L R H d s C o nd er hd t):=aH.ret (vs:=[.agg (ang [.string o,.string (amw),.string (amw),.string (amw),aa nd,aa er,aa hd,aa t,aa 0,aa 0,aa 0,.bool false])]) (l:=[7]) (bs:=[0,1,2,3,4,5,6,8,9,10]) (pl:=[6,8,9,10]) (q:=[aq C,ao L,aq R,ak H]) (fun u=>by kernel_rfl) (by kernel_rfl) (aE (aS C) (gi L R H bd)) hq
abbrev aip:=fun S L R H d s C o (nd er hd t:Int)=>(⟨[(6,an 7),(7,an 8)],Bw S L R H d s C o nd er hd t⟩:aj)
theorem aiq(S L R H d s C o)(nd er hd t:Int)(pH:(ak H).all af=true){Q:aV}(l4:Q .ret (Ra S L R H d s C o nd er hd t)):al asz 148 7 (yf.drop 5) (aip S L R H d s C o nd er hd t) Q:=
 aZ bo 1000 (.leaf [6] [0,1,2,3,4,5,6,7,9,10,11] [6,9,10,11]) (fun u=>by kernel_rfl) (mN (aS C) (aM L R H (mR l4)))
end
end Go.Proofs.Ytnlkkgpcikkpoaa
namespace Go.Proofs.Ytnlkkgpcikkpoaa
noncomputable section
open Go Vm Go.RowKit
set_option maxRecDepth 100000
noncomputable def Rb:List Code:=ba (dy asz 20)
open Tree renaming aU→mN,dh→mF,eQ→mL,fw→mQ,dz→mR,fI→mE
abbrev vJ:=fun C=>([.cells (aq C) 3 true]:List ai)
abbrev HW:=fun C (k:Int)=>(⟨[(4,aa 32)],vJ C⟩:aj)
theorem air(C)(k:Int){Q:bk}(hq:Q (.ret (aa 32)) (HW C k).objs):aH asz 20 23 1 Q .ret (HW C k):=aH.ret (vs:=[aa 32]) (l:=[]) (bs:=[0]) (pl:=[0]) (q:=[aq C]) (fun u=>by kernel_rfl) (by kernel_rfl) (aE (aS C) bd) hq
abbrev Rc:=fun C (k:Int)=>(⟨[(0,ah 0 (mM C)),(1,aa k)],vJ C⟩:aj)
theorem ais(C)(k:Int)(h0:(mM C)=0){Q:aV}(aW:amq (aq C) af=true)(l1:Q .ret (HW C k)):al asz 23 1 Rb (Rc C k) Q:=
 aZ bo 1000 (av [3] (.leaf [4] [0] [0])) (fun u=>by kernel_rfl) (mN (decide_eq_true (by omega):((↑(mM C):Int)==0)=true) (mN (aS C) (mR l1)))
noncomputable abbrev Re(C:List Int)(k:Int):aj:=⟨[(4,.int .i64 (aml .i64 (aml .i64 (0-aod (au (aq C) (0+amm (aod k (↑(mM C):Int))*1)) 32)+1)))],vJ C⟩
theorem ait(C)(k:Int){Q:bk}(hq:Q (.ret (.int .i64 (aml .i64 (aml .i64 (0-aod (au (aq C) (0+amm (aod k (↑(mM C):Int))*1)) 32)+1)))) (vJ C)):aH asz 20 23 1 Q .ret (Re C k):=aH.ret (vs:=[.int .i64 (aml .i64 (aml .i64 (0-aod (au (aq C) (0+amm (aod k (↑(mM C):Int))*1)) 32)+1))]) (l:=[]) (bs:=[0]) (pl:=[0]) (q:=[aq C]) (fun u=>by kernel_rfl) (by kernel_rfl) (aE (aS C) bd) hq
noncomputable abbrev Rf(C:List Int)(k:Int):aj:=⟨[(4,.int .i64 (aml .i64 (aod (au (aq C) (0+amm (aod k (↑(mM C):Int))*1)) 32+1)))],vJ C⟩
theorem aiu(C)(k:Int){Q:bk}(hq:Q (.ret (.int .i64 (aml .i64 (aod (au (aq C) (0+amm (aod k (↑(mM C):Int))*1)) 32+1)))) (vJ C)):aH asz 20 23 1 Q .ret (Rf C k):=aH.ret (vs:=[.int .i64 (aml .i64 (aod (au (aq C) (0+amm (aod k (↑(mM C):Int))*1)) 32+1))]) (l:=[]) (bs:=[0]) (pl:=[0]) (q:=[aq C]) (fun u=>by kernel_rfl) (by kernel_rfl) (aE (aS C) bd) hq
theorem aiv(C)(k:Int)(h0:0<(mM C))(h1:(mM C)≤3000)(h2:0≤k)(h3:k<100000){Q:aV}(n0:(!decide ((↑(mM C):Int)=0))=true)(n1:(decide (0≤aod k (↑(mM C):Int)))=true)(n2:(Nat.blt (amm (aod k (↑(mM C):Int))) (mM C))=true)(n3:(cy amA (aq C) (0+amm (aod k (↑(mM C):Int))*1))=true)(l5:(decide (aod (au (aq C) (0+amm (aod k (↑(mM C):Int))*1)) 32<0))=true→Q .ret (Re C k))(l6:(decide (aod (au (aq C) (0+amm (aod k (↑(mM C):Int))*1)) 32<0))=false→Q .ret (Rf C k)):al asz 23 1 Rb (Rc C k) Q:=
 aZ bo 1000 (av [2,2,1,0,1,1,0,1] (.fork 1 (.leaf [4] [0] [0]) (.leaf [4] [0] [0]))) (fun u=>by kernel_rfl) (mN (decide_eq_false (by omega):((↑(mM C):Int)==0)=false) (mN n0 (mN n1 (mN n2 (mN n3 (mF (c:=decide (aod (au (aq C) (0+amm (aod k (↑(mM C):Int))*1)) 32<0)) (fun h0=>(mN (aS C) (mR (l5 h0)))) (fun h0=>(mN (aS C) (mR (l6 h0))))))))))
end
end Go.Proofs.Ytnlkkgpcikkpoaa
namespace Go.Proofs.Ytnlkkgpcikkpoaa
open Go Vm Go.RowKit
set_option maxRecDepth 100000
structure Small(L:List ByteArray):Prop where
 each:∀x∈L,x.size≤64
 all:bO L≤256
structure Inv(x:MS):Prop where
 cut:jn x.S
 jW:x.H.length=x.S.hn
 sm:Small x.L
 fm:x.H=[]∨(x.L=[]∧x.S.n=0)
 bS:x.H.length≤3
 ok:∀h∈x.H,ow h
 run:x.S.ro+x.S.rn≤x.L.length
theorem aiw(L:List ByteArray):ko L+L.length=bO L:=by
 induction L with
 |nil=>rfl
 |cons x l ih=>show x.size+ko l+(l.length+1)=x.size+1+bO l;omega
theorem aix(L:List ByteArray)(n:Nat):bO (L.take n)≤bO L:=by
 induction L generalizing n with
 |nil=>simp
 |cons x l ih=>cases n with
  |zero=>exact ann _
  |succ n=>have:=ih n;show x.size+1+bO (l.take n)≤x.size+1+bO l;omega
theorem aiy(L:List ByteArray)(n:Nat):bO (L.drop n)≤bO L:=by
 induction L generalizing n with
 |nil=>simp
 |cons x l ih=>cases n with
  |zero=>exact amX _
  |succ n=>have:=ih n;show bO (l.drop n)≤x.size+1+bO l;omega
theorem Inv.held{x:MS}(h:Inv x):QW x∧jD x≤320:=by
 have h1:=xV x.L
 have h2:=h.sm.all
 have h3:=h.run
 refine⟨⟨h.cut,h.jW,h.bS,h.ok,h.run,by omega,h.sm.each⟩,?_⟩
 have hn:=h.cut.n1
 have o9:=h.cut.n0
 have a:=aiw x.run
 have b:=aix (x.L.drop x.S.ro) x.S.rn
 have c:=aiy x.L x.S.ro
 have e:=QV h.ok
 have hf:=h.bS
 unfold jD
 have a:ko x.run+x.run.length=bO ((x.L.drop x.S.ro).take x.S.rn):=a
 rcases h.fm with hH|⟨hL,hz⟩
 ·rw[hH]
  show _+0≤320
  omega
 ·have:bO x.L=0:=by rw[hL];rfl
  rw[hz]
  show 0+_+_≤320
  omega
theorem HX{S:ad}{L:List ByteArray}{R:List Int}{d:ay}(h:Small L):Small (dS S L R d).2.2.1:=by
 have hs:Small (bE (a7 S.aC) L):=⟨fun x hx=>h.each x ((kl L).mem_iff.1 hx),by rw[vo (kl L)];exact h.all⟩
 unfold dS
 split
 ·exact hs
 split
 ·exact hs
 ·exact⟨(fun x hx=>by cases hx),ann _⟩
structure mc(S T:ad):Prop where
 at_:T.at_=S.at_
 more:T.more=S.more
 over:T.over=S.over
 B:T.B=S.B
 n:T.n=S.n
 failed:T.failed=S.failed
 aC:T.aC=S.aC
 ro:T.ro=S.ro
 hn:T.hn=S.hn
theorem mc.refl(S:ad):mc S S:=⟨rfl,rfl,rfl,rfl,rfl,rfl,rfl,rfl,rfl⟩
theorem mc.trans{S T U:ad}(h:mc S T)(k:mc T U):mc S U:=⟨k.at_.trans h.at_,k.more.trans h.more,k.over.trans h.over,k.B.trans h.B,k.n.trans h.n,k.failed.trans h.failed,k.aC.trans h.aC,k.ro.trans h.ro,k.hn.trans h.hn⟩
theorem HY(S:ad)(L:List ByteArray)(R:List Int)(d:ay):mc S (dS S L R d).2.1:=by
 unfold dS
 split
 ·exact mc.refl S
 split
 ·exact⟨rfl,rfl,rfl,rfl,rfl,rfl,rfl,rfl,rfl⟩
 ·exact⟨rfl,rfl,rfl,rfl,rfl,rfl,rfl,rfl,rfl⟩
theorem yg:∀(l:List ByteArray) (s:cN),mc s.1 (eX l s).2.1
 | [],s=>mc.refl _
 |x::l,s=>by
  unfold eX
  split
  ·split
   ·exact HY _ _ _ _
   ·have h1:=yg l (lv x (dS s.1 s.2.1 s.2.2.1 s.2.2.2).2)
    have h0:mc (dS s.1 s.2.1 s.2.2.1 s.2.2.2).2.1 (lv x (dS s.1 s.2.1 s.2.2.1 s.2.2.2).2).1:=⟨rfl,rfl,rfl,rfl,rfl,rfl,rfl,rfl,rfl⟩
    exact(HY s.1 s.2.1 s.2.2.1 s.2.2.2).trans (h0.trans h1)
  ·have h1:=yg l (lv x s)
   have h0:mc s.1 (lv x s).1:=⟨rfl,rfl,rfl,rfl,rfl,rfl,rfl,rfl,rfl⟩
   exact h0.trans h1
theorem Bx:∀(l:List ByteArray) (s:cN),iX s→Small s.2.1→(∀x∈l,x.size≤64)→Small (eX l s).2.2.1
 | [],s,h,hs,hx=>hs
 |x::l,s,h,hs,hx=>by
  have fD:=hx x List.mem_cons_self
  have ju:∀y∈l,y.size≤64:=fun y hy=>hx y (List.mem_cons_of_mem _ hy)
  have hw:=h.bM
  have hlen:=h.len
  have put:∀t:cN,Small t.2.1→bO t.2.1+(x.size+1)≤256→Small (lv x t).2.1:=fun t ht hw=>by
   refine⟨fun y hy=>?_,?_⟩
   ·rcases amU.1 hy with hy|hy
    ·exact ht.each y hy
    ·rw[ank.1 hy];exact fD
   ·show bO (t.2.1++[x])≤256
    rw[xW]
    show bO t.2.1+(x.size+1+0)≤256
    omega
  unfold eX
  by_cases hc:0<s.1.rn∧s.1.bM+x.size+1>256
  ·rw[if_pos hc]
   by_cases he:(dS s.1 s.2.1 s.2.2.1 s.2.2.2).1=0
   ·rw[if_neg (fun h=>h he)]
    obtain⟨s1,s2⟩:=h.mO
    have sd:=s2 he
    have h0:bO (dS s.1 s.2.1 s.2.2.1 s.2.2.2).2.2.1=0:=by rw[sd];rfl
    exact Bx l _ (s1.put x (by omega)) (put _ (HX hs) (by omega)) ju
   ·rw[if_pos he]
    exact HX hs
  ·rw[if_neg hc]
   have dG:bO s.2.1+(x.size+1)≤256:=by
    by_cases h0:0<s.1.rn
    ·have:¬s.1.bM+x.size+1>256:=fun h=>hc ⟨h0,h⟩
     omega
    ·have:s.2.1=[]:=ant (by omega)
     rw[this];show 0+(x.size+1)≤256;omega
   exact Bx l _ (h.put x (by omega)) (put s hs dG) ju
structure oC(F:Nat)(x:MS):Prop where
 ok:HJ F x
 sm:Small x.L
 none:x.H=[]
 ro:x.S.ro=0
 more:x.S.more=false
 over:x.S.over=false
theorem oC.inv{F:Nat}{x:MS}(h:oC F x):Inv x:=⟨h.ok.cut,h.ok.jW,h.sm,.inl h.none,by rw[h.none];exact ann _,by rw[h.none];exact fun _ hh=>(by cases hh),by rw[h.ro];have:=h.ok.Bs.ok.len;show 0+x.S.rn≤x.L.length;have:x.L.length=x.S.rn:=this;omega⟩
theorem tL{x:MS}(h:Inv x)(e:Int):Inv (x.fail e):=⟨⟨h.cut.n0,h.cut.n1⟩,h.jW,h.sm,h.fm,h.bS,h.ok,h.run⟩
theorem Rg{F:Nat}{x:MS}(h:oC F x)(b:ByteArray):Inv (ja x b).2∧((ja x b).1=0→∃F',oC F' (ja x b).2∧F'+(ja x b).2.S.n.toNat=F+x.S.n.toNat+b.size):=by
 obtain⟨S,L,R,H,d⟩:=x
 obtain⟨⟨hg,hc,hH,hf,b9⟩,ec,fW,db,tK,aiz⟩:=h
 dsimp only[MS.z]at*
 obtain⟨c1,c2,c3,c4⟩:=Br b.data.toList S [] hc fun x hx=>by cases hx
 obtain⟨s1,s2,s3,s4,s5,s6,s7,s8,s9,ahz,ahA,ahB,QH⟩:=yd b.data.toList S []
 unfold ja
 dsimp only
 generalize dL b.data.toList S []=o at*
 obtain⟨e,S1,M⟩:=o
 dsimp only at*
 have qZ:Good F (S1,L,R,d):=⟨⟨by rw[show((S1,L,R,d):cN).1.rn=S1.rn from rfl,s6];exact hg.ok.len,by rw[show((S1,L,R,d):cN).1.sn=S1.sn from rfl,s8];exact hg.ok.runs,hg.ok.dv,hg.ok.made,by rw[show((S1,L,R,d):cN).1.bM=S1.bM from rfl,s7];exact hg.ok.bM,hg.ok.bS⟩,hg.old,hg.bS⟩
 obtain⟨t1,t2⟩:=Bo M F (S1,L,R,d) qZ c2
 have t3:=yg M (S1,L,R,d)
 have t4:=Bx M (S1,L,R,d) qZ.ok ec c2
 generalize eX M (S1,L,R,d)=o at*
 obtain⟨f,T,K,Rr,dd⟩:=o
 dsimp only[kn]at*
 have Rh:jn T:=⟨by rw[t3.n];exact c1.n0,by rw[t3.n];exact c1.n1⟩
 have hi:Inv ⟨T,K,Rr,H,dd⟩:=⟨Rh,hH.trans (s9.symm.trans t3.hn.symm),t4,.inl fW,by rw[fW];exact ann _,by rw[fW];exact fun _ hh=>(by cases hh),by show T.ro+T.rn≤K.length;rw[t3.ro,s5,db];have:K.length=T.rn:=t1.len;omega⟩
 by_cases nH:f=0
 ·rw[if_neg (fun h=>h nH)]
  by_cases yh:e=0
  ·rw[if_neg (fun h=>h yh)]
   refine⟨hi,fun _=>⟨F+bO M,⟨⟨t2 nH,Rh,hi.jW,by show T.failed=false;rw[t3.failed,QH yh];exact hf,by show T.at_=0;rw[t3.at_,s1];exact b9⟩,t4,fW,by show T.ro=0;rw[t3.ro,s5];exact db,by show T.more=false;rw[t3.more,s2];exact tK,by show T.over=false;rw[t3.over,s3];exact aiz⟩,?_⟩⟩
   have h3:=c3 yh
   have hb:b.data.toList.length=b.size:=by simp
   show F+bO M+T.n.toNat=_
   rw[t3.n]
   have:bO ([]:List ByteArray)=0:=rfl
   omega
  ·rw[if_pos yh]
   exact⟨tL hi e,fun h=>absurd h yh⟩
 ·rw[if_pos nH]
  exact⟨tL hi f,fun h=>absurd h nH⟩
structure yi(S T:ad):Prop where
 more:T.more=S.more
 over:T.over=S.over
 ro:T.ro=S.ro
 aC:T.aC=S.aC
 n:T.n=0
theorem aiA{F:Nat}{s:cN}(h:Good F s)(hc:jn s.1)(hs:Small s.2.1):yi s.1 (gU s).2.1∧Small (gU s).2.2.1:=by
 have hn:=hc.n1
 unfold gU
 split
 ·rename_i h0;exact⟨⟨rfl,rfl,rfl,rfl,h0⟩,hs⟩
 ·have h1:=yg [ix s.1] ({s.1 with n:=0},s.2)
  have hok:iX ({s.1 with n:=0},s.2):=⟨h.ok.len,h.ok.runs,h.ok.dv,h.ok.made,h.ok.bM,h.ok.bS⟩
  exact⟨⟨h1.more,h1.over,h1.ro,h1.aC,h1.n⟩,Bx [ix s.1] ({s.1 with n:=0},s.2) hok hs fun x hx=>by rw[ank.1 hx,vC];omega⟩
theorem HZ{S:ad}(h:S.n=0):jn S:=⟨by omega,by omega⟩
theorem aiB{s:cN}{H:List ap}(hL:s.2.1=[])(hl:s.2.1.length=s.1.rn)(hH:H=[])(hh:H.length=s.1.hn)(hn:s.1.n=0)(db:s.1.ro=0)(hr:jm s.2.2.2 s.2.2.1):
 Inv (kn (np s H).2.1 (np s H).2.2)∧yi s.1 (np s H).2.1.1:=by
 obtain⟨S,L,R,d⟩:=s
 dsimp only at*
 subst hL hH
 obtain⟨p1,p2,p3⟩:=HC S.aC R.length R d hr
 have hv:np (S,[],R,d) []=if(eT S.aC R.length R d).1≠0 then((eT S.aC R.length R d).1,({S with sn:=(eT S.aC R.length R d).2.1.length},[],(eT S.aC R.length R d).2),[])
  else match eT S.aC R.length R d with
   |(_,R,d)=>match dY R [] d with
    |(e,l,dd)=>if e=0 then(0,({S with sn:=R.length,hn:=l.length},[],R,dd),l)else(e,({S with sn:=R.length,hn:=0},[],R,dd),[]):=rfl
 rw[hv]
 clear hv
 generalize eT S.aC R.length R d=o at*
 obtain⟨e,R2,d2⟩:=o
 dsimp only at*
 have small:Small []:=⟨(fun x hx=>by cases hx),ann _⟩
 have kN:S.rn=0:=hl.symm
 have mk:∀(T:ad) (H:List ap) (R:List Int) (d:ay),T.n=0→T.ro=0→T.rn=0→H.length=T.hn→H.length≤3→(∀h∈H,ow h)→Inv ⟨T,[],R,H,d⟩:=fun T H R d a b c e g k=>⟨HZ a,e,small,.inr ⟨rfl,a⟩,g,k,by show T.ro+T.rn≤0;omega⟩
 by_cases he:e=0
 ·rw[if_neg (fun h=>h he)]
  obtain⟨q1,q2⟩:=p2 he
  have cJ:=A3 R2 [] [] d2 d2 p1 rfl ⟨rfl,(fun _ h=>by cases h),amX _⟩
  generalize dY R2 [] d2=o at*
  obtain⟨e2,l,d3⟩:=o
  dsimp only at*
  by_cases eD:e2=0
  ·rw[if_pos eD]
   have ho:=cJ eD
   rw[an6]at ho
   have mZ:l.length=R2.length:=by have:=congrArg mM ho.A2;rw[List.length_map]at this;exact this
   exact⟨mk _ l R2 d3 hn db kN rfl (by have:=q2 (amX _);omega) ho.ok,rfl,rfl,rfl,rfl,hn⟩
  ·rw[if_neg eD]
   exact⟨mk _ [] R2 d3 hn db kN rfl (ann _) (fun h hh=>by cases hh),rfl,rfl,rfl,rfl,hn⟩
 ·rw[if_pos he]
  exact⟨mk _ [] R2 d2 hn db kN hh (ann _) (fun h hh=>by cases hh),rfl,rfl,rfl,rfl,hn⟩
theorem Ri{s:cN}(h:iX s)(hs:Small s.2.1)(hh:([]:List ap).length=s.1.hn)(hn:s.1.n=0)(db:s.1.ro=0):Inv (kn s []):=
 ⟨HZ hn,hh,hs,.inl rfl,ann _,(fun h hh=>by cases hh),by show s.1.ro+s.1.rn≤s.2.1.length;rw[db,h.len];omega⟩
theorem H0{F:Nat}{x:MS}(h:oC F x)(hF:F≤800000):Inv (kn (km x.z x.H).2.1 (km x.z x.H).2.2)∧yi x.S (km x.z x.H).2.1.1:=by
 obtain⟨r1,r2⟩:=HA h.ok.Bs h.ok.cut
 obtain⟨k1,k2⟩:=aiA h.ok.Bs h.ok.cut h.sm
 have r3:=QI x.z
 have ka:=h.ok.cut.n1
 have hH:=h.none
 have hh:([]:List ap).length=x.S.hn:=by rw[←hH];exact h.ok.jW
 have db:(gU x.z).2.1.ro=0:=k1.ro.trans h.ro
 rw[hH]
 unfold km
 split
 ·exact⟨Ri r1 k2 (hh.trans r3.symm) k1.n db,k1⟩
 rename_i he
 have g:=HB (r2 (aoa.1 he))
 have k3:yi x.S (mS (gU x.z).2).1:=⟨k1.more,k1.over,k1.ro,k1.aC,k1.n⟩
 have k4:Small (mS (gU x.z).2).2.1:=k2
 have Rj:([]:List ap).length=(mS (gU x.z).2).1.hn:=hh.trans r3.symm
 have H2:(mS (gU x.z).2).1.ro=0:=db
 generalize mS (gU x.z).2=t at*
 unfold vB
 split
 ·refine⟨⟨HZ k3.n,Rj,⟨fun y hy=>k4.each y ((kl t.2.1).mem_iff.1 hy),by show bO (bE _ t.2.1)≤256;rw[vo (kl t.2.1)];exact k4.all⟩,.inl rfl,ann _,(fun h hh=>by cases hh),?_⟩,k3⟩
  show t.1.ro+t.1.rn≤(bE _ t.2.1).length
  rw[nh,H2,g.ok.len];omega
 unfold tH
 have cW:iX (iy t).2∧((iy t).1=0→(iy t).2.2.1=[]):=by
  unfold iy
  split
  ·exact g.ok.mO
  ·rename_i h0
   refine⟨g.ok,fun _=>?_⟩
   have:=g.ok.len
   show t.2.1=[]
   exact ant (by omega)
 have dw:mc t.1 (iy t).2.1:=by unfold iy;split;exact HY _ _ _ _;exact mc.refl _
 have us:Small (iy t).2.2.1:=by unfold iy;split;exact HX k4;exact k4
 have k5:yi x.S (iy t).2.1:=⟨dw.more.trans k3.more,dw.over.trans k3.over,dw.ro.trans k3.ro,dw.aC.trans k3.aC,dw.n.trans k3.n⟩
 have Rk:([]:List ap).length=(iy t).2.1.hn:=Rj.trans dw.hn.symm
 split
 ·exact⟨Ri cW.1 us Rk k5.n (dw.ro.trans H2),k5⟩
 rename_i eD
 have eD:=aoa.1 eD
 have g2:Good (F+(x.S.n.toNat+1)) (iy t).2:=by
  unfold iy at eD⊢
  split
  ·rename_i h1;rw[if_pos h1]at eD;exact g.mO eD
  ·exact g
 have fD:x.S.n.toNat≤64:=by have:x.S.n≤64:=ka;omega
 obtain⟨a,b⟩:=aiB (H:=[]) (cW.2 eD) cW.1.len rfl Rk k5.n (dw.ro.trans H2) (g2.runs (by omega))
 exact⟨a,b.more.trans k5.more,b.over.trans k5.over,b.ro.trans k5.ro,b.aC.trans k5.aC,b.n⟩
theorem aiC{x:MS}(h:Inv x)(hl:Bt x)(ho:x.S.over=false):Inv ⟨(eN x.S x.R x.H x.d).2.1,x.L,x.R,x.H,(eN x.S x.R x.H x.d).2.2⟩∧
 ((eN x.S x.R x.H x.d).2.1.over=true∨((eN x.S x.R x.H x.d).2.1.over=false∧(eN x.S x.R x.H x.d).2.1.more=true∧rQ ⟨(eN x.S x.R x.H x.d).2.1,x.L,x.R,x.H,(eN x.S x.R x.H x.d).2.2⟩)):=by
 unfold eN
 cases hm:mb x.S x.H with
 |true=>
  rw[if_pos rfl]
  exact⟨⟨⟨h.cut.n0,h.cut.n1⟩,h.jW,h.sm,h.fm,h.bS,h.ok,h.run⟩,.inr ⟨ho,rfl,hl.runs,h.jW,hl.dv,hl.Bu,h.bS,h.ok,h.run,h.sm.each,hm⟩⟩
 |false=>
  rw[if_neg (by simp)]
  exact⟨⟨⟨h.cut.n0,h.cut.n1⟩,h.jW,h.sm,h.fm,h.bS,h.ok,h.run⟩,.inl rfl⟩
theorem Rl{F:Nat}{x:MS}(h:oC F x)(hF:F≤800000):Inv (iQ x).2∧((iQ x).1=0→(iQ x).2.S.over=true∨((iQ x).2.S.over=false∧(iQ x).2.S.more=true∧rQ (iQ x).2)):=by
 obtain⟨i1,k1⟩:=H0 h hF
 have wA:=QJ h.ok.Bs h.ok.cut hF h.ok.jW
 unfold iQ
 generalize km x.z x.H=o at*
 obtain⟨e,t,G⟩:=o
 dsimp only[kn]at*
 by_cases he:e=0
 ·rw[if_neg (fun h=>h he)]
  have hr:=aiC i1 wA (k1.over.trans h.over)
  dsimp only at hr
  generalize eN t.1 t.2.2.1 G t.2.2.2=o at*
  obtain⟨f,U,d3⟩:=o
  dsimp only at*
  by_cases hf:f=0
  ·rw[if_neg (fun h=>h hf)]
   exact⟨hr.1,fun _=>hr.2⟩
  ·rw[if_pos hf]
   exact⟨tL hr.1 f,fun h=>absurd h hf⟩
 ·rw[if_pos he]
  exact⟨tL i1 e,fun h=>absurd h he⟩
theorem Rm{x:MS}(h:Inv x)(h1:x.R.length=x.S.sn)(h2:cw x.d)(h3:x.R.length≤900000)(ho:x.S.over=false):Inv ⟨(eN x.S x.R x.H x.d).2.1,x.L,x.R,x.H,(eN x.S x.R x.H x.d).2.2⟩∧
 ((eN x.S x.R x.H x.d).2.1.over=true∨((eN x.S x.R x.H x.d).2.1.over=false∧(eN x.S x.R x.H x.d).2.1.more=true∧rQ ⟨(eN x.S x.R x.H x.d).2.1,x.L,x.R,x.H,(eN x.S x.R x.H x.d).2.2⟩)):=by
 unfold eN
 cases hm:mb x.S x.H with
 |true=>
  rw[if_pos rfl]
  exact⟨⟨⟨h.cut.n0,h.cut.n1⟩,h.jW,h.sm,h.fm,h.bS,h.ok,h.run⟩,.inr ⟨ho,rfl,h1,h.jW,h2,h3,h.bS,h.ok,h.run,h.sm.each,hm⟩⟩
 |false=>
  rw[if_neg (by simp)]
  exact⟨⟨⟨h.cut.n0,h.cut.n1⟩,h.jW,h.sm,h.fm,h.bS,h.ok,h.run⟩,.inl rfl⟩
theorem Rn{x:MS}(h:Inv x)(hm:rQ x)(ho:x.S.over=false):Inv (jC x).2.2∧(jC x).2.1.size≤64∧((jC x).1=0→(jC x).2.2.S.over=true∨((jC x).2.2.S.over=false∧(jC x).2.2.S.more=true∧rQ (jC x).2.2)):=by
 unfold jC
 by_cases kN:0<x.S.rn
 ·rw[if_pos kN]
  have jI:=h.run
  have hp:Inv ⟨x.S.pop,x.L,x.R,x.H,x.d⟩:=⟨⟨h.cut.n0,h.cut.n1⟩,h.jW,h.sm,h.fm,h.bS,h.ok,by show x.S.ro+1+(x.S.rn-1)≤x.L.length;omega⟩
  have hr:=Rm hp hm.runs hm.dv hm.Bu ho
  dsimp only at hr
  have hx:=h.sm.each _ (QN (L:=x.L) (i:=x.S.ro) (by omega)).2.2
  generalize eN x.S.pop x.R x.H x.d=o at*
  obtain⟨f,U,d3⟩:=o
  dsimp only at*
  by_cases hf:f=0
  ·rw[if_neg (fun h=>h hf)]
   exact⟨hr.1,hx,fun _=>hr.2⟩
  ·rw[if_pos hf]
   exact⟨tL hr.1 f,hx,fun h=>absurd h hf⟩
 ·rw[if_neg kN]
  have hs:=hm.some
  unfold mb at hs
  rw[decide_eq_false kN]at hs
  cases hk:eE x.S.aC x.H with
  |none=>rw[hk]at hs;cases hs
  |some k=>
   dsimp only
   obtain⟨k1,k2⟩:=A4 hk
   have hok:=hm.ok _ (x5 k1)
   have gg:=hm.dv.bX (aX x.H k)
   have db:=A1 (h:=aX x.H k) hm.dv
   have fW:(bX (aX x.H k) x.d).1≠0→(bX (aX x.H k) x.d).2.1=aX x.H k:=fun e=>by
    unfold bX at e⊢
    split
    ·rfl
    ·rename_i h1;rw[if_neg h1]at e;exact absurd rfl e
   generalize bX (aX x.H k) x.d=o at*
   obtain⟨e,y,dd⟩:=o
   dsimp only at*
   have bt:x.H≠[]:=by intro h0;rw[h0]at k1;cases k1
   have hL:=h.fm.resolve_left bt
   have mk:ow y→Inv ⟨x.S,x.L,x.R,x.H.set k y,dd⟩:=fun hy=>⟨h.cut,by rw[anU];exact h.jW,h.sm,.inr hL,by rw[anU];exact h.bS,fun z hz=>by
    rcases List.mem_or_eq_of_mem_set hz with hz|rfl
    ·exact h.ok z hz
    ·exact hy,h.run⟩
   by_cases he:e=0
   ·rw[if_neg (fun h=>h he)]
    have hi:=mk (db he).2.1
    have hr:=Rm hi hm.runs gg hm.Bu ho
    dsimp only at hr
    generalize eN x.S x.R (x.H.set k y) dd=o at*
    obtain⟨f,U,d3⟩:=o
    dsimp only at*
    by_cases hf:f=0
    ·rw[if_neg (fun h=>h hf)]
     exact⟨hr.1,hok.line,fun _=>hr.2⟩
    ·rw[if_pos hf]
     exact⟨tL hr.1 f,hok.line,fun h=>absurd h hf⟩
   ·rw[if_pos he]
    have hi:=mk (by rw[fW he];exact hok)
    exact⟨tL hi e,hok.line,fun h=>absurd h he⟩
def kT(C:List Int)(k:Int):Int:=
 if C.length=0 then 32
 else if(C.getD (k.tmod C.length).toNat 0).tmod 32<0 then 0-(C.getD (k.tmod C.length).toNat 0).tmod 32+1 else(C.getD (k.tmod C.length).toNat 0).tmod 32+1
theorem Ro(x:Int): -32<x.tmod 32∧x.tmod 32<32:=by
 have h1:=aqC x (b:=32) (by decide)
 have h2:=aqC (-x) (b:=32) (by decide)
 rw[Int.neg_tmod]at h2
 omega
theorem Rp(C:List Int)(k:Int):1≤kT C k∧kT C k≤32:=by
 unfold kT
 split
 ·omega
 ·have:=Ro (C.getD (k.tmod C.length).toNat 0)
  split<;>omega
theorem aiD(C:List Int)(k:Int)(hC:C.length≤3000)(h0:0≤k)(h1:k<100000):
 aG asz 20 [.slice (some ⟨0,0,none⟩) C.length C.length,.int .i64 k] [.cells (aq C) 3 true] fun r q=>r=.ret (.int .i64 (kT C k))∧q=[.cells (aq C) 3 true]:=by
 refine aG.cM (n:=ct asz 20) (by kernel_rfl) ?_
 by_cases hz:C.length=0
 ·have:kT C k=32:=by unfold kT;rw[if_pos hz]
  rw[this]
  exact ais C k hz (by simp) (air C k ⟨rfl,rfl⟩)
 ·have hp:0<C.length:=by omega
  have uL:0≤k.tmod C.length:=Int.tmod_nonneg _ h0
  have lp:k.tmod C.length<C.length:=aqC k (by omega)
  have hi:(k.tmod C.length).toNat<C.length:=by omega
  have ha:au (aq C) (0+amm (aod k (↑(mM C):Int))*1)=C.getD (k.tmod C.length).toNat 0:=by
   rw[show 0+amm (aod k (↑(mM C):Int))*1=(k.tmod C.length).toNat by omega,EC hi,List.getD_eq_getElem?_getD,amt hi]
   rfl
  have hb:=Ro (C.getD (k.tmod C.length).toNat 0)
  apply aiv C k hp hC h0 h1
  all_goals first
   |(intro g
     rw[ha]at g
     have g:=of_decide_eq_true g
     refine ait C k ⟨?_,rfl⟩
     rw[ha,bG (z:=0-(C.getD (k.tmod C.length).toNat 0).tmod 32) (by omega) (by omega),bG (by omega) (by omega)]
     unfold kT
     rw[if_neg hz,if_pos g])
   |(intro g
     rw[ha]at g
     have g:=of_decide_eq_false g
     refine aiu C k ⟨?_,rfl⟩
     rw[ha,bG (by omega) (by omega)]
     unfold kT
     rw[if_neg hz,if_neg g])
   |(rw[show 0+amm (aod k (↑(mM C):Int))*1=(k.tmod C.length).toNat by omega];exact ED hi)
   |exact decide_eq_true uL
   |exact dI.2 hi
   |(simp;exact fun h=>hz (by rw[h];rfl))
   |(trace_state;simp;omega)
structure DS where
 x:MS
 o:ByteArray
 nd:Int
 er:Int
 hd:Int
 t:Nat
 w:Bool
def lC(hd z:Int):Int:=if z>hd then z else hd
def iT(s:bD)(C:List Int)(k:Nat)(t:Nat):Nat:=min s.bytes.size (t+(kT C k).toNat)
noncomputable def tM(g:DS):DS:=⟨(jC g.x).2.2,g.o++b7 (jC g.x).2.1,iR (jC g.x).2.2.S,(jC g.x).1,lC g.hd (jD (jC g.x).2.2),g.t,g.w⟩
def rR(s:bD)(C:List Int)(k:Nat)(g:DS):DS:=⟨(ja g.x (s.bytes.extract g.t (iT s C k g.t))).2,g.o,iR (ja g.x (s.bytes.extract g.t (iT s C k g.t))).2.S,(ja g.x (s.bytes.extract g.t (iT s C k g.t))).1,lC g.hd (jD (ja g.x (s.bytes.extract g.t (iT s C k g.t))).2),iT s C k g.t,g.w⟩
noncomputable def tN(g:DS):DS:=⟨(iQ g.x).2,g.o,iR (iQ g.x).2.S,(iQ g.x).1,lC g.hd (jD (iQ g.x).2),g.t,true⟩
noncomputable def nr(s:bD)(C:List Int)(k:Nat)(g:DS):Option DS:=
 if g.nd= -2 then some (tM g)else if g.t<s.bytes.size then some (rR s C k g)else if s.ended=true∧g.w=false then some (tN g)else none
noncomputable def jc(s:bD)(C:List Int):Nat→Nat→DS→DS
 |0,_,g=>g
 |m+1,k,g=>if g.er=0∧g.nd≠-1 then(match nr s C k g with|none=>g|some g'=>jc s C m (k+1) g')else g
noncomputable def px:Nat:=Classical.choose (⟨100000,rfl⟩:∃n:Nat,n=100000)
theorem aiE:px=100000:=Classical.choose_spec (⟨100000,rfl⟩:∃n:Nat,n=100000)
def mU(x:MS):DS:=⟨x,amw,0,0,0,0,false⟩
structure jX(s:bD)(k:Nat)(g:DS):Prop where
 nd:g.nd=iR g.x.S
 t:g.t≤s.bytes.size
 o:g.o.size≤65*k
 inv:Inv g.x
 st:g.er=0→g.x.S.over=true∨(g.x.S.over=false∧g.x.S.more=true∧rQ g.x)∨(∃F,oC F g.x∧F+g.x.S.n.toNat=g.t∧g.w=false)
 hd:0≤g.hd∧g.hd≤320
theorem H3{hd:Int}{z:Nat}(h:0≤hd∧hd≤320)(hz:z≤320):0≤lC hd z∧lC hd z≤320:=by unfold lC;split<;>omega
theorem jX.more{s:bD}{k:Nat}{g:DS}(h:jX s k g)(he:g.er=0)(hn:g.nd= -2):g.x.S.over=false∧g.x.S.more=true∧rQ g.x:=by
 have h1:=h.nd
 unfold iR at h1
 rcases h.st he with h2|h2|⟨F,h2,_⟩
 ·rw[h2,if_pos rfl]at h1;omega
 ·exact h2
 ·rw[h2.over,h2.more,if_neg (by simp),if_neg (by simp),h2.ok.jl]at h1;omega
theorem jX.tM{s:bD}{k:Nat}{g:DS}(h:jX s k g)(he:g.er=0)(hn:g.nd= -2):jX s (k+1) (tM g):=by
 obtain⟨h1,h2,h3⟩:=h.more he hn
 obtain⟨i1,i2,i3⟩:=Rn h.inv h3 h1
 refine⟨rfl,h.t,?_,i1,fun e=>?_,H3 h.hd i1.held.2⟩
 ·show(g.o++b7 (jC g.x).2.1).size≤_
  rw[ByteArray.size_append,ls]
  have:=h.o
  omega
 ·rcases i3 e with a|a
  ·exact .inl a
  ·exact .inr (.inl a)
theorem extract_size(b:ByteArray)(i j:Nat)(hj:j≤b.size):(b.extract i j).size=j-i:=by rw[ByteArray.size_extract];omega
theorem Rq(s:bD)(C:List Int)(k t:Nat)(ht:t<s.bytes.size):t<iT s C k t∧iT s C k t≤s.bytes.size∧iT s C k t≤t+32:=by
 have:=Rp C k
 unfold iT
 omega
theorem jX.feed{s:bD}{k:Nat}{g:DS}(h:jX s k g)(he:g.er=0)(h1:g.nd≠-1)(hn:g.nd≠-2):∃F,oC F g.x∧F+g.x.S.n.toNat=g.t∧g.w=false:=by
 have h2:=h.nd
 unfold iR at h2
 rcases h.st he with h3|h3|h3
 ·rw[h3,if_pos rfl]at h2;exact absurd h2 h1
 ·rw[h3.1,h3.2.1,if_neg (by simp),if_pos rfl]at h2;exact absurd h2 hn
 ·exact h3
theorem jX.rR{s:bD}{C:List Int}{k:Nat}{g:DS}(h:jX s k g)(he:g.er=0)(h1:g.nd≠-1)(hn:g.nd≠-2)(ht:g.t<s.bytes.size):jX s (k+1) (rR s C k g):=by
 obtain⟨F,f1,f2,f3⟩:=h.feed he h1 hn
 obtain⟨u1,u2,u3⟩:=Rq s C k g.t ht
 have cc:=extract_size s.bytes g.t (iT s C k g.t) u2
 obtain⟨i1,i2⟩:=Rg f1 (s.bytes.extract g.t (iT s C k g.t))
 unfold Go.Proofs.Ytnlkkgpcikkpoaa.rR
 rw[cc]at i2
 generalize ja g.x (s.bytes.extract g.t (iT s C k g.t))=r at*
 generalize iT s C k g.t=u at*
 have ho:=h.o
 refine⟨rfl,u2,by dsimp only;omega,i1,fun e=>?_,H3 h.hd i1.held.2⟩
 obtain⟨F',a,b⟩:=i2 e
 have hb:F'+r.2.S.n.toNat=u:=by
  rw[b]
  clear b a i1 i2 e
  omega
 exact .inr (.inr ⟨F',a,hb,f3⟩)
theorem jX.tN{s:bD}{k:Nat}{g:DS}(h:jX s k g)(he:g.er=0)(h1:g.nd≠-1)(hn:g.nd≠-2)(hs:s.bytes.size≤800000):jX s (k+1) (tN g):=by
 obtain⟨F,f1,f2,f3⟩:=h.feed he h1 hn
 have ht:=h.t
 obtain⟨i1,i2⟩:=Rl f1 (by omega)
 refine⟨rfl,h.t,by have:=h.o;show g.o.size≤_;omega,i1,fun e=>?_,H3 h.hd i1.held.2⟩
 rcases i2 e with a|a
 ·exact .inl a
 ·exact .inr (.inl a)
theorem H4{S:ad}(h:S.ro=0):S.z=S:=by cases S;unfold ad.z;simp only at h;rw[h]
theorem aiF(x:MS)(b:ByteArray):(ja x b).2.S.ro=x.S.ro:=by
 unfold ja
 have h1:=(yd b.data.toList x.S []).2.2.2.2.1
 generalize dL b.data.toList x.S []=o at*
 obtain⟨e,S1,M⟩:=o
 have h2:=(yg M (S1,x.L,x.R,x.d)).ro
 dsimp only at*
 generalize eX M (S1,x.L,x.R,x.d)=o at*
 obtain⟨f,t⟩:=o
 dsimp only at*
 split
 ·exact h2.trans h1
 split
 ·exact h2.trans h1
 ·exact h2.trans h1
theorem aiG(S:ad)(R:List Int)(H:List ap)(d:ay):(eN S R H d).2.1.ro=S.ro:=by unfold eN;split<;>rfl
theorem aiH{F:Nat}{x:MS}(h:oC F x)(hF:F≤800000):(iQ x).2.S.ro=0:=by
 have k:=(H0 h hF).2.ro
 unfold iQ
 generalize km x.z x.H=o at*
 obtain⟨e,t,G⟩:=o
 dsimp only at*
 have hr:=aiG t.1 t.2.2.1 G t.2.2.2
 generalize eN t.1 t.2.2.1 G t.2.2.2=o at*
 obtain⟨f,U,d3⟩:=o
 dsimp only at*
 split
 ·exact k.trans h.ro
 split
 ·exact hr.trans (k.trans h.ro)
 ·exact hr.trans (k.trans h.ro)
def mV(s:bD)(C:List Int)(t:Nat×Nat×DS):aj:=
 ⟨[(0,.iface 29 (.pointer (some ⟨0,0,none⟩))),(1,.slice (some ⟨5,0,none⟩) 1 1),(2,.slice (some ⟨6,0,none⟩) C.length C.length),(6,.pointer (some ⟨7,0,none⟩)),(7,.pointer (some ⟨8,0,none⟩)),(8,.pointer (some ⟨9,0,none⟩)),(9,iZ t.1)],
  [.cells (aQ t.2.2.x.S 1 10 11 12) 64 false,.abs t.2.2.x.d,.dead,.dead,.dead,cL [s],.cells (aq C) 3 true,.cells jb 45 false,.cells (kp t.2.2.o t.2.2.nd t.2.2.er t.2.2.hd t.2.2.t) 45 false,.cells (kS t.2.2.w) 73 false,.cells (ao t.2.2.x.L) 9 false,.cells (aq t.2.2.x.R) 3 false,.cells (ak t.2.2.x.H) 144 false]⟩
def rS(x:MS)(s:bD)(C:List Int):List ai:=[.cells (aQ x.S 1 7 8 9) 64 false,.abs x.d,.dead,.dead,.dead,cL [s],.cells (aq C) 3 true,.cells (ao x.L) 9 false,.cells (aq x.R) 3 false,.cells (ak x.H) 144 false]
def H5(g:DS)(s:bD)(C:List Int)(r:bL)(q:List ai):Prop:=r=.ret (.agg (kp g.o g.nd g.er g.hd g.t).toArray)∧q=rS g.x s C
theorem aiI(x:ByteArray):am7 (ang (amL (anj (cut (ag (b7 x)) 0 (x.size+1)) bytesOf) []))=b7 x∧(apf (anj (cut (ag (b7 x)) 0 (x.size+1)) bytesOf))=true:=by
 have h:=Ba (b7 x) (x.size+1) (by rw[ls];omega)
 rw[h]
 refine⟨?_,rfl⟩
 rw[Option.getD_some,Pe,←ls]
 apply ByteArray.ext
 rw[apo]
 exact Array.extract_size
theorem aiJ(b:ByteArray)(i j:Nat)(hj:j≤b.size):([]:List Value)++amM ((j-i)*1) (an4 (0+i*1) (ag b))=ag (b.extract i j):=by
 rw[an6,aoQ,aoQ,an8]
 unfold ag
 rw[←List.map_drop,←List.map_take]
 congr 1
 rw[apo,Array.toList_extract]
theorem Rs{s:bD}{C:List Int}{m k:Nat}{g:DS}(h:¬(g.er=0∧g.nd≠-1)):jc s C m k g=g:=by
 cases m with
 |zero=>rfl
 |succ m=>unfold jc;rw[if_neg h]
theorem H6{s:bD}{C:List Int}{m k:Nat}{g g':DS}(h:g.er=0∧g.nd≠-1)(hs:nr s C k g=some g'):jc s C (m+1) k g=jc s C m (k+1) g':=by
 conv=>lhs;unfold jc
 rw[if_pos h,hs]
theorem aiK{s:bD}{C:List Int}{m k:Nat}{g:DS}(hs:nr s C k g=none):jc s C m k g=g:=by
 cases m with
 |zero=>rfl
 |succ m=>
  unfold jc
  rw[hs]
  split<;>rfl
theorem H7{S:ad}(h:S.over=true):iR S= -1:=by unfold iR;rw[if_pos h]
theorem H8{S:ad}(h:S.over=false)(h2:S.more=true):iR S= -2:=by unfold iR;rw[if_neg (by rw[h];simp),if_pos h2]
theorem yj{S:ad}(h:S.over=false)(h2:S.more=false):iR S=S.at_:=by unfold iR;rw[if_neg (by rw[h];simp),if_neg (by rw[h2];simp)]
theorem aiL(x:MS)(s:bD)(C:List Int)(hx:oC 0 x)(hn:x.S.n=0)(hs:s.bytes.size≤4500)(hC:C.length≤3000):
 aG asz 13 [.iface 29 (.pointer (some ⟨0,0,none⟩)),.slice (some ⟨5,0,none⟩) 1 1,.slice (some ⟨6,0,none⟩) C.length C.length] (aR x.S x.L x.R x.H x.d++[cL [s],.cells (aq C) 3 true])
  (H5 (jc s C px 0 (mU x)) s C):=by
 have pH:=aY x.H
 refine aG.cM (n:=ct asz 13) (by kernel_rfl) ?_
 refine al.move (d':=⟨[(0,.iface 29 (.pointer (some ⟨0,0,none⟩))),(1,.slice (some ⟨5,0,none⟩) 1 1),(2,.slice (some ⟨6,0,none⟩) C.length C.length)],rS x s C⟩) [some 0,some 1,none,none,none,some 5,some 6,some 2,some 3,some 4] [6,2,3,4] (q:=[aq C,ao x.L,aq x.R,ak x.H]) (by kernel_rfl) (aE (by simp) (aE (by simp) (aE (by simp) (aE pH bd)))) (by kernel_rfl) (by kernel_rfl) ?_
 apply ah8 x.S x.L x.R x.H x.d s C pH hx.over hx.more hx.ok.jl
 case aW=>simp
 case be=>simp
 case bB=>simp
 case br=>exact pH
 case l4=>
  have b9:=hx.ok.jl
  refine al.eJ 4 0 (by kernel_rfl) ?_
  have e0:HT x.S x.L x.R x.H x.d s C=mV s C (0,px,mU x):=by
   unfold HT mV
   rw[b9]
   rfl
  rw[e0]
  have ad9:=aiE
  have Rt:jX s 0 (mU x):=⟨by show(0:Int)=iR x.S;rw[yj hx.over hx.more,b9],ann _,amX _,hx.inv,fun _=>.inr (.inr ⟨0,hx,by show 0+x.S.n.toNat=0;rw[hn];rfl,rfl⟩),by show(0:Int)≤0∧(0:Int)≤320;omega⟩
  refine al.fJ (mV s C) (fun t=>t.2.1) (fun t=>t.2.1+t.1=100000∧jX s t.1 t.2.2∧jc s C t.2.1 t.1 t.2.2=jc s C px 0 (mU x)) (0,px,mU x) (by kernel_rfl) ⟨by dsimp only;omega,Rt,rfl⟩ ?_
  clear Rt e0 hx b9 hn pH
  rintro⟨k,m,g⟩ ⟨h1,h2,h3⟩
  dsimp only at h1 h2 h3
  have pH:=aY g.x.H
  have fin:∀{n:Nat} {d:aj},n=ct asz 13→jc s C m k g=g→d=HU g.x.S g.x.L g.x.R g.x.H g.x.d s C g.o g.nd g.er g.hd g.t g.w k→QL (mV s C) (fun t=>t.2.1) (fun t=>t.2.1+t.1=100000∧jX s t.1 t.2.2∧jc s C t.2.1 t.1 t.2.2=jc s C px 0 (mU x)) (k,m,g)
   (QB 0 (fun d'=>al asz n 7 (yf.drop (4+1)) d' (aH asz 13 n 7 (H5 (jc s C px 0 (mU x)) s C))) (aH asz 13 n 7 (H5 (jc s C px 0 (mU x)) s C))) (.exit 0) d:=fun yF dw hd=>by
   subst yF hd
   rw[dw]at h3
   rw[←h3]
   with_reducible (repeat first|refine QL.ret ?_|refine QL.exit ?_|refine QB.ret ?_|refine QB.ci ?_|refine QB.normal ?_|refine QB.cu (by rfl) ?_)
   apply aiq g.x.S g.x.L g.x.R g.x.H g.x.d s C g.o g.nd g.er g.hd g.t pH
   ·exact aio g.x.S g.x.L g.x.R g.x.H g.x.d s C g.o g.nd g.er g.hd g.t ⟨rfl,rfl⟩
  apply aic g.x.S g.x.L g.x.R g.x.H g.x.d s C g.o g.nd g.er g.hd g.t g.w k pH
  case l7=>
   intro gk
   have gk:=of_decide_eq_false gk
   have hm:m=0:=by omega
   exact fin rfl (by rw[hm];rfl) rfl
  case l6=>
   intro gk ge
   have ge:¬g.er=0:=by simpa using ge
   exact fin rfl (Rs fun h=>ge h.1) rfl
  case l5=>
   intro gk ge gn
   have gn:g.nd= -1:=by simpa using gn
   exact fin rfl (Rs fun h=>h.2 gn) rfl
  case l4=>
   intro gk ge gn
   have gk:=of_decide_eq_true gk
   have ge:g.er=0:=by simpa using ge
   have gn:g.nd≠-1:=by simpa using gn
   obtain⟨m,rfl⟩:∃m',m=m'+1:=⟨m-1,by omega⟩
   have wk:aml amA ((k:Int)+1)=(k:Int)+1:=bG (by omega) (by omega)
   by_cases cj:g.nd= -2
   ·obtain⟨o1,o2,o3⟩:=h2.more ge cj
    have dw:nr s C k g=some (tM g):=by unfold nr;rw[if_pos cj]
    have hD:=h2.tM ge cj
    rw[H6 ⟨ge,gn⟩ dw]at h3
    have tK:=ahF g.x o3 o1 o2
    obtain⟨i1,i2,i3⟩:=Rn h2.inv o3 o1
    have iz:=HR (jC g.x).2.2 i1.held.1
    have alR:=h2.o
    unfold Go.Proofs.Ytnlkkgpcikkpoaa.tM at hD h3
    clear dw i3 o1 o2 o3
    generalize jC g.x=r at*
    obtain⟨e,x1,y⟩:=r
    dsimp only at*
    obtain⟨yk,Ru⟩:=aiI x1
    have PC:=ls x1
    have w1:aml amA (0+((x1.size+1:Nat):Int))=((x1.size+1:Nat):Int):=by rw[bG (by omega) (by omega)];omega
    unfold vI
    rw[cj,ge]
    apply aii g.x.S g.x.L g.x.R g.x.H g.x.d s C g.o g.hd g.t g.w y.S y.L y.R y.H y.d e (jD y) x1 k pH (aY _) tK iz wk i2
    case n1=>intro _;exact Ru
    case n8=>intro _;exact Ru
    case n2=>intro _;rw[yk];exact decide_eq_true (by omega)
    case n9=>intro _;rw[yk];exact decide_eq_true (by omega)
    case l5=>intro gw;rw[w1]at gw;have gw:=of_decide_eq_true gw;omega
    case l6=>intro gw;rw[w1]at gw;have gw:=of_decide_eq_true gw;omega
    case l7=>intro gw;rw[w1]at gw;have gw:=of_decide_eq_true gw;omega
    case gR=>
     intro _ go
     refine QL.to (k+1,m,⟨y,g.o++b7 x1,iR y.S,e,lC g.hd (jD y),g.t,g.w⟩) ⟨by dsimp only;omega,hD,h3⟩ (by dsimp only;omega) ?_
     unfold QZ mV
     rw[yk,fj (by omega),H7 go]
     rfl
    case kL=>
     intro _ go gm
     refine QL.to (k+1,m,⟨y,g.o++b7 x1,iR y.S,e,lC g.hd (jD y),g.t,g.w⟩) ⟨by dsimp only;omega,hD,h3⟩ (by dsimp only;omega) ?_
     unfold Q0 mV
     rw[yk,fj (by omega),H8 go gm]
     rfl
    case pt=>
     intro _ go gm
     refine QL.to (k+1,m,⟨y,g.o++b7 x1,iR y.S,e,lC g.hd (jD y),g.t,g.w⟩) ⟨by dsimp only;omega,hD,h3⟩ (by dsimp only;omega) ?_
     unfold Q2 mV
     rw[yk,fj (by omega),yj go gm]
     rfl
   ·obtain⟨F,f1,f2,f3⟩:=h2.feed ge gn cj
    have de:g.nd=0:=by rw[h2.nd,yj f1.over f1.more];exact f1.ok.jl
    have hz:=H4 f1.ro
    have tP:=h2.t
    by_cases ht:g.t<s.bytes.size
    ·have dw:nr s C k g=some (rR s C k g):=by unfold nr;rw[if_neg cj,if_pos ht]
     have hD:=h2.rR (C:=C) ge gn cj ht
     rw[H6 ⟨ge,gn⟩ dw]at h3
     obtain⟨u1,u2,u3⟩:=Rq s C k g.t ht
     have CC:=extract_size s.bytes g.t (iT s C k g.t) u2
     have nq:=ahx F g.x (s.bytes.extract g.t (iT s C k g.t)) f1.ok f1.over f1.more (by omega) (by omega)
     have db:=aiF g.x (s.bytes.extract g.t (iT s C k g.t))
     rw[f1.ro]at db
     rw[hz,H4 db]at nq
     obtain⟨i1,i2⟩:=Rg f1 (s.bytes.extract g.t (iT s C k g.t))
     have iz:=HR (ja g.x (s.bytes.extract g.t (iT s C k g.t))).2 i1.held.1
     have jV:=Rp C k
     have oB:=aiD C k hC (by omega) (by omega)
     have hw:aml amA ((g.t:Int)+kT C k)=(g.t:Int)+kT C k:=bG (by omega) (by omega)
     have hT:(if aml amA ((g.t:Int)+kT C k)<(↑(ams (bD.bytes (amL [s][0]? dk))):Int)then aml amA ((g.t:Int)+kT C k)else(↑(ams (bD.bytes (amL [s][0]? dk))):Int))=((iT s C k g.t:Nat):Int):=by
      rw[hw]
      show(if(g.t:Int)+kT C k<(s.bytes.size:Int)then(g.t:Int)+kT C k else(s.bytes.size:Int))=_
      unfold iT
      split<;>omega
     unfold Go.Proofs.Ytnlkkgpcikkpoaa.rR at hD h3
     clear dw i2 db
     generalize hc:s.bytes.extract g.t (iT s C k g.t)=c at*
     generalize iT s C k g.t=u at*
     generalize ja g.x c=r at*
     obtain⟨e,y⟩:=r
     dsimp only at*
     unfold vI
     rw[de,ge]
     apply aik g.x.S g.x.L g.x.R g.x.H g.x.d s C g.o g.hd g.t g.w y.S y.L y.R y.H y.d e (jD y) c k (kT C k) pH (aY _) nq iz oB wk (by omega) (by omega) hs jV.1 jV.2 hw
     case n1=>exact sS (aA (aO (aI _) _) _)
     case n2=>
      rw[hT]
      refine fe ?_ ?_
      ·rw[CC];simp only[aoK,an8]
      ·have:=aiJ s.bytes g.t u u2
       simp only[aoK]
       show[_,_,_,_,_,ai.cells ([]++amM ((u-g.t)*1) (an4 (0+g.t*1) (ag s.bytes))) _ _]=_
       rw[this,hc]
       rfl
     case l5=>
      intro go
      refine QL.to (k+1,m,⟨y,g.o,iR y.S,e,lC g.hd (jD y),u,g.w⟩) ⟨by dsimp only;omega,hD,h3⟩ (by dsimp only;omega) ?_
      unfold Q3 mV
      rw[hT,fj (by omega),H7 go]
      rfl
     case l6=>
      intro go gm
      refine QL.to (k+1,m,⟨y,g.o,iR y.S,e,lC g.hd (jD y),u,g.w⟩) ⟨by dsimp only;omega,hD,h3⟩ (by dsimp only;omega) ?_
      unfold Q4 mV
      rw[hT,fj (by omega),H8 go gm]
      rfl
     case l7=>
      intro go gm
      refine QL.to (k+1,m,⟨y,g.o,iR y.S,e,lC g.hd (jD y),u,g.w⟩) ⟨by dsimp only;omega,hD,h3⟩ (by dsimp only;omega) ?_
      unfold Q5 mV
      rw[hT,fj (by omega),yj go gm]
      rfl
    ·have py:g.t=s.bytes.size:=by omega
     by_cases kZ:s.ended=true
     ·have dw:nr s C k g=some (tN g):=by unfold nr;rw[if_neg cj,if_neg ht,if_pos ⟨kZ,f3⟩]
      have hD:=h2.tN ge gn cj (by omega)
      rw[H6 ⟨ge,gn⟩ dw]at h3
      have hF:F≤800000:=by omega
      have vF:=ahD F g.x hF f1.ok (by rw[f1.none];exact ann _) f1.over f1.more (by have:(km g.x.z g.x.H).2.2.length≤3:=(H0 f1 hF).1.bS;omega)
      rw[hz,H4 (aiH f1 hF)]at vF
      obtain⟨i1,i2⟩:=Rl f1 hF
      have iz:=HR (iQ g.x).2 i1.held.1
      unfold Go.Proofs.Ytnlkkgpcikkpoaa.tN at hD h3
      clear dw i2
      generalize iQ g.x=r at*
      obtain⟨e,y⟩:=r
      dsimp only at*
      unfold vI
      rw[de,ge,py,f3]
      rw[py]at h3 hD
      apply aim g.x.S g.x.L g.x.R g.x.H g.x.d s C g.o g.hd y.S y.L y.R y.H y.d e (jD y) k pH (aY _) vF iz wk kZ
      case n0=>exact fe rfl rfl
      case n1=>exact fe rfl rfl
      case aW=>simp
      case l3=>
       intro go
       refine QL.to (k+1,m,⟨y,g.o,iR y.S,e,lC g.hd (jD y),s.bytes.size,true⟩) ⟨by dsimp only;omega,hD,h3⟩ (by dsimp only;omega) ?_
       unfold Q6 mV
       rw[fj (by omega),H7 go]
       rfl
      case l4=>
       intro go gm
       refine QL.to (k+1,m,⟨y,g.o,iR y.S,e,lC g.hd (jD y),s.bytes.size,true⟩) ⟨by dsimp only;omega,hD,h3⟩ (by dsimp only;omega) ?_
       unfold Q7 mV
       rw[fj (by omega),H8 go gm]
       rfl
      case l5=>
       intro go gm
       refine QL.to (k+1,m,⟨y,g.o,iR y.S,e,lC g.hd (jD y),s.bytes.size,true⟩) ⟨by dsimp only;omega,hD,h3⟩ (by dsimp only;omega) ?_
       unfold Q8 mV
       rw[fj (by omega),yj go gm]
       rfl
     ·have dw:nr s C k g=none:=by unfold nr;rw[if_neg cj,if_neg ht,if_neg (fun h=>kZ h.1)]
      have wI:s.ended=false:=by simpa using kZ
      have J8:vI g.x.S g.x.L g.x.R g.x.H g.x.d s C g.o g.nd g.er g.hd g.t g.w k=HV g.x.S g.x.L g.x.R g.x.H g.x.d s C g.o g.hd g.w k:=by
       unfold vI HV
       rw[de,ge,py]
      rw[J8]
      apply ain g.x.S g.x.L g.x.R g.x.H g.x.d s C g.o g.hd g.w k pH wI
      case aW=>simp
      case be=>simp
      case bB=>simp
      case br=>exact pH
      case l4=>exact fin rfl (aiK dw) (by unfold Q9 HU;rw[de,ge,py])
end Go.Proofs.Ytnlkkgpcikkpoaa
namespace Go.Proofs.Ytnlkkgpcikkpoaa
noncomputable section
open Go Vm Go.RowKit
set_option maxRecDepth 100000
noncomputable def Bz:List Code:=ba (dy asz 5)
open Tree renaming aU→mN,dh→mF,eQ→mL,fw→mQ,dz→mR,fI→mE
noncomputable abbrev H9:List Code:=(ba (inner (ba (inner (Bz.drop 4)))))
def Rv:Nat→Bool→Bool→Tree→Tree
 |0,_,_,t=>t
 |n+1,d,b,t=>.cD d b (Rv n d b t)
theorem tQ{R:bf→aj→Prop}{c v:Bool}{t:Tree}(n:Nat)(h1:c=v)(h2:t.ok R):(Rv n c v t).ok R:=by
 induction n with
 |zero=>exact h2
 |succ n ih=>exact⟨h1,ih⟩
abbrev oD:=fun A B l (sc:List (Int×Int)) C=>([.cells (ag A) 5 true,.cells (ag B) 5 true,cL l,.cells (aF sc) 67 true,ab [ah 5 (mM C)] 38,.cells (aq C) 3 true]:List ai)
noncomputable abbrev Ia(kd pn:Int)(A B:ByteArray)(l:List bD)(sc:List (Int×Int))(C:List Int):aj:=⟨[(8,.bool true)],oD A B l sc C⟩
theorem aiM(kd pn:Int)(A B l)(sc:List (Int×Int))(C){Q:bk}(hq:Q (.ret (.bool true)) (Ia kd pn A B l sc C).objs):aH asz 5 56 6 Q .ret (Ia kd pn A B l sc C):=aH.ret (vs:=[.bool true]) (l:=[]) (bs:=[0,1,2,3,4,5]) (pl:=[0,1,3,5]) (q:=[ag A,ag B,aF sc,aq C]) (fun u=>by kernel_rfl) (by kernel_rfl) (aE (aI A) (aE (aI B) (aE (a9 sc) (aE (aS C) bd)))) hq
noncomputable abbrev Ib(kd pn:Int)(A B:ByteArray)(l:List bD)(sc:List (Int×Int))(C:List Int):aj:=⟨[(8,.bool true)],oD A B l sc C⟩
theorem aiN(kd pn:Int)(A B l)(sc:List (Int×Int))(C){Q:bk}(hq:Q (.ret (.bool true)) (Ib kd pn A B l sc C).objs):aH asz 5 56 6 Q .ret (Ib kd pn A B l sc C):=aH.ret (vs:=[.bool true]) (l:=[]) (bs:=[0,1,2,3,4,5]) (pl:=[0,1,3,5]) (q:=[ag A,ag B,aF sc,aq C]) (fun u=>by kernel_rfl) (by kernel_rfl) (aE (aI A) (aE (aI B) (aE (a9 sc) (aE (aS C) bd)))) hq
noncomputable abbrev Ic(kd pn:Int)(A B:ByteArray)(l:List bD)(sc:List (Int×Int))(C:List Int):aj:=⟨[(8,.bool true)],oD A B l sc C⟩
theorem aiO(kd pn:Int)(A B l)(sc:List (Int×Int))(C){Q:bk}(hq:Q (.ret (.bool true)) (Ic kd pn A B l sc C).objs):aH asz 5 56 6 Q .ret (Ic kd pn A B l sc C):=aH.ret (vs:=[.bool true]) (l:=[]) (bs:=[0,1,2,3,4,5]) (pl:=[0,1,3,5]) (q:=[ag A,ag B,aF sc,aq C]) (fun u=>by kernel_rfl) (by kernel_rfl) (aE (aI A) (aE (aI B) (aE (a9 sc) (aE (aS C) bd)))) hq
noncomputable abbrev Ie(kd pn:Int)(A B:ByteArray)(l:List bD)(sc:List (Int×Int))(C:List Int):aj:=⟨[(8,.bool true)],oD A B l sc C⟩
theorem aiP(kd pn:Int)(A B l)(sc:List (Int×Int))(C){Q:bk}(hq:Q (.ret (.bool true)) (Ie kd pn A B l sc C).objs):aH asz 5 56 6 Q .ret (Ie kd pn A B l sc C):=aH.ret (vs:=[.bool true]) (l:=[]) (bs:=[0,1,2,3,4,5]) (pl:=[0,1,3,5]) (q:=[ag A,ag B,aF sc,aq C]) (fun u=>by kernel_rfl) (by kernel_rfl) (aE (aI A) (aE (aI B) (aE (a9 sc) (aE (aS C) bd)))) hq
abbrev aiQ:=fun(kd pn:Int) A B l (sc:List (Int×Int)) C=>(⟨[(1,ah 2 (mM l)),(3,ah 4 1),(9,aa 0)],oD A B l sc C⟩:aj)
theorem aiR(kd pn:Int)(A B:ByteArray)(l)(sc:List (Int×Int))(C){Q:aV}(l4:(decide ((A.size:Int)>1000))=true→Q .ret (Ia kd pn A B l sc C))(l5:(decide ((A.size:Int)>1000))=false→(decide ((B.size:Int)>1000))=true→Q .ret (Ib kd pn A B l sc C))(l6:(decide ((A.size:Int)>1000))=false→(decide ((B.size:Int)>1000))=false→(decide ((↑(mM l):Int)>8))=true→Q .ret (Ic kd pn A B l sc C))(l7:(decide ((A.size:Int)>1000))=false→(decide ((B.size:Int)>1000))=false→(decide ((↑(mM l):Int)>8))=false→(decide ((↑(mM sc):Int)>100))=true→Q .ret (Ie kd pn A B l sc C))(l8:(decide ((A.size:Int)>1000))=false→(decide ((B.size:Int)>1000))=false→(decide ((↑(mM l):Int)>8))=false→(decide ((↑(mM sc):Int)>100))=false→al asz 56 6 (Bz.drop 4) (aiQ kd pn A B l sc C) Q):al asz 56 6 Bz ⟨[(0,.agg #[aa kd,aa pn,ah 0 A.size,ah 1 B.size]),(1,ah 2 (mM l)),(2,ah 3 (mM sc)),(3,ah 4 1)],[.cells (ag A) 5 true,.cells (ag B) 5 true,cL l,.cells (aF sc) 67 true,ab [ah 5 (mM C)] 38,.cells (aq C) 3 true]⟩ Q:=
 aZ bo 4 (.fork 2 (av [1,1,1,1] (.leaf [8] [0,1,2,3,4,5] [0,1,3,5])) (av [0,2,2,0] (.fork 0 (av [1,1,1] (.leaf [8] [0,1,2,3,4,5] [0,1,3,5])) (av [0,2,0] (.fork 0 (av [1,1,1] (.leaf [8] [0,1,2,3,4,5] [0,1,3,5])) (av [0,2,0] (.fork 0 (.leaf [8] [0,1,2,3,4,5] [0,1,3,5]) (.leaf [1,3,9] [0,1,2,3,4,5] [0,1,3,5])))))))) (fun u=>by kernel_rfl) (mF (c:=decide ((A.size:Int)>1000)) (fun h0=>(tQ 4 h0 (mN (aI A) (mN (aI B) (mN (a9 sc) (mN (aS C) (mR (l4 h0)))))))) (fun h0=>(tQ 4 h0 (mF (c:=decide ((B.size:Int)>1000)) (fun h1=>(tQ 3 h1 (mN (aI A) (mN (aI B) (mN (a9 sc) (mN (aS C) (mR (l5 h0 h1)))))))) (fun h1=>(tQ 3 h1 (mF (c:=decide ((↑(mM l):Int)>8)) (fun h2=>(tQ 3 h2 (mN (aI A) (mN (aI B) (mN (a9 sc) (mN (aS C) (mR (l6 h0 h1 h2)))))))) (fun h2=>(tQ 3 h2 (mF (c:=decide ((↑(mM sc):Int)>100)) (fun h3=>(mN (aI A) (mN (aI B) (mN (a9 sc) (mN (aS C) (mR (l7 h0 h1 h2 h3))))))) (fun h3=>(mN (aI A) (mN (aI B) (mN (a9 sc) (mN (aS C) (mQ (l8 h0 h1 h2 h3)))))))))))))))))
abbrev aiS:=fun(kd pn:Int) A B l (sc:List (Int×Int)) C (i:Nat)=>(⟨[(1,ah 2 (mM l)),(3,ah 4 1),(9,aa i)],oD A B l sc C⟩:aj)
abbrev aiT:=fun(kd pn:Int) A B l (sc:List (Int×Int)) C (i:Nat)=>(⟨[(3,ah 4 1)],oD A B l sc C⟩:aj)
theorem aiU(kd pn:Int)(A B l)(sc:List (Int×Int))(C)(i:Nat){Q:aV}(l4:(decide ((↑i:Int)<(↑(mM l):Int)))=true→al asz 56 6 (H9.drop 2) (aiS kd pn A B l sc C i) Q)(l5:(decide ((↑i:Int)<(↑(mM l):Int)))=false→Q (.exit 0) (aiT kd pn A B l sc C i)):al asz 56 6 H9 ⟨[(1,ah 2 (mM l)),(3,ah 4 1),(9,aa i)],[.cells (ag A) 5 true,.cells (ag B) 5 true,cL l,.cells (aF sc) 67 true,ab [ah 5 (mM C)] 38,.cells (aq C) 3 true]⟩ Q:=
 aZ bo 2 (.fork 1 (.leaf [1,3,9] [0,1,2,3,4,5] [0,1,3,5]) (.leaf [3] [0,1,2,3,4,5] [0,1,3,5])) (fun u=>by kernel_rfl) (mF (c:=decide ((↑i:Int)<(↑(mM l):Int))) (fun h0=>(mN (aI A) (mN (aI B) (mN (a9 sc) (mN (aS C) (mQ (l4 h0))))))) (fun h0=>(mN (aI A) (mN (aI B) (mN (a9 sc) (mN (aS C) (mE 0 (l5 h0))))))))
noncomputable abbrev Ig(kd pn:Int)(A B:ByteArray)(l:List bD)(sc:List (Int×Int))(C:List Int)(i:Nat):aj:=⟨[(8,.bool true)],oD A B l sc C⟩
theorem aiV(kd pn:Int)(A B l)(sc:List (Int×Int))(C)(i:Nat){Q:bk}(hq:Q (.ret (.bool true)) (Ig kd pn A B l sc C i).objs):aH asz 5 56 6 Q .ret (Ig kd pn A B l sc C i):=aH.ret (vs:=[.bool true]) (l:=[]) (bs:=[0,1,2,3,4,5]) (pl:=[0,1,3,5]) (q:=[ag A,ag B,aF sc,aq C]) (fun u=>by kernel_rfl) (by kernel_rfl) (aE (aI A) (aE (aI B) (aE (a9 sc) (aE (aS C) bd)))) hq
abbrev Rw:=fun(kd pn:Int) A B l (sc:List (Int×Int)) C (i:Nat)=>(⟨[(1,ah 2 (mM l)),(3,ah 4 1),(9,.int .i64 (aml .i64 ((↑i:Int)+1)))],oD A B l sc C⟩:aj)
theorem aiW(kd pn:Int)(A B l)(sc:List (Int×Int))(C)(i:Nat)(h0:i<(mM l))(h1:(mM l)≤8){Q:aV}(l4:(decide ((↑(ams (bD.bytes (amL l[amm (↑i:Int)]? dk))):Int)>4500))=true→Q .ret (Ig kd pn A B l sc C i))(l5:(decide ((↑(ams (bD.bytes (amL l[amm (↑i:Int)]? dk))):Int)>4500))=false→Q .normal (Rw kd pn A B l sc C i)):al asz 56 6 (H9.drop 2) ⟨[(1,ah 2 (mM l)),(3,ah 4 1),(9,aa i)],[.cells (ag A) 5 true,.cells (ag B) 5 true,cL l,.cells (aF sc) 67 true,ab [ah 5 (mM C)] 38,.cells (aq C) 3 true]⟩ Q:=
 aZ bo 1000 (av [3,1] (.fork 2 (.leaf [8] [0,1,2,3,4,5] [0,1,3,5]) (.leaf [1,3,9] [0,1,2,3,4,5] [0,1,3,5]))) (fun u=>by kernel_rfl) (tQ 2 (show(Nat.blt (amm (↑i:Int)) (mM l))=true by simp at h0 h1⊢ <;>omega) (mF (c:=decide ((↑(ams (bD.bytes (amL l[amm (↑i:Int)]? dk))):Int)>4500)) (fun h0=>(mN (aI A) (mN (aI B) (mN (a9 sc) (mN (aS C) (mR (l4 h0))))))) (fun h0=>(mN (aI A) (mN (aI B) (mN (a9 sc) (mN (aS C) (mQ (al.done (by kernel_rfl) (l5 h0))))))))))
noncomputable abbrev Ih(kd pn:Int)(A B:ByteArray)(l:List bD)(sc:List (Int×Int))(C:List Int):aj:=⟨[(8,.bool true)],oD A B l sc C⟩
theorem aiX(kd pn:Int)(A B l)(sc:List (Int×Int))(C){Q:bk}(hq:Q (.ret (.bool true)) (Ih kd pn A B l sc C).objs):aH asz 5 56 6 Q .ret (Ih kd pn A B l sc C):=aH.ret (vs:=[.bool true]) (l:=[]) (bs:=[0,1,2,3,4,5]) (pl:=[0,1,3,5]) (q:=[ag A,ag B,aF sc,aq C]) (fun u=>by kernel_rfl) (by kernel_rfl) (aE (aI A) (aE (aI B) (aE (a9 sc) (aE (aS C) bd)))) hq
noncomputable abbrev Ii(kd pn:Int)(A B:ByteArray)(l:List bD)(sc:List (Int×Int))(C:List Int):aj:=⟨[(8,.bool false)],oD A B l sc C⟩
theorem aiY(kd pn:Int)(A B l)(sc:List (Int×Int))(C){Q:bk}(hq:Q (.ret (.bool false)) (Ii kd pn A B l sc C).objs):aH asz 5 56 6 Q .ret (Ii kd pn A B l sc C):=aH.ret (vs:=[.bool false]) (l:=[]) (bs:=[0,1,2,3,4,5]) (pl:=[0,1,3,5]) (q:=[ag A,ag B,aF sc,aq C]) (fun u=>by kernel_rfl) (by kernel_rfl) (aE (aI A) (aE (aI B) (aE (a9 sc) (aE (aS C) bd)))) hq
theorem aiZ(kd pn:Int)(A B l)(sc:List (Int×Int))(C){Q:aV}(l4:(decide ((↑(mM C):Int)>3000))=true→Q .ret (Ih kd pn A B l sc C))(l5:(decide ((↑(mM C):Int)>3000))=false→Q .ret (Ii kd pn A B l sc C)):al asz 56 6 (Bz.drop 5) ⟨[(3,ah 4 1)],[.cells (ag A) 5 true,.cells (ag B) 5 true,cL l,.cells (aF sc) 67 true,ab [ah 5 (mM C)] 38,.cells (aq C) 3 true]⟩ Q:=
 aZ bo 1000 (.fork 5 (.leaf [8] [0,1,2,3,4,5] [0,1,3,5]) (.leaf [8] [0,1,2,3,4,5] [0,1,3,5])) (fun u=>by kernel_rfl) (mF (c:=decide ((↑(mM C):Int)>3000)) (fun h0=>(mN (aI A) (mN (aI B) (mN (a9 sc) (mN (aS C) (mR (l4 h0))))))) (fun h0=>(mN (aI A) (mN (aI B) (mN (a9 sc) (mN (aS C) (mR (l5 h0))))))))
end
end Go.Proofs.Ytnlkkgpcikkpoaa
namespace Go.Proofs.Ytnlkkgpcikkpoaa
open Go Vm Go.RowKit
set_option maxRecDepth 100000
structure yl(A B:ByteArray)(l:List bD)(sc:List (Int×Int))(C:List Int):Prop where
 az:A.size≤1000
 bz:B.size≤1000
 bS:l.length≤8
 Rx:sc.length≤100
 each:∀s∈l,s.bytes.size≤4500
 Ry:C.length≤3000
noncomputable def gB(A B:ByteArray)(l:List bD)(sc:List (Int×Int))(C:List Int):Bool:= !@decide (yl A B l sc C) (amR _)
theorem tR{A B:ByteArray}{l:List bD}{sc:List (Int×Int)}{C:List Int}(h:¬yl A B l sc C):gB A B l sc C=true:=by unfold gB;rw[@decide_eq_false _ (amR _) h];rfl
theorem ai0{A B:ByteArray}{l:List bD}{sc:List (Int×Int)}{C:List Int}(h:yl A B l sc C):gB A B l sc C=false:=by unfold gB;rw[@decide_eq_true _ (amR _) h];rfl
theorem Rz{A B:ByteArray}{l:List bD}{sc:List (Int×Int)}{C:List Int}(h:gB A B l sc C=false):yl A B l sc C:=by
 by_cases hl:yl A B l sc C
 ·exact hl
 ·rw[tR hl]at h;cases h
abbrev mf(A B:ByteArray)(l:List bD)(sc:List (Int×Int))(C:List Int):List ai:=[.cells (ag A) 5 true,.cells (ag B) 5 true,cL l,.cells (aF sc) 67 true,.cells [.slice (some ⟨5,0,none⟩) C.length C.length] 38 false,.cells (aq C) 3 true]
theorem Ij(kd pn:Int)(A B:ByteArray)(l:List bD)(sc:List (Int×Int))(C:List Int):
 aG asz 5 [.agg #[.int .i64 kd,.int .i64 pn,.slice (some ⟨0,0,none⟩) A.size A.size,.slice (some ⟨1,0,none⟩) B.size B.size],.slice (some ⟨2,0,none⟩) l.length l.length,.slice (some ⟨3,0,none⟩) sc.length sc.length,.slice (some ⟨4,0,none⟩) 1 1] (mf A B l sc C)
  fun r q=>r=.ret (.bool (gB A B l sc C))∧q=mf A B l sc C:=by
 have pp:=a9 sc
 refine aG.cM (n:=ct asz 5) (by kernel_rfl) ?_
 apply aiR kd pn A B l sc C
 case l4=>intro g;have g:=of_decide_eq_true g;rw[tR fun h=>by have:=h.az;omega];exact aiM kd pn A B l sc C ⟨rfl,rfl⟩
 case l5=>intro _ g;have g:=of_decide_eq_true g;rw[tR fun h=>by have:=h.bz;omega];exact aiN kd pn A B l sc C ⟨rfl,rfl⟩
 case l6=>intro _ _ g;have g:=of_decide_eq_true g;rw[tR fun h=>by have:=h.bS;omega];exact aiO kd pn A B l sc C ⟨rfl,rfl⟩
 case l7=>intro _ _ _ g;have g:=of_decide_eq_true g;rw[tR fun h=>by have:=h.Rx;omega];exact aiP kd pn A B l sc C ⟨rfl,rfl⟩
 case l8=>
  intro ga gb gl gs
  have ga:=of_decide_eq_false ga
  have gb:=of_decide_eq_false gb
  have gl:=of_decide_eq_false gl
  have gs:=of_decide_eq_false gs
  refine al.eJ 4 0 (by kernel_rfl) ?_
  refine al.fJ (fun i:Nat=>⟨[(1,.slice (some ⟨2,0,none⟩) l.length l.length),(3,.slice (some ⟨4,0,none⟩) 1 1),(9,.int .i64 (i:Nat))],mf A B l sc C⟩) (fun i=>l.length-i) (fun i=>i≤l.length∧∀s∈l.take i,s.bytes.size≤4500) 0 (by kernel_rfl) ⟨ann _,fun s h=>by simp at h⟩ ?_
  rintro i ⟨h1,h2⟩
  apply aiU kd pn A B l sc C i
  case l5=>
   intro g
   have g:=of_decide_eq_false g
   rw[List.take_of_length_le (by omega)]at h2
   with_reducible (repeat first|refine QL.ret ?_|refine QL.exit ?_|refine QB.ret ?_|refine QB.ci ?_|refine QB.normal ?_|refine QB.cu (by rfl) ?_)
   apply aiZ kd pn A B l sc C
   case l4=>intro gc;have gc:=of_decide_eq_true gc;rw[tR fun h=>by have:=h.Ry;omega];exact aiX kd pn A B l sc C ⟨rfl,rfl⟩
   case l5=>intro gc;have gc:=of_decide_eq_false gc;rw[ai0 ⟨by omega,by omega,by omega,by omega,h2,by omega⟩];exact aiY kd pn A B l sc C ⟨rfl,rfl⟩
  case l4=>
   intro g
   have g:=of_decide_eq_true g
   have hi:i<l.length:=by omega
   have hs:(amL l[amm (i:Int)]? dk)=l[i]:=by rw[show amm (i:Int)=i by simp,amt hi];rfl
   apply aiW kd pn A B l sc C i hi (by omega)
   case l4=>
    intro gs
    rw[hs]at gs
    have gs:=of_decide_eq_true gs
    rw[tR fun h=>by have:=h.each _ (List.getElem_mem hi);omega]
    with_reducible (repeat first|refine QL.ret ?_|refine QL.exit ?_|refine QB.ret ?_|refine QB.ci ?_|refine QB.normal ?_|refine QB.cu (by rfl) ?_)
    exact aiV kd pn A B l sc C i ⟨rfl,rfl⟩
   case l5=>
    intro gs
    rw[hs]at gs
    have gs:=of_decide_eq_false gs
    refine QL.to (i+1) ⟨by omega,fun s h=>?_⟩ (by omega) ?_
    ·rw[List.take_succ_eq_append_getElem hi]at h
     rcases amU.1 h with h|h
     ·exact h2 s h
     ·rw[ank.1 h];omega
    ·unfold Rw
     rw[bG (z:=(i:Int)+1) (by omega) (by omega)]
     rfl
theorem BA(s:bD)(C:List Int)(hs:s.bytes.size≤800000):∀(m k:Nat) (g:DS),jX s k g→∃k',jX s k' (jc s C m k g)
 |0,k,g,h=>⟨k,h⟩
 |m+1,k,g,h=>by
  unfold jc
  by_cases hc:g.er=0∧g.nd≠-1
  ·rw[if_pos hc]
   unfold nr
   by_cases h2:g.nd= -2
   ·rw[if_pos h2]
    exact BA s C hs m (k+1) _ (h.tM hc.1 h2)
   ·rw[if_neg h2]
    by_cases ht:g.t<s.bytes.size
    ·rw[if_pos ht]
     exact BA s C hs m (k+1) _ (h.rR hc.1 hc.2 h2 ht)
    ·rw[if_neg ht]
     by_cases he:s.ended=true∧g.w=false
     ·rw[if_pos he]
      exact BA s C hs m (k+1) _ (h.tN hc.1 hc.2 h2 hs)
     ·rw[if_neg he]
      exact⟨k,h⟩
  ·rw[if_neg hc]
   exact⟨k,h⟩
def pz(f:Bool):ad:=⟨0,false,false,fun _=>0,0,false,f,0,0,0,0,0,false,0,false⟩
def lD(sc:List (Int×Int)):ay:=⟨sc,[],0,0,0⟩
def vK(f:Bool)(sc:List (Int×Int)):MS:=⟨pz f,[],[],[],lD sc⟩
theorem ai1{sc:List (Int×Int)}(h:sc.length≤1000000):cw (lD sc):=⟨h,by show(0:Nat)≤64;omega,(fun p hp=>by cases hp),List.nodup_nil,(fun p hp=>by cases hp)⟩
theorem RA(f:Bool){sc:List (Int×Int)}(h:sc.length≤1000000):oC 0 (vK f sc):=
 ⟨⟨⟨⟨rfl,rfl,ai1 h,ann _,rfl,ann _⟩,(fun r hr=>by cases hr),amX _⟩,⟨Int.le_refl _,by show(0:Int)≤64;omega⟩,rfl,rfl,rfl⟩,⟨(fun x hx=>by cases hx),ann _⟩,rfl,rfl,rfl,rfl⟩
theorem ai2(f:Bool)(sc:List (Int×Int))(s:bD)(C:List Int)(h:sc.length≤1000000)(hs:s.bytes.size≤4500)(m:Nat):0≤(jc s C m 0 (mU (vK f sc))).hd∧(jc s C m 0 (mU (vK f sc))).hd≤320:=by
 have hx:=RA f h
 obtain⟨k,hk⟩:=BA s C (by omega) m 0 (mU (vK f sc)) ⟨rfl,ann _,amX _,hx.inv,fun _=>.inr (.inr ⟨0,hx,rfl,rfl⟩),by show(0:Int)≤0∧(0:Int)≤320;omega⟩
 exact hk.hd
end Go.Proofs.Ytnlkkgpcikkpoaa
namespace Go.Proofs.Ytnlkkgpcikkpoaa
noncomputable section
open Go Vm Go.RowKit
set_option maxRecDepth 100000
abbrev RB:aj:=⟨[(0,an 0)],[ab ([aa 0,aa 0,aa 0,aa 0,aa 0,aa 0,aa 0,aa 0,aa 15,aa 0,aa 0,aa 1,aa 0,aa 0,aa 0,aa 15,aa 0,aa 1,aa 0,aa 0,aa 0,aa 0,aa 1000000000,aa 0,aa 1,aa 1,aa 64,aa 0,aa 0,aa 9223372036854775807,aa 0,aa 1,aa 1,aa 64,aa 64,aa 0,aa 1,aa 1,aa 1,aa 1,aa 64,aa 0,aa 0,aa 0,aa 2,aa 1,aa 1,aa 0,aa 0,aa 1,aa 65535,aa 3,aa 1,aa 1,aa 64,aa 0,aa 0,aa 1,aa 0,aa 1,aa 1,aa 128,aa 0,aa 0,aa 0,aa 0,aa 1,aa 1,aa 0,aa 0,aa 0,aa 1000000000,aa 0,aa 1,aa 1,aa 64,aa 0,aa 0,aa 1,aa 0,aa 1,aa 1,aa 320,aa 0,aa 1,aa 4,aa 0,aa (-1),aa 1,aa 0,aa 0,aa 1,aa 4,aa 3,aa (-1),aa 1,aa 0,aa 96,aa 1,aa 9223372036854775807,aa 3,aa 2,aa 1,aa 192,aa 128,aa 1,aa 4,aa 0,aa 1,aa (-1),aa 0,aa 0,aa 1,aa 4,aa 0,aa 1,aa (-1),aa 64,aa 0]) 91]⟩
theorem ai3{Q:bk}(hq:Q (.ret (.agg (ang [aa 0,aa 0,aa 0,aa 0,aa 0,aa 0,aa 0,aa 0,aa 15,aa 0,aa 0,aa 1,aa 0,aa 0,aa 0,aa 15,aa 0,aa 1,aa 0,aa 0,aa 0,aa 0,aa 1000000000,aa 0,aa 1,aa 1,aa 64,aa 0,aa 0,aa 9223372036854775807,aa 0,aa 1,aa 1,aa 64,aa 64,aa 0,aa 1,aa 1,aa 1,aa 1,aa 64,aa 0,aa 0,aa 0,aa 2,aa 1,aa 1,aa 0,aa 0,aa 1,aa 65535,aa 3,aa 1,aa 1,aa 64,aa 0,aa 0,aa 1,aa 0,aa 1,aa 1,aa 128,aa 0,aa 0,aa 0,aa 0,aa 1,aa 1,aa 0,aa 0,aa 0,aa 1000000000,aa 0,aa 1,aa 1,aa 64,aa 0,aa 0,aa 1,aa 0,aa 1,aa 1,aa 320,aa 0,aa 1,aa 4,aa 0,aa (-1),aa 1,aa 0,aa 0,aa 1,aa 4,aa 3,aa (-1),aa 1,aa 0,aa 96,aa 1,aa 9223372036854775807,aa 3,aa 2,aa 1,aa 192,aa 128,aa 1,aa 4,aa 0,aa 1,aa (-1),aa 0,aa 0,aa 1,aa 4,aa 0,aa 1,aa (-1),aa 64,aa 0]))) []):aH anm 27 18 0 Q .ret (RB):=aH.ret (vs:=[.agg (ang [aa 0,aa 0,aa 0,aa 0,aa 0,aa 0,aa 0,aa 0,aa 15,aa 0,aa 0,aa 1,aa 0,aa 0,aa 0,aa 15,aa 0,aa 1,aa 0,aa 0,aa 0,aa 0,aa 1000000000,aa 0,aa 1,aa 1,aa 64,aa 0,aa 0,aa 9223372036854775807,aa 0,aa 1,aa 1,aa 64,aa 64,aa 0,aa 1,aa 1,aa 1,aa 1,aa 64,aa 0,aa 0,aa 0,aa 2,aa 1,aa 1,aa 0,aa 0,aa 1,aa 65535,aa 3,aa 1,aa 1,aa 64,aa 0,aa 0,aa 1,aa 0,aa 1,aa 1,aa 128,aa 0,aa 0,aa 0,aa 0,aa 1,aa 1,aa 0,aa 0,aa 0,aa 1000000000,aa 0,aa 1,aa 1,aa 64,aa 0,aa 0,aa 1,aa 0,aa 1,aa 1,aa 320,aa 0,aa 1,aa 4,aa 0,aa (-1),aa 1,aa 0,aa 0,aa 1,aa 4,aa 3,aa (-1),aa 1,aa 0,aa 96,aa 1,aa 9223372036854775807,aa 3,aa 2,aa 1,aa 192,aa 128,aa 1,aa 4,aa 0,aa 1,aa (-1),aa 0,aa 0,aa 1,aa 4,aa 0,aa 1,aa (-1),aa 64,aa 0])]) (l:=[0]) (bs:=[]) (pl:=[]) (q:=[]) (fun u=>by kernel_rfl) (by kernel_rfl) bd hq
theorem rv{Q:aV}(l0:Q .ret (RB)):al anm 18 0 Xv ⟨[],[]⟩ Q:=
 aZ bo 1000 (.leaf [0] [0] []) (fun u=>by kernel_rfl) (Tree.dz (l0))
end
end Go.Proofs.Ytnlkkgpcikkpoaa
