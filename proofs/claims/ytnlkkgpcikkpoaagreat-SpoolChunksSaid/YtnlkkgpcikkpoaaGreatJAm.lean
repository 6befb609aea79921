/- Part of the proof: Zqe, Zqf, Zqg, Zqh, Zqi, Zqj, Zqk, Zql, Ztf, Ztg, Zta, Ztb, Ztc, Ztd. -/
import Derived.Test.YtnlkkgpcikkpoaaGreatJAl
import Derived.KernelRfl
open ByteArray renaming data_extract→arN,empty→apj,extract_zero_size→atM,mk→ap0,size→apk
open Classical renaming em→asd,not_not→art,propDecidable→apF
open Decidable renaming not_not→aq2
open Go renaming FuncId→apQ,Program→apu,Value→ape
open Go.IntKind renaming i64→apr,wrap→apc
open Go.Proofs.Tryz renaming prog→av9
open Int renaming tmod→aq5,tmod_lt_of_pos→atL,toNat→apd,toNat_natCast→arI
open List renaming all→aph,append_nil→aqF,cons_append→aqZ,drop→aqV,eq_nil_of_length_eq_zero→aqf,getElem?_eq_getElem→apl,length→apb,length_set→aqK,mem_append→apN,mem_singleton→aqd,nil_append→aqO,take→apE,toArray→ap9
open Nat renaming ble→apG,le_refl→apI,le_trans→arG,lt_of_le_of_lt→auJ,mul_one→arF,zero_add→aqR,zero_le→ap7
open Option renaming bind→aqc,getD→apD,isSome→asg
set_option linter.unusedVariables false
set_option linter.unusedSimpArgs false
set_option maxRecDepth 100000
namespace Go.Proofs.YtnlkkgpcikkpoaaGreat
open Go Vm Go.RowKit
noncomputable section
def ajP(a:List ape)(_:Nat→Option ag):Option (List Nat):=match a with
 | [_,_,.slice (some ⟨b,_,_⟩) _ _]=>some [0,1,10,11,12,b]
 |_=>none
def ajQ(S:ad)(L:List ByteArray)(R:List Int)(H:List au)(d:ay)(T:ad)(K:List ByteArray)(Rr:List Int)(G:List au)(dd:ay)(e z:Int)(x:ByteArray):List (apQ×Sum):=[(29,Sum.one (lP av9) [ao 0] (aO S L R H d) (.ret (.tuple #[ah 5 1,aa e])) (aO T K Rr G dd++CI x)),(30,Sum.one (lP av9) [ao 0] (aO T K Rr G dd) (.ret (aa z)) (aO T K Rr G dd))]
theorem ajR(S:ad)(L:List ByteArray)(R:List Int)(H:List au)(d:ay)(T:ad)(K:List ByteArray)(Rr:List Int)(G:List au)(dd:ay)(e z:Int)(x:ByteArray)(sN:aE av9 29 [ao 0] (aO S L R H d) fun r q=>r=.ret (.tuple #[ah 5 1,aa e])∧q=aO T K Rr G dd++CI x)(jb:aE av9 30 [ao 0] (aO T K Rr G dd) fun r q=>r=.ret (aa z)∧q=(aO T K Rr G dd)):dw av9 (dM av9 (dN (ajQ S L R H d T K Rr G dd e z x)) 50 40):=dR du mixed (ed (.cons (bp.one sN) (.cons (bp.one jb) .nil))) 50 40
def ajS(S:ad)(L:List ByteArray)(R:List Int)(H:List au)(d:ay)(T:ad)(K:List ByteArray)(Rr:List Int)(G:List au)(dd:ay)(e z:Int)(c:ByteArray)(C:List Int)(k cv:Int):List (apQ×Sum):=[(27,Sum.one ajP [ao 0,aa 0,ah 5 c.size] (aO S L R H d++[ab (ai c) 5]) (.ret (.tuple #[b8,aa e])) (nW (ab (ai c) 5) T K Rr G dd)),(30,Sum.one (lP av9) [ao 0] (aO T K Rr G dd) (.ret (aa z)) (aO T K Rr G dd)),(35,Sum.one (fun _ _=>some [6]) [ah 0 C.length,aa k] [.cells (aq C) 3 true] (.ret (aa cv)) [.cells (aq C) 3 true])]
theorem ajT(S:ad)(L:List ByteArray)(R:List Int)(H:List au)(d:ay)(T:ad)(K:List ByteArray)(Rr:List Int)(G:List au)(dd:ay)(e z:Int)(c:ByteArray)(C:List Int)(k cv:Int)(nZ:aE av9 27 [ao 0,aa 0,ah 5 c.size] (aO S L R H d++[ab (ai c) 5]) fun r q=>r=.ret (.tuple #[b8,aa e])∧q=nW (ab (ai c) 5) T K Rr G dd)(jb:aE av9 30 [ao 0] (aO T K Rr G dd) fun r q=>r=.ret (aa z)∧q=(aO T K Rr G dd))(o8:aE av9 35 [ah 0 (apb C),aa k] [.cells (aq C) 3 true] fun r q=>r=.ret (aa cv)∧q=[.cells (aq C) 3 true]):dw av9 (dM av9 (dN (ajS S L R H d T K Rr G dd e z c C k cv)) 50 40):=dR du mixed (ed (.cons (bp.one nZ) (.cons (bp.one jb) (.cons (bp.one o8) .nil)))) 50 40
def ajU(S:ad)(L:List ByteArray)(R:List Int)(H:List au)(d:ay)(T:ad)(K:List ByteArray)(Rr:List Int)(G:List au)(dd:ay)(e z:Int):List (apQ×Sum):=[(28,Sum.one (lP av9) [ao 0,aa 0] (aO S L R H d) (.ret (.tuple #[b8,aa e])) (jm T K Rr G dd)),(30,Sum.one (lP av9) [ao 0] (aO T K Rr G dd) (.ret (aa z)) (aO T K Rr G dd))]
theorem ajV(S:ad)(L:List ByteArray)(R:List Int)(H:List au)(d:ay)(T:ad)(K:List ByteArray)(Rr:List Int)(G:List au)(dd:ay)(e z:Int)(wL:aE av9 28 [ao 0,aa 0] (aO S L R H d) fun r q=>r=.ret (.tuple #[b8,aa e])∧q=jm T K Rr G dd)(jb:aE av9 30 [ao 0] (aO T K Rr G dd) fun r q=>r=.ret (aa z)∧q=(aO T K Rr G dd)):dw av9 (dM av9 (dN (ajU S L R H d T K Rr G dd e z)) 50 40):=dR du mixed (ed (.cons (bp.one wL) (.cons (bp.one jb) .nil))) 50 40
noncomputable def zc:List Code:=aY (dz av9 13)
open Tree renaming aN→mN,dj→mF,eT→mL,fz→mQ,dB→mR,fH→mE
noncomputable abbrev wM:List Code:=(aY (inner (aY (inner (zc.drop 4)))))
def Sq:Nat→Bool→Bool→Tree→Tree
 |0,_,_,t=>t
 |n+1,d,b,t=>.cD d b (Sq n d b t)
theorem wN{R:bd→aj→Prop}{c v:Bool}{t:Tree}(n:Nat)(h1:c=v)(h2:t.ok R):(Sq n c v t).ok R:=by
 induction n with
 |zero=>exact h2
 |succ n ih=>exact⟨h1,ih⟩
abbrev Jk:=fun S L R H d s C=>(⟨[(0,.iface 37 (ao 0)),(1,ah 5 1),(2,ah 6 (apb C)),(6,ao 7),(7,ao 8),(8,ao 9),(9,aa 0)],[ab (aJ S 1 10 11 12) 89,.abs d,.dead,.dead,.dead,dv [s],.cells (aq C) 3 true,ab ([.string (ap0 #[]),.string (ap0 #[]),.string (ap0 #[]),.string (ap0 #[]),aa 0,aa 0,aa 0,aa 0,aa 0,aa 0,aa 0,.bool false]) 43,ab ([.string (ap0 #[]),.string (ap0 #[]),.string (ap0 #[]),.string (ap0 #[]),aa (ad.at_ S),aa 0,aa 0,aa 0,aa 0,aa 0,aa 0,.bool false]) 43,ab ([.bool false,.bool false,.bool false,.bool false]) 92,ab (ap L) 9,ab (aq R) 3,ab (ak H) 114]⟩:aj)
abbrev ajW:=fun S L R H d s C=>(⟨[(0,.iface 37 (ao 0)),(1,ah 5 1),(2,ah 6 (apb C))],[ab (aJ S 1 7 8 9) 89,.abs d,.dead,.dead,.dead,dv [s],.cells (aq C) 3 true,ab (ap L) 9,ab (aq R) 3,ab (ak H) 114]⟩:aj)
theorem ajX(S:ad)(L R H d s C)(pH:(ak H).all af=true)(h0:S.bq=false)(h1:S.more=false)(h2:S.at_=0){Q:aQ}(aR:aph (aq C) af=true)(be:aph (ap L) af=true)(bB:aph (aq R) af=true)(br:aph (ak H) af=true)(l4:an av9 148 7 (zc.drop 4) (Jk S L R H d s C) Q):an av9 148 7 zc (ajW S L R H d s C) Q:=
 aS bo 4 (aA [8,2] (.leaf [0,1,2,6,7,8,9] [0,1,2,3,4,5,6,10,11,12,7,8,9] [6,7,8,9])) (fun u=>by kernel_rfl) (mN (show(ad.bq S)=false by assumption) (mN (show(ad.more S)=false by assumption) (mN (aG C) (aM L R H (mQ l4)))))
abbrev wO:=fun S L R H d s C o (nd er hd t:Int) (w:Bool) (k:Int)=>(⟨[(0,.iface 37 (ao 0)),(1,ah 5 1),(2,ah 6 (apb C)),(6,ao 7),(7,ao 8),(8,ao 9),(9,aa k)],[ab (aJ S 1 10 11 12) 89,.abs d,.dead,.dead,.dead,dv [s],.cells (aq C) 3 true,ab jx 43,ab (nY o nd er hd t) 43,ab (lz w) 92,ab (ap L) 9,ab (aq R) 3,ab (ak H) 114]⟩:aj)
abbrev CJ:=fun S L R H d s C o (nd er hd t:Int)=>([ab (aJ S 1 9 10 11) 89,.abs d,.dead,.dead,.dead,dv [s],.cells (aq C) 3 true,ab jx 43,ab (nY o nd er hd t) 43,ab (ap L) 9,ab (aq R) 3,ab (ak H) 114]:List ag)
abbrev Jl:=fun S L R H d s C o (nd er hd t:Int) (w:Bool) (k:Int)=>(⟨[(6,ao 7),(7,ao 8)],CJ S L R H d s C o nd er hd t⟩:aj)
abbrev ajY:=fun S L R H d s C o (nd er hd t:Int) (w:Bool) (k:Int)=>(⟨[(6,ao 7),(7,ao 8)],CJ S L R H d s C o nd er hd t⟩:aj)
abbrev ajZ:=fun S L R H d s C o (nd er hd t:Int) (w:Bool) (k:Int)=>(⟨[(6,ao 7),(7,ao 8)],CJ S L R H d s C o nd er hd t⟩:aj)
abbrev aj0:=fun S L R H d s C o (nd er hd t:Int) (w:Bool) (k:Int)=>(⟨[(0,.iface 37 (ao 0)),(1,ah 5 1),(2,ah 6 (apb C)),(6,ao 7),(7,ao 8),(8,ao 9),(9,aa k)],[ab (aJ S 1 10 11 12) 89,.abs d,.dead,.dead,.dead,dv [s],.cells (aq C) 3 true,ab jx 43,ab (nY o nd er hd t) 43,ab (lz w) 92,ab (ap L) 9,ab (aq R) 3,ab (ak H) 114]⟩:aj)
theorem aj1(S L R H d s C o)(nd er hd t:Int)(w:Bool)(k:Int)(pH:(ak H).all af=true){Q:aQ}(l4:(decide (k<100000))=true→(er==0)=true→(nd != -1)=true→an av9 148 7 (wM.drop 2) (wO S L R H d s C o nd er hd t w k) Q)(l5:(decide (k<100000))=true→(er==0)=true→(nd != -1)=false→Q (.exit 0) (Jl S L R H d s C o nd er hd t w k))(l6:(decide (k<100000))=true→(er==0)=false→Q (.exit 0) (ajY S L R H d s C o nd er hd t w k))(l7:(decide (k<100000))=false→Q (.exit 0) (ajZ S L R H d s C o nd er hd t w k)):an av9 148 7 wM (aj0 S L R H d s C o nd er hd t w k) Q:=
 aS bo 2 (.fork 0 (aA [1,3,1] (.fork 0 (aA [1,3,1] (.fork 0 (.leaf [0,1,2,6,7,8,9] [0,1,2,3,4,5,6,7,8,9,10,11,12] [6,10,11,12]) (.leaf [6,7] [0,1,2,3,4,5,6,7,8,10,11,12] [6,10,11,12]))) (aA [0,0,0] (.leaf [6,7] [0,1,2,3,4,5,6,7,8,10,11,12] [6,10,11,12])))) (aA [0,0,0] (.leaf [6,7] [0,1,2,3,4,5,6,7,8,10,11,12] [6,10,11,12]))) (fun u=>by kernel_rfl) (mF (c:=decide (k<100000)) (fun h0=>(wN 3 h0 (mF (c:=er==0) (fun h1=>(wN 3 h1 (mF (c:=nd != -1) (fun h2=>(mN (aG C) (aM L R H (mQ (l4 h0 h1 h2))))) (fun h2=>(mN (aG C) (aM L R H (mE 0 (l5 h0 h1 h2)))))))) (fun h1=>(wN 3 h1 (mN (aG C) (aM L R H (mE 0 (l6 h0 h1))))))))) (fun h0=>(wN 3 h0 (mN (aG C) (aM L R H (mE 0 (l7 h0)))))))
abbrev aj2:=fun(S:ad) (L:List ByteArray) (R:List Int) (H:List au) (d:ay) s C o (hd t:Int) (w:Bool) T K Rr G dd (e z:Int) (x:ByteArray) (k:Int)=>(⟨[(0,.iface 37 (ao 0)),(1,ah 5 1),(2,ah 6 (apb C)),(6,ao 7),(7,ao 8),(8,ao 9),(9,.int .i64 (apc .i64 (k+1)))],[ab (aJ T 1 10 11 12) 89,.abs dd,.dead,.dead,.dead,dv [s],.cells (aq C) 3 true,ab jx 43,ab ([.string (o++ap0 (ap9 (apD (aqc (cut (ai (cd x)) 0 (x.size+1)) bytesOf) []))),.string (apj),.string (apj),.string (apj),aa (-1),aa e,aa (if z>hd then z else hd),aa t,aa 0,aa 0,aa 0,.bool true]) 43,ab (lz w) 92,ab (ap K) 9,ab (aq Rr) 3,ab (ak G) 114]⟩:aj)
abbrev aj3:=fun(S:ad) (L:List ByteArray) (R:List Int) (H:List au) (d:ay) s C o (hd t:Int) (w:Bool) T K Rr G dd (e z:Int) (x:ByteArray) (k:Int)=>(⟨[(0,.iface 37 (ao 0)),(1,ah 5 1),(2,ah 6 (apb C)),(6,ao 7),(7,ao 8),(8,ao 9),(9,.int .i64 (apc .i64 (k+1)))],[ab (aJ T 1 10 11 12) 89,.abs dd,.dead,.dead,.dead,dv [s],.cells (aq C) 3 true,ab jx 43,ab ([.string (o++ap0 (ap9 (apD (aqc (cut (ai (cd x)) 0 (x.size+1)) bytesOf) []))),.string (apj),.string (apj),.string (apj),aa (-2),aa e,aa (if z>hd then z else hd),aa t,aa 0,aa 0,aa 0,.bool true]) 43,ab (lz w) 92,ab (ap K) 9,ab (aq Rr) 3,ab (ak G) 114]⟩:aj)
abbrev aj4:=fun(S:ad) (L:List ByteArray) (R:List Int) (H:List au) (d:ay) s C o (hd t:Int) (w:Bool) T K Rr G dd (e z:Int) (x:ByteArray) (k:Int)=>(⟨[(0,.iface 37 (ao 0)),(1,ah 5 1),(2,ah 6 (apb C)),(6,ao 7),(7,ao 8),(8,ao 9),(9,.int .i64 (apc .i64 (k+1)))],[ab (aJ T 1 10 11 12) 89,.abs dd,.dead,.dead,.dead,dv [s],.cells (aq C) 3 true,ab jx 43,ab ([.string (o++ap0 (ap9 (apD (aqc (cut (ai (cd x)) 0 (x.size+1)) bytesOf) []))),.string (apj),.string (apj),.string (apj),aa (ad.at_ T),aa e,aa (if z>hd then z else hd),aa t,aa 0,aa 0,aa 0,.bool true]) 43,ab (lz w) 92,ab (ap K) 9,ab (aq Rr) 3,ab (ak G) 114]⟩:aj)
abbrev Sr:=fun(S:ad) (L:List ByteArray) (R:List Int) (H:List au) (d:ay) s C o (hd t:Int) (w:Bool) T K Rr G dd (e z:Int) (x:ByteArray) (k:Int)=>(⟨[(0,.iface 37 (ao 0)),(1,ah 5 1),(2,ah 6 (apb C)),(6,ao 7),(7,ao 8),(8,ao 9),(9,.int .i64 (apc .i64 (k+1)))],[ab (aJ T 1 10 11 12) 89,.abs dd,.dead,.dead,.dead,dv [s],.cells (aq C) 3 true,ab jx 43,ab ([.string (o++ap0 (ap9 (apD (aqc (cut (ai (cd x)) 0 (x.size+1)) bytesOf) []))),.string (apj),.string (apj),.string (apj),aa (-1),aa e,aa (if z>hd then z else hd),aa t,aa 0,aa 0,aa 0,.bool false]) 43,ab (lz w) 92,ab (ap K) 9,ab (aq Rr) 3,ab (ak G) 114]⟩:aj)
abbrev Ss:=fun(S:ad) (L:List ByteArray) (R:List Int) (H:List au) (d:ay) s C o (hd t:Int) (w:Bool) T K Rr G dd (e z:Int) (x:ByteArray) (k:Int)=>(⟨[(0,.iface 37 (ao 0)),(1,ah 5 1),(2,ah 6 (apb C)),(6,ao 7),(7,ao 8),(8,ao 9),(9,.int .i64 (apc .i64 (k+1)))],[ab (aJ T 1 10 11 12) 89,.abs dd,.dead,.dead,.dead,dv [s],.cells (aq C) 3 true,ab jx 43,ab ([.string (o++ap0 (ap9 (apD (aqc (cut (ai (cd x)) 0 (x.size+1)) bytesOf) []))),.string (apj),.string (apj),.string (apj),aa (-2),aa e,aa (if z>hd then z else hd),aa t,aa 0,aa 0,aa 0,.bool false]) 43,ab (lz w) 92,ab (ap K) 9,ab (aq Rr) 3,ab (ak G) 114]⟩:aj)
abbrev Su:=fun(S:ad) (L:List ByteArray) (R:List Int) (H:List au) (d:ay) s C o (hd t:Int) (w:Bool) T K Rr G dd (e z:Int) (x:ByteArray) (k:Int)=>(⟨[(0,.iface 37 (ao 0)),(1,ah 5 1),(2,ah 6 (apb C)),(6,ao 7),(7,ao 8),(8,ao 9),(9,.int .i64 (apc .i64 (k+1)))],[ab (aJ T 1 10 11 12) 89,.abs dd,.dead,.dead,.dead,dv [s],.cells (aq C) 3 true,ab jx 43,ab ([.string (o++ap0 (ap9 (apD (aqc (cut (ai (cd x)) 0 (x.size+1)) bytesOf) []))),.string (apj),.string (apj),.string (apj),aa (ad.at_ T),aa e,aa (if z>hd then z else hd),aa t,aa 0,aa 0,aa 0,.bool false]) 43,ab (lz w) 92,ab (ap K) 9,ab (aq Rr) 3,ab (ak G) 114]⟩:aj)
abbrev aj5:=fun S L R H d s C o (hd t:Int) (w:Bool) (T:ad) (K:List ByteArray) (Rr:List Int) (G:List au) (dd:ay) (e z:Int) (x:ByteArray) (k:Int)=>(⟨[(0,.iface 37 (ao 0)),(1,ah 5 1),(2,ah 6 (apb C)),(6,ao 7),(7,ao 8),(8,ao 9),(9,aa k)],[ab (aJ S 1 10 11 12) 89,.abs d,.dead,.dead,.dead,dv [s],.cells (aq C) 3 true,ab jx 43,ab (nY o (-2) 0 hd t) 43,ab (lz w) 92,ab (ap L) 9,ab (aq R) 3,ab (ak H) 114]⟩:aj)
theorem aj6(S L R H d s C)(o:ByteArray)(hd t:Int)(w:Bool)(T K Rr G dd)(e z:Int)(x:ByteArray)(k:Int)(pH:(ak H).all af=true)(pG:(ak G).all af=true)(sN:aE av9 29 [ao 0] (aO S L R H d) fun r q=>r=.ret (.tuple #[ah 5 1,aa e])∧q=aO T K Rr G dd++CI x)(jb:aE av9 30 [ao 0] (aO T K Rr G dd) fun r q=>r=.ret (aa z)∧q=(aO T K Rr G dd))(h0:apc .i64 (k+1)=k+1)(h1:x.size≤64){Q:aQ}(n1:(decide (apc .i64 (0+(↑(x.size+1):Int))>1024))=true→(asg (aqc (cut (ai (cd x)) 0 (x.size+1)) bytesOf))=true)(n2:(decide (apc .i64 (0+(↑(x.size+1):Int))>1024))=true→(decide ((↑(o.size+apk (ap0 (ap9 (apD (aqc (cut (ai (cd x)) 0 (x.size+1)) bytesOf) [])))):Int)≤9223372036854775807))=true)(l5:(decide (apc .i64 (0+(↑(x.size+1):Int))>1024))=true→(ad.bq T)=true→Q .normal (aj2 S L R H d s C o hd t w T K Rr G dd e z x k))(l6:(decide (apc .i64 (0+(↑(x.size+1):Int))>1024))=true→(ad.bq T)=false→(ad.more T)=true→Q .normal (aj3 S L R H d s C o hd t w T K Rr G dd e z x k))(l7:(decide (apc .i64 (0+(↑(x.size+1):Int))>1024))=true→(ad.bq T)=false→(ad.more T)=false→Q .normal (aj4 S L R H d s C o hd t w T K Rr G dd e z x k))(n8:(decide (apc .i64 (0+(↑(x.size+1):Int))>1024))=false→(asg (aqc (cut (ai (cd x)) 0 (x.size+1)) bytesOf))=true)(n9:(decide (apc .i64 (0+(↑(x.size+1):Int))>1024))=false→(decide ((↑(o.size+apk (ap0 (ap9 (apD (aqc (cut (ai (cd x)) 0 (x.size+1)) bytesOf) [])))):Int)≤9223372036854775807))=true)(iu:(decide (apc .i64 (0+(↑(x.size+1):Int))>1024))=false→(ad.bq T)=true→Q .normal (Sr S L R H d s C o hd t w T K Rr G dd e z x k))(jY:(decide (apc .i64 (0+(↑(x.size+1):Int))>1024))=false→(ad.bq T)=false→(ad.more T)=true→Q .normal (Ss S L R H d s C o hd t w T K Rr G dd e z x k))(nt:(decide (apc .i64 (0+(↑(x.size+1):Int))>1024))=false→(ad.bq T)=false→(ad.more T)=false→Q .normal (Su S L R H d s C o hd t w T K Rr G dd e z x k)):an av9 148 7 (wM.drop 2) (aj5 S L R H d s C o hd t w T K Rr G dd e z x k) Q:=
 aS (ajR S L R H d T K Rr G dd e z x sN jb) 1000 (aA [7,1,1,1,1,1,1,1] (.fork 6 (aA [44,1,0,1,15,1,1,1,1,1,1] (.fork 6 (.leaf [0,1,2,6,7,8,9] [0,1,2,3,4,5,6,7,8,9,10,11,12] [6,10,11,12]) (.fork 1 (.leaf [0,1,2,6,7,8,9] [0,1,2,3,4,5,6,7,8,9,10,11,12] [6,10,11,12]) (.leaf [0,1,2,6,7,8,9] [0,1,2,3,4,5,6,7,8,9,10,11,12] [6,10,11,12])))) (aA [42,1,0,1,15,1,1,1,1,1,1] (.fork 6 (.leaf [0,1,2,6,7,8,9] [0,1,2,3,4,5,6,7,8,9,10,11,12] [6,10,11,12]) (.fork 1 (.leaf [0,1,2,6,7,8,9] [0,1,2,3,4,5,6,7,8,9,10,11,12] [6,10,11,12]) (.leaf [0,1,2,6,7,8,9] [0,1,2,3,4,5,6,7,8,9,10,11,12] [6,10,11,12])))))) (fun u=>by kernel_rfl) (aM L R H (mN (ll [ao 0] (aO S L R H d)) (mN (aZ K) (mN (aG Rr) (mN (aU G) (mN (aH (cd x)) (mF (c:=decide (apc .i64 (0+(↑(x.size+1):Int))>1024)) (fun h0=>(mN (n1 h0) (mN (n2 h0) (mN (aZ K) (mN (aG Rr) (mN (aU G) (mN (ll [ao 0] (aO T K Rr G dd)) (mN (aZ K) (mN (aG Rr) (mN (aU G) (mF (c:=ad.bq T) (fun h1=>(mN (aG C) (mN (aZ K) (mN (aG Rr) (mN (aU G) (mQ (an.done (by kernel_rfl) (l5 h0 h1)))))))) (fun h1=>(mF (c:=ad.more T) (fun h2=>(mN (aG C) (mN (aZ K) (mN (aG Rr) (mN (aU G) (mQ (an.done (by kernel_rfl) (l6 h0 h1 h2)))))))) (fun h2=>(mN (aG C) (mN (aZ K) (mN (aG Rr) (mN (aU G) (mQ (an.done (by kernel_rfl) (l7 h0 h1 h2))))))))))))))))))))) (fun h0=>(mN (n8 h0) (mN (n9 h0) (mN (aZ K) (mN (aG Rr) (mN (aU G) (mN (ll [ao 0] (aO T K Rr G dd)) (mN (aZ K) (mN (aG Rr) (mN (aU G) (mF (c:=ad.bq T) (fun h1=>(mN (aG C) (mN (aZ K) (mN (aG Rr) (mN (aU G) (mQ (an.done (by kernel_rfl) (iu h0 h1)))))))) (fun h1=>(mF (c:=ad.more T) (fun h2=>(mN (aG C) (mN (aZ K) (mN (aG Rr) (mN (aU G) (mQ (an.done (by kernel_rfl) (jY h0 h1 h2)))))))) (fun h2=>(mN (aG C) (mN (aZ K) (mN (aG Rr) (mN (aU G) (mQ (an.done (by kernel_rfl) (nt h0 h1 h2))))))))))))))))))))))))))))
abbrev Sv:=fun(S:ad) (L:List ByteArray) (R:List Int) (H:List au) (d:ay) s C o (hd t:Int) (w:Bool) T K Rr G dd (e z:Int) (c:ByteArray) (k cv:Int)=>(⟨[(0,.iface 37 (ao 0)),(1,ah 5 1),(2,ah 6 (apb C)),(6,ao 7),(7,ao 8),(8,ao 9),(9,.int .i64 (apc .i64 (k+1)))],[ab (aJ T 1 10 11 12) 89,.abs dd,.dead,.dead,.dead,dv [s],.cells (aq C) 3 true,ab jx 43,ab ([.string o,.string (apj),.string (apj),.string (apj),aa (-1),aa e,aa (if z>hd then z else hd),.int .i64 (if apc .i64 (t+cv)<(↑(apk (ba.bytes (apD [s][0]? dD))):Int)then apc .i64 (t+cv)else(↑(apk (ba.bytes (apD [s][0]? dD))):Int)),aa 0,aa 0,aa 0,.bool false]) 43,ab (lz w) 92,ab (ap K) 9,ab (aq Rr) 3,ab (ak G) 114]⟩:aj)
abbrev Sw:=fun(S:ad) (L:List ByteArray) (R:List Int) (H:List au) (d:ay) s C o (hd t:Int) (w:Bool) T K Rr G dd (e z:Int) (c:ByteArray) (k cv:Int)=>(⟨[(0,.iface 37 (ao 0)),(1,ah 5 1),(2,ah 6 (apb C)),(6,ao 7),(7,ao 8),(8,ao 9),(9,.int .i64 (apc .i64 (k+1)))],[ab (aJ T 1 10 11 12) 89,.abs dd,.dead,.dead,.dead,dv [s],.cells (aq C) 3 true,ab jx 43,ab ([.string o,.string (apj),.string (apj),.string (apj),aa (-2),aa e,aa (if z>hd then z else hd),.int .i64 (if apc .i64 (t+cv)<(↑(apk (ba.bytes (apD [s][0]? dD))):Int)then apc .i64 (t+cv)else(↑(apk (ba.bytes (apD [s][0]? dD))):Int)),aa 0,aa 0,aa 0,.bool false]) 43,ab (lz w) 92,ab (ap K) 9,ab (aq Rr) 3,ab (ak G) 114]⟩:aj)
abbrev Sx:=fun(S:ad) (L:List ByteArray) (R:List Int) (H:List au) (d:ay) s C o (hd t:Int) (w:Bool) T K Rr G dd (e z:Int) (c:ByteArray) (k cv:Int)=>(⟨[(0,.iface 37 (ao 0)),(1,ah 5 1),(2,ah 6 (apb C)),(6,ao 7),(7,ao 8),(8,ao 9),(9,.int .i64 (apc .i64 (k+1)))],[ab (aJ T 1 10 11 12) 89,.abs dd,.dead,.dead,.dead,dv [s],.cells (aq C) 3 true,ab jx 43,ab ([.string o,.string (apj),.string (apj),.string (apj),aa (ad.at_ T),aa e,aa (if z>hd then z else hd),.int .i64 (if apc .i64 (t+cv)<(↑(apk (ba.bytes (apD [s][0]? dD))):Int)then apc .i64 (t+cv)else(↑(apk (ba.bytes (apD [s][0]? dD))):Int)),aa 0,aa 0,aa 0,.bool false]) 43,ab (lz w) 92,ab (ap K) 9,ab (aq Rr) 3,ab (ak G) 114]⟩:aj)
abbrev aj7:=fun S L R H d s C o (hd t:Int) (w:Bool) (T:ad) (K:List ByteArray) (Rr:List Int) (G:List au) (dd:ay) (e z:Int) (c:ByteArray) (k cv:Int)=>(⟨[(0,.iface 37 (ao 0)),(1,ah 5 1),(2,ah 6 (apb C)),(6,ao 7),(7,ao 8),(8,ao 9),(9,aa k)],[ab (aJ S 1 10 11 12) 89,.abs d,.dead,.dead,.dead,dv [s],.cells (aq C) 3 true,ab jx 43,ab (nY o 0 0 hd t) 43,ab (lz w) 92,ab (ap L) 9,ab (aq R) 3,ab (ak H) 114]⟩:aj)
theorem aj8(S L R H d)(s:ba)(C o)(hd t:Int)(w:Bool)(T K Rr G dd)(e z:Int)(c:ByteArray)(k cv:Int)(pH:(ak H).all af=true)(pG:(ak G).all af=true)(nZ:aE av9 27 [ao 0,aa 0,ah 5 c.size] (aO S L R H d++[ab (ai c) 5]) fun r q=>r=.ret (.tuple #[b8,aa e])∧q=nW (ab (ai c) 5) T K Rr G dd)(jb:aE av9 30 [ao 0] (aO T K Rr G dd) fun r q=>r=.ret (aa z)∧q=(aO T K Rr G dd))(o8:aE av9 35 [ah 0 (apb C),aa k] [.cells (aq C) 3 true] fun r q=>r=.ret (aa cv)∧q=[.cells (aq C) 3 true])(h0:apc .i64 (k+1)=k+1)(h1:0≤t)(h2:t<s.bytes.size)(h3:s.bytes.size≤4500)(h4:1≤cv)(h5:cv≤32)(h6:apc .i64 (t+cv)=t+cv){Q:aQ}(n1:(aph (apE ((apd (if apc .i64 (t+cv)<(↑(apk (ba.bytes (apD [s][0]? dD))):Int)then apc .i64 (t+cv)else(↑(apk (ba.bytes (apD [s][0]? dD))):Int))-apd t)*1) (aqV (0+apd t*1) (ai (ba.bytes (apD [s][0]? dD))))) Value.oneCell')=true)(n2:(eD [ao 0,aa 0,ah 5 (0+(apd (if apc .i64 (t+cv)<(↑(apk (ba.bytes (apD [s][0]? dD))):Int)then apc .i64 (t+cv)else(↑(apk (ba.bytes (apD [s][0]? dD))):Int))-apd t))] [ao 0,aa 0,ah 5 c.size] [ab (aJ S 1 2 3 4) 89,ag.abs d,ab (ap L) 9,ab (aq R) 3,ab (ak H) 114,ab ([]++apE ((apd (if apc .i64 (t+cv)<(↑(apk (ba.bytes (apD [s][0]? dD))):Int)then apc .i64 (t+cv)else(↑(apk (ba.bytes (apD [s][0]? dD))):Int))-apd t)*1) (aqV (0+apd t*1) (ai (ba.bytes (apD [s][0]? dD))))) 5] (aO S L R H d++[ab (ai c) 5]))=true)(l5:(ad.bq T)=true→Q .normal (Sv S L R H d s C o hd t w T K Rr G dd e z c k cv))(l6:(ad.bq T)=false→(ad.more T)=true→Q .normal (Sw S L R H d s C o hd t w T K Rr G dd e z c k cv))(l7:(ad.bq T)=false→(ad.more T)=false→Q .normal (Sx S L R H d s C o hd t w T K Rr G dd e z c k cv)):an av9 148 7 (wM.drop 2) (aj7 S L R H d s C o hd t w T K Rr G dd e z c k cv) Q:=
 aS (ajT S L R H d T K Rr G dd e z c C k cv nZ jb o8) 1000 (aA [31,9,1,6,1,1,1,1,0,1,1,1,1,11,1,1,1,1,1,1,1,1,13,1,1,1,1,1,1] (.fork 6 (.leaf [0,1,2,6,7,8,9] [0,1,2,3,4,5,6,7,8,9,17,18,19] [6,17,18,19]) (.fork 1 (.leaf [0,1,2,6,7,8,9] [0,1,2,3,4,5,6,7,8,9,17,18,19] [6,17,18,19]) (.leaf [0,1,2,6,7,8,9] [0,1,2,3,4,5,6,7,8,9,17,18,19] [6,17,18,19])))) (fun u=>by kernel_rfl) (mN (show(decide (t<(↑(apk (ba.bytes (apD [s][0]? dD))):Int)))=true by simp at pH pG nZ jb o8 h0 h1 h2 h3 h4 h5 h6⊢ <;>omega) (mN (aG C) (mN (ll [ah 0 (apb C),aa k] [ag.cells (aq C) 3 true]) (mN (decide_eq_true (by omega):(decide (0≤t))=true) (mN (decide_eq_true (by omega):(decide (0≤if apc .i64 (t+cv)<(↑(apk (ba.bytes (apD [s][0]? dD))):Int)then apc .i64 (t+cv)else(↑(apk (ba.bytes (apD [s][0]? dD))):Int)))=true) (mN (show(apG (apd t) (apd (if apc .i64 (t+cv)<(↑(apk (ba.bytes (apD [s][0]? dD))):Int)then apc .i64 (t+cv)else(↑(apk (ba.bytes (apD [s][0]? dD))):Int))))=true by simp at pH pG nZ jb o8 h0 h1 h2 h3 h4 h5 h6⊢ <;>omega) (mN (show(apG (apd (if apc .i64 (t+cv)<(↑(apk (ba.bytes (apD [s][0]? dD))):Int)then apc .i64 (t+cv)else(↑(apk (ba.bytes (apD [s][0]? dD))):Int))) (apk (ba.bytes (apD [s][0]? dD))))=true by simp at pH pG nZ jb o8 h0 h1 h2 h3 h4 h5 h6⊢ <;>omega) (mN (show(apG (0+apd t*1+(apd (if apc .i64 (t+cv)<(↑(apk (ba.bytes (apD [s][0]? dD))):Int)then apc .i64 (t+cv)else(↑(apk (ba.bytes (apD [s][0]? dD))):Int))-apd t)*1) (apb (ai (ba.bytes (apD [s][0]? dD)))))=true by simp at pH pG nZ jb o8 h0 h1 h2 h3 h4 h5 h6⊢ <;>omega) (mN (show(apG (0+(apd (if apc .i64 (t+cv)<(↑(apk (ba.bytes (apD [s][0]? dD))):Int)then apc .i64 (t+cv)else(↑(apk (ba.bytes (apD [s][0]? dD))):Int))-apd t)) 1000000)=true by simp at pH pG nZ jb o8 h0 h1 h2 h3 h4 h5 h6⊢ <;>omega) (mN n1 (mN (show(Nat.beq (apb (apE ((apd (if apc .i64 (t+cv)<(↑(apk (ba.bytes (apD [s][0]? dD))):Int)then apc .i64 (t+cv)else(↑(apk (ba.bytes (apD [s][0]? dD))):Int))-apd t)*1) (aqV (0+apd t*1) (ai (ba.bytes (apD [s][0]? dD)))))) ((apd (if apc .i64 (t+cv)<(↑(apk (ba.bytes (apD [s][0]? dD))):Int)then apc .i64 (t+cv)else(↑(apk (ba.bytes (apD [s][0]? dD))):Int))-apd t)*1))=true by simp at pH pG nZ jb o8 h0 h1 h2 h3 h4 h5 h6⊢ <;>omega) (aM L R H (mN (show(aph ([]++apE ((apd (if apc .i64 (t+cv)<(↑(apk (ba.bytes (apD [s][0]? dD))):Int)then apc .i64 (t+cv)else(↑(apk (ba.bytes (apD [s][0]? dD))):Int))-apd t)*1) (aqV (0+apd t*1) (ai (ba.bytes (apD [s][0]? dD))))) af)=true by simp) (mN n2 (mN (aH c) (mN (aZ K) (mN (aG Rr) (mN (aU G) (mN (aZ K) (mN (aG Rr) (mN (aU G) (mN (ll [ao 0] (aO T K Rr G dd)) (mN (aZ K) (mN (aG Rr) (mN (aU G) (mF (c:=ad.bq T) (fun h0=>(mN (aG C) (mN (aZ K) (mN (aG Rr) (mN (aU G) (mQ (an.done (by kernel_rfl) (l5 h0)))))))) (fun h0=>(mF (c:=ad.more T) (fun h1=>(mN (aG C) (mN (aZ K) (mN (aG Rr) (mN (aU G) (mQ (an.done (by kernel_rfl) (l6 h0 h1)))))))) (fun h1=>(mN (aG C) (mN (aZ K) (mN (aG Rr) (mN (aU G) (mQ (an.done (by kernel_rfl) (l7 h0 h1))))))))))))))))))))))))))))))))))))
abbrev Sy:=fun(S:ad) (L:List ByteArray) (R:List Int) (H:List au) (d:ay) s C o (hd:Int) T K Rr G dd (e z k:Int)=>(⟨[(0,.iface 37 (ao 0)),(1,ah 5 1),(2,ah 6 (apb C)),(6,ao 7),(7,ao 8),(8,ao 9),(9,.int .i64 (apc .i64 (k+1)))],[ab (aJ T 1 10 11 12) 89,.abs dd,.dead,.dead,.dead,dv [s],.cells (aq C) 3 true,ab jx 43,ab ([.string o,.string (apj),.string (apj),.string (apj),aa (-1),aa e,aa (if z>hd then z else hd),aa (apk (ba.bytes s)),aa 0,aa 0,aa 0,.bool false]) 43,ab ([.bool true,.bool false,.bool false,.bool false]) 92,ab (ap K) 9,ab (aq Rr) 3,ab (ak G) 114]⟩:aj)
abbrev Sz:=fun(S:ad) (L:List ByteArray) (R:List Int) (H:List au) (d:ay) s C o (hd:Int) T K Rr G dd (e z k:Int)=>(⟨[(0,.iface 37 (ao 0)),(1,ah 5 1),(2,ah 6 (apb C)),(6,ao 7),(7,ao 8),(8,ao 9),(9,.int .i64 (apc .i64 (k+1)))],[ab (aJ T 1 10 11 12) 89,.abs dd,.dead,.dead,.dead,dv [s],.cells (aq C) 3 true,ab jx 43,ab ([.string o,.string (apj),.string (apj),.string (apj),aa (-2),aa e,aa (if z>hd then z else hd),aa (apk (ba.bytes s)),aa 0,aa 0,aa 0,.bool false]) 43,ab ([.bool true,.bool false,.bool false,.bool false]) 92,ab (ap K) 9,ab (aq Rr) 3,ab (ak G) 114]⟩:aj)
abbrev SA:=fun(S:ad) (L:List ByteArray) (R:List Int) (H:List au) (d:ay) s C o (hd:Int) T K Rr G dd (e z k:Int)=>(⟨[(0,.iface 37 (ao 0)),(1,ah 5 1),(2,ah 6 (apb C)),(6,ao 7),(7,ao 8),(8,ao 9),(9,.int .i64 (apc .i64 (k+1)))],[ab (aJ T 1 10 11 12) 89,.abs dd,.dead,.dead,.dead,dv [s],.cells (aq C) 3 true,ab jx 43,ab ([.string o,.string (apj),.string (apj),.string (apj),aa (ad.at_ T),aa e,aa (if z>hd then z else hd),aa (apk (ba.bytes s)),aa 0,aa 0,aa 0,.bool false]) 43,ab ([.bool true,.bool false,.bool false,.bool false]) 92,ab (ap K) 9,ab (aq Rr) 3,ab (ak G) 114]⟩:aj)
abbrev aj9:=fun S L R H d (s:ba) C o (hd:Int) (T:ad) (K:List ByteArray) (Rr:List Int) (G:List au) (dd:ay) (e z k:Int)=>(⟨[(0,.iface 37 (ao 0)),(1,ah 5 1),(2,ah 6 (apb C)),(6,ao 7),(7,ao 8),(8,ao 9),(9,aa k)],[ab (aJ S 1 10 11 12) 89,.abs d,.dead,.dead,.dead,dv [s],.cells (aq C) 3 true,ab jx 43,ab (nY o 0 0 hd s.bytes.size) 43,ab (lz false) 92,ab (ap L) 9,ab (aq R) 3,ab (ak H) 114]⟩:aj)
theorem aka(S L R H d)(s:ba)(C o)(hd:Int)(T K Rr G dd)(e z k:Int)(pH:(ak H).all af=true)(pG:(ak G).all af=true)(wL:aE av9 28 [ao 0,aa 0] (aO S L R H d) fun r q=>r=.ret (.tuple #[b8,aa e])∧q=jm T K Rr G dd)(jb:aE av9 30 [ao 0] (aO T K Rr G dd) fun r q=>r=.ret (aa z)∧q=(aO T K Rr G dd))(h0:apc .i64 (k+1)=k+1)(h1:s.ended=true){Q:aQ}(n0:(eD [ao 0,aa 0] [ao 0,aa 0] [ab (aJ S 1 2 3 4) 89,ag.abs d,ab (ap L) 9,ab (aq R) 3,ab (ak H) 114] (aO S L R H d))=true)(n1:(eD [ao 0] [ao 0] [ab (aJ T 1 2 3 4) 89,ag.abs dd,ab (ap K) 9,ab (aq Rr) 3,ab (ak G) 114] (aO T K Rr G dd))=true)(aR:aph (aq C) af=true)(l3:(ad.bq T)=true→Q .normal (Sy S L R H d s C o hd T K Rr G dd e z k))(l4:(ad.bq T)=false→(ad.more T)=true→Q .normal (Sz S L R H d s C o hd T K Rr G dd e z k))(l5:(ad.bq T)=false→(ad.more T)=false→Q .normal (SA S L R H d s C o hd T K Rr G dd e z k)):an av9 148 7 (wM.drop 2) (aj9 S L R H d s C o hd T K Rr G dd e z k) Q:=
 aS (ajV S L R H d T K Rr G dd e z wL jb) 1000 (aA [30,9,1,3,3,1,9,1,1,1,1,1,1,13,1,1,1,1,1,1] (.fork 6 (.leaf [0,1,2,6,7,8,9] [0,1,2,3,4,5,6,7,8,9,17,18,19] [6,17,18,19]) (.fork 1 (.leaf [0,1,2,6,7,8,9] [0,1,2,3,4,5,6,7,8,9,17,18,19] [6,17,18,19]) (.leaf [0,1,2,6,7,8,9] [0,1,2,3,4,5,6,7,8,9,17,18,19] [6,17,18,19])))) (fun u=>by kernel_rfl) (mN (show(decide ((↑(apk (ba.bytes s)):Int)<(↑(apk (ba.bytes (apD [s][0]? dD))):Int)))=false by simp) (wN 5 (show(ba.ended (apD [s][0]? dD))=true by assumption) (aM L R H (mN n0 (mN (aZ K) (mN (aG Rr) (mN (aU G) (mN (aZ K) (mN (aG Rr) (mN (aU G) (mN n1 (mN (aZ K) (mN (aG Rr) (mN (aU G) (mF (c:=ad.bq T) (fun h0=>(mN (aG C) (mN (aZ K) (mN (aG Rr) (mN (aU G) (mQ (an.done (by kernel_rfl) (l3 h0)))))))) (fun h0=>(mF (c:=ad.more T) (fun h1=>(mN (aG C) (mN (aZ K) (mN (aG Rr) (mN (aU G) (mQ (an.done (by kernel_rfl) (l4 h0 h1)))))))) (fun h1=>(mN (aG C) (mN (aZ K) (mN (aG Rr) (mN (aU G) (mQ (an.done (by kernel_rfl) (l5 h0 h1)))))))))))))))))))))))))
abbrev SB:=fun S L R H d (s:ba) C o (hd:Int) (w:Bool) (k:Int)=>(⟨[(6,ao 7),(7,ao 8)],[ab (aJ S 1 9 10 11) 89,.abs d,.dead,.dead,.dead,dv [s],.cells (aq C) 3 true,ab jx 43,ab (nY o 0 0 hd s.bytes.size) 43,ab (ap L) 9,ab (aq R) 3,ab (ak H) 114]⟩:aj)
abbrev Jm:=fun S L R H d (s:ba) C o (hd:Int) (w:Bool) (k:Int)=>(⟨[(0,.iface 37 (ao 0)),(1,ah 5 1),(2,ah 6 (apb C)),(6,ao 7),(7,ao 8),(8,ao 9),(9,aa k)],[ab (aJ S 1 10 11 12) 89,.abs d,.dead,.dead,.dead,dv [s],.cells (aq C) 3 true,ab jx 43,ab (nY o 0 0 hd s.bytes.size) 43,ab (lz w) 92,ab (ap L) 9,ab (aq R) 3,ab (ak H) 114]⟩:aj)
theorem akb(S L R H d)(s:ba)(C o)(hd:Int)(w:Bool)(k:Int)(pH:(ak H).all af=true)(h0:s.ended=false){Q:aQ}(aR:aph (aq C) af=true)(be:aph (ap L) af=true)(bB:aph (aq R) af=true)(br:aph (ak H) af=true)(l4:Q (.exit 0) (SB S L R H d s C o hd w k)):an av9 148 7 (wM.drop 2) (Jm S L R H d s C o hd w k) Q:=
 aS bo 1000 (aA [30,8,0,0,0,0] (.leaf [6,7] [0,1,2,3,4,5,6,7,8,10,11,12] [6,10,11,12])) (fun u=>by kernel_rfl) (mN (show(decide ((↑(apk (ba.bytes s)):Int)<(↑(apk (ba.bytes (apD [s][0]? dD))):Int)))=false by simp) (wN 5 (show(ba.ended (apD [s][0]? dD))=false by assumption) (mN (aG C) (aM L R H (mE 0 l4)))))
abbrev SC:=fun S L R H d s C o (nd er hd t:Int)=>(⟨[(6,ao 7)],[ab (aJ S 1 8 9 10) 89,.abs d,.dead,.dead,.dead,dv [s],.cells (aq C) 3 true,ab ([.string o,.string (apj),.string (apj),.string (apj),aa nd,aa er,aa hd,aa t,aa 0,aa 0,aa 0,.bool false]) 43,ab (ap L) 9,ab (aq R) 3,ab (ak H) 114]⟩:aj)
theorem akc(S L R H d s C o)(nd er hd t:Int){Q:bg}(hq:Q (.ret (.agg (ap9 [.string o,.string (apj),.string (apj),.string (apj),aa nd,aa er,aa hd,aa t,aa 0,aa 0,aa 0,.bool false]))) [ab (aJ S 1 7 8 9) 89,.abs d,.dead,.dead,.dead,dv [s],.cells (aq C) 3 true,ab (ap L) 9,ab (aq R) 3,ab (ak H) 114]):aF av9 13 148 7 Q .ret (SC S L R H d s C o nd er hd t):=aF.ret (vs:=[.agg (ap9 [.string o,.string (apj),.string (apj),.string (apj),aa nd,aa er,aa hd,aa t,aa 0,aa 0,aa 0,.bool false])]) (l:=[7]) (bs:=[0,1,2,3,4,5,6,8,9,10]) (pl:=[6,8,9,10]) (q:=[aq C,ap L,aq R,ak H]) (fun u=>by kernel_rfl) (by kernel_rfl) (aC (aG C) (gL L R H bc)) hq
abbrev akd:=fun S L R H d s C o (nd er hd t:Int)=>(⟨[(6,ao 7),(7,ao 8)],CJ S L R H d s C o nd er hd t⟩:aj)
theorem ake(S L R H d s C o)(nd er hd t:Int)(pH:(ak H).all af=true){Q:aQ}(l4:Q .ret (SC S L R H d s C o nd er hd t)):an av9 148 7 (zc.drop 5) (akd S L R H d s C o nd er hd t) Q:=
 aS bo 1000 (.leaf [6] [0,1,2,3,4,5,6,7,9,10,11] [6,9,10,11]) (fun u=>by kernel_rfl) (mN (aG C) (aM L R H (mR l4)))
end
noncomputable section
noncomputable def SD:List Code:=aY (dz av9 35)
open Tree renaming aN→mN,dj→mF,eT→mL,fz→mQ,dB→mR,fH→mE
abbrev wP:=fun C=>([.cells (aq C) 3 true]:List ag)
abbrev Jn:=fun C (k:Int)=>(⟨[(4,aa 32)],wP C⟩:aj)
theorem akf(C)(k:Int){Q:bg}(hq:Q (.ret (aa 32)) (Jn C k).objs):aF av9 35 23 1 Q .ret (Jn C k):=aF.ret (vs:=[aa 32]) (l:=[]) (bs:=[0]) (pl:=[0]) (q:=[aq C]) (fun u=>by kernel_rfl) (by kernel_rfl) (aC (aG C) bc) hq
abbrev SE:=fun C (k:Int)=>(⟨[(0,ah 0 (apb C)),(1,aa k)],wP C⟩:aj)
theorem akg(C)(k:Int)(h0:(apb C)=0){Q:aQ}(aR:aph (aq C) af=true)(l1:Q .ret (Jn C k)):an av9 23 1 SD (SE C k) Q:=
 aS bo 1000 (aA [3] (.leaf [4] [0] [0])) (fun u=>by kernel_rfl) (mN (decide_eq_true (by omega):((↑(apb C):Int)==0)=true) (mN (aG C) (mR l1)))
noncomputable abbrev SF(C:List Int)(k:Int):aj:=⟨[(4,.int .i64 (apc .i64 (apc .i64 (0-aq5 (av (aq C) (0+apd (aq5 k (↑(apb C):Int))*1)) 32)+1)))],wP C⟩
theorem akh(C)(k:Int){Q:bg}(hq:Q (.ret (.int .i64 (apc .i64 (apc .i64 (0-aq5 (av (aq C) (0+apd (aq5 k (↑(apb C):Int))*1)) 32)+1)))) (wP C)):aF av9 35 23 1 Q .ret (SF C k):=aF.ret (vs:=[.int .i64 (apc .i64 (apc .i64 (0-aq5 (av (aq C) (0+apd (aq5 k (↑(apb C):Int))*1)) 32)+1))]) (l:=[]) (bs:=[0]) (pl:=[0]) (q:=[aq C]) (fun u=>by kernel_rfl) (by kernel_rfl) (aC (aG C) bc) hq
noncomputable abbrev SG(C:List Int)(k:Int):aj:=⟨[(4,.int .i64 (apc .i64 (aq5 (av (aq C) (0+apd (aq5 k (↑(apb C):Int))*1)) 32+1)))],wP C⟩
theorem aki(C)(k:Int){Q:bg}(hq:Q (.ret (.int .i64 (apc .i64 (aq5 (av (aq C) (0+apd (aq5 k (↑(apb C):Int))*1)) 32+1)))) (wP C)):aF av9 35 23 1 Q .ret (SG C k):=aF.ret (vs:=[.int .i64 (apc .i64 (aq5 (av (aq C) (0+apd (aq5 k (↑(apb C):Int))*1)) 32+1))]) (l:=[]) (bs:=[0]) (pl:=[0]) (q:=[aq C]) (fun u=>by kernel_rfl) (by kernel_rfl) (aC (aG C) bc) hq
theorem akj(C)(k:Int)(h0:0<(apb C))(h1:(apb C)≤3000)(h2:0≤k)(h3:k<100000){Q:aQ}(n0:(!decide ((↑(apb C):Int)=0))=true)(n1:(decide (0≤aq5 k (↑(apb C):Int)))=true)(n2:(Nat.blt (apd (aq5 k (↑(apb C):Int))) (apb C))=true)(n3:(cA apr (aq C) (0+apd (aq5 k (↑(apb C):Int))*1))=true)(l5:(decide (aq5 (av (aq C) (0+apd (aq5 k (↑(apb C):Int))*1)) 32<0))=true→Q .ret (SF C k))(l6:(decide (aq5 (av (aq C) (0+apd (aq5 k (↑(apb C):Int))*1)) 32<0))=false→Q .ret (SG C k)):an av9 23 1 SD (SE C k) Q:=
 aS bo 1000 (aA [2,2,1,0,1,1,0,1] (.fork 1 (.leaf [4] [0] [0]) (.leaf [4] [0] [0]))) (fun u=>by kernel_rfl) (mN (decide_eq_false (by omega):((↑(apb C):Int)==0)=false) (mN n0 (mN n1 (mN n2 (mN n3 (mF (c:=decide (aq5 (av (aq C) (0+apd (aq5 k (↑(apb C):Int))*1)) 32<0)) (fun h0=>(mN (aG C) (mR (l5 h0)))) (fun h0=>(mN (aG C) (mR (l6 h0))))))))))
end
structure Small(L:List ByteArray):Prop where
 each:∀x∈L,x.size≤64
 all:bP L≤256
structure Inv(x:MS):Prop where
 cut:jJ x.S
 jK:x.H.length=x.S.hn
 sm:Small x.L
 fC:x.H=[]∨(x.L=[]∧x.S.n=0)
 bQ:x.H.length≤3
 ok:∀h∈x.H,o5 h
 run:x.S.ro+x.S.rn≤x.L.length
theorem akk(L:List ByteArray):kS L+L.length=bP L:=by
 induction L with
 |nil=>rfl
 |cons x l ih=>show x.size+kS l+(l.length+1)=x.size+1+bP l;omega
theorem akl(L:List ByteArray)(n:Nat):bP (L.take n)≤bP L:=by
 induction L generalizing n with
 |nil=>simp
 |cons x l ih=>cases n with
  |zero=>exact ap7 _
  |succ n=>have:=ih n;show x.size+1+bP (l.take n)≤x.size+1+bP l;omega
theorem akm(L:List ByteArray)(n:Nat):bP (L.drop n)≤bP L:=by
 induction L generalizing n with
 |nil=>simp
 |cons x l ih=>cases n with
  |zero=>exact apI _
  |succ n=>have:=ih n;show bP (l.drop n)≤x.size+1+bP l;omega
theorem Inv.held{x:MS}(h:Inv x):Sn x∧jw x≤320:=by
 have h1:=wv x.L
 have h2:=h.sm.all
 have h3:=h.run
 refine⟨⟨h.cut,h.jK,h.bQ,h.ok,h.run,by omega,h.sm.each⟩,?_⟩
 have hn:=h.cut.n1
 have pK:=h.cut.n0
 have a:=akk x.run
 have b:=akl (x.L.drop x.S.ro) x.S.rn
 have c:=akm x.L x.S.ro
 have e:=Sm h.ok
 have hf:=h.bQ
 unfold jw
 have a:kS x.run+x.run.length=bP ((x.L.drop x.S.ro).take x.S.rn):=a
 rcases h.fC with hH|⟨hL,hz⟩
 ·rw[hH]
  show _+0≤320
  omega
 ·have:bP x.L=0:=by rw[hL];rfl
  rw[hz]
  show 0+_+_≤320
  omega
theorem Jo{S:ad}{L:List ByteArray}{R:List Int}{d:ay}(h:Small L):Small (cM S L R d).2.2.1:=by
 have hs:Small (bE (aV S.aB) L):=⟨fun x hx=>h.each x ((kR L).mem_iff.1 hx),by rw[wu (kR L)];exact h.all⟩
 unfold cM
 split
 ·exact hs
 split
 ·exact hs
 ·exact⟨(fun x hx=>by cases hx),ap7 _⟩
structure mO(S T:ad):Prop where
 at_:T.at_=S.at_
 more:T.more=S.more
 bq:T.bq=S.bq
 B:T.B=S.B
 n:T.n=S.n
 failed:T.failed=S.failed
 aB:T.aB=S.aB
 ro:T.ro=S.ro
 hn:T.hn=S.hn
theorem mO.refl(S:ad):mO S S:=⟨rfl,rfl,rfl,rfl,rfl,rfl,rfl,rfl,rfl⟩
theorem mO.trans{S T U:ad}(h:mO S T)(k:mO T U):mO S U:=⟨k.at_.trans h.at_,k.more.trans h.more,k.bq.trans h.bq,k.B.trans h.B,k.n.trans h.n,k.failed.trans h.failed,k.aB.trans h.aB,k.ro.trans h.ro,k.hn.trans h.hn⟩
theorem Jp(S:ad)(L:List ByteArray)(R:List Int)(d:ay):mO S (cM S L R d).2.1:=by
 unfold cM
 split
 ·exact mO.refl S
 split
 ·exact⟨rfl,rfl,rfl,rfl,rfl,rfl,rfl,rfl,rfl⟩
 ·exact⟨rfl,rfl,rfl,rfl,rfl,rfl,rfl,rfl,rfl⟩
theorem zd:∀(l:List ByteArray) (s:ci),mO s.1 (cY l s).2.1
 | [],s=>mO.refl _
 |x::l,s=>by
  unfold cY
  split
  ·split
   ·exact Jp _ _ _ _
   ·have h1:=zd l (jI x (cM s.1 s.2.1 s.2.2.1 s.2.2.2).2)
    have h0:mO (cM s.1 s.2.1 s.2.2.1 s.2.2.2).2.1 (jI x (cM s.1 s.2.1 s.2.2.1 s.2.2.2).2).1:=⟨rfl,rfl,rfl,rfl,rfl,rfl,rfl,rfl,rfl⟩
    exact(Jp s.1 s.2.1 s.2.2.1 s.2.2.2).trans (h0.trans h1)
  ·have h1:=zd l (jI x s)
   have h0:mO s.1 (jI x s).1:=⟨rfl,rfl,rfl,rfl,rfl,rfl,rfl,rfl,rfl⟩
   exact h0.trans h1
theorem CK:∀(l:List ByteArray) (s:ci),ju s→Small s.2.1→(∀x∈l,x.size≤64)→Small (cY l s).2.2.1
 | [],s,h,hs,hx=>hs
 |x::l,s,h,hs,hx=>by
  have fQ:=hx x List.mem_cons_self
  have jR:∀y∈l,y.size≤64:=fun y hy=>hx y (List.mem_cons_of_mem _ hy)
  have hw:=h.bH
  have hlen:=h.len
  have put:∀t:ci,Small t.2.1→bP t.2.1+(x.size+1)≤256→Small (jI x t).2.1:=fun t ht hw=>by
   refine⟨fun y hy=>?_,?_⟩
   ·rcases apN.1 hy with hy|hy
    ·exact ht.each y hy
    ·rw[aqd.1 hy];exact fQ
   ·show bP (t.2.1++[x])≤256
    rw[yU]
    show bP t.2.1+(x.size+1+0)≤256
    omega
  unfold cY
  by_cases hc:0<s.1.rn∧s.1.bH+x.size+1>256
  ·rw[if_pos hc]
   by_cases he:(cM s.1 s.2.1 s.2.2.1 s.2.2.2).1=0
   ·rw[if_neg (fun h=>h he)]
    obtain⟨s1,s2⟩:=h.mf
    have qj:=s2 he
    have h0:bP (cM s.1 s.2.1 s.2.2.1 s.2.2.2).2.2.1=0:=by rw[qj];rfl
    exact CK l _ (s1.put x (by omega)) (put _ (Jo hs) (by omega)) jR
   ·rw[if_pos he]
    exact Jo hs
  ·rw[if_neg hc]
   have dG:bP s.2.1+(x.size+1)≤256:=by
    by_cases h0:0<s.1.rn
    ·have:¬s.1.bH+x.size+1>256:=fun h=>hc ⟨h0,h⟩
     omega
    ·have:s.2.1=[]:=aqf (by omega)
     rw[this];show 0+(x.size+1)≤256;omega
   exact CK l _ (h.put x (by omega)) (put s hs dG) jR
structure lB(F:Nat)(x:MS):Prop where
 ok:I8 F x
 sm:Small x.L
 none:x.H=[]
 ro:x.S.ro=0
 more:x.S.more=false
 bq:x.S.bq=false
theorem lB.inv{F:Nat}{x:MS}(h:lB F x):Inv x:=⟨h.ok.cut,h.ok.jK,h.sm,.inl h.none,by rw[h.none];exact ap7 _,by rw[h.none];exact fun _ hh=>(by cases hh),by rw[h.ro];have:=h.ok.uL.ok.len;show 0+x.S.rn≤x.L.length;have:x.L.length=x.S.rn:=this;omega⟩
theorem uN{x:MS}(h:Inv x)(e:Int):Inv (x.fail e):=⟨⟨h.cut.n0,h.cut.n1⟩,h.jK,h.sm,h.fC,h.bQ,h.ok,h.run⟩
theorem CL{F:Nat}{x:MS}(h:lB F x)(b:ByteArray):Inv (bX x b).2∧((bX x b).1=0→∃F',lB F' (bX x b).2∧F'+(bX x b).2.S.n.toNat=F+x.S.n.toNat+b.size):=by
 obtain⟨S,L,R,H,d⟩:=x
 obtain⟨⟨hg,hc,hH,hf,ca⟩,eo,gj,dh,sN,SH⟩:=h
 dsimp only[MS.z]at*
 obtain⟨c1,c2,c3,c4⟩:=za b.data.toList S [] hc fun x hx=>by cases hx
 obtain⟨s1,s2,s3,s4,s5,s6,s7,s8,s9,Sa,Sb,I9,Ja⟩:=wJ b.data.toList S []
 unfold bX
 dsimp only
 generalize cg b.data.toList S []=o at*
 obtain⟨e,S1,M⟩:=o
 dsimp only at*
 have pM:Good F (S1,L,R,d):=⟨⟨by rw[show((S1,L,R,d):ci).1.rn=S1.rn from rfl,s6];exact hg.ok.len,by rw[show((S1,L,R,d):ci).1.sn=S1.sn from rfl,s8];exact hg.ok.runs,hg.ok.cF,hg.ok.made,by rw[show((S1,L,R,d):ci).1.bH=S1.bH from rfl,s7];exact hg.ok.bH,hg.ok.bQ⟩,hg.old,hg.bQ⟩
 obtain⟨t1,t2⟩:=y9 M F (S1,L,R,d) pM c2
 have t3:=zd M (S1,L,R,d)
 have t4:=CK M (S1,L,R,d) pM.ok eo c2
 generalize cY M (S1,L,R,d)=o at*
 obtain⟨f,T,K,Rr,dd⟩:=o
 dsimp only[gN]at*
 have SI:jJ T:=⟨by rw[t3.n];exact c1.n0,by rw[t3.n];exact c1.n1⟩
 have hi:Inv ⟨T,K,Rr,H,dd⟩:=⟨SI,hH.trans (s9.symm.trans t3.hn.symm),t4,.inl gj,by rw[gj];exact ap7 _,by rw[gj];exact fun _ hh=>(by cases hh),by show T.ro+T.rn≤K.length;rw[t3.ro,s5,dh];have:K.length=T.rn:=t1.len;omega⟩
 by_cases m5:f=0
 ·rw[if_neg (fun h=>h m5)]
  by_cases ze:e=0
  ·rw[if_neg (fun h=>h ze)]
   refine⟨hi,fun _=>⟨F+bP M,⟨⟨t2 m5,SI,hi.jK,by show T.failed=false;rw[t3.failed,Ja ze];exact hf,by show T.at_=0;rw[t3.at_,s1];exact ca⟩,t4,gj,by show T.ro=0;rw[t3.ro,s5];exact dh,by show T.more=false;rw[t3.more,s2];exact sN,by show T.bq=false;rw[t3.bq,s3];exact SH⟩,?_⟩⟩
   have h3:=c3 ze
   have hb:b.data.toList.length=b.size:=by simp
   show F+bP M+T.n.toNat=_
   rw[t3.n]
   have:bP ([]:List ByteArray)=0:=rfl
   omega
  ·rw[if_pos ze]
   exact⟨uN hi e,fun h=>absurd h ze⟩
 ·rw[if_pos m5]
  exact⟨uN hi f,fun h=>absurd h m5⟩
structure zf(S T:ad):Prop where
 more:T.more=S.more
 bq:T.bq=S.bq
 ro:T.ro=S.ro
 aB:T.aB=S.aB
 n:T.n=0
theorem akn{F:Nat}{s:ci}(h:Good F s)(hc:jJ s.1)(hs:Small s.2.1):zf s.1 (fV s).2.1∧Small (fV s).2.2.1:=by
 have hn:=hc.n1
 unfold fV
 split
 ·rename_i h0;exact⟨⟨rfl,rfl,rfl,rfl,h0⟩,hs⟩
 ·have h1:=zd [gU s.1] ({s.1 with n:=0},s.2)
  have hok:ju ({s.1 with n:=0},s.2):=⟨h.ok.len,h.ok.runs,h.ok.cF,h.ok.made,h.ok.bH,h.ok.bQ⟩
  exact⟨⟨h1.more,h1.bq,h1.ro,h1.aB,h1.n⟩,CK [gU s.1] ({s.1 with n:=0},s.2) hok hs fun x hx=>by rw[aqd.1 hx,wH];omega⟩
theorem Jq{S:ad}(h:S.n=0):jJ S:=⟨by omega,by omega⟩
theorem ako{s:ci}{H:List au}(hL:s.2.1=[])(hl:s.2.1.length=s.1.rn)(hH:H=[])(hh:H.length=s.1.hn)(hn:s.1.n=0)(dh:s.1.ro=0)(hr:jo s.2.2.2 s.2.2.1):
 Inv (gN (jp s H).2.1 (jp s H).2.2)∧zf s.1 (jp s H).2.1.1:=by
 obtain⟨S,L,R,d⟩:=s
 dsimp only at*
 subst hL hH
 obtain⟨p1,p2,p3⟩:=CA S.aB R.length R d hr
 have hv:jp (S,[],R,d) []=if(dI S.aB R.length R d).1≠0 then((dI S.aB R.length R d).1,({S with sn:=(dI S.aB R.length R d).2.1.length},[],(dI S.aB R.length R d).2),[])
  else match dI S.aB R.length R d with
   |(_,R,d)=>match dS R [] d with
    |(e,l,dd)=>if e=0 then(0,({S with sn:=R.length,hn:=l.length},[],R,dd),l)else(e,({S with sn:=R.length,hn:=0},[],R,dd),[]):=rfl
 rw[hv]
 clear hv
 generalize dI S.aB R.length R d=o at*
 obtain⟨e,R2,d2⟩:=o
 dsimp only at*
 have small:Small []:=⟨(fun x hx=>by cases hx),ap7 _⟩
 have jH:S.rn=0:=hl.symm
 have mk:∀(T:ad) (H:List au) (R:List Int) (d:ay),T.n=0→T.ro=0→T.rn=0→H.length=T.hn→H.length≤3→(∀h∈H,o5 h)→Inv ⟨T,[],R,H,d⟩:=fun T H R d a b c e g k=>⟨Jq a,e,small,.inr ⟨rfl,a⟩,g,k,by show T.ro+T.rn≤0;omega⟩
 by_cases he:e=0
 ·rw[if_neg (fun h=>h he)]
  obtain⟨q1,q2⟩:=p2 he
  have cQ:=yZ R2 [] [] d2 d2 p1 rfl ⟨rfl,(fun _ h=>by cases h),apI _⟩
  generalize dS R2 [] d2=o at*
  obtain⟨e2,l,d3⟩:=o
  dsimp only at*
  by_cases dY:e2=0
  ·rw[if_pos dY]
   have ho:=cQ dY
   rw[aqO]at ho
   have nG:l.length=R2.length:=by have:=congrArg apb ho.Cb;rw[List.length_map]at this;exact this
   exact⟨mk _ l R2 d3 hn dh jH rfl (by have:=q2 (apI _);omega) ho.ok,rfl,rfl,rfl,rfl,hn⟩
  ·rw[if_neg dY]
   exact⟨mk _ [] R2 d3 hn dh jH rfl (ap7 _) (fun h hh=>by cases hh),rfl,rfl,rfl,rfl,hn⟩
 ·rw[if_pos he]
  exact⟨mk _ [] R2 d2 hn dh jH hh (ap7 _) (fun h hh=>by cases hh),rfl,rfl,rfl,rfl,hn⟩
theorem SJ{s:ci}(h:ju s)(hs:Small s.2.1)(hh:([]:List au).length=s.1.hn)(hn:s.1.n=0)(dh:s.1.ro=0):Inv (gN s []):=
 ⟨Jq hn,hh,hs,.inl rfl,ap7 _,(fun h hh=>by cases hh),by show s.1.ro+s.1.rn≤s.2.1.length;rw[dh,h.len];omega⟩
theorem Jr{F:Nat}{x:MS}(h:lB F x)(hF:F≤800000):Inv (gN (iw x.z x.H).2.1 (iw x.z x.H).2.2)∧zf x.S (iw x.z x.H).2.1.1:=by
 obtain⟨r1,r2⟩:=Cy h.ok.uL h.ok.cut
 obtain⟨k1,k2⟩:=akn h.ok.uL h.ok.cut h.sm
 have r3:=Sc x.z
 have kn:=h.ok.cut.n1
 have hH:=h.none
 have hh:([]:List au).length=x.S.hn:=by rw[←hH];exact h.ok.jK
 have dh:(fV x.z).2.1.ro=0:=k1.ro.trans h.ro
 rw[hH]
 unfold iw
 split
 ·exact⟨SJ r1 k2 (hh.trans r3.symm) k1.n dh,k1⟩
 rename_i he
 have g:=Cz (r2 (aq2.1 he))
 have k3:zf x.S (lv (fV x.z).2).1:=⟨k1.more,k1.bq,k1.ro,k1.aB,k1.n⟩
 have k4:Small (lv (fV x.z).2).2.1:=k2
 have SK:([]:List au).length=(lv (fV x.z).2).1.hn:=hh.trans r3.symm
 have Js:(lv (fV x.z).2).1.ro=0:=dh
 generalize lv (fV x.z).2=t at*
 unfold sK
 split
 ·refine⟨⟨Jq k3.n,SK,⟨fun y hy=>k4.each y ((kR t.2.1).mem_iff.1 hy),by show bP (bE _ t.2.1)≤256;rw[wu (kR t.2.1)];exact k4.all⟩,.inl rfl,ap7 _,(fun h hh=>by cases hh),?_⟩,k3⟩
  show t.1.ro+t.1.rn≤(bE _ t.2.1).length
  rw[nS,Js,g.ok.len];omega
 unfold qZ
 have dk:ju (fL t).2∧((fL t).1=0→(fL t).2.2.1=[]):=by
  unfold fL
  split
  ·exact g.ok.mf
  ·rename_i h0
   refine⟨g.ok,fun _=>?_⟩
   have:=g.ok.len
   show t.2.1=[]
   exact aqf (by omega)
 have cP:mO t.1 (fL t).2.1:=by unfold fL;split;exact Jp _ _ _ _;exact mO.refl _
 have vo:Small (fL t).2.2.1:=by unfold fL;split;exact Jo k4;exact k4
 have k5:zf x.S (fL t).2.1:=⟨cP.more.trans k3.more,cP.bq.trans k3.bq,cP.ro.trans k3.ro,cP.aB.trans k3.aB,cP.n.trans k3.n⟩
 have SL:([]:List au).length=(fL t).2.1.hn:=SK.trans cP.hn.symm
 split
 ·exact⟨SJ dk.1 vo SL k5.n (cP.ro.trans Js),k5⟩
 rename_i dY
 have dY:=aq2.1 dY
 have g2:Good (F+(x.S.n.toNat+1)) (fL t).2:=by
  unfold fL at dY⊢
  split
  ·rename_i h1;rw[if_pos h1]at dY;exact g.mf dY
  ·exact g
 have fQ:x.S.n.toNat≤64:=by have:x.S.n≤64:=kn;omega
 obtain⟨a,b⟩:=ako (H:=[]) (dk.2 dY) dk.1.len rfl SL k5.n (cP.ro.trans Js) (g2.runs (by omega))
 exact⟨a,b.more.trans k5.more,b.bq.trans k5.bq,b.ro.trans k5.ro,b.aB.trans k5.aB,b.n⟩
theorem akp{x:MS}(h:Inv x)(hl:CF x)(ho:x.S.bq=false):Inv ⟨(cZ x.S x.R x.H x.d).2.1,x.L,x.R,x.H,(cZ x.S x.R x.H x.d).2.2⟩∧
 ((cZ x.S x.R x.H x.d).2.1.bq=true∨((cZ x.S x.R x.H x.d).2.1.bq=false∧(cZ x.S x.R x.H x.d).2.1.more=true∧q9 ⟨(cZ x.S x.R x.H x.d).2.1,x.L,x.R,x.H,(cZ x.S x.R x.H x.d).2.2⟩)):=by
 unfold cZ
 cases hm:lx x.S x.H with
 |true=>
  rw[if_pos rfl]
  exact⟨⟨⟨h.cut.n0,h.cut.n1⟩,h.jK,h.sm,h.fC,h.bQ,h.ok,h.run⟩,.inr ⟨ho,rfl,hl.runs,h.jK,hl.cF,hl.CG,h.bQ,h.ok,h.run,h.sm.each,hm⟩⟩
 |false=>
  rw[if_neg (by simp)]
  exact⟨⟨⟨h.cut.n0,h.cut.n1⟩,h.jK,h.sm,h.fC,h.bQ,h.ok,h.run⟩,.inl rfl⟩
theorem Jt{F:Nat}{x:MS}(h:lB F x)(hF:F≤800000):Inv (gp x).2∧((gp x).1=0→(gp x).2.S.bq=true∨((gp x).2.S.bq=false∧(gp x).2.S.more=true∧q9 (gp x).2)):=by
 obtain⟨i1,k1⟩:=Jr h hF
 have tu:=CH h.ok.uL h.ok.cut hF h.ok.jK
 unfold gp
 generalize iw x.z x.H=o at*
 obtain⟨e,t,G⟩:=o
 dsimp only[gN]at*
 by_cases he:e=0
 ·rw[if_neg (fun h=>h he)]
  have hr:=akp i1 tu (k1.bq.trans h.bq)
  dsimp only at hr
  generalize cZ t.1 t.2.2.1 G t.2.2.2=o at*
  obtain⟨f,U,d3⟩:=o
  dsimp only at*
  by_cases hf:f=0
  ·rw[if_neg (fun h=>h hf)]
   exact⟨hr.1,fun _=>hr.2⟩
  ·rw[if_pos hf]
   exact⟨uN hr.1 f,fun h=>absurd h hf⟩
 ·rw[if_pos he]
  exact⟨uN i1 e,fun h=>absurd h he⟩
theorem SM{x:MS}(h:Inv x)(h1:x.R.length=x.S.sn)(h2:cj x.d)(h3:x.R.length≤900000)(ho:x.S.bq=false):Inv ⟨(cZ x.S x.R x.H x.d).2.1,x.L,x.R,x.H,(cZ x.S x.R x.H x.d).2.2⟩∧
 ((cZ x.S x.R x.H x.d).2.1.bq=true∨((cZ x.S x.R x.H x.d).2.1.bq=false∧(cZ x.S x.R x.H x.d).2.1.more=true∧q9 ⟨(cZ x.S x.R x.H x.d).2.1,x.L,x.R,x.H,(cZ x.S x.R x.H x.d).2.2⟩)):=by
 unfold cZ
 cases hm:lx x.S x.H with
 |true=>
  rw[if_pos rfl]
  exact⟨⟨⟨h.cut.n0,h.cut.n1⟩,h.jK,h.sm,h.fC,h.bQ,h.ok,h.run⟩,.inr ⟨ho,rfl,h1,h.jK,h2,h3,h.bQ,h.ok,h.run,h.sm.each,hm⟩⟩
 |false=>
  rw[if_neg (by simp)]
  exact⟨⟨⟨h.cut.n0,h.cut.n1⟩,h.jK,h.sm,h.fC,h.bQ,h.ok,h.run⟩,.inl rfl⟩
theorem Ju{x:MS}(h:Inv x)(hm:q9 x)(ho:x.S.bq=false):Inv (gV x).2.2∧(gV x).2.1.size≤64∧((gV x).1=0→(gV x).2.2.S.bq=true∨((gV x).2.2.S.bq=false∧(gV x).2.2.S.more=true∧q9 (gV x).2.2)):=by
 unfold gV
 by_cases jH:0<x.S.rn
 ·rw[if_pos jH]
  have ka:=h.run
  have hp:Inv ⟨x.S.pop,x.L,x.R,x.H,x.d⟩:=⟨⟨h.cut.n0,h.cut.n1⟩,h.jK,h.sm,h.fC,h.bQ,h.ok,by show x.S.ro+1+(x.S.rn-1)≤x.L.length;omega⟩
  have hr:=SM hp hm.runs hm.cF hm.CG ho
  dsimp only at hr
  have hx:=h.sm.each _ (Sf (L:=x.L) (i:=x.S.ro) (by omega)).2.2
  generalize cZ x.S.pop x.R x.H x.d=o at*
  obtain⟨f,U,d3⟩:=o
  dsimp only at*
  by_cases hf:f=0
  ·rw[if_neg (fun h=>h hf)]
   exact⟨hr.1,hx,fun _=>hr.2⟩
  ·rw[if_pos hf]
   exact⟨uN hr.1 f,hx,fun h=>absurd h hf⟩
 ·rw[if_neg jH]
  have hs:=hm.some
  unfold lx at hs
  rw[decide_eq_false jH]at hs
  cases hk:eI x.S.aB x.H with
  |none=>rw[hk]at hs;cases hs
  |some k=>
   dsimp only
   obtain⟨k1,k2⟩:=wz hk
   have hok:=hm.ok _ (wA k1)
   have fm:=hm.cF.bW (aP x.H k)
   have dh:=yY (h:=aP x.H k) hm.cF
   have gj:(bW (aP x.H k) x.d).1≠0→(bW (aP x.H k) x.d).2.1=aP x.H k:=fun e=>by
    unfold bW at e⊢
    split
    ·rfl
    ·rename_i h1;rw[if_neg h1]at e;exact absurd rfl e
   generalize bW (aP x.H k) x.d=o at*
   obtain⟨e,y,dd⟩:=o
   dsimp only at*
   have bk:x.H≠[]:=by intro h0;rw[h0]at k1;cases k1
   have hL:=h.fC.resolve_left bk
   have mk:o5 y→Inv ⟨x.S,x.L,x.R,x.H.set k y,dd⟩:=fun hy=>⟨h.cut,by rw[aqK];exact h.jK,h.sm,.inr hL,by rw[aqK];exact h.bQ,fun z hz=>by
    rcases List.mem_or_eq_of_mem_set hz with hz|rfl
    ·exact h.ok z hz
    ·exact hy,h.run⟩
   by_cases he:e=0
   ·rw[if_neg (fun h=>h he)]
    have hi:=mk (dh he).2.1
    have hr:=SM hi hm.runs fm hm.CG ho
    dsimp only at hr
    generalize cZ x.S x.R (x.H.set k y) dd=o at*
    obtain⟨f,U,d3⟩:=o
    dsimp only at*
    by_cases hf:f=0
    ·rw[if_neg (fun h=>h hf)]
     exact⟨hr.1,hok.line,fun _=>hr.2⟩
    ·rw[if_pos hf]
     exact⟨uN hr.1 f,hok.line,fun h=>absurd h hf⟩
   ·rw[if_pos he]
    have hi:=mk (by rw[gj he];exact hok)
    exact⟨uN hi e,hok.line,fun h=>absurd h he⟩
def lC(C:List Int)(k:Int):Int:=
 if C.length=0 then 32
 else if(C.getD (k.tmod C.length).toNat 0).tmod 32<0 then 0-(C.getD (k.tmod C.length).toNat 0).tmod 32+1 else(C.getD (k.tmod C.length).toNat 0).tmod 32+1
theorem SN(x:Int): -32<x.tmod 32∧x.tmod 32<32:=by
 have h1:=atL x (b:=32) (by decide)
 have h2:=atL (-x) (b:=32) (by decide)
 rw[Int.neg_tmod]at h2
 omega
theorem SO(C:List Int)(k:Int):1≤lC C k∧lC C k≤32:=by
 unfold lC
 split
 ·omega
 ·have:=SN (C.getD (k.tmod C.length).toNat 0)
  split<;>omega
theorem akq(C:List Int)(k:Int)(hC:C.length≤3000)(h0:0≤k)(h1:k<100000):
 aE av9 35 [.slice (some ⟨0,0,none⟩) C.length C.length,.int .i64 k] [.cells (aq C) 3 true] fun r q=>r=.ret (.int .i64 (lC C k))∧q=[.cells (aq C) 3 true]:=by
 refine aE.cT (n:=cn av9 35) (by kernel_rfl) ?_
 by_cases hz:C.length=0
 ·have:lC C k=32:=by unfold lC;rw[if_pos hz]
  rw[this]
  exact akg C k hz (by simp) (akf C k ⟨rfl,rfl⟩)
 ·have hp:0<C.length:=by omega
  have vJ:0≤k.tmod C.length:=Int.tmod_nonneg _ h0
  have lY:k.tmod C.length<C.length:=atL k (by omega)
  have hi:(k.tmod C.length).toNat<C.length:=by omega
  have ha:av (aq C) (0+apd (aq5 k (↑(apb C):Int))*1)=C.getD (k.tmod C.length).toNat 0:=by
   rw[show 0+apd (aq5 k (↑(apb C):Int))*1=(k.tmod C.length).toNat by omega,F3 hi,List.getD_eq_getElem?_getD,apl hi]
   rfl
  have hb:=SN (C.getD (k.tmod C.length).toNat 0)
  apply akj C k hp hC h0 h1
  all_goals first
   |(intro g
     rw[ha]at g
     have g:=of_decide_eq_true g
     refine akh C k ⟨?_,rfl⟩
     rw[ha,bI (z:=0-(C.getD (k.tmod C.length).toNat 0).tmod 32) (by omega) (by omega),bI (by omega) (by omega)]
     unfold lC
     rw[if_neg hz,if_pos g])
   |(intro g
     rw[ha]at g
     have g:=of_decide_eq_false g
     refine aki C k ⟨?_,rfl⟩
     rw[ha,bI (by omega) (by omega)]
     unfold lC
     rw[if_neg hz,if_neg g])
   |(rw[show 0+apd (aq5 k (↑(apb C):Int))*1=(k.tmod C.length).toNat by omega];exact A6 hi)
   |exact decide_eq_true vJ
   |exact dQ.2 hi
   |(simp;exact fun h=>hz (by rw[h];rfl))
   |(trace_state;simp;omega)
structure DS where
 x:MS
 o:ByteArray
 nd:Int
 er:Int
 hd:Int
 t:Nat
 w:Bool
def kT(hd z:Int):Int:=if z>hd then z else hd
def fM(s:ba)(C:List Int)(k:Nat)(t:Nat):Nat:=min s.bytes.size (t+(lC C k).toNat)
noncomputable def o9(g:DS):DS:=⟨(gV g.x).2.2,g.o++cd (gV g.x).2.1,fW (gV g.x).2.2.S,(gV g.x).1,kT g.hd (jw (gV g.x).2.2),g.t,g.w⟩
def jc(s:ba)(C:List Int)(k:Nat)(g:DS):DS:=⟨(bX g.x (s.bytes.extract g.t (fM s C k g.t))).2,g.o,fW (bX g.x (s.bytes.extract g.t (fM s C k g.t))).2.S,(bX g.x (s.bytes.extract g.t (fM s C k g.t))).1,kT g.hd (jw (bX g.x (s.bytes.extract g.t (fM s C k g.t))).2),fM s C k g.t,g.w⟩
noncomputable def pa(g:DS):DS:=⟨(gp g.x).2,g.o,fW (gp g.x).2.S,(gp g.x).1,kT g.hd (jw (gp g.x).2),g.t,true⟩
noncomputable def fN(s:ba)(C:List Int)(k:Nat)(g:DS):Option DS:=
 if g.nd= -2 then some (o9 g)else if g.t<s.bytes.size then some (jc s C k g)else if s.ended=true∧g.w=false then some (pa g)else none
noncomputable def ef(s:ba)(C:List Int):Nat→Nat→DS→DS
 |0,_,g=>g
 |m+1,k,g=>if g.er=0∧g.nd≠-1 then(match fN s C k g with|none=>g|some g'=>ef s C m (k+1) g')else g
noncomputable def mP:Nat:=Classical.choose (⟨100000,rfl⟩:∃n:Nat,n=100000)
theorem SP:mP=100000:=Classical.choose_spec (⟨100000,rfl⟩:∃n:Nat,n=100000)
def kU(x:MS):DS:=⟨x,apj,0,0,0,0,false⟩
structure jq(s:ba)(k:Nat)(g:DS):Prop where
 nd:g.nd=fW g.x.S
 t:g.t≤s.bytes.size
 o:g.o.size≤65*k
 inv:Inv g.x
 st:g.er=0→g.x.S.bq=true∨(g.x.S.bq=false∧g.x.S.more=true∧q9 g.x)∨(∃F,lB F g.x∧F+g.x.S.n.toNat=g.t∧g.w=false)
 hd:0≤g.hd∧g.hd≤320
theorem Jv{hd:Int}{z:Nat}(h:0≤hd∧hd≤320)(hz:z≤320):0≤kT hd z∧kT hd z≤320:=by unfold kT;split<;>omega
theorem jq.more{s:ba}{k:Nat}{g:DS}(h:jq s k g)(he:g.er=0)(hn:g.nd= -2):g.x.S.bq=false∧g.x.S.more=true∧q9 g.x:=by
 have h1:=h.nd
 unfold fW at h1
 rcases h.st he with h2|h2|⟨F,h2,_⟩
 ·rw[h2,if_pos rfl]at h1;omega
 ·exact h2
 ·rw[h2.bq,h2.more,if_neg (by simp),if_neg (by simp),h2.ok.iX]at h1;omega
theorem jq.o9{s:ba}{k:Nat}{g:DS}(h:jq s k g)(he:g.er=0)(hn:g.nd= -2):jq s (k+1) (o9 g):=by
 obtain⟨h1,h2,h3⟩:=h.more he hn
 obtain⟨i1,i2,i3⟩:=Ju h.inv h3 h1
 refine⟨rfl,h.t,?_,i1,fun e=>?_,Jv h.hd i1.held.2⟩
 ·show(g.o++cd (gV g.x).2.1).size≤_
  rw[ByteArray.size_append,mc]
  have:=h.o
  omega
 ·rcases i3 e with a|a
  ·exact .inl a
  ·exact .inr (.inl a)
theorem extract_size(b:ByteArray)(i j:Nat)(hj:j≤b.size):(b.extract i j).size=j-i:=by rw[ByteArray.size_extract];omega
theorem Jw(s:ba)(C:List Int)(k t:Nat)(ht:t<s.bytes.size):t<fM s C k t∧fM s C k t≤s.bytes.size∧fM s C k t≤t+32:=by
 have:=SO C k
 unfold fM
 omega
theorem jq.feed{s:ba}{k:Nat}{g:DS}(h:jq s k g)(he:g.er=0)(h1:g.nd≠-1)(hn:g.nd≠-2):∃F,lB F g.x∧F+g.x.S.n.toNat=g.t∧g.w=false:=by
 have h2:=h.nd
 unfold fW at h2
 rcases h.st he with h3|h3|h3
 ·rw[h3,if_pos rfl]at h2;exact absurd h2 h1
 ·rw[h3.1,h3.2.1,if_neg (by simp),if_pos rfl]at h2;exact absurd h2 hn
 ·exact h3
theorem jq.jc{s:ba}{C:List Int}{k:Nat}{g:DS}(h:jq s k g)(he:g.er=0)(h1:g.nd≠-1)(hn:g.nd≠-2)(ht:g.t<s.bytes.size):jq s (k+1) (jc s C k g):=by
 obtain⟨F,f1,f2,f3⟩:=h.feed he h1 hn
 obtain⟨u1,u2,u3⟩:=Jw s C k g.t ht
 have cf:=extract_size s.bytes g.t (fM s C k g.t) u2
 obtain⟨i1,i2⟩:=CL f1 (s.bytes.extract g.t (fM s C k g.t))
 unfold Go.Proofs.YtnlkkgpcikkpoaaGreat.jc
 rw[cf]at i2
 generalize bX g.x (s.bytes.extract g.t (fM s C k g.t))=r at*
 generalize fM s C k g.t=u at*
 have ho:=h.o
 refine⟨rfl,u2,by dsimp only;omega,i1,fun e=>?_,Jv h.hd i1.held.2⟩
 obtain⟨F',a,b⟩:=i2 e
 have hb:F'+r.2.S.n.toNat=u:=by
  rw[b]
  clear b a i1 i2 e
  omega
 exact .inr (.inr ⟨F',a,hb,f3⟩)
theorem jq.pa{s:ba}{k:Nat}{g:DS}(h:jq s k g)(he:g.er=0)(h1:g.nd≠-1)(hn:g.nd≠-2)(hs:s.bytes.size≤800000):jq s (k+1) (pa g):=by
 obtain⟨F,f1,f2,f3⟩:=h.feed he h1 hn
 have ht:=h.t
 obtain⟨i1,i2⟩:=Jt f1 (by omega)
 refine⟨rfl,h.t,by have:=h.o;show g.o.size≤_;omega,i1,fun e=>?_,Jv h.hd i1.held.2⟩
 rcases i2 e with a|a
 ·exact .inl a
 ·exact .inr (.inl a)
theorem Jx{S:ad}(h:S.ro=0):S.z=S:=by cases S;unfold ad.z;simp only at h;rw[h]
theorem akr(x:MS)(b:ByteArray):(bX x b).2.S.ro=x.S.ro:=by
 unfold bX
 have h1:=(wJ b.data.toList x.S []).2.2.2.2.1
 generalize cg b.data.toList x.S []=o at*
 obtain⟨e,S1,M⟩:=o
 have h2:=(zd M (S1,x.L,x.R,x.d)).ro
 dsimp only at*
 generalize cY M (S1,x.L,x.R,x.d)=o at*
 obtain⟨f,t⟩:=o
 dsimp only at*
 split
 ·exact h2.trans h1
 split
 ·exact h2.trans h1
 ·exact h2.trans h1
theorem aks(S:ad)(R:List Int)(H:List au)(d:ay):(cZ S R H d).2.1.ro=S.ro:=by unfold cZ;split<;>rfl
theorem akt{F:Nat}{x:MS}(h:lB F x)(hF:F≤800000):(gp x).2.S.ro=0:=by
 have k:=(Jr h hF).2.ro
 unfold gp
 generalize iw x.z x.H=o at*
 obtain⟨e,t,G⟩:=o
 dsimp only at*
 have hr:=aks t.1 t.2.2.1 G t.2.2.2
 generalize cZ t.1 t.2.2.1 G t.2.2.2=o at*
 obtain⟨f,U,d3⟩:=o
 dsimp only at*
 split
 ·exact k.trans h.ro
 split
 ·exact hr.trans (k.trans h.ro)
 ·exact hr.trans (k.trans h.ro)
def nv(s:ba)(C:List Int)(t:Nat×Nat×DS):aj:=
 ⟨[(0,.iface 37 (.pointer (some ⟨0,0,none⟩))),(1,.slice (some ⟨5,0,none⟩) 1 1),(2,.slice (some ⟨6,0,none⟩) C.length C.length),(6,.pointer (some ⟨7,0,none⟩)),(7,.pointer (some ⟨8,0,none⟩)),(8,.pointer (some ⟨9,0,none⟩)),(9,iZ t.1)],
  [.cells (aJ t.2.2.x.S 1 10 11 12) 89 false,.abs t.2.2.x.d,.dead,.dead,.dead,dv [s],.cells (aq C) 3 true,.cells jx 43 false,.cells (nY t.2.2.o t.2.2.nd t.2.2.er t.2.2.hd t.2.2.t) 43 false,.cells (lz t.2.2.w) 92 false,.cells (ap t.2.2.x.L) 9 false,.cells (aq t.2.2.x.R) 3 false,.cells (ak t.2.2.x.H) 114 false]⟩
def SQ(x:MS)(s:ba)(C:List Int):List ag:=[.cells (aJ x.S 1 7 8 9) 89 false,.abs x.d,.dead,.dead,.dead,dv [s],.cells (aq C) 3 true,.cells (ap x.L) 9 false,.cells (aq x.R) 3 false,.cells (ak x.H) 114 false]
def Jy(g:DS)(s:ba)(C:List Int)(r:bx)(q:List ag):Prop:=r=.ret (.agg (nY g.o g.nd g.er g.hd g.t).toArray)∧q=SQ g.x s C
theorem aku(x:ByteArray):ap0 (ap9 (apD (aqc (cut (ai (cd x)) 0 (x.size+1)) bytesOf) []))=cd x∧(asg (aqc (cut (ai (cd x)) 0 (x.size+1)) bytesOf))=true:=by
 have h:=Cj (cd x) (x.size+1) (by rw[mc];omega)
 rw[h]
 refine⟨?_,rfl⟩
 rw[Option.getD_some,QI,←mc]
 apply ByteArray.ext
 rw[arN]
 exact Array.extract_size
theorem akv(b:ByteArray)(i j:Nat)(hj:j≤b.size):([]:List ape)++apE ((j-i)*1) (aqV (0+i*1) (ai b))=ai (b.extract i j):=by
 rw[aqO,arF,arF,aqR]
 unfold ai
 rw[←List.map_drop,←List.map_take]
 congr 1
 rw[arN,Array.toList_extract]
theorem wQ{s:ba}{C:List Int}{m k:Nat}{g:DS}(h:¬(g.er=0∧g.nd≠-1)):ef s C m k g=g:=by
 cases m with
 |zero=>rfl
 |succ m=>unfold ef;rw[if_neg h]
theorem wR{s:ba}{C:List Int}{m k:Nat}{g g':DS}(h:g.er=0∧g.nd≠-1)(hs:fN s C k g=some g'):ef s C (m+1) k g=ef s C m (k+1) g':=by
 conv=>lhs;unfold ef
 rw[if_pos h,hs]
theorem SS{s:ba}{C:List Int}{m k:Nat}{g:DS}(hs:fN s C k g=none):ef s C m k g=g:=by
 cases m with
 |zero=>rfl
 |succ m=>
  unfold ef
  rw[hs]
  split<;>rfl
theorem wS{S:ad}(h:S.bq=true):fW S= -1:=by unfold fW;rw[if_pos h]
theorem zg{S:ad}(h:S.bq=false)(h2:S.more=true):fW S= -2:=by unfold fW;rw[if_neg (by rw[h];simp),if_pos h2]
theorem sO{S:ad}(h:S.bq=false)(h2:S.more=false):fW S=S.at_:=by unfold fW;rw[if_neg (by rw[h];simp),if_neg (by rw[h2];simp)]
theorem SU(x:MS)(s:ba)(C:List Int)(hx:lB 0 x)(hn:x.S.n=0)(hs:s.bytes.size≤4500)(hC:C.length≤3000):
 aE av9 13 [.iface 37 (.pointer (some ⟨0,0,none⟩)),.slice (some ⟨5,0,none⟩) 1 1,.slice (some ⟨6,0,none⟩) C.length C.length] (aO x.S x.L x.R x.H x.d++[dv [s],.cells (aq C) 3 true])
  (Jy (ef s C mP 0 (kU x)) s C):=by
 have pH:=aU x.H
 refine aE.cT (n:=cn av9 13) (by kernel_rfl) ?_
 refine an.move (d':=⟨[(0,.iface 37 (.pointer (some ⟨0,0,none⟩))),(1,.slice (some ⟨5,0,none⟩) 1 1),(2,.slice (some ⟨6,0,none⟩) C.length C.length)],SQ x s C⟩) [some 0,some 1,none,none,none,some 5,some 6,some 2,some 3,some 4] [6,2,3,4] (q:=[aq C,ap x.L,aq x.R,ak x.H]) (by kernel_rfl) (aC (by simp) (aC (by simp) (aC (by simp) (aC pH bc)))) (by kernel_rfl) (by kernel_rfl) ?_
 apply ajX x.S x.L x.R x.H x.d s C pH hx.bq hx.more hx.ok.iX
 case aR=>simp
 case be=>simp
 case bB=>simp
 case br=>exact pH
 case l4=>
  have ca:=hx.ok.iX
  refine an.eU 4 0 (by kernel_rfl) ?_
  have e0:Jk x.S x.L x.R x.H x.d s C=nv s C (0,mP,kU x):=by
   unfold Jk nv
   rw[ca]
   rfl
  rw[e0]
  have Q5:=SP
  have CM:jq s 0 (kU x):=⟨by show(0:Int)=fW x.S;rw[sO hx.bq hx.more,ca],ap7 _,apI _,hx.inv,fun _=>.inr (.inr ⟨0,hx,by show 0+x.S.n.toNat=0;rw[hn];rfl,rfl⟩),by show(0:Int)≤0∧(0:Int)≤320;omega⟩
  refine an.fS (nv s C) (fun t=>t.2.1) (fun t=>t.2.1+t.1=100000∧jq s t.1 t.2.2∧ef s C t.2.1 t.1 t.2.2=ef s C mP 0 (kU x)) (0,mP,kU x) (by kernel_rfl) ⟨by dsimp only;omega,CM,rfl⟩ ?_
  clear CM e0 hx ca hn pH
  rintro⟨k,m,g⟩ ⟨h1,h2,h3⟩
  dsimp only at h1 h2 h3
  have pH:=aU g.x.H
  have fin:∀{n:Nat} {d:aj},n=cn av9 13→ef s C m k g=g→d=Jl g.x.S g.x.L g.x.R g.x.H g.x.d s C g.o g.nd g.er g.hd g.t g.w k→QL (nv s C) (fun t=>t.2.1) (fun t=>t.2.1+t.1=100000∧jq s t.1 t.2.2∧ef s C t.2.1 t.1 t.2.2=ef s C mP 0 (kU x)) (k,m,g)
   (QB 0 (fun d'=>an av9 n 7 (zc.drop (4+1)) d' (aF av9 13 n 7 (Jy (ef s C mP 0 (kU x)) s C))) (aF av9 13 n 7 (Jy (ef s C mP 0 (kU x)) s C))) (.exit 0) d:=fun zE cP hd=>by
   subst zE hd
   rw[cP]at h3
   rw[←h3]
   with_reducible (repeat first|refine QL.ret ?_|refine QL.exit ?_|refine QB.ret ?_|refine QB.cp ?_|refine QB.normal ?_|refine QB.cy (by rfl) ?_)
   apply ake g.x.S g.x.L g.x.R g.x.H g.x.d s C g.o g.nd g.er g.hd g.t pH
   ·exact akc g.x.S g.x.L g.x.R g.x.H g.x.d s C g.o g.nd g.er g.hd g.t ⟨rfl,rfl⟩
  apply aj1 g.x.S g.x.L g.x.R g.x.H g.x.d s C g.o g.nd g.er g.hd g.t g.w k pH
  case l7=>
   intro gk
   have gk:=of_decide_eq_false gk
   have hm:m=0:=by omega
   exact fin rfl (by rw[hm];rfl) rfl
  case l6=>
   intro gk ge
   have ge:¬g.er=0:=by simpa using ge
   exact fin rfl (wQ fun h=>ge h.1) rfl
  case l5=>
   intro gk ge gn
   have gn:g.nd= -1:=by simpa using gn
   exact fin rfl (wQ fun h=>h.2 gn) rfl
  case l4=>
   intro gk ge gn
   have gk:=of_decide_eq_true gk
   have ge:g.er=0:=by simpa using ge
   have gn:g.nd≠-1:=by simpa using gn
   obtain⟨m,rfl⟩:∃m',m=m'+1:=⟨m-1,by omega⟩
   have wk:apc apr ((k:Int)+1)=(k:Int)+1:=bI (by omega) (by omega)
   by_cases cq:g.nd= -2
   ·obtain⟨o1,o2,o3⟩:=h2.more ge cq
    have cP:fN s C k g=some (o9 g):=by unfold fN;rw[if_pos cq]
    have hD:=h2.o9 ge cq
    rw[wR ⟨ge,gn⟩ cP]at h3
    have sN:=aju g.x o3 o1 o2
    obtain⟨i1,i2,i3⟩:=Ju h2.inv o3 o1
    have jb:=Ji (gV g.x).2.2 i1.held.1
    have aoD:=h2.o
    unfold Go.Proofs.YtnlkkgpcikkpoaaGreat.o9 at hD h3
    clear cP i3 o1 o2 o3
    generalize gV g.x=r at*
    obtain⟨e,x1,y⟩:=r
    dsimp only at*
    obtain⟨zh,SW⟩:=aku x1
    have Q7:=mc x1
    have w1:apc apr (0+((x1.size+1:Nat):Int))=((x1.size+1:Nat):Int):=by rw[bI (by omega) (by omega)];omega
    unfold wO
    rw[cq,ge]
    apply aj6 g.x.S g.x.L g.x.R g.x.H g.x.d s C g.o g.hd g.t g.w y.S y.L y.R y.H y.d e (jw y) x1 k pH (aU _) sN jb wk i2
    case n1=>intro _;exact SW
    case n8=>intro _;exact SW
    case n2=>intro _;rw[zh];exact decide_eq_true (by omega)
    case n9=>intro _;rw[zh];exact decide_eq_true (by omega)
    case l5=>intro gw;rw[w1]at gw;have gw:=of_decide_eq_true gw;omega
    case l6=>intro gw;rw[w1]at gw;have gw:=of_decide_eq_true gw;omega
    case l7=>intro gw;rw[w1]at gw;have gw:=of_decide_eq_true gw;omega
    case iu=>
     intro _ go
     refine QL.to (k+1,m,⟨y,g.o++cd x1,fW y.S,e,kT g.hd (jw y),g.t,g.w⟩) ⟨by dsimp only;omega,hD,h3⟩ (by dsimp only;omega) ?_
     unfold Sr nv
     rw[zh,fA (by omega),wS go]
     rfl
    case jY=>
     intro _ go gm
     refine QL.to (k+1,m,⟨y,g.o++cd x1,fW y.S,e,kT g.hd (jw y),g.t,g.w⟩) ⟨by dsimp only;omega,hD,h3⟩ (by dsimp only;omega) ?_
     unfold Ss nv
     rw[zh,fA (by omega),zg go gm]
     rfl
    case nt=>
     intro _ go gm
     refine QL.to (k+1,m,⟨y,g.o++cd x1,fW y.S,e,kT g.hd (jw y),g.t,g.w⟩) ⟨by dsimp only;omega,hD,h3⟩ (by dsimp only;omega) ?_
     unfold Su nv
     rw[zh,fA (by omega),sO go gm]
     rfl
   ·obtain⟨F,f1,f2,f3⟩:=h2.feed ge gn cq
    have cX:g.nd=0:=by rw[h2.nd,sO f1.bq f1.more];exact f1.ok.iX
    have hz:=Jx f1.ro
    have ra:=h2.t
    by_cases ht:g.t<s.bytes.size
    ·have cP:fN s C k g=some (jc s C k g):=by unfold fN;rw[if_neg cq,if_pos ht]
     have hD:=h2.jc (C:=C) ge gn cq ht
     rw[wR ⟨ge,gn⟩ cP]at h3
     obtain⟨u1,u2,u3⟩:=Jw s C k g.t ht
     have DZ:=extract_size s.bytes g.t (fM s C k g.t) u2
     have nZ:=ajp F g.x (s.bytes.extract g.t (fM s C k g.t)) f1.ok f1.bq f1.more (by omega) (by omega)
     have dh:=akr g.x (s.bytes.extract g.t (fM s C k g.t))
     rw[f1.ro]at dh
     rw[hz,Jx dh]at nZ
     obtain⟨i1,i2⟩:=CL f1 (s.bytes.extract g.t (fM s C k g.t))
     have jb:=Ji (bX g.x (s.bytes.extract g.t (fM s C k g.t))).2 i1.held.1
     have kx:=SO C k
     have o8:=akq C k hC (by omega) (by omega)
     have hw:apc apr ((g.t:Int)+lC C k)=(g.t:Int)+lC C k:=bI (by omega) (by omega)
     have hT:(if apc apr ((g.t:Int)+lC C k)<(↑(apk (ba.bytes (apD [s][0]? dD))):Int)then apc apr ((g.t:Int)+lC C k)else(↑(apk (ba.bytes (apD [s][0]? dD))):Int))=((fM s C k g.t:Nat):Int):=by
      rw[hw]
      show(if(g.t:Int)+lC C k<(s.bytes.size:Int)then(g.t:Int)+lC C k else(s.bytes.size:Int))=_
      unfold fM
      split<;>omega
     unfold Go.Proofs.YtnlkkgpcikkpoaaGreat.jc at hD h3
     clear cP i2 dh
     generalize hc:s.bytes.extract g.t (fM s C k g.t)=c at*
     generalize fM s C k g.t=u at*
     generalize bX g.x c=r at*
     obtain⟨e,y⟩:=r
     dsimp only at*
     unfold wO
     rw[cX,ge]
     apply aj8 g.x.S g.x.L g.x.R g.x.H g.x.d s C g.o g.hd g.t g.w y.S y.L y.R y.H y.d e (jw y) c k (lC C k) pH (aU _) nZ jb o8 wk (by omega) (by omega) hs kx.1 kx.2 hw
     case n1=>exact tX (oL (A5 (aH _) _) _)
     case n2=>
      rw[hT]
      refine fo ?_ ?_
      ·rw[DZ];simp only[arI,aqR]
      ·have:=akv s.bytes g.t u u2
       simp only[arI]
       show[_,_,_,_,_,ag.cells ([]++apE ((u-g.t)*1) (aqV (0+g.t*1) (ai s.bytes))) _ _]=_
       rw[this,hc]
       rfl
     case l5=>
      intro go
      refine QL.to (k+1,m,⟨y,g.o,fW y.S,e,kT g.hd (jw y),u,g.w⟩) ⟨by dsimp only;omega,hD,h3⟩ (by dsimp only;omega) ?_
      unfold Sv nv
      rw[hT,fA (by omega),wS go]
      rfl
     case l6=>
      intro go gm
      refine QL.to (k+1,m,⟨y,g.o,fW y.S,e,kT g.hd (jw y),u,g.w⟩) ⟨by dsimp only;omega,hD,h3⟩ (by dsimp only;omega) ?_
      unfold Sw nv
      rw[hT,fA (by omega),zg go gm]
      rfl
     case l7=>
      intro go gm
      refine QL.to (k+1,m,⟨y,g.o,fW y.S,e,kT g.hd (jw y),u,g.w⟩) ⟨by dsimp only;omega,hD,h3⟩ (by dsimp only;omega) ?_
      unfold Sx nv
      rw[hT,fA (by omega),sO go gm]
      rfl
    ·have ny:g.t=s.bytes.size:=by omega
     by_cases kj:s.ended=true
     ·have cP:fN s C k g=some (pa g):=by unfold fN;rw[if_neg cq,if_neg ht,if_pos ⟨kj,f3⟩]
      have hD:=h2.pa ge gn cq (by omega)
      rw[wR ⟨ge,gn⟩ cP]at h3
      have hF:F≤800000:=by omega
      have wL:=ajs F g.x hF f1.ok (by rw[f1.none];exact ap7 _) f1.bq f1.more (by have:(iw g.x.z g.x.H).2.2.length≤3:=(Jr f1 hF).1.bQ;omega)
      rw[hz,Jx (akt f1 hF)]at wL
      obtain⟨i1,i2⟩:=Jt f1 hF
      have jb:=Ji (gp g.x).2 i1.held.1
      unfold Go.Proofs.YtnlkkgpcikkpoaaGreat.pa at hD h3
      clear cP i2
      generalize gp g.x=r at*
      obtain⟨e,y⟩:=r
      dsimp only at*
      unfold wO
      rw[cX,ge,ny,f3]
      rw[ny]at h3 hD
      apply aka g.x.S g.x.L g.x.R g.x.H g.x.d s C g.o g.hd y.S y.L y.R y.H y.d e (jw y) k pH (aU _) wL jb wk kj
      case n0=>exact fo rfl rfl
      case n1=>exact fo rfl rfl
      case aR=>simp
      case l3=>
       intro go
       refine QL.to (k+1,m,⟨y,g.o,fW y.S,e,kT g.hd (jw y),s.bytes.size,true⟩) ⟨by dsimp only;omega,hD,h3⟩ (by dsimp only;omega) ?_
       unfold Sy nv
       rw[fA (by omega),wS go]
       rfl
      case l4=>
       intro go gm
       refine QL.to (k+1,m,⟨y,g.o,fW y.S,e,kT g.hd (jw y),s.bytes.size,true⟩) ⟨by dsimp only;omega,hD,h3⟩ (by dsimp only;omega) ?_
       unfold Sz nv
       rw[fA (by omega),zg go gm]
       rfl
      case l5=>
       intro go gm
       refine QL.to (k+1,m,⟨y,g.o,fW y.S,e,kT g.hd (jw y),s.bytes.size,true⟩) ⟨by dsimp only;omega,hD,h3⟩ (by dsimp only;omega) ?_
       unfold SA nv
       rw[fA (by omega),sO go gm]
       rfl
     ·have cP:fN s C k g=none:=by unfold fN;rw[if_neg cq,if_neg ht,if_neg (fun h=>kj h.1)]
      have xK:s.ended=false:=by simpa using kj
      have LI:wO g.x.S g.x.L g.x.R g.x.H g.x.d s C g.o g.nd g.er g.hd g.t g.w k=Jm g.x.S g.x.L g.x.R g.x.H g.x.d s C g.o g.hd g.w k:=by
       unfold wO Jm
       rw[cX,ge,ny]
      rw[LI]
      apply akb g.x.S g.x.L g.x.R g.x.H g.x.d s C g.o g.hd g.w k pH xK
      case aR=>simp
      case be=>simp
      case bB=>simp
      case br=>exact pH
      case l4=>exact fin rfl (SS cP) (by unfold SB Jl;rw[cX,ge,ny])
noncomputable section
noncomputable def CN:List Code:=aY (dz av9 8)
open Tree renaming aN→mN,dj→mF,eT→mL
end
structure akw(A B:ByteArray)(l:List ba)(sc:List (Int×Int))(C:List Int):Prop where
 az:A.size≤1000
 bz:B.size≤1000
 bQ:l.length≤8
 SX:sc.length≤100
 each:∀s∈l,s.bytes.size≤4500
 zi:C.length≤3000
def sP(f:Bool):ad:=⟨0,false,false,fun _=>0,0,false,f,0,0,0,0,0,false,0,false⟩
def kV(sc:List (Int×Int)):ay:=⟨sc,[],0,0,0⟩
def sQ(f:Bool)(sc:List (Int×Int)):MS:=⟨sP f,[],[],[],kV sc⟩
theorem SY{sc:List (Int×Int)}(h:sc.length≤1000000):cj (kV sc):=⟨h,by show(0:Nat)≤64;omega,(fun p hp=>by cases hp),List.nodup_nil,(fun p hp=>by cases hp),by show apc .i64 0=0;decide⟩
theorem SZ(f:Bool){sc:List (Int×Int)}(h:sc.length≤1000000):lB 0 (sQ f sc):=
 ⟨⟨⟨⟨rfl,rfl,SY h,ap7 _,rfl,ap7 _⟩,(fun r hr=>by cases hr),apI _⟩,⟨Int.le_refl _,by show(0:Int)≤64;omega⟩,rfl,rfl,rfl⟩,⟨(fun x hx=>by cases hx),ap7 _⟩,rfl,rfl,rfl,rfl⟩
noncomputable section
open Tree renaming aN→mN,dj→mF,eT→mL,fz→mQ,dB→mR,fH→mE
noncomputable abbrev Jz:List Code:=(aY (inner (aY (inner (CN.drop 4)))))
def S4:Nat→Bool→Bool→Tree→Tree
 |0,_,_,t=>t
 |n+1,d,b,t=>.cD d b (S4 n d b t)
theorem uO{R:bd→aj→Prop}{c v:Bool}{t:Tree}(n:Nat)(h1:c=v)(h2:t.ok R):(S4 n c v t).ok R:=by
 induction n with
 |zero=>exact h2
 |succ n ih=>exact⟨h1,ih⟩
abbrev oc:=fun A B l (sc:List (Int×Int)) C D=>([.cells (ai A) 5 true,.cells (ai B) 5 true,dv l,.cells (aD sc) 77 true,ab ([ah 5 (apb C),ah 6 (apb D)]) 25,.cells (aq C) 3 true,.cells (aq D) 3 true]:List ag)
noncomputable abbrev JA(kd pn:Int)(A B:ByteArray)(l:List ba)(sc:List (Int×Int))(C D:List Int):aj:=⟨[(8,.bool true)],oc A B l sc C D⟩
theorem akx(kd pn:Int)(A B l)(sc:List (Int×Int))(C D){Q:bg}(hq:Q (.ret (.bool true)) (JA kd pn A B l sc C D).objs):aF av9 8 56 7 Q .ret (JA kd pn A B l sc C D):=aF.ret (vs:=[.bool true]) (l:=[]) (bs:=[0,1,2,3,4,5,6]) (pl:=[0,1,3,5,6]) (q:=[ai A,ai B,aD sc,aq C,aq D]) (fun u=>by kernel_rfl) (by kernel_rfl) (aC (aH A) (aC (aH B) (aC (aW sc) (aC (aG C) (aC (aG D) bc))))) hq
noncomputable abbrev JB(kd pn:Int)(A B:ByteArray)(l:List ba)(sc:List (Int×Int))(C D:List Int):aj:=⟨[(8,.bool true)],oc A B l sc C D⟩
theorem aky(kd pn:Int)(A B l)(sc:List (Int×Int))(C D){Q:bg}(hq:Q (.ret (.bool true)) (JB kd pn A B l sc C D).objs):aF av9 8 56 7 Q .ret (JB kd pn A B l sc C D):=aF.ret (vs:=[.bool true]) (l:=[]) (bs:=[0,1,2,3,4,5,6]) (pl:=[0,1,3,5,6]) (q:=[ai A,ai B,aD sc,aq C,aq D]) (fun u=>by kernel_rfl) (by kernel_rfl) (aC (aH A) (aC (aH B) (aC (aW sc) (aC (aG C) (aC (aG D) bc))))) hq
noncomputable abbrev JC(kd pn:Int)(A B:ByteArray)(l:List ba)(sc:List (Int×Int))(C D:List Int):aj:=⟨[(8,.bool true)],oc A B l sc C D⟩
theorem akz(kd pn:Int)(A B l)(sc:List (Int×Int))(C D){Q:bg}(hq:Q (.ret (.bool true)) (JC kd pn A B l sc C D).objs):aF av9 8 56 7 Q .ret (JC kd pn A B l sc C D):=aF.ret (vs:=[.bool true]) (l:=[]) (bs:=[0,1,2,3,4,5,6]) (pl:=[0,1,3,5,6]) (q:=[ai A,ai B,aD sc,aq C,aq D]) (fun u=>by kernel_rfl) (by kernel_rfl) (aC (aH A) (aC (aH B) (aC (aW sc) (aC (aG C) (aC (aG D) bc))))) hq
noncomputable abbrev JD(kd pn:Int)(A B:ByteArray)(l:List ba)(sc:List (Int×Int))(C D:List Int):aj:=⟨[(8,.bool true)],oc A B l sc C D⟩
theorem akA(kd pn:Int)(A B l)(sc:List (Int×Int))(C D){Q:bg}(hq:Q (.ret (.bool true)) (JD kd pn A B l sc C D).objs):aF av9 8 56 7 Q .ret (JD kd pn A B l sc C D):=aF.ret (vs:=[.bool true]) (l:=[]) (bs:=[0,1,2,3,4,5,6]) (pl:=[0,1,3,5,6]) (q:=[ai A,ai B,aD sc,aq C,aq D]) (fun u=>by kernel_rfl) (by kernel_rfl) (aC (aH A) (aC (aH B) (aC (aW sc) (aC (aG C) (aC (aG D) bc))))) hq
abbrev akB:=fun(kd pn:Int) A B l (sc:List (Int×Int)) C D=>(⟨[(1,ah 2 (apb l)),(3,ah 4 2),(9,aa 0)],oc A B l sc C D⟩:aj)
theorem akC(kd pn:Int)(A B:ByteArray)(l)(sc:List (Int×Int))(C D){Q:aQ}(l5:(decide ((A.size:Int)>1000))=true→Q .ret (JA kd pn A B l sc C D))(l6:(decide ((A.size:Int)>1000))=false→(decide ((B.size:Int)>1000))=true→Q .ret (JB kd pn A B l sc C D))(l7:(decide ((A.size:Int)>1000))=false→(decide ((B.size:Int)>1000))=false→(decide ((↑(apb l):Int)>8))=true→Q .ret (JC kd pn A B l sc C D))(l8:(decide ((A.size:Int)>1000))=false→(decide ((B.size:Int)>1000))=false→(decide ((↑(apb l):Int)>8))=false→(decide ((↑(apb sc):Int)>100))=true→Q .ret (JD kd pn A B l sc C D))(l9:(decide ((A.size:Int)>1000))=false→(decide ((B.size:Int)>1000))=false→(decide ((↑(apb l):Int)>8))=false→(decide ((↑(apb sc):Int)>100))=false→an av9 56 7 (CN.drop 4) (akB kd pn A B l sc C D) Q):an av9 56 7 CN ⟨[(0,.agg #[aa kd,aa pn,ah 0 A.size,ah 1 B.size]),(1,ah 2 (apb l)),(2,ah 3 (apb sc)),(3,ah 4 2)],[.cells (ai A) 5 true,.cells (ai B) 5 true,dv l,.cells (aD sc) 77 true,ab [ah 5 (apb C),ah 6 (apb D)] 25,.cells (aq C) 3 true,.cells (aq D) 3 true]⟩ Q:=
 aS bo 4 (.fork 2 (aA [1,1,1,1] (.leaf [8] [0,1,2,3,4,5,6] [0,1,3,5,6])) (aA [0,2,2,0] (.fork 0 (aA [1,1,1] (.leaf [8] [0,1,2,3,4,5,6] [0,1,3,5,6])) (aA [0,2,0] (.fork 0 (aA [1,1,1] (.leaf [8] [0,1,2,3,4,5,6] [0,1,3,5,6])) (aA [0,2,0] (.fork 0 (.leaf [8] [0,1,2,3,4,5,6] [0,1,3,5,6]) (.leaf [1,3,9] [0,1,2,3,4,5,6] [0,1,3,5,6])))))))) (fun u=>by kernel_rfl) (mF (c:=decide ((A.size:Int)>1000)) (fun h0=>(uO 4 h0 (mN (aH A) (mN (aH B) (mN (aW sc) (mN (aG C) (mN (aG D) (mR (l5 h0))))))))) (fun h0=>(uO 4 h0 (mF (c:=decide ((B.size:Int)>1000)) (fun h1=>(uO 3 h1 (mN (aH A) (mN (aH B) (mN (aW sc) (mN (aG C) (mN (aG D) (mR (l6 h0 h1))))))))) (fun h1=>(uO 3 h1 (mF (c:=decide ((↑(apb l):Int)>8)) (fun h2=>(uO 3 h2 (mN (aH A) (mN (aH B) (mN (aW sc) (mN (aG C) (mN (aG D) (mR (l7 h0 h1 h2))))))))) (fun h2=>(uO 3 h2 (mF (c:=decide ((↑(apb sc):Int)>100)) (fun h3=>(mN (aH A) (mN (aH B) (mN (aW sc) (mN (aG C) (mN (aG D) (mR (l8 h0 h1 h2 h3)))))))) (fun h3=>(mN (aH A) (mN (aH B) (mN (aW sc) (mN (aG C) (mN (aG D) (mQ (l9 h0 h1 h2 h3))))))))))))))))))
abbrev akD:=fun(kd pn:Int) A B l (sc:List (Int×Int)) C D (i:Nat)=>(⟨[(1,ah 2 (apb l)),(3,ah 4 2),(9,aa i)],oc A B l sc C D⟩:aj)
abbrev akE:=fun(kd pn:Int) A B l (sc:List (Int×Int)) C D (i:Nat)=>(⟨[(3,ah 4 2)],oc A B l sc C D⟩:aj)
theorem akF(kd pn:Int)(A B l)(sc:List (Int×Int))(C D)(i:Nat){Q:aQ}(l5:(decide ((↑i:Int)<(↑(apb l):Int)))=true→an av9 56 7 (Jz.drop 2) (akD kd pn A B l sc C D i) Q)(l6:(decide ((↑i:Int)<(↑(apb l):Int)))=false→Q (.exit 0) (akE kd pn A B l sc C D i)):an av9 56 7 Jz ⟨[(1,ah 2 (apb l)),(3,ah 4 2),(9,aa i)],[.cells (ai A) 5 true,.cells (ai B) 5 true,dv l,.cells (aD sc) 77 true,ab [ah 5 (apb C),ah 6 (apb D)] 25,.cells (aq C) 3 true,.cells (aq D) 3 true]⟩ Q:=
 aS bo 2 (.fork 1 (.leaf [1,3,9] [0,1,2,3,4,5,6] [0,1,3,5,6]) (.leaf [3] [0,1,2,3,4,5,6] [0,1,3,5,6])) (fun u=>by kernel_rfl) (mF (c:=decide ((↑i:Int)<(↑(apb l):Int))) (fun h0=>(mN (aH A) (mN (aH B) (mN (aW sc) (mN (aG C) (mN (aG D) (mQ (l5 h0)))))))) (fun h0=>(mN (aH A) (mN (aH B) (mN (aW sc) (mN (aG C) (mN (aG D) (mE 0 (l6 h0)))))))))
noncomputable abbrev JE(kd pn:Int)(A B:ByteArray)(l:List ba)(sc:List (Int×Int))(C D:List Int)(i:Nat):aj:=⟨[(8,.bool true)],oc A B l sc C D⟩
theorem akG(kd pn:Int)(A B l)(sc:List (Int×Int))(C D)(i:Nat){Q:bg}(hq:Q (.ret (.bool true)) (JE kd pn A B l sc C D i).objs):aF av9 8 56 7 Q .ret (JE kd pn A B l sc C D i):=aF.ret (vs:=[.bool true]) (l:=[]) (bs:=[0,1,2,3,4,5,6]) (pl:=[0,1,3,5,6]) (q:=[ai A,ai B,aD sc,aq C,aq D]) (fun u=>by kernel_rfl) (by kernel_rfl) (aC (aH A) (aC (aH B) (aC (aW sc) (aC (aG C) (aC (aG D) bc))))) hq
abbrev S5:=fun(kd pn:Int) A B l (sc:List (Int×Int)) C D (i:Nat)=>(⟨[(1,ah 2 (apb l)),(3,ah 4 2),(9,.int .i64 (apc .i64 ((↑i:Int)+1)))],oc A B l sc C D⟩:aj)
theorem akH(kd pn:Int)(A B l)(sc:List (Int×Int))(C D)(i:Nat)(h0:i<(apb l))(h1:(apb l)≤8){Q:aQ}(l5:(decide ((↑(apk (ba.bytes (apD l[apd (↑i:Int)]? dD))):Int)>4500))=true→Q .ret (JE kd pn A B l sc C D i))(l6:(decide ((↑(apk (ba.bytes (apD l[apd (↑i:Int)]? dD))):Int)>4500))=false→Q .normal (S5 kd pn A B l sc C D i)):an av9 56 7 (Jz.drop 2) ⟨[(1,ah 2 (apb l)),(3,ah 4 2),(9,aa i)],[.cells (ai A) 5 true,.cells (ai B) 5 true,dv l,.cells (aD sc) 77 true,ab [ah 5 (apb C),ah 6 (apb D)] 25,.cells (aq C) 3 true,.cells (aq D) 3 true]⟩ Q:=
 aS bo 1000 (aA [3,1] (.fork 2 (.leaf [8] [0,1,2,3,4,5,6] [0,1,3,5,6]) (.leaf [1,3,9] [0,1,2,3,4,5,6] [0,1,3,5,6]))) (fun u=>by kernel_rfl) (uO 2 (show(Nat.blt (apd (↑i:Int)) (apb l))=true by simp at h0 h1⊢ <;>omega) (mF (c:=decide ((↑(apk (ba.bytes (apD l[apd (↑i:Int)]? dD))):Int)>4500)) (fun h0=>(mN (aH A) (mN (aH B) (mN (aW sc) (mN (aG C) (mN (aG D) (mR (l5 h0)))))))) (fun h0=>(mN (aH A) (mN (aH B) (mN (aW sc) (mN (aG C) (mN (aG D) (mQ (an.done (by kernel_rfl) (l6 h0)))))))))))
noncomputable abbrev JF(kd pn:Int)(A B:ByteArray)(l:List ba)(sc:List (Int×Int))(C D:List Int):aj:=⟨[(8,.bool true)],oc A B l sc C D⟩
theorem akI(kd pn:Int)(A B l)(sc:List (Int×Int))(C D){Q:bg}(hq:Q (.ret (.bool true)) (JF kd pn A B l sc C D).objs):aF av9 8 56 7 Q .ret (JF kd pn A B l sc C D):=aF.ret (vs:=[.bool true]) (l:=[]) (bs:=[0,1,2,3,4,5,6]) (pl:=[0,1,3,5,6]) (q:=[ai A,ai B,aD sc,aq C,aq D]) (fun u=>by kernel_rfl) (by kernel_rfl) (aC (aH A) (aC (aH B) (aC (aW sc) (aC (aG C) (aC (aG D) bc))))) hq
noncomputable abbrev JG(kd pn:Int)(A B:ByteArray)(l:List ba)(sc:List (Int×Int))(C D:List Int):aj:=⟨[(8,.bool true)],oc A B l sc C D⟩
theorem akJ(kd pn:Int)(A B l)(sc:List (Int×Int))(C D){Q:bg}(hq:Q (.ret (.bool true)) (JG kd pn A B l sc C D).objs):aF av9 8 56 7 Q .ret (JG kd pn A B l sc C D):=aF.ret (vs:=[.bool true]) (l:=[]) (bs:=[0,1,2,3,4,5,6]) (pl:=[0,1,3,5,6]) (q:=[ai A,ai B,aD sc,aq C,aq D]) (fun u=>by kernel_rfl) (by kernel_rfl) (aC (aH A) (aC (aH B) (aC (aW sc) (aC (aG C) (aC (aG D) bc))))) hq
noncomputable abbrev JH(kd pn:Int)(A B:ByteArray)(l:List ba)(sc:List (Int×Int))(C D:List Int):aj:=⟨[(8,.bool false)],oc A B l sc C D⟩
theorem akK(kd pn:Int)(A B l)(sc:List (Int×Int))(C D){Q:bg}(hq:Q (.ret (.bool false)) (JH kd pn A B l sc C D).objs):aF av9 8 56 7 Q .ret (JH kd pn A B l sc C D):=aF.ret (vs:=[.bool false]) (l:=[]) (bs:=[0,1,2,3,4,5,6]) (pl:=[0,1,3,5,6]) (q:=[ai A,ai B,aD sc,aq C,aq D]) (fun u=>by kernel_rfl) (by kernel_rfl) (aC (aH A) (aC (aH B) (aC (aW sc) (aC (aG C) (aC (aG D) bc))))) hq
theorem akL(kd pn:Int)(A B l)(sc:List (Int×Int))(C D){Q:aQ}(l5:(decide ((↑(apb C):Int)>3000))=true→Q .ret (JF kd pn A B l sc C D))(l6:(decide ((↑(apb C):Int)>3000))=false→(decide ((↑(apb D):Int)>3000))=true→Q .ret (JG kd pn A B l sc C D))(l7:(decide ((↑(apb C):Int)>3000))=false→(decide ((↑(apb D):Int)>3000))=false→Q .ret (JH kd pn A B l sc C D)):an av9 56 7 (CN.drop 5) ⟨[(3,ah 4 2)],[.cells (ai A) 5 true,.cells (ai B) 5 true,dv l,.cells (aD sc) 77 true,ab [ah 5 (apb C),ah 6 (apb D)] 25,.cells (aq C) 3 true,.cells (aq D) 3 true]⟩ Q:=
 aS bo 1000 (.fork 5 (.leaf [8] [0,1,2,3,4,5,6] [0,1,3,5,6]) (.fork 5 (.leaf [8] [0,1,2,3,4,5,6] [0,1,3,5,6]) (.leaf [8] [0,1,2,3,4,5,6] [0,1,3,5,6]))) (fun u=>by kernel_rfl) (mF (c:=decide ((↑(apb C):Int)>3000)) (fun h0=>(mN (aH A) (mN (aH B) (mN (aW sc) (mN (aG C) (mN (aG D) (mR (l5 h0)))))))) (fun h0=>(mF (c:=decide ((↑(apb D):Int)>3000)) (fun h1=>(mN (aH A) (mN (aH B) (mN (aW sc) (mN (aG C) (mN (aG D) (mR (l6 h0 h1)))))))) (fun h1=>(mN (aH A) (mN (aH B) (mN (aW sc) (mN (aG C) (mN (aG D) (mR (l7 h0 h1)))))))))))
end
structure zj(A B:ByteArray)(l:List ba)(sc:List (Int×Int))(C D:List Int):Prop where
 one:akw A B l sc C
 zi:D.length≤3000
noncomputable def gW(A B:ByteArray)(l:List ba)(sc:List (Int×Int))(C D:List Int):Bool:= !@decide (zj A B l sc C D) (apF _)
theorem sR{A B:ByteArray}{l:List ba}{sc:List (Int×Int)}{C D:List Int}(h:¬zj A B l sc C D):gW A B l sc C D=true:=by unfold gW;rw[@decide_eq_false _ (apF _) h];rfl
theorem akM{A B:ByteArray}{l:List ba}{sc:List (Int×Int)}{C D:List Int}(h:zj A B l sc C D):gW A B l sc C D=false:=by unfold gW;rw[@decide_eq_true _ (apF _) h];rfl
theorem S6{A B:ByteArray}{l:List ba}{sc:List (Int×Int)}{C D:List Int}(h:gW A B l sc C D=false):zj A B l sc C D:=by
 by_cases hl:zj A B l sc C D
 ·exact hl
 ·rw[sR hl]at h;cases h
abbrev mS(A B:ByteArray)(l:List ba)(sc:List (Int×Int))(C D:List Int):List ag:=[.cells (ai A) 5 true,.cells (ai B) 5 true,dv l,.cells (aD sc) 77 true,.cells [.slice (some ⟨5,0,none⟩) C.length C.length,.slice (some ⟨6,0,none⟩) D.length D.length] 25 false,.cells (aq C) 3 true,.cells (aq D) 3 true]
theorem JI(kd pn:Int)(A B:ByteArray)(l:List ba)(sc:List (Int×Int))(C D:List Int):
 aE av9 8 [.agg #[.int .i64 kd,.int .i64 pn,.slice (some ⟨0,0,none⟩) A.size A.size,.slice (some ⟨1,0,none⟩) B.size B.size],.slice (some ⟨2,0,none⟩) l.length l.length,.slice (some ⟨3,0,none⟩) sc.length sc.length,.slice (some ⟨4,0,none⟩) 2 2] (mS A B l sc C D)
  fun r q=>r=.ret (.bool (gW A B l sc C D))∧q=mS A B l sc C D:=by
 have pp:=aW sc
 refine aE.cT (n:=cn av9 8) (by kernel_rfl) ?_
 apply akC kd pn A B l sc C D
 case l5=>intro g;have g:=of_decide_eq_true g;rw[sR fun h=>by have:=h.one.az;omega];exact akx kd pn A B l sc C D ⟨rfl,rfl⟩
 case l6=>intro _ g;have g:=of_decide_eq_true g;rw[sR fun h=>by have:=h.one.bz;omega];exact aky kd pn A B l sc C D ⟨rfl,rfl⟩
 case l7=>intro _ _ g;have g:=of_decide_eq_true g;rw[sR fun h=>by have:=h.one.bQ;omega];exact akz kd pn A B l sc C D ⟨rfl,rfl⟩
 case l8=>intro _ _ _ g;have g:=of_decide_eq_true g;rw[sR fun h=>by have:=h.one.SX;omega];exact akA kd pn A B l sc C D ⟨rfl,rfl⟩
 case l9=>
  intro ga gb gl gs
  have ga:=of_decide_eq_false ga
  have gb:=of_decide_eq_false gb
  have gl:=of_decide_eq_false gl
  have gs:=of_decide_eq_false gs
  refine an.eU 4 0 (by kernel_rfl) ?_
  refine an.fS (fun i:Nat=>⟨[(1,.slice (some ⟨2,0,none⟩) l.length l.length),(3,.slice (some ⟨4,0,none⟩) 2 2),(9,.int .i64 (i:Nat))],mS A B l sc C D⟩) (fun i=>l.length-i) (fun i=>i≤l.length∧∀s∈l.take i,s.bytes.size≤4500) 0 (by kernel_rfl) ⟨ap7 _,fun s h=>by simp at h⟩ ?_
  rintro i ⟨h1,h2⟩
  apply akF kd pn A B l sc C D i
  case l6=>
   intro g
   have g:=of_decide_eq_false g
   rw[List.take_of_length_le (by omega)]at h2
   with_reducible (repeat first|refine QL.ret ?_|refine QL.exit ?_|refine QB.ret ?_|refine QB.cp ?_|refine QB.normal ?_|refine QB.cy (by rfl) ?_)
   apply akL kd pn A B l sc C D
   case l5=>intro gc;have gc:=of_decide_eq_true gc;rw[sR fun h=>by have:=h.one.zi;omega];exact akI kd pn A B l sc C D ⟨rfl,rfl⟩
   case l6=>intro gc ge;have gc:=of_decide_eq_false gc;have ge:=of_decide_eq_true ge;rw[sR fun h=>by have:=h.zi;omega];exact akJ kd pn A B l sc C D ⟨rfl,rfl⟩
   case l7=>intro gc ge;have gc:=of_decide_eq_false gc;have ge:=of_decide_eq_false ge;rw[akM ⟨⟨by omega,by omega,by omega,by omega,h2,by omega⟩,by omega⟩];exact akK kd pn A B l sc C D ⟨rfl,rfl⟩
  case l5=>
   intro g
   have g:=of_decide_eq_true g
   have hi:i<l.length:=by omega
   have hs:(apD l[apd (i:Int)]? dD)=l[i]:=by rw[show apd (i:Int)=i by simp,apl hi];rfl
   apply akH kd pn A B l sc C D i hi (by omega)
   case l5=>
    intro gs
    rw[hs]at gs
    have gs:=of_decide_eq_true gs
    rw[sR fun h=>by have:=h.one.each _ (List.getElem_mem hi);omega]
    with_reducible (repeat first|refine QL.ret ?_|refine QL.exit ?_|refine QB.ret ?_|refine QB.cp ?_|refine QB.normal ?_|refine QB.cy (by rfl) ?_)
    exact akG kd pn A B l sc C D i ⟨rfl,rfl⟩
   case l6=>
    intro gs
    rw[hs]at gs
    have gs:=of_decide_eq_false gs
    refine QL.to (i+1) ⟨by omega,fun s h=>?_⟩ (by omega) ?_
    ·rw[List.take_succ_eq_append_getElem hi]at h
     rcases apN.1 h with h|h
     ·exact h2 s h
     ·rw[aqd.1 h];omega
    ·unfold S5
     rw[bI (z:=(i:Int)+1) (by omega) (by omega)]
     rfl
noncomputable def wT(P:apu)(f:apQ)(a:List ape)(o:List ag)(r:bx)(q:List ag):Bool:=@decide (aE P f a o fun r' q'=>r'=r∧q'=q) (apF _)
theorem CP{P:apu}{f:apQ}{a:List ape}{o:List ag}{r:bx}{q:List ag}(h:aE P f a o fun r' q'=>r'=r∧q'=q):wT P f a o r q=true:=XG h
noncomputable def Sum.fn(P:apu)(f:apQ)(names:List ape→(Nat→Option ag)→Option (List Nat))(F:List ape→List ag→Option (bx×List ag)):Sum:=⟨names,fun a o=>match F a o with
 |some (r,q)=>.rS (wT P f a o r q) (.done (r,q))
 |none=>.fail⟩
theorem bp.fn{P:apu}{f:apQ}{names:List ape→(Nat→Option ag)→Option (List Nat)}{F:List ape→List ag→Option (bx×List ag)}:bp P f (Sum.fn P f names F):=fun a o r q h=>by
 unfold Sum.fn at h
 dsimp only at h
 split at h
 ·obtain⟨h1,h2⟩:=QT.tT h
  cases h2
  exact @of_decide_eq_true _ (apF _) h1
 ·cases h
def gq(T S:ad):ad:={T with B:=S.B,n:=S.n,failed:=S.failed}
theorem akN(S:ad):gq S S=S:=rfl
theorem akO(S C:ad)(L:List ByteArray)(R:List Int)(d:ay):cM (gq S C) L R d=((cM S L R d).1,gq (cM S L R d).2.1 C,(cM S L R d).2.2):=by
 unfold cM
 have:(gq S C).aB=S.aB:=rfl
 rw[this]
 split
 ·rfl
 split<;>rfl
theorem CQ:∀(l:List ByteArray) (s:ci) (C:ad),cY l (gq s.1 C,s.2)=((cY l s).1,(gq (cY l s).2.1 C,(cY l s).2.2))
 | [],s,C=>rfl
 |x::l,s,C=>by
  unfold cY
  by_cases h:0<s.1.rn∧s.1.bH+x.size+1>256
  ·have h':0<((gq s.1 C,s.2):ci).1.rn∧((gq s.1 C,s.2):ci).1.bH+x.size+1>256:=h
   rw[if_pos h,if_pos h']
   have e:=akO s.1 C s.2.1 s.2.2.1 s.2.2.2
   show(if(cM (gq s.1 C) s.2.1 s.2.2.1 s.2.2.2).1≠0 then cM (gq s.1 C) s.2.1 s.2.2.1 s.2.2.2 else cY l (jI x (cM (gq s.1 C) s.2.1 s.2.2.1 s.2.2.2).2))=_
   rw[e]
   by_cases h2:(cM s.1 s.2.1 s.2.2.1 s.2.2.2).1≠0
   ·rw[if_pos h2,if_pos h2]
   ·rw[if_neg h2,if_neg h2]
    exact CQ l (jI x (cM s.1 s.2.1 s.2.2.1 s.2.2.2).2) C
  ·have h':¬(0<((gq s.1 C,s.2):ci).1.rn∧((gq s.1 C,s.2):ci).1.bH+x.size+1>256):=h
   rw[if_neg h,if_neg h']
   exact CQ l (jI x s) C
theorem S7(x:ByteArray)(l:List ByteArray)(s:ci):cY (x::l) s=if 0<s.1.rn∧s.1.bH+x.size+1>256 then(if(cM s.1 s.2.1 s.2.2.1 s.2.2.2).1≠0 then cM s.1 s.2.1 s.2.2.1 s.2.2.2 else cY l (jI x (cM s.1 s.2.1 s.2.2.1 s.2.2.2).2))else cY l (jI x s):=rfl
theorem JJ:∀(l l':List ByteArray) (s:ci),cY (l++l') s=if(cY l s).1≠0 then cY l s else cY l' (cY l s).2
 | [],l',s=>rfl
 |x::l,l',s=>by
  rw[aqZ,S7 x (l++l'),S7 x l]
  by_cases h:0<s.1.rn∧s.1.bH+x.size+1>256
  ·rw[if_pos h,if_pos h]
   by_cases h2:(cM s.1 s.2.1 s.2.2.1 s.2.2.2).1≠0
   ·rw[if_pos h2,if_pos h2,if_pos h2]
   ·rw[if_neg h2,if_neg h2]
    exact JJ l l' _
  ·rw[if_neg h,if_neg h]
   exact JJ l l' _
theorem CS:∀(l:List UInt8) (T S:ad) (M:List ByteArray),cg l (gq T S) M=((cg l S M).1,gq T (cg l S M).2.1,(cg l S M).2.2)
 | [],T,S,M=>rfl
 |x::l,T,S,M=>by
  unfold cg
  by_cases hx:x=10
  ·rw[if_pos hx,if_pos hx]
   exact CS l T {S with n:=0} (M++[gU S])
  ·rw[if_neg hx,if_neg hx]
   by_cases h:S.n=64
   ·have h':(gq T S).n=64:=h
    rw[if_pos h,if_pos h']
    rfl
   ·have h':¬(gq T S).n=64:=h
    rw[if_neg h,if_neg h']
    exact CS l T (o6 S x) M
theorem S8(x:UInt8)(l:List UInt8)(S:ad)(M:List ByteArray):cg (x::l) S M=if x=10 then cg l {S with n:=0} (M++[gU S])else if S.n=64 then(20,{S with failed:=true,n:=0},M)else cg l (o6 S x) M:=rfl
theorem JK:∀(l l':List UInt8) (S:ad) (M:List ByteArray),cg (l++l') S M=if(cg l S M).1≠0 then cg l S M else cg l' (cg l S M).2.1 (cg l S M).2.2
 | [],l',S,M=>rfl
 |x::l,l',S,M=>by
  rw[aqZ,S8 x (l++l'),S8 x l]
  by_cases hx:x=10
  ·rw[if_pos hx,if_pos hx]
   exact JK l l' _ _
  ·rw[if_neg hx,if_neg hx]
   by_cases h:S.n=64
   ·rw[if_pos h,if_pos h]
    rfl
   ·rw[if_neg h,if_neg h]
    exact JK l l' _ _
theorem CT:∀(l:List UInt8) (S:ad) (M:List ByteArray),cg l S M=((cg l S []).1,(cg l S []).2.1,M++(cg l S []).2.2)
 | [],S,M=>by show(_,_,_)=(_,_,M++[]);rw[aqF];rfl
 |x::l,S,M=>by
  unfold cg
  by_cases hx:x=10
  ·simp only[if_pos hx]
   rw[CT l {S with n:=0} (M++[gU S]),CT l {S with n:=0} ([]++[gU S])]
   simp
  ·simp only[if_neg hx]
   by_cases h:S.n=64
   ·simp only[if_pos h,aqF]
   ·simp only[if_neg h]
    exact CT l (o6 S x) M
theorem akP(l:List UInt8)(S:ad)(M:List ByteArray):(cg l S M).2.1=gq S (cg l S M).2.1:=by
 have h:=CS l S S M
 rw[akN]at h
 have:=congrArg (fun r=>r.2.1) h
 exact this
def pc(x:MS)(o:Int×ad×List ByteArray)(r:Int×ci):Int×MS:=
 if r.1≠0 then(r.1,(gN (gq r.2.1 o.2.1,r.2.2) x.H).fail r.1)else if o.1≠0 then(o.1,(gN (gq r.2.1 o.2.1,r.2.2) x.H).fail o.1)else(0,gN (gq r.2.1 o.2.1,r.2.2) x.H)
theorem CU(x:MS)(b:ByteArray):bX x b=pc x (cg b.data.toList x.S []) (cY (cg b.data.toList x.S []).2.2 x.z):=by
 unfold bX pc
 have h:=akP b.data.toList x.S []
 generalize cg b.data.toList x.S []=o at*
 obtain⟨e,S1,M⟩:=o
 dsimp only at*
 have h2:=CQ M x.z S1
 have h3:((gq x.z.1 S1,x.z.2):ci)=(S1,x.L,x.R,x.d):=by rw[h];rfl
 rw[h3]at h2
 rw[h2]
theorem S9(x:MS)(b c:ByteArray):((bX x b).1=0→bX x (b++c)=bX (bX x b).2 c)∧
 ((bX x b).1≠0→(bX x (b++c)).1=(bX x b).1∧(bX x (b++c)).2.d=(bX x b).2.d∧(bX x (b++c)).2.S.raw=(bX x b).2.S.raw∧(bX x (b++c)).2.S.bq=(bX x b).2.S.bq):=by
 have ha:(b++c).data.toList=b.data.toList++c.data.toList:=by rw[ByteArray.data_append,Array.toList_append]
 rw[CU x (b++c),CU x b,ha,JK]
 generalize e7:cg b.data.toList x.S []=o at*
 by_cases he:o.1=0
 ·rw[if_neg (fun h=>h he),CT c.data.toList o.2.1 o.2.2]
  generalize hr:cg c.data.toList o.2.1 []=o2 at*
  rw[show(o2.1,o2.2.1,o.2.2++o2.2.2).2.2=o.2.2++o2.2.2 from rfl,JJ]
  generalize aoE:cY o.2.2 x.z=r
  by_cases hf:r.1=0
  ·rw[if_neg (fun h=>h hf)]
   have e1:pc x o r=(0,gN (gq r.2.1 o.2.1,r.2.2) x.H):=by
    unfold pc
    rw[if_neg (fun h=>h hf),if_neg (fun h=>h he)]
   rw[e1]
   refine⟨fun _=>?_,fun h=>absurd rfl h⟩
   rw[CU]
   have h1:cg c.data.toList (gN (gq r.2.1 o.2.1,r.2.2) x.H).S []=(o2.1,gq r.2.1 o2.2.1,o2.2.2):=by
    show cg c.data.toList (gq r.2.1 o.2.1) []=_
    rw[CS,hr]
   have h2:=CQ o2.2.2 r.2 o.2.1
   dsimp only
   rw[h1]
   have h3:(gN (gq r.2.1 o.2.1,r.2.2) x.H).z=(gq r.2.1 o.2.1,r.2.2):=rfl
   rw[h3]
   show pc x _ _=pc _ _ (cY o2.2.2 (gq r.2.1 o.2.1,r.2.2))
   rw[h2]
   rfl
  ·rw[if_pos hf]
   have e1:∀q:Int×ad×List ByteArray,pc x q r=(r.1,(gN (gq r.2.1 q.2.1,r.2.2) x.H).fail r.1):=fun q=>by
    unfold pc
    rw[if_pos hf]
   rw[e1,e1]
   exact⟨fun h=>absurd h hf,fun _=>⟨rfl,rfl,rfl,rfl⟩⟩
 ·rw[if_pos he]
  have bk:(pc x o (cY o.2.2 x.z)).1≠0:=by
   unfold pc
   split
   ·assumption
   ·exact he
  exact⟨fun h=>absurd h bk,fun _=>⟨rfl,rfl,rfl,rfl⟩⟩
theorem akQ(x:MS):bX x (⟨#[]⟩:ByteArray)=(0,x):=rfl
theorem Ta(b:ByteArray){i j k:Nat}(h1:i≤j)(h2:j≤k):b.extract i j++b.extract j k=b.extract i k:=by
 rw[ByteArray.extract_append_extract,Nat.min_eq_left h1,Nat.max_eq_right h2]
theorem akR{x y:MS}{b:ByteArray}{t u:Nat}(h:bX x (b.extract 0 t)=(0,y))(akS:t≤u):bX x (b.extract 0 u)=bX y (b.extract t u):=by
 have:=(S9 x (b.extract 0 t) (b.extract t u)).1 (by rw[h])
 rw[h,Ta b (ap7 _) akS]at this
 exact this
theorem akT{x:MS}{b:ByteArray}{u:Nat}(hu:u≤b.size)(h:(bX x (b.extract 0 u)).1≠0):
 (bX x b).1=(bX x (b.extract 0 u)).1∧(bX x b).2.d=(bX x (b.extract 0 u)).2.d∧(bX x b).2.S.raw=(bX x (b.extract 0 u)).2.S.raw∧(bX x b).2.S.bq=(bX x (b.extract 0 u)).2.S.bq:=by
 have:=(S9 x (b.extract 0 u) (b.extract u b.size)).2 h
 rw[Ta b (ap7 _) hu,atM]at this
 exact this
def mn(g:DS)(h:Int):DS:={g with hd:=h}
theorem JL{s:ba}{g:DS}(ht:g.t=s.bytes.size)(C C':List Int)(k k':Nat):fN s C k g=fN s C' k' g:=by
 unfold fN
 rw[if_neg (show¬g.t<s.bytes.size by omega),if_neg (show¬g.t<s.bytes.size by omega)]
theorem JM{s:ba}{g g':DS}{C:List Int}{k:Nat}(ht:g.t=s.bytes.size)(h:fN s C k g=some g'):g'.t=s.bytes.size:=by
 unfold fN at h
 split at h
 ·cases h;exact ht
 split at h
 ·omega
 split at h
 ·cases h;exact ht
 ·cases h
theorem Tb{s:ba}(C C':List Int):∀(m k k':Nat) (g:DS),g.t=s.bytes.size→ef s C m k g=ef s C' m k' g
 |0,k,k',g,ht=>rfl
 |m+1,k,k',g,ht=>by
  unfold ef
  rw[JL ht C C' k k']
  split
  ·split
   ·rfl
   ·rename_i h
    exact Tb C C' m _ _ _ (JM ht h)
  ·rfl
theorem akU{s:ba}{g:DS}(ht:g.t=s.bytes.size)(C:List Int)(k:Nat)(h:Int):(fN s C k g=none∧fN s C k (mn g h)=none)∨∃g' h',fN s C k g=some g'∧fN s C k (mn g h)=some (mn g' h'):=by
 unfold fN
 rw[if_neg (show¬g.t<s.bytes.size by omega),if_neg (show¬(mn g h).t<s.bytes.size from by show¬g.t<s.bytes.size;omega)]
 by_cases h1:g.nd= -2
 ·have tq:(mn g h).nd= -2:=h1
  rw[if_pos h1,if_pos tq]
  exact .inr ⟨_,kT h (jw (gV g.x).2.2),rfl,rfl⟩
 ·have tq:¬(mn g h).nd= -2:=h1
  rw[if_neg h1,if_neg tq]
  by_cases h2:s.ended=true∧g.w=false
  ·have vh:s.ended=true∧(mn g h).w=false:=h2
   rw[if_pos h2,if_pos vh]
   exact .inr ⟨_,kT h (jw (gp g.x).2),rfl,rfl⟩
  ·have vh:¬(s.ended=true∧(mn g h).w=false):=h2
   rw[if_neg h2,if_neg vh]
   exact .inl ⟨rfl,rfl⟩
theorem Tc{s:ba}(C:List Int):∀(m k:Nat) (g:DS) (h:Int),g.t=s.bytes.size→∃h',ef s C m k (mn g h)=mn (ef s C m k g) h'
 |0,k,g,h,ht=>⟨h,rfl⟩
 |m+1,k,g,h,ht=>by
  unfold ef
  by_cases hc:g.er=0∧g.nd≠-1
  ·have lJ:(mn g h).er=0∧(mn g h).nd≠-1:=hc
   rw[if_pos hc,if_pos lJ]
   rcases akU ht C k h with⟨a,b⟩|⟨g',h',a,b⟩
   ·rw[a,b];exact⟨h,rfl⟩
   ·rw[a,b]
    exact Tc C m (k+1) g' h' (JM ht a)
  ·have lJ:¬((mn g h).er=0∧(mn g h).nd≠-1):=hc
   rw[if_neg hc,if_neg lJ]
   exact⟨h,rfl⟩
def CV(s:ba)(g:DS):Prop:=¬(g.er=0∧g.nd≠-1)∨fN s [] 0 g=none
theorem akV{s:ba}{g:DS}(ht:g.t=s.bytes.size)(h:CV s g)(C:List Int)(m k:Nat):ef s C m k g=g:=by
 cases m with
 |zero=>rfl
 |succ m=>
  unfold ef
  rcases h with h|h
  ·rw[if_neg h]
  ·rw[JL ht C [] k 0,h]
   split<;>rfl
theorem Td{s:ba}(C:List Int)(j:Nat):∀(m k:Nat) (g:DS),g.t=s.bytes.size→CV s (ef s C m k g)→ef s C (m+j) k g=ef s C m k g
 |0,k,g,ht,h=>by
  rw[aqR]
  exact akV ht h C j k
 |m+1,k,g,ht,h=>by
  rw[Nat.add_right_comm]
  unfold ef at h⊢
  by_cases hc:g.er=0∧g.nd≠-1
  ·rw[if_pos hc]at h
   rw[if_pos hc,if_pos hc]
   cases hs:fN s C k g with
   |none=>rfl
   |some g'=>
    rw[hs]at h
    exact Td C j m (k+1) g' (JM ht hs) h
  ·rw[if_neg hc,if_neg hc]
theorem Te(s:ba)(C:List Int)(k:Nat)(g:DS):(jc s C k g).nd=fW (bX g.x (s.bytes.extract g.t (fM s C k g.t))).2.S:=rfl
theorem JN(s:ba)(C:List Int)(k:Nat)(g:DS):(jc s C k g).er=(bX g.x (s.bytes.extract g.t (fM s C k g.t))).1:=rfl
theorem Tf(s:ba)(C:List Int)(k:Nat)(g:DS):(jc s C k g).t=fM s C k g.t:=rfl
theorem Tg(s:ba)(C:List Int)(k:Nat)(g:DS):(jc s C k g).x=(bX g.x (s.bytes.extract g.t (fM s C k g.t))).2:=rfl
theorem Th(s:ba)(C:List Int)(k:Nat)(g:DS):(jc s C k g).o=g.o:=rfl
theorem akW(s:ba)(C:List Int)(k:Nat)(g:DS):(jc s C k g).w=g.w:=rfl
theorem akX{x:MS}{b:ByteArray}(h:(bX x b).1≠0):(bX x b).2.S.bq=true:=by
 rw[CU]at h⊢
 unfold pc at h⊢
 split
 ·rfl
 split
 ·rfl
 ·rename_i h1 h2
  rw[if_neg h1,if_neg h2]at h
  exact absurd rfl h
theorem Ti{s:ba}(C:List Int)(x0:MS)(hs:s.bytes.size≤4500):∀(m k:Nat) (g:DS),jq s k g→g.er=0→g.nd≠-1→g.nd≠-2→bX x0 (s.bytes.extract 0 g.t)=(0,g.x)→s.bytes.size-g.t<m→
 ((bX x0 s.bytes).1≠0∧(ef s C m k g).er=(bX x0 s.bytes).1∧(ef s C m k g).o=g.o∧(ef s C m k g).nd= -1∧(ef s C m k g).x.d=(bX x0 s.bytes).2.d∧(ef s C m k g).x.S.raw=(bX x0 s.bytes).2.S.raw)∨
 ((bX x0 s.bytes).1=0∧∃m' k' h',m≤m'+(s.bytes.size-g.t)∧ef s C m k g=ef s C m' k' ⟨(bX x0 s.bytes).2,g.o,fW (bX x0 s.bytes).2.S,0,h',s.bytes.size,g.w⟩)
 |0,k,g,h,he,h1,h2,hf,hm=>by omega
 |m+1,k,g,h,he,h1,h2,hf,hm=>by
  have ra:=h.t
  by_cases ht:g.t<s.bytes.size
  ·obtain⟨u1,u2,u3⟩:=Jw s C k g.t ht
   have cP:fN s C k g=some (jc s C k g):=by unfold fN;rw[if_neg h2,if_pos ht]
   rw[wR ⟨he,h1⟩ cP]
   have vn:=akR hf (Nat.le_of_lt u1)
   by_cases e0:(bX g.x (s.bytes.extract g.t (fM s C k g.t))).1=0
   ·have hD:=h.jc (C:=C) he h1 h2 ht
    obtain⟨F,f1,_,_⟩:=h.feed he h1 h2
    obtain⟨F',f2,_⟩:=(CL f1 (s.bytes.extract g.t (fM s C k g.t))).2 e0
    have hn:fW (bX g.x (s.bytes.extract g.t (fM s C k g.t))).2.S=0:=by rw[sO f2.bq f2.more];exact f2.ok.iX
    have akY:bX x0 (s.bytes.extract 0 (fM s C k g.t))=(0,(bX g.x (s.bytes.extract g.t (fM s C k g.t))).2):=vn.trans (Prod.ext e0 rfl)
    have q0:(jc s C k g).nd=0:=(Te s C k g).trans hn
    have q1:(jc s C k g).er=0:=(JN s C k g).trans e0
    have q2:=Tf s C k g
    have q3:bX x0 (s.bytes.extract 0 (jc s C k g).t)=(0,(jc s C k g).x):=by rw[Tf,Tg];exact akY
    have q4:=Th s C k g
    have q5:=akW s C k g
    have ih:=Ti C x0 hs m (k+1) (jc s C k g) hD q1 (by rw[q0];omega) (by rw[q0];omega) q3 (by rw[q2];omega)
    rw[q2,q4,q5]at ih
    rcases ih with⟨a,b⟩|⟨a,m',k',h',b,c⟩
    ·exact .inl ⟨a,b⟩
    ·exact .inr ⟨a,m',k',h',by omega,c⟩
   ·have bk:(bX x0 (s.bytes.extract 0 (fM s C k g.t))).1≠0:=by rw[vn];exact e0
    obtain⟨a1,a2,a3,a4⟩:=akT u2 bk
    rw[vn]at a1 a2 a3
    have d0:ef s C m (k+1) (jc s C k g)=jc s C k g:=wQ (by rw[JN];exact fun hh=>e0 hh.1)
    rw[d0,JN,Th,Te,Tg]
    refine .inl ⟨by rw[a1];exact e0,a1.symm,rfl,wS (akX e0),a2.symm,a3.symm⟩
  ·have ny:g.t=s.bytes.size:=by omega
   rw[ny,atM]at hf
   rw[hf]
   refine .inr ⟨rfl,m+1,k,g.hd,by omega,?_⟩
   have cX:=h.nd
   obtain⟨x,o,nd,er,hd,t,w⟩:=g
   dsimp only at*
   subst he ny cX
   rfl
def apa(x:MS):Nat:=x.S.rn+db x.d x.H
theorem Tj(f:Bool):∀(m:Nat) (R:List Int) (d:ay),jo d R→(dI f m R d).1=0→eK (dI f m R d).2.2 (dI f m R d).2.1≤eK d R
 |0,R,d,h,he=>apI _
 |m+1,R,d,h,he=>by
  unfold dI at he⊢
  by_cases h3:R.length≤3
  ·rw[if_pos h3];exact apI _
  rw[if_neg h3]at he⊢
  obtain⟨p1,p2⟩:=II f h
  by_cases e:(fU f R d).1=0
  ·rw[if_neg (fun h=>h e)]at he⊢
   obtain⟨q1,q2,q3⟩:=p2 e
   exact arG (Tj f m _ _ q1 he) q3
  ·rw[if_pos e]at he
   exact absurd he e
theorem akZ{s:ci}{H:List au}(hr:jo s.2.2.2 s.2.2.1)(he:(jp s H).1=0):db (jp s H).2.1.2.2.2 (jp s H).2.2≤eK s.2.2.2 s.2.2.1∧(jp s H).2.1.1.rn=s.1.rn:=by
 obtain⟨S,L,R,d⟩:=s
 dsimp only at*
 obtain⟨p1,p2,p3⟩:=CA S.aB R.length R d hr
 have hv:jp (S,L,R,d) H=if(dI S.aB R.length R d).1≠0 then((dI S.aB R.length R d).1,({S with sn:=(dI S.aB R.length R d).2.1.length},L,(dI S.aB R.length R d).2),H)
  else match dI S.aB R.length R d with
   |(_,R,d)=>match dS R [] d with
    |(e,l,dd)=>if e=0 then(0,({S with sn:=R.length,hn:=l.length},L,R,dd),l)else(e,({S with sn:=R.length,hn:=0},L,R,dd),[]):=rfl
 have m5:=Tj S.aB R.length R d hr
 rw[hv]at he⊢
 clear hv
 generalize dI S.aB R.length R d=o at*
 obtain⟨e,R2,d2⟩:=o
 dsimp only at*
 by_cases e0:e=0
 ·rw[if_neg (fun h=>h e0)]at he⊢
  have hf:=m5 e0
  have ho:=yZ R2 [] [] d2 d2 p1 rfl ⟨rfl,(fun _ h=>by cases h),apI _⟩
  obtain⟨o1,o2,o3,o4⟩:=wy R2 [] d2 p1
  generalize dS R2 [] d2=o at*
  obtain⟨e2,l,d3⟩:=o
  dsimp only at*
  by_cases dY:e2=0
  ·rw[if_pos dY]
   have ho:=(ho dY).eJ
   rw[aqO]at ho
   refine⟨?_,rfl⟩
   show db d3 l≤_
   rw[Ca o2]
   omega
  ·rw[if_neg dY]at he
   exact absurd he dY
 ·rw[if_pos e0]at he
  exact absurd he e0
theorem ak0{F:Nat}{x:MS}(h:lB F x)(hF:F≤800000)(he:(iw x.z x.H).1=0):apa (gN (iw x.z x.H).2.1 (iw x.z x.H).2.2)≤F+(x.S.n.toNat+1):=by
 obtain⟨r1,r2⟩:=Cy h.ok.uL h.ok.cut
 have kn:=h.ok.cut.n1
 have hH:=h.none
 rw[hH]at he⊢
 unfold iw at he⊢
 have hx:x.z.1.n=x.S.n:=rfl
 rw[hx]at r2
 rcases asd (¬((fV x.z).1=0))with e1|e1
 ·rw[if_pos e1]at he;exact absurd he e1
 have e1:=art.1 e1
 rw[if_neg (fun h=>h e1)]at he⊢
 have g:=Cz (r2 e1)
 generalize lv (fV x.z).2=t at*
 have hlen:=g.ok.len
 have hw:=wv t.2.1
 have iL:=g.bQ
 unfold mm at iL
 unfold sK at he⊢
 by_cases h0:t.1.sn=0
 ·rw[if_pos h0]
  show t.1.rn+0≤_
  omega
 rw[if_neg h0]at he⊢
 unfold qZ at he⊢
 rcases asd (¬((fL t).1=0))with e2|e2
 ·rw[if_pos e2]at he;exact absurd he e2
 have e2:=art.1 e2
 rw[if_neg (fun h=>h e2)]at he⊢
 have g2:Good (F+(x.S.n.toNat+1)) (fL t).2∧(fL t).2.1.rn=0:=by
  unfold fL at e2⊢
  split
  ·rename_i h1
   rw[if_pos h1]at e2
   have:=g.mf e2
   refine⟨this,?_⟩
   have h3:=this.ok.len
   rw[(g.ok.mf).2 e2]at h3
   exact h3.symm
  ·exact⟨g,by show t.1.rn=0;omega⟩
 obtain⟨g2,g3⟩:=g2
 obtain⟨a,b⟩:=akZ (g2.runs (by omega)) he
 have iL:=g2.bQ
 unfold mm at iL
 show(jp (fL t).2 []).2.1.1.rn+db (jp (fL t).2 []).2.1.2.2.2 (jp (fL t).2 []).2.2≤_
 omega
theorem JO{S:ad}{L:List ByteArray}{R:List Int}{H:List au}{d:ay}(hd:cj d):apa ⟨(cZ S R H d).2.1,L,R,H,(cZ S R H d).2.2⟩≤apa ⟨S,L,R,H,d⟩:=by
 unfold cZ
 split
 ·exact apI _
 ·obtain⟨_,_,g⟩:=Cc R d hd
  have:db (fK R d).2 H≤db d H:=aed fun x _=>g x.no
  show S.rn+db (fK R d).2 H≤S.rn+db d H
  omega
theorem ak1{F:Nat}{x:MS}(h:lB F x)(hF:F≤800000)(he:(gp x).1=0):apa (gp x).2≤F+(x.S.n.toNat+1):=by
 have hl:=ak0 h hF
 have tu:=CH h.ok.uL h.ok.cut hF h.ok.jK
 unfold gp at he⊢
 generalize iw x.z x.H=o at*
 obtain⟨e,t,G⟩:=o
 dsimp only[gN]at*
 rcases asd (¬(e=0))with e0|e0
 ·rw[if_pos e0]at he;exact absurd he e0
 have e0:=art.1 e0
 rw[if_neg (fun h=>h e0)]at he⊢
 have hr:=JO (S:=t.1) (L:=t.2.1) (R:=t.2.2.1) (H:=G) tu.cF
 generalize cZ t.1 t.2.2.1 G t.2.2.2=o at*
 obtain⟨f,U,d3⟩:=o
 dsimp only at*
 by_cases hf:f=0
 ·rw[if_neg (fun h=>h hf)]
  exact arG hr (hl e0)
 ·rw[if_pos hf]at he
  exact absurd he hf
theorem ak2{x:MS}(hm:q9 x)(he:(gV x).1=0):apa (gV x).2.2<apa x:=by
 unfold gV at he⊢
 by_cases jH:0<x.S.rn
 ·rw[if_pos jH]at he⊢
  have hr:=JO (S:=x.S.pop) (L:=x.L) (R:=x.R) (H:=x.H) hm.cF
  generalize cZ x.S.pop x.R x.H x.d=o at*
  obtain⟨f,U,d3⟩:=o
  dsimp only at*
  by_cases hf:f=0
  ·rw[if_neg (fun h=>h hf)]
   have:apa ⟨x.S.pop,x.L,x.R,x.H,x.d⟩<apa x:=by
    show x.S.rn-1+db x.d x.H<x.S.rn+db x.d x.H
    omega
   exact auJ hr this
  ·rw[if_pos hf]at he
   exact absurd he hf
 ·rw[if_neg jH]at he⊢
  have hs:=hm.some
  unfold lx at hs
  rw[decide_eq_false jH]at hs
  cases hk:eI x.S.aB x.H with
  |none=>rw[hk]at hs;cases hs
  |some k=>
   rw[hk]at he
   dsimp only at he⊢
   obtain⟨k1,k2⟩:=wz hk
   have dh:=yY (h:=aP x.H k) hm.cF
   obtain⟨f1,f2,f3⟩:=yX (aP x.H k) x.d
   have fm:=hm.cF.bW (aP x.H k)
   generalize bW (aP x.H k) x.d=o at*
   obtain⟨e,y,dd⟩:=o
   dsimp only at*
   rcases asd (¬(e=0))with e0|e0
   ·rw[if_pos e0]at he;exact absurd he e0
   have e0:=art.1 e0
   rw[if_neg (fun h=>h e0)]at he⊢
   obtain⟨r1,r2,r3⟩:=dh e0
   have hr:=JO (S:=x.S) (L:=x.L) (R:=x.R) (H:=x.H.set k y) fm
   generalize cZ x.S x.R (x.H.set k y) dd=o at*
   obtain⟨f,U,d3⟩:=o
   dsimp only at*
   rcases asd (¬(f=0))with hf|hf
   ·rw[if_pos hf]at he;exact absurd he hf
   have hf:=art.1 hf
   rw[if_neg (fun h=>h hf)]
   have Am:=Cg x.d x.H k y k1
   have h2:eJ x.d (aP x.H k)=b7 x.d (aP x.H k).no-(aP x.H k).at_.toNat+((aP x.H k).line.size+1):=by unfold eJ sB;rw[k2];rfl
   have h3:eJ x.d y=b7 x.d (aP x.H k).no-(aP x.H k).at_.toNat:=by unfold eJ;rw[r1];exact r3
   have h4:db dd (x.H.set k y)=db x.d (x.H.set k y):=Ca f1 _
   have:apa ⟨x.S,x.L,x.R,x.H.set k y,dd⟩<apa x:=by
    show x.S.rn+db dd (x.H.set k y)<x.S.rn+db x.d x.H
    omega
   exact auJ hr this
theorem Tk{s:ba}(C:List Int):∀(m k:Nat) (g:DS),g.t=s.bytes.size→jq s k g→(g.er=0→g.nd≠-1→g.nd= -2)→apa g.x≤m→CV s (ef s C m k g)
 |m,k,g,ht,hD,hc,hl=>by
  rcases asd (¬(g.er=0∧g.nd≠-1))with hs|hs
  ·rw[wQ hs];exact .inl hs
  have hs:=art.1 hs
  have hn:=hc hs.1 hs.2
  obtain⟨h1,h2,h3⟩:=hD.more hs.1 hn
  have cP:fN s C k g=some (o9 g):=by unfold fN;rw[if_pos hn]
  have hlt:=ak2 h3
  obtain⟨i1,i2,i3⟩:=Ju hD.inv h3 h1
  cases m with
  |zero=>
   exfalso
   have ni:=h3.some
   unfold lx at ni
   have h5:g.x.S.rn=0:=by unfold apa at hl;omega
   rw[h5,decide_eq_false (by omega)]at ni
   cases hk:eI g.x.S.aB g.x.H with
   |none=>rw[hk]at ni;cases ni
   |some k=>
    obtain⟨k1,k2⟩:=wz hk
    have Am:=Cg g.x.d g.x.H k (aP g.x.H k) k1
    have h2:eJ g.x.d (aP g.x.H k)=b7 g.x.d (aP g.x.H k).no-(aP g.x.H k).at_.toNat+((aP g.x.H k).line.size+1):=by unfold eJ sB;rw[k2];rfl
    have key:∀(l:List au),aP g.x.H k∈l→eJ g.x.d (aP g.x.H k)≤db g.x.d l:=by
     intro l
     induction l with
     |nil=>intro h;cases h
     |cons x l ih=>
      intro h
      show _≤eJ g.x.d x+db g.x.d l
      rcases List.mem_cons.1 h with h|h
      ·rw[h];omega
      ·have:=ih h;omega
    have:=key _ (wA k1)
    unfold apa at hl
    omega
  |succ m=>
   rw[wR hs cP]
   rcases asd (¬((o9 g).er=0))with e|e
   ·rw[wQ (fun h=>e h.1)];exact .inl (fun h=>e h.1)
   have e:=art.1 e
   have e':(gV g.x).1=0:=e
   have hlt:=hlt e'
   refine Tk C m (k+1) (o9 g) ht (hD.o9 hs.1 hn) (fun _ bk=>?_) ?_
   ·rcases i3 e' with a|⟨a,b,c⟩
    ·exact absurd (wS a) bk
    ·exact zg a b
   ·show apa (gV g.x).2.2≤m
    omega
theorem ak3{s:ba}(C:List Int)(hs:s.bytes.size≤4500)(m k:Nat)(g:DS)(ht:g.t=s.bytes.size)(hD:jq s k g)(hm:5000≤m)(he:g.er=0)(h1:g.nd≠-1)(h2:g.nd≠-2):CV s (ef s C m k g):=by
 obtain⟨F,f1,f2,f3⟩:=hD.feed he h1 h2
 by_cases kj:s.ended=true
 ·have cP:fN s C k g=some (pa g):=by unfold fN;rw[if_neg h2,if_neg (by omega),if_pos ⟨kj,f3⟩]
  obtain⟨m,rfl⟩:∃m',m=m'+1:=⟨m-1,by omega⟩
  rw[wR ⟨he,h1⟩ cP]
  have Tl:=ak1 f1 (by omega)
  obtain⟨i1,i2⟩:=Jt f1 (by omega)
  rcases asd (¬((pa g).er=0))with e|e
  ·rw[wQ (fun h=>e h.1)];exact .inl (fun h=>e h.1)
  have e:=art.1 e
  have e':(gp g.x).1=0:=e
  have Tl:=Tl e'
  refine Tk C m (k+1) (pa g) ht (hD.pa he h1 h2 (by omega)) (fun _ bk=>?_) ?_
  ·rcases i2 e' with a|⟨a,b,c⟩
   ·exact absurd (wS a) bk
   ·exact zg a b
  ·show apa (gp g.x).2≤m
   omega
 ·have cP:fN s C k g=none:=by unfold fN;rw[if_neg h2,if_neg (by omega),if_neg (fun h=>kj h.1)]
  rw[SS cP]
  refine .inr ?_
  rw[←JL ht C [] k 0]
  exact cP
structure sS(g h:DS):Prop where
 o:g.o=h.o
 nd:g.nd=h.nd
 er:g.er=h.er
 d:g.x.d=h.x.d
 raw:g.x.S.raw=h.x.S.raw
theorem sS.symm{g h:DS}(a:sS g h):sS h g:=⟨a.o.symm,a.nd.symm,a.er.symm,a.d.symm,a.raw.symm⟩
theorem sS.trans{g h k:DS}(a:sS g h)(b:sS h k):sS g k:=⟨a.o.trans b.o,a.nd.trans b.nd,a.er.trans b.er,a.d.trans b.d,a.raw.trans b.raw⟩
noncomputable def Tm(s:ba)(x:MS):DS:=
 if(bX x s.bytes).1≠0 then⟨(bX x s.bytes).2,apj,-1,(bX x s.bytes).1,0,0,false⟩
 else ef s [] 5000 0 ⟨(bX x s.bytes).2,apj,fW (bX x s.bytes).2.S,0,0,s.bytes.size,false⟩
theorem Tn(x:MS)(s:ba)(C:List Int)(hx:lB 0 x)(hn:x.S.n=0)(hs:s.bytes.size≤4500):sS (ef s C mP 0 (kU x)) (Tm s x):=by
 have ca:=hx.ok.iX
 have Q5:=SP
 have CM:jq s 0 (kU x):=⟨by show(0:Int)=fW x.S;rw[sO hx.bq hx.more,ca],ap7 _,apI _,hx.inv,fun _=>.inr (.inr ⟨0,hx,by show 0+x.S.n.toNat=0;rw[hn];rfl,rfl⟩),by show(0:Int)≤0∧(0:Int)≤320;omega⟩
 have h0:bX x (s.bytes.extract 0 0)=(0,x):=by
  rw[show s.bytes.extract 0 0=(⟨#[]⟩:ByteArray)by apply ByteArray.ext;rw[arN];exact Array.extract_empty_of_stop_le_start (apI _)]
  exact akQ x
 have key:=Ti C x hs mP 0 (kU x) CM rfl (by show(0:Int)≠-1;omega) (by show(0:Int)≠-2;omega) h0 (by show s.bytes.size-0<mP;omega)
 unfold Tm
 rcases key with⟨a,b,c,d,e,f⟩|⟨a,m',k',h',b,c⟩
 ·rw[if_pos a]
  exact⟨c,d,b,e,f⟩
 ·rw[if_neg (fun h=>h a),c]
  obtain⟨F',fi,fe⟩:=(CL hx s.bytes).2 a
  have hb:m' ≥ 5000:=by
   have:mP≤m'+(s.bytes.size-0):=b
   omega
  have cX:=sO fi.bq fi.more
  rw[fi.ok.iX]at cX
  generalize hg:(⟨(bX x s.bytes).2,apj,fW (bX x s.bytes).2.S,0,0,s.bytes.size,false⟩:DS)=g
  have CW:g.t=s.bytes.size:=by rw[←hg]
  have vG:(⟨(bX x s.bytes).2,(kU x).o,fW (bX x s.bytes).2.S,0,h',s.bytes.size,(kU x).w⟩:DS)=mn g h':=by rw[←hg];rfl
  rw[vG]
  have ak4:jq s 0 g:=by
   rw[←hg]
   refine⟨rfl,apI _,apI _,fi.inv,fun _=>.inr (.inr ⟨F',fi,?_,rfl⟩),by show(0:Int)≤0∧(0:Int)≤320;omega⟩
   show F'+_=s.bytes.size
   rw[fe,hn]
   show 0+0+s.bytes.size=_
   omega
  have cP:=ak3 [] hs 5000 0 g CW ak4 (apI _) (by rw[←hg]) (by rw[←hg];show fW _≠_;rw[cX];omega) (by rw[←hg];show fW _≠_;rw[cX];omega)
  obtain⟨j,rfl⟩:∃j,m'=5000+j:=⟨m'-5000,by omega⟩
  obtain⟨h2,e2⟩:=Tc C (5000+j) k' g h' CW
  rw[e2,Tb C [] (5000+j) k' 0 g CW,Td [] j 5000 0 g CW cP]
  exact⟨rfl,rfl,rfl,rfl,rfl⟩
end Go.Proofs.YtnlkkgpcikkpoaaGreat
