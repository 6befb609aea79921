/- Part of the proof: Zue, Zqf, Zqg, Zqh, Zqi, Zqj, Zuf, Zua, Zub, Zqk, Zql. -/
import Derived.Test.YtnlkkgpcikkpoaaGreatJAl
import Derived.KernelRfl
import Derived.Test.YtnlkkgpcikkpoaaGreatJAk
open Array renaming toList_append->asY,toList_extract->atf
open ByteArray renaming data_append->auf,data_extract->ato,empty->KI,mk->ar2,size->DD,size_append->atS
open Decidable renaming not_not->ate
open Go.IntKind renaming i64->Ul,wrap->m6
open Go.Lib renaming indexByte->auQ
open Go.Proofs.Tryz renaming prog->fK
open Int renaming tmod->atk,tmod_lt_of_pos->av8,toNat->m5,toNat_natCast->atG
open List renaming all->DC,append_assoc->arI,append_inj->axB,append_nil->asg,drop->as3,drop_eq_nil_of_le->avl,eq_nil_of_length_eq_zero->ar5,extract_eq_take_drop->as1,find?_cons->atz,getElem?_eq_getElem->KH,getElem_of_mem->avO,length->nG,length_append->KO,length_drop->ass,length_set->asU,mem_append->arL,mem_append_left->asi,mem_append_right->asc,mem_cons->arD,mem_cons_of_mem->arG,mem_cons_self->arH,mem_map_of_mem->atb,mem_or_eq_of_mem_set->auk,mem_singleton->ar0,nil_append->asK,nodup_append->aso,nodup_cons->asG,pairwise_cons->atD,perm_middle->awn,take->arP,toArray->ar6
open Nat renaming ble->arM,le_refl->arO,lt_succ_iff_lt_or_eq->awo,mul_one->atV,not_lt_zero->awB,zero_add->as9,zero_le->asb
open Option renaming bind->ash,getD->asp,isSome->at3
open Option.some renaming inj->atZ
set_option linter.unusedVariables false
set_option linter.unusedSimpArgs false
set_option maxRecDepth 100000
namespace Go.Proofs.YtnlkkgpcikkpoaaGreat
open Go Vm Go.RowKit
noncomputable section
def ow(s:aX)(bw:ByteArray)(b:Nat):List Value:=[.slice (some ⟨b,0,none⟩) s.bytes.size bw.size,.bool s.ended,.int .i64 s.code,.int .i64 s.kK,.int .i64 s.id]
def alq(a:List Value)(_:Nat->Option ak):Option (List Nat):=match a with
 | [_,_,.slice (some ⟨b,_,_⟩) _ _]=>some [0,1,11,12,13,b]
 |_=>none
def alr(S:ad)(L:List ByteArray)(R:List Int)(H:List au)(d:aA)(T:ad)(K:List ByteArray)(Rr:List Int)(G:List au)(dd:aA)(e z:Int)(x:ByteArray):List (FuncId×Sum):=[(29,Sum.one (nY fK) [ap 0] (aP S L R H d) (.ret (.tuple #[aq 5 1,aa e])) (aP T K Rr G dd++Dp x)),(30,Sum.one (nY fK) [ap 0] (aP T K Rr G dd) (.ret (aa z)) (aP T K Rr G dd))]
theorem als(S:ad)(L:List ByteArray)(R:List Int)(H:List au)(d:aA)(T:ad)(K:List ByteArray)(Rr:List Int)(G:List au)(dd:aA)(e z:Int)(x:ByteArray)(tE:aF fK 29 [ap 0] (aP S L R H d) λr q=>r=.ret (.tuple #[aq 5 1,aa e])/\q=aP T K Rr G dd++Dp x)(jN:aF fK 30 [ap 0] (aP T K Rr G dd) λr q=>r=.ret (aa z)/\q=(aP T K Rr G dd)):dD fK (dM fK (dP (alr S L R H d T K Rr G dd e z x)) 50 40):=dU dC mixed (ee (.cons (bB.one tE) (.cons (bB.one jN) .nil))) 50 40
def alt(S:ad)(L:List ByteArray)(R:List Int)(H:List au)(d:aA)(T:ad)(K:List ByteArray)(Rr:List Int)(G:List au)(dd:aA)(e z:Int)(c:ByteArray)(C:List Int)(k cv:Int):List (FuncId×Sum):=[(27,Sum.one alq [ap 0,aa 0,aq 5 c.size] (aP S L R H d++[ab (af c) 5]) (.ret (.tuple #[ci,aa e])) (oX (ab (af c) 5) T K Rr G dd)),(30,Sum.one (nY fK) [ap 0] (aP T K Rr G dd) (.ret (aa z)) (aP T K Rr G dd)),(35,Sum.one (λ_ _=>some [6]) [aq 0 C.length,aa k] [.cells (ay C) 3 true] (.ret (aa cv)) [.cells (ay C) 3 true])]
theorem alu(S:ad)(L:List ByteArray)(R:List Int)(H:List au)(d:aA)(T:ad)(K:List ByteArray)(Rr:List Int)(G:List au)(dd:aA)(e z:Int)(c:ByteArray)(C:List Int)(k cv:Int)(pS:aF fK 27 [ap 0,aa 0,aq 5 c.size] (aP S L R H d++[ab (af c) 5]) λr q=>r=.ret (.tuple #[ci,aa e])/\q=oX (ab (af c) 5) T K Rr G dd)(jN:aF fK 30 [ap 0] (aP T K Rr G dd) λr q=>r=.ret (aa z)/\q=(aP T K Rr G dd))(qH:aF fK 35 [aq 0 (nG C),aa k] [.cells (ay C) 3 true] λr q=>r=.ret (aa cv)/\q=[.cells (ay C) 3 true]):dD fK (dM fK (dP (alt S L R H d T K Rr G dd e z c C k cv)) 50 40):=dU dC mixed (ee (.cons (bB.one pS) (.cons (bB.one jN) (.cons (bB.one qH) .nil)))) 50 40
def alv(S:ad)(L:List ByteArray)(R:List Int)(H:List au)(d:aA)(T:ad)(K:List ByteArray)(Rr:List Int)(G:List au)(dd:aA)(e z:Int):List (FuncId×Sum):=[(28,Sum.one (nY fK) [ap 0,aa 0] (aP S L R H d) (.ret (.tuple #[ci,aa e])) (jI T K Rr G dd)),(30,Sum.one (nY fK) [ap 0] (aP T K Rr G dd) (.ret (aa z)) (aP T K Rr G dd))]
theorem alw(S:ad)(L:List ByteArray)(R:List Int)(H:List au)(d:aA)(T:ad)(K:List ByteArray)(Rr:List Int)(G:List au)(dd:aA)(e z:Int)(xp:aF fK 28 [ap 0,aa 0] (aP S L R H d) λr q=>r=.ret (.tuple #[ci,aa e])/\q=jI T K Rr G dd)(jN:aF fK 30 [ap 0] (aP T K Rr G dd) λr q=>r=.ret (aa z)/\q=(aP T K Rr G dd)):dD fK (dM fK (dP (alv S L R H d T K Rr G dd e z)) 50 40):=dU dC mixed (ee (.cons (bB.one xp) (.cons (bB.one jN) .nil))) 50 40
open Tree renaming aQ->mN,dE->mF,fj->mL,fY->mQ,dN->mR,gH->mE
abbrev xq:List Code:=(a7 (inner (a7 (inner (zN.drop 4)))))
def TG:Nat->Bool->Bool->Tree->Tree
 |0,_,_,t=>t
 |n+1,d,b,t=>.cY d b (TG n d b t)
theorem xr{R:bf->ai->Prop}{c v:Bool}{t:Tree}(n:Nat)(h1:c=v)(h2:t.ok R):(TG n c v t).ok R:=by
 induction n with
 |zero=>exact h2
 |succ n ih=>exact⟨h1,ih⟩
abbrev Km:=λS L R H d s (bw:ByteArray) C=>(⟨[(0,.iface 37 (ap 0)),(1,aq 5 1),(2,aq 6 (nG C)),(6,ap 8),(7,ap 9),(8,ap 10),(9,aa 0)],[ab (aL S 1 11 12 13) 89,.abs d,.dead,.dead,.dead,ab ([cA 7 0 (DD (aX.bytes s)) bw.size,.bool (aX.ended s),aa (aX.code s),aa (aX.kK s),aa (aX.id s)]) 30,.cells (ay C) 3 true,.cells (af bw) 5 true,ab ([.string (ar2 #[]),.string (ar2 #[]),.string (ar2 #[]),.string (ar2 #[]),aa 0,aa 0,aa 0,aa 0,aa 0,aa 0,aa 0,.bool false]) 43,ab ([.string (ar2 #[]),.string (ar2 #[]),.string (ar2 #[]),.string (ar2 #[]),aa (ad.at_ S),aa 0,aa 0,aa 0,aa 0,aa 0,aa 0,.bool false]) 43,ab ([.bool false,.bool false,.bool false,.bool false]) 92,ab (ah L) 9,ab (ay R) 3,ab (an H) 114]⟩:ai)
abbrev alx:=λS L R H d s bw C=>(⟨[(0,.iface 37 (ap 0)),(1,aq 5 1),(2,aq 6 (nG C))],[ab (aL S 1 8 9 10) 89,.abs d,.dead,.dead,.dead,ab (ow s bw 7) 30,.cells (ay C) 3 true,.cells (af bw) 5 true,ab (ah L) 9,ab (ay R) 3,ab (an H) 114]⟩:ai)
theorem aly(S:ad)(L R H d s bw C)(pH:(an H).all ag=true)(h0:S.bi=false)(h1:S.more=false)(h2:S.at_=0){Q:aU}(aY:DC (ay C) ag)(bh:DC (af bw) ag)(bT:DC (ah L) ag)(bO:DC (ay R) ag)(nu:DC (an H) ag)(l5:ao fK 148 8 (zN.drop 4) (Km S L R H d s bw C) Q):ao fK 148 8 zN (alx S L R H d s bw C) Q:=
 aV bp 4 (aB [8,2] (.leaf [0,1,2,6,7,8,9] [0,1,2,3,4,5,6,7,11,12,13,8,9,10] [6,7,8,9,10])) (λu=>by kernel_rfl) (mN (show(ad.bi S)=false by assumption) (mN (show(ad.more S)=false by assumption) (mN (aS C) (mN (aE bw) (aO L R H (mQ l5))))))
abbrev xu:=λS L R H d s (bw:ByteArray) C o (nd er hd t:Int) (w:Bool) (k:Int)=>(⟨[(0,.iface 37 (ap 0)),(1,aq 5 1),(2,aq 6 (nG C)),(6,ap 8),(7,ap 9),(8,ap 10),(9,aa k)],[ab (aL S 1 11 12 13) 89,.abs d,.dead,.dead,.dead,ab ([cA 7 0 (DD (aX.bytes s)) bw.size,.bool (aX.ended s),aa (aX.code s),aa (aX.kK s),aa (aX.id s)]) 30,.cells (ay C) 3 true,.cells (af bw) 5 true,ab jM 43,ab (mg o nd er hd t) 43,ab (mh w) 92,ab (ah L) 9,ab (ay R) 3,ab (an H) 114]⟩:ai)
abbrev Kn:=λS L R H d s (bw:ByteArray) C o (nd er hd t:Int)=>([ab (aL S 1 10 11 12) 89,.abs d,.dead,.dead,.dead,ab ([cA 7 0 (DD (aX.bytes s)) bw.size,.bool (aX.ended s),aa (aX.code s),aa (aX.kK s),aa (aX.id s)]) 30,.cells (ay C) 3 true,.cells (af bw) 5 true,ab jM 43,ab (mg o nd er hd t) 43,ab (ah L) 9,ab (ay R) 3,ab (an H) 114]:List ak)
abbrev Ko:=λS L R H d s bw C o (nd er hd t:Int) (w:Bool) (k:Int)=>(⟨[(6,ap 8),(7,ap 9)],Kn S L R H d s bw C o nd er hd t⟩:ai)
abbrev alz:=λS L R H d s bw C o (nd er hd t:Int) (w:Bool) (k:Int)=>(⟨[(6,ap 8),(7,ap 9)],Kn S L R H d s bw C o nd er hd t⟩:ai)
abbrev alA:=λS L R H d s bw C o (nd er hd t:Int) (w:Bool) (k:Int)=>(⟨[(6,ap 8),(7,ap 9)],Kn S L R H d s bw C o nd er hd t⟩:ai)
abbrev alB:=λS L R H d s bw C o (nd er hd t:Int) (w:Bool) (k:Int)=>(⟨[(0,.iface 37 (ap 0)),(1,aq 5 1),(2,aq 6 (nG C)),(6,ap 8),(7,ap 9),(8,ap 10),(9,aa k)],[ab (aL S 1 11 12 13) 89,.abs d,.dead,.dead,.dead,ab (ow s bw 7) 30,.cells (ay C) 3 true,.cells (af bw) 5 true,ab jM 43,ab (mg o nd er hd t) 43,ab (mh w) 92,ab (ah L) 9,ab (ay R) 3,ab (an H) 114]⟩:ai)
theorem alC(S L R H d s bw C o)(nd er hd t:Int)(w:Bool)(k:Int)(pH:(an H).all ag=true){Q:aU}(l5:(decide (k<100000))->(er==0)->(nd != -1)->ao fK 148 8 (xq.drop 2) (xu S L R H d s bw C o nd er hd t w k) Q)(l6:(decide (k<100000))->(er==0)->(nd != -1)=false->Q (.exit 0) (Ko S L R H d s bw C o nd er hd t w k))(l7:(decide (k<100000))->(er==0)=false->Q (.exit 0) (alz S L R H d s bw C o nd er hd t w k))(l8:(decide (k<100000))=false->Q (.exit 0) (alA S L R H d s bw C o nd er hd t w k)):ao fK 148 8 xq (alB S L R H d s bw C o nd er hd t w k) Q:=
 aV bp 2 (.fork 0 (aB [1,3,1] (.fork 0 (aB [1,3,1] (.fork 0 (.leaf [0,1,2,6,7,8,9] [0,1,2,3,4,5,6,7,8,9,10,11,12,13] [6,7,11,12,13]) (.leaf [6,7] [0,1,2,3,4,5,6,7,8,9,11,12,13] [6,7,11,12,13]))) (aB [0,0,0] (.leaf [6,7] [0,1,2,3,4,5,6,7,8,9,11,12,13] [6,7,11,12,13])))) (aB [0,0,0] (.leaf [6,7] [0,1,2,3,4,5,6,7,8,9,11,12,13] [6,7,11,12,13]))) (λu=>by kernel_rfl) (mF (c:=decide (k<100000)) (λh0=>(xr 3 h0 (mF (c:=er==0) (λh1=>(xr 3 h1 (mF (c:=nd != -1) (λh2=>(mN (aS C) (mN (aE bw) (aO L R H (mQ (l5 h0 h1 h2)))))) (λh2=>(mN (aS C) (mN (aE bw) (aO L R H (mE 0 (l6 h0 h1 h2))))))))) (λh1=>(xr 3 h1 (mN (aS C) (mN (aE bw) (aO L R H (mE 0 (l7 h0 h1)))))))))) (λh0=>(xr 3 h0 (mN (aS C) (mN (aE bw) (aO L R H (mE 0 (l8 h0))))))))
abbrev alD:=λ(S:ad) (L:List ByteArray) (R:List Int) (H:List au) (d:aA) s (bw:ByteArray) C o (hd t:Int) (w:Bool) T K Rr G dd (e z:Int) (x:ByteArray) (k:Int)=>(⟨[(0,.iface 37 (ap 0)),(1,aq 5 1),(2,aq 6 (nG C)),(6,ap 8),(7,ap 9),(8,ap 10),(9,.int .i64 (m6 .i64 (k+1)))],[ab (aL T 1 11 12 13) 89,.abs dd,.dead,.dead,.dead,ab ([cA 7 0 (DD (aX.bytes s)) bw.size,.bool (aX.ended s),aa (aX.code s),aa (aX.kK s),aa (aX.id s)]) 30,.cells (ay C) 3 true,.cells (af bw) 5 true,ab jM 43,ab ([.string (o++ar2 (ar6 (asp (ash (cut (af (bM x)) 0 (x.size+1)) bytesOf) []))),.string (KI),.string (KI),.string (KI),aa (-1),aa e,aa (if z>hd then z else hd),aa t,aa 0,aa 0,aa 0,.bool true]) 43,ab (mh w) 92,ab (ah K) 9,ab (ay Rr) 3,ab (an G) 114]⟩:ai)
abbrev alE:=λ(S:ad) (L:List ByteArray) (R:List Int) (H:List au) (d:aA) s (bw:ByteArray) C o (hd t:Int) (w:Bool) T K Rr G dd (e z:Int) (x:ByteArray) (k:Int)=>(⟨[(0,.iface 37 (ap 0)),(1,aq 5 1),(2,aq 6 (nG C)),(6,ap 8),(7,ap 9),(8,ap 10),(9,.int .i64 (m6 .i64 (k+1)))],[ab (aL T 1 11 12 13) 89,.abs dd,.dead,.dead,.dead,ab ([cA 7 0 (DD (aX.bytes s)) bw.size,.bool (aX.ended s),aa (aX.code s),aa (aX.kK s),aa (aX.id s)]) 30,.cells (ay C) 3 true,.cells (af bw) 5 true,ab jM 43,ab ([.string (o++ar2 (ar6 (asp (ash (cut (af (bM x)) 0 (x.size+1)) bytesOf) []))),.string (KI),.string (KI),.string (KI),aa (-2),aa e,aa (if z>hd then z else hd),aa t,aa 0,aa 0,aa 0,.bool true]) 43,ab (mh w) 92,ab (ah K) 9,ab (ay Rr) 3,ab (an G) 114]⟩:ai)
abbrev alF:=λ(S:ad) (L:List ByteArray) (R:List Int) (H:List au) (d:aA) s (bw:ByteArray) C o (hd t:Int) (w:Bool) T K Rr G dd (e z:Int) (x:ByteArray) (k:Int)=>(⟨[(0,.iface 37 (ap 0)),(1,aq 5 1),(2,aq 6 (nG C)),(6,ap 8),(7,ap 9),(8,ap 10),(9,.int .i64 (m6 .i64 (k+1)))],[ab (aL T 1 11 12 13) 89,.abs dd,.dead,.dead,.dead,ab ([cA 7 0 (DD (aX.bytes s)) bw.size,.bool (aX.ended s),aa (aX.code s),aa (aX.kK s),aa (aX.id s)]) 30,.cells (ay C) 3 true,.cells (af bw) 5 true,ab jM 43,ab ([.string (o++ar2 (ar6 (asp (ash (cut (af (bM x)) 0 (x.size+1)) bytesOf) []))),.string (KI),.string (KI),.string (KI),aa (ad.at_ T),aa e,aa (if z>hd then z else hd),aa t,aa 0,aa 0,aa 0,.bool true]) 43,ab (mh w) 92,ab (ah K) 9,ab (ay Rr) 3,ab (an G) 114]⟩:ai)
abbrev TH:=λ(S:ad) (L:List ByteArray) (R:List Int) (H:List au) (d:aA) s (bw:ByteArray) C o (hd t:Int) (w:Bool) T K Rr G dd (e z:Int) (x:ByteArray) (k:Int)=>(⟨[(0,.iface 37 (ap 0)),(1,aq 5 1),(2,aq 6 (nG C)),(6,ap 8),(7,ap 9),(8,ap 10),(9,.int .i64 (m6 .i64 (k+1)))],[ab (aL T 1 11 12 13) 89,.abs dd,.dead,.dead,.dead,ab ([cA 7 0 (DD (aX.bytes s)) bw.size,.bool (aX.ended s),aa (aX.code s),aa (aX.kK s),aa (aX.id s)]) 30,.cells (ay C) 3 true,.cells (af bw) 5 true,ab jM 43,ab ([.string (o++ar2 (ar6 (asp (ash (cut (af (bM x)) 0 (x.size+1)) bytesOf) []))),.string (KI),.string (KI),.string (KI),aa (-1),aa e,aa (if z>hd then z else hd),aa t,aa 0,aa 0,aa 0,.bool false]) 43,ab (mh w) 92,ab (ah K) 9,ab (ay Rr) 3,ab (an G) 114]⟩:ai)
abbrev TI:=λ(S:ad) (L:List ByteArray) (R:List Int) (H:List au) (d:aA) s (bw:ByteArray) C o (hd t:Int) (w:Bool) T K Rr G dd (e z:Int) (x:ByteArray) (k:Int)=>(⟨[(0,.iface 37 (ap 0)),(1,aq 5 1),(2,aq 6 (nG C)),(6,ap 8),(7,ap 9),(8,ap 10),(9,.int .i64 (m6 .i64 (k+1)))],[ab (aL T 1 11 12 13) 89,.abs dd,.dead,.dead,.dead,ab ([cA 7 0 (DD (aX.bytes s)) bw.size,.bool (aX.ended s),aa (aX.code s),aa (aX.kK s),aa (aX.id s)]) 30,.cells (ay C) 3 true,.cells (af bw) 5 true,ab jM 43,ab ([.string (o++ar2 (ar6 (asp (ash (cut (af (bM x)) 0 (x.size+1)) bytesOf) []))),.string (KI),.string (KI),.string (KI),aa (-2),aa e,aa (if z>hd then z else hd),aa t,aa 0,aa 0,aa 0,.bool false]) 43,ab (mh w) 92,ab (ah K) 9,ab (ay Rr) 3,ab (an G) 114]⟩:ai)
abbrev TJ:=λ(S:ad) (L:List ByteArray) (R:List Int) (H:List au) (d:aA) s (bw:ByteArray) C o (hd t:Int) (w:Bool) T K Rr G dd (e z:Int) (x:ByteArray) (k:Int)=>(⟨[(0,.iface 37 (ap 0)),(1,aq 5 1),(2,aq 6 (nG C)),(6,ap 8),(7,ap 9),(8,ap 10),(9,.int .i64 (m6 .i64 (k+1)))],[ab (aL T 1 11 12 13) 89,.abs dd,.dead,.dead,.dead,ab ([cA 7 0 (DD (aX.bytes s)) bw.size,.bool (aX.ended s),aa (aX.code s),aa (aX.kK s),aa (aX.id s)]) 30,.cells (ay C) 3 true,.cells (af bw) 5 true,ab jM 43,ab ([.string (o++ar2 (ar6 (asp (ash (cut (af (bM x)) 0 (x.size+1)) bytesOf) []))),.string (KI),.string (KI),.string (KI),aa (ad.at_ T),aa e,aa (if z>hd then z else hd),aa t,aa 0,aa 0,aa 0,.bool false]) 43,ab (mh w) 92,ab (ah K) 9,ab (ay Rr) 3,ab (an G) 114]⟩:ai)
abbrev alG:=λS L R H d s bw C o (hd t:Int) (w:Bool) (T:ad) (K:List ByteArray) (Rr:List Int) (G:List au) (dd:aA) (e z:Int) (x:ByteArray) (k:Int)=>(⟨[(0,.iface 37 (ap 0)),(1,aq 5 1),(2,aq 6 (nG C)),(6,ap 8),(7,ap 9),(8,ap 10),(9,aa k)],[ab (aL S 1 11 12 13) 89,.abs d,.dead,.dead,.dead,ab (ow s bw 7) 30,.cells (ay C) 3 true,.cells (af bw) 5 true,ab jM 43,ab (mg o (-2) 0 hd t) 43,ab (mh w) 92,ab (ah L) 9,ab (ay R) 3,ab (an H) 114]⟩:ai)
theorem alH(S L R H d s bw C)(o:ByteArray)(hd t:Int)(w:Bool)(T K Rr G dd)(e z:Int)(x:ByteArray)(k:Int)(pH:(an H).all ag=true)(pG:(an G).all ag=true)(tE:aF fK 29 [ap 0] (aP S L R H d) λr q=>r=.ret (.tuple #[aq 5 1,aa e])/\q=aP T K Rr G dd++Dp x)(jN:aF fK 30 [ap 0] (aP T K Rr G dd) λr q=>r=.ret (aa z)/\q=(aP T K Rr G dd))(h0:m6 .i64 (k+1)=k+1)(h1:x.size<=64){Q:aU}(n1:(decide (m6 .i64 (0+(↑(x.size+1):Int))>1024))->(at3 (ash (cut (af (bM x)) 0 (x.size+1)) bytesOf))=true)(n2:(decide (m6 .i64 (0+(↑(x.size+1):Int))>1024))->(decide ((↑(o.size+DD (ar2 (ar6 (asp (ash (cut (af (bM x)) 0 (x.size+1)) bytesOf) [])))):Int)<=9223372036854775807))=true)(l6:(decide (m6 .i64 (0+(↑(x.size+1):Int))>1024))->(ad.bi T)->Q .normal (alD S L R H d s bw C o hd t w T K Rr G dd e z x k))(l7:(decide (m6 .i64 (0+(↑(x.size+1):Int))>1024))->(ad.bi T)=false->(ad.more T)->Q .normal (alE S L R H d s bw C o hd t w T K Rr G dd e z x k))(l8:(decide (m6 .i64 (0+(↑(x.size+1):Int))>1024))->(ad.bi T)=false->(ad.more T)=false->Q .normal (alF S L R H d s bw C o hd t w T K Rr G dd e z x k))(n9:(decide (m6 .i64 (0+(↑(x.size+1):Int))>1024))=false->(at3 (ash (cut (af (bM x)) 0 (x.size+1)) bytesOf))=true)(n10:(decide (m6 .i64 (0+(↑(x.size+1):Int))>1024))=false->(decide ((↑(o.size+DD (ar2 (ar6 (asp (ash (cut (af (bM x)) 0 (x.size+1)) bytesOf) [])))):Int)<=9223372036854775807))=true)(kH:(decide (m6 .i64 (0+(↑(x.size+1):Int))>1024))=false->(ad.bi T)->Q .normal (TH S L R H d s bw C o hd t w T K Rr G dd e z x k))(oq:(decide (m6 .i64 (0+(↑(x.size+1):Int))>1024))=false->(ad.bi T)=false->(ad.more T)->Q .normal (TI S L R H d s bw C o hd t w T K Rr G dd e z x k))(vq:(decide (m6 .i64 (0+(↑(x.size+1):Int))>1024))=false->(ad.bi T)=false->(ad.more T)=false->Q .normal (TJ S L R H d s bw C o hd t w T K Rr G dd e z x k)):ao fK 148 8 (xq.drop 2) (alG S L R H d s bw C o hd t w T K Rr G dd e z x k) Q:=
 aV (als S L R H d T K Rr G dd e z x tE jN) 1000 (aB [7,1,1,1,1,1,1,1] (.fork 6 (aB [44,1,0,1,15,1,1,1,1,1,1] (.fork 6 (.leaf [0,1,2,6,7,8,9] [0,1,2,3,4,5,6,7,8,9,10,11,12,13] [6,7,11,12,13]) (.fork 1 (.leaf [0,1,2,6,7,8,9] [0,1,2,3,4,5,6,7,8,9,10,11,12,13] [6,7,11,12,13]) (.leaf [0,1,2,6,7,8,9] [0,1,2,3,4,5,6,7,8,9,10,11,12,13] [6,7,11,12,13])))) (aB [42,1,0,1,15,1,1,1,1,1,1] (.fork 6 (.leaf [0,1,2,6,7,8,9] [0,1,2,3,4,5,6,7,8,9,10,11,12,13] [6,7,11,12,13]) (.fork 1 (.leaf [0,1,2,6,7,8,9] [0,1,2,3,4,5,6,7,8,9,10,11,12,13] [6,7,11,12,13]) (.leaf [0,1,2,6,7,8,9] [0,1,2,3,4,5,6,7,8,9,10,11,12,13] [6,7,11,12,13])))))) (λu=>by kernel_rfl) (aO L R H (mN (kC [ap 0] (aP S L R H d)) (mN (aW K) (mN (aS Rr) (mN (aZ G) (mN (aE (bM x)) (mF (c:=decide (m6 .i64 (0+(↑(x.size+1):Int))>1024)) (λh0=>(mN (n1 h0) (mN (n2 h0) (mN (aW K) (mN (aS Rr) (mN (aZ G) (mN (kC [ap 0] (aP T K Rr G dd)) (mN (aW K) (mN (aS Rr) (mN (aZ G) (mF (c:=ad.bi T) (λh1=>(mN (aS C) (mN (aE bw) (mN (aW K) (mN (aS Rr) (mN (aZ G) (mQ (ao.done (by kernel_rfl) (l6 h0 h1))))))))) (λh1=>(mF (c:=ad.more T) (λh2=>(mN (aS C) (mN (aE bw) (mN (aW K) (mN (aS Rr) (mN (aZ G) (mQ (ao.done (by kernel_rfl) (l7 h0 h1 h2))))))))) (λh2=>(mN (aS C) (mN (aE bw) (mN (aW K) (mN (aS Rr) (mN (aZ G) (mQ (ao.done (by kernel_rfl) (l8 h0 h1 h2)))))))))))))))))))))) (λh0=>(mN (n9 h0) (mN (n10 h0) (mN (aW K) (mN (aS Rr) (mN (aZ G) (mN (kC [ap 0] (aP T K Rr G dd)) (mN (aW K) (mN (aS Rr) (mN (aZ G) (mF (c:=ad.bi T) (λh1=>(mN (aS C) (mN (aE bw) (mN (aW K) (mN (aS Rr) (mN (aZ G) (mQ (ao.done (by kernel_rfl) (kH h0 h1))))))))) (λh1=>(mF (c:=ad.more T) (λh2=>(mN (aS C) (mN (aE bw) (mN (aW K) (mN (aS Rr) (mN (aZ G) (mQ (ao.done (by kernel_rfl) (oq h0 h1 h2))))))))) (λh2=>(mN (aS C) (mN (aE bw) (mN (aW K) (mN (aS Rr) (mN (aZ G) (mQ (ao.done (by kernel_rfl) (vq h0 h1 h2)))))))))))))))))))))))))))))
abbrev TK:=λ(S:ad) (L:List ByteArray) (R:List Int) (H:List au) (d:aA) s (bw:ByteArray) C o (hd t:Int) (w:Bool) T K Rr G dd (e z:Int) (c:ByteArray) (k cv:Int)=>(⟨[(0,.iface 37 (ap 0)),(1,aq 5 1),(2,aq 6 (nG C)),(6,ap 8),(7,ap 9),(8,ap 10),(9,.int .i64 (m6 .i64 (k+1)))],[ab (aL T 1 11 12 13) 89,.abs dd,.dead,.dead,.dead,ab ([cA 7 0 (DD (aX.bytes s)) bw.size,.bool (aX.ended s),aa (aX.code s),aa (aX.kK s),aa (aX.id s)]) 30,.cells (ay C) 3 true,.cells (af bw) 5 true,ab jM 43,ab ([.string o,.string (KI),.string (KI),.string (KI),aa (-1),aa e,aa (if z>hd then z else hd),.int .i64 (if m6 .i64 (t+cv)<(↑(DD (aX.bytes s)):Int)then m6 .i64 (t+cv)else(↑(DD (aX.bytes s)):Int)),aa 0,aa 0,aa 0,.bool false]) 43,ab (mh w) 92,ab (ah K) 9,ab (ay Rr) 3,ab (an G) 114]⟩:ai)
abbrev TL:=λ(S:ad) (L:List ByteArray) (R:List Int) (H:List au) (d:aA) s (bw:ByteArray) C o (hd t:Int) (w:Bool) T K Rr G dd (e z:Int) (c:ByteArray) (k cv:Int)=>(⟨[(0,.iface 37 (ap 0)),(1,aq 5 1),(2,aq 6 (nG C)),(6,ap 8),(7,ap 9),(8,ap 10),(9,.int .i64 (m6 .i64 (k+1)))],[ab (aL T 1 11 12 13) 89,.abs dd,.dead,.dead,.dead,ab ([cA 7 0 (DD (aX.bytes s)) bw.size,.bool (aX.ended s),aa (aX.code s),aa (aX.kK s),aa (aX.id s)]) 30,.cells (ay C) 3 true,.cells (af bw) 5 true,ab jM 43,ab ([.string o,.string (KI),.string (KI),.string (KI),aa (-2),aa e,aa (if z>hd then z else hd),.int .i64 (if m6 .i64 (t+cv)<(↑(DD (aX.bytes s)):Int)then m6 .i64 (t+cv)else(↑(DD (aX.bytes s)):Int)),aa 0,aa 0,aa 0,.bool false]) 43,ab (mh w) 92,ab (ah K) 9,ab (ay Rr) 3,ab (an G) 114]⟩:ai)
abbrev TM:=λ(S:ad) (L:List ByteArray) (R:List Int) (H:List au) (d:aA) s (bw:ByteArray) C o (hd t:Int) (w:Bool) T K Rr G dd (e z:Int) (c:ByteArray) (k cv:Int)=>(⟨[(0,.iface 37 (ap 0)),(1,aq 5 1),(2,aq 6 (nG C)),(6,ap 8),(7,ap 9),(8,ap 10),(9,.int .i64 (m6 .i64 (k+1)))],[ab (aL T 1 11 12 13) 89,.abs dd,.dead,.dead,.dead,ab ([cA 7 0 (DD (aX.bytes s)) bw.size,.bool (aX.ended s),aa (aX.code s),aa (aX.kK s),aa (aX.id s)]) 30,.cells (ay C) 3 true,.cells (af bw) 5 true,ab jM 43,ab ([.string o,.string (KI),.string (KI),.string (KI),aa (ad.at_ T),aa e,aa (if z>hd then z else hd),.int .i64 (if m6 .i64 (t+cv)<(↑(DD (aX.bytes s)):Int)then m6 .i64 (t+cv)else(↑(DD (aX.bytes s)):Int)),aa 0,aa 0,aa 0,.bool false]) 43,ab (mh w) 92,ab (ah K) 9,ab (ay Rr) 3,ab (an G) 114]⟩:ai)
abbrev alI:=λS L R H d s bw C o (hd t:Int) (w:Bool) (T:ad) (K:List ByteArray) (Rr:List Int) (G:List au) (dd:aA) (e z:Int) (c:ByteArray) (k cv:Int)=>(⟨[(0,.iface 37 (ap 0)),(1,aq 5 1),(2,aq 6 (nG C)),(6,ap 8),(7,ap 9),(8,ap 10),(9,aa k)],[ab (aL S 1 11 12 13) 89,.abs d,.dead,.dead,.dead,ab (ow s bw 7) 30,.cells (ay C) 3 true,.cells (af bw) 5 true,ab jM 43,ab (mg o 0 0 hd t) 43,ab (mh w) 92,ab (ah L) 9,ab (ay R) 3,ab (an H) 114]⟩:ai)
theorem alJ(S L R H d)(s:aX)(bw:ByteArray)(C o)(hd t:Int)(w:Bool)(T K Rr G dd)(e z:Int)(c:ByteArray)(k cv:Int)(pH:(an H).all ag=true)(pG:(an G).all ag=true)(pS:aF fK 27 [ap 0,aa 0,aq 5 c.size] (aP S L R H d++[ab (af c) 5]) λr q=>r=.ret (.tuple #[ci,aa e])/\q=oX (ab (af c) 5) T K Rr G dd)(jN:aF fK 30 [ap 0] (aP T K Rr G dd) λr q=>r=.ret (aa z)/\q=(aP T K Rr G dd))(qH:aF fK 35 [aq 0 (nG C),aa k] [.cells (ay C) 3 true] λr q=>r=.ret (aa cv)/\q=[.cells (ay C) 3 true])(h0:m6 .i64 (k+1)=k+1)(h1:0<=t)(h2:t<s.bytes.size)(h3:s.bytes.size<=4500)(h4:s.bytes.size<=bw.size)(h5:bw.size<=4500)(h6:1<=cv)(h7:cv<=32)(h8:m6 .i64 (t+cv)=t+cv){Q:aU}(n1:(DC (arP ((m5 (if m6 .i64 (t+cv)<(↑(DD s.bytes):Int)then m6 .i64 (t+cv)else(↑(DD s.bytes):Int))-m5 t)*1) (as3 (0+m5 t*1) (af bw))) Value.oneCell')=true)(n2:(fZ [ap 0,aa 0,aq 5 (0+(m5 (if m6 .i64 (t+cv)<(↑(DD s.bytes):Int)then m6 .i64 (t+cv)else(↑(DD s.bytes):Int))-m5 t))] [ap 0,aa 0,aq 5 c.size] [ab (aL S 1 2 3 4) 89,ak.abs d,ab (ah L) 9,ab (ay R) 3,ab (an H) 114,ab ([]++arP ((m5 (if m6 .i64 (t+cv)<(↑(DD s.bytes):Int)then m6 .i64 (t+cv)else(↑(DD s.bytes):Int))-m5 t)*1) (as3 (0+m5 t*1) (af bw))) 5] (aP S L R H d++[ab (af c) 5]))=true)(l6:(ad.bi T)->Q .normal (TK S L R H d s bw C o hd t w T K Rr G dd e z c k cv))(l7:(ad.bi T)=false->(ad.more T)->Q .normal (TL S L R H d s bw C o hd t w T K Rr G dd e z c k cv))(l8:(ad.bi T)=false->(ad.more T)=false->Q .normal (TM S L R H d s bw C o hd t w T K Rr G dd e z c k cv)):ao fK 148 8 (xq.drop 2) (alI S L R H d s bw C o hd t w T K Rr G dd e z c k cv) Q:=
 aV (alu S L R H d T K Rr G dd e z c C k cv pS jN qH) 1000 (aB [27,9,1,6,1,1,1,1,0,1,1,1,1,11,1,1,1,1,1,1,1,1,13,1,1,1,1,1,1] (.fork 6 (.leaf [0,1,2,6,7,8,9] [0,1,2,3,4,5,6,7,8,9,10,16,17,18] [6,7,16,17,18]) (.fork 1 (.leaf [0,1,2,6,7,8,9] [0,1,2,3,4,5,6,7,8,9,10,16,17,18] [6,7,16,17,18]) (.leaf [0,1,2,6,7,8,9] [0,1,2,3,4,5,6,7,8,9,10,16,17,18] [6,7,16,17,18])))) (λu=>by kernel_rfl) (mN (decide_eq_true (by omega):(decide (t<(↑(DD (aX.bytes s)):Int)))=true) (mN (aS C) (mN (kC [aq 0 (nG C),aa k] [ak.cells (ay C) 3 true]) (mN (decide_eq_true (by omega):(decide (0<=t))=true) (mN (decide_eq_true (by omega):(decide (0<=if m6 .i64 (t+cv)<(↑(DD (aX.bytes s)):Int)then m6 .i64 (t+cv)else(↑(DD (aX.bytes s)):Int)))=true) (mN (show(arM (m5 t) (m5 (if m6 .i64 (t+cv)<(↑(DD (aX.bytes s)):Int)then m6 .i64 (t+cv)else(↑(DD (aX.bytes s)):Int))))=true by simp at pH pG pS jN qH h0 h1 h2 h3 h4 h5 h6 h7 h8⊢ <;>omega) (mN (show(arM (m5 (if m6 .i64 (t+cv)<(↑(DD (aX.bytes s)):Int)then m6 .i64 (t+cv)else(↑(DD (aX.bytes s)):Int))) bw.size)=true by simp at pH pG pS jN qH h0 h1 h2 h3 h4 h5 h6 h7 h8⊢ <;>omega) (mN (show(arM (0+m5 t*1+(m5 (if m6 .i64 (t+cv)<(↑(DD (aX.bytes s)):Int)then m6 .i64 (t+cv)else(↑(DD (aX.bytes s)):Int))-m5 t)*1) (nG (af bw)))=true by simp at pH pG pS jN qH h0 h1 h2 h3 h4 h5 h6 h7 h8⊢ <;>omega) (mN (show(arM (0+(m5 (if m6 .i64 (t+cv)<(↑(DD (aX.bytes s)):Int)then m6 .i64 (t+cv)else(↑(DD (aX.bytes s)):Int))-m5 t)) 1000000)=true by simp at pH pG pS jN qH h0 h1 h2 h3 h4 h5 h6 h7 h8⊢ <;>omega) (mN n1 (mN (show(Nat.beq (nG (arP ((m5 (if m6 .i64 (t+cv)<(↑(DD (aX.bytes s)):Int)then m6 .i64 (t+cv)else(↑(DD (aX.bytes s)):Int))-m5 t)*1) (as3 (0+m5 t*1) (af bw)))) ((m5 (if m6 .i64 (t+cv)<(↑(DD (aX.bytes s)):Int)then m6 .i64 (t+cv)else(↑(DD (aX.bytes s)):Int))-m5 t)*1))=true by simp at pH pG pS jN qH h0 h1 h2 h3 h4 h5 h6 h7 h8⊢ <;>omega) (aO L R H (mN (show(DC ([]++arP ((m5 (if m6 .i64 (t+cv)<(↑(DD (aX.bytes s)):Int)then m6 .i64 (t+cv)else(↑(DD (aX.bytes s)):Int))-m5 t)*1) (as3 (0+m5 t*1) (af bw))) ag)=true by simp) (mN n2 (mN (aE c) (mN (aW K) (mN (aS Rr) (mN (aZ G) (mN (aW K) (mN (aS Rr) (mN (aZ G) (mN (kC [ap 0] (aP T K Rr G dd)) (mN (aW K) (mN (aS Rr) (mN (aZ G) (mF (c:=ad.bi T) (λh0=>(mN (aS C) (mN (aE bw) (mN (aW K) (mN (aS Rr) (mN (aZ G) (mQ (ao.done (by kernel_rfl) (l6 h0))))))))) (λh0=>(mF (c:=ad.more T) (λh1=>(mN (aS C) (mN (aE bw) (mN (aW K) (mN (aS Rr) (mN (aZ G) (mQ (ao.done (by kernel_rfl) (l7 h0 h1))))))))) (λh1=>(mN (aS C) (mN (aE bw) (mN (aW K) (mN (aS Rr) (mN (aZ G) (mQ (ao.done (by kernel_rfl) (l8 h0 h1)))))))))))))))))))))))))))))))))))))
abbrev TN:=λ(S:ad) (L:List ByteArray) (R:List Int) (H:List au) (d:aA) s (bw:ByteArray) C o (hd:Int) T K Rr G dd (e z k:Int)=>(⟨[(0,.iface 37 (ap 0)),(1,aq 5 1),(2,aq 6 (nG C)),(6,ap 8),(7,ap 9),(8,ap 10),(9,.int .i64 (m6 .i64 (k+1)))],[ab (aL T 1 11 12 13) 89,.abs dd,.dead,.dead,.dead,ab ([cA 7 0 (DD (aX.bytes s)) bw.size,.bool (aX.ended s),aa (aX.code s),aa (aX.kK s),aa (aX.id s)]) 30,.cells (ay C) 3 true,.cells (af bw) 5 true,ab jM 43,ab ([.string o,.string (KI),.string (KI),.string (KI),aa (-1),aa e,aa (if z>hd then z else hd),aa (DD (aX.bytes s)),aa 0,aa 0,aa 0,.bool false]) 43,ab ([.bool true,.bool false,.bool false,.bool false]) 92,ab (ah K) 9,ab (ay Rr) 3,ab (an G) 114]⟩:ai)
abbrev TP:=λ(S:ad) (L:List ByteArray) (R:List Int) (H:List au) (d:aA) s (bw:ByteArray) C o (hd:Int) T K Rr G dd (e z k:Int)=>(⟨[(0,.iface 37 (ap 0)),(1,aq 5 1),(2,aq 6 (nG C)),(6,ap 8),(7,ap 9),(8,ap 10),(9,.int .i64 (m6 .i64 (k+1)))],[ab (aL T 1 11 12 13) 89,.abs dd,.dead,.dead,.dead,ab ([cA 7 0 (DD (aX.bytes s)) bw.size,.bool (aX.ended s),aa (aX.code s),aa (aX.kK s),aa (aX.id s)]) 30,.cells (ay C) 3 true,.cells (af bw) 5 true,ab jM 43,ab ([.string o,.string (KI),.string (KI),.string (KI),aa (-2),aa e,aa (if z>hd then z else hd),aa (DD (aX.bytes s)),aa 0,aa 0,aa 0,.bool false]) 43,ab ([.bool true,.bool false,.bool false,.bool false]) 92,ab (ah K) 9,ab (ay Rr) 3,ab (an G) 114]⟩:ai)
abbrev TQ:=λ(S:ad) (L:List ByteArray) (R:List Int) (H:List au) (d:aA) s (bw:ByteArray) C o (hd:Int) T K Rr G dd (e z k:Int)=>(⟨[(0,.iface 37 (ap 0)),(1,aq 5 1),(2,aq 6 (nG C)),(6,ap 8),(7,ap 9),(8,ap 10),(9,.int .i64 (m6 .i64 (k+1)))],[ab (aL T 1 11 12 13) 89,.abs dd,.dead,.dead,.dead,ab ([cA 7 0 (DD (aX.bytes s)) bw.size,.bool (aX.ended s),aa (aX.code s),aa (aX.kK s),aa (aX.id s)]) 30,.cells (ay C) 3 true,.cells (af bw) 5 true,ab jM 43,ab ([.string o,.string (KI),.string (KI),.string (KI),aa (ad.at_ T),aa e,aa (if z>hd then z else hd),aa (DD (aX.bytes s)),aa 0,aa 0,aa 0,.bool false]) 43,ab ([.bool true,.bool false,.bool false,.bool false]) 92,ab (ah K) 9,ab (ay Rr) 3,ab (an G) 114]⟩:ai)
abbrev alK:=λS L R H d (s:aX) bw C o (hd:Int) (T:ad) (K:List ByteArray) (Rr:List Int) (G:List au) (dd:aA) (e z k:Int)=>(⟨[(0,.iface 37 (ap 0)),(1,aq 5 1),(2,aq 6 (nG C)),(6,ap 8),(7,ap 9),(8,ap 10),(9,aa k)],[ab (aL S 1 11 12 13) 89,.abs d,.dead,.dead,.dead,ab (ow s bw 7) 30,.cells (ay C) 3 true,.cells (af bw) 5 true,ab jM 43,ab (mg o 0 0 hd s.bytes.size) 43,ab (mh false) 92,ab (ah L) 9,ab (ay R) 3,ab (an H) 114]⟩:ai)
theorem alL(S L R H d)(s:aX)(bw C o)(hd:Int)(T K Rr G dd)(e z k:Int)(pH:(an H).all ag=true)(pG:(an G).all ag=true)(xp:aF fK 28 [ap 0,aa 0] (aP S L R H d) λr q=>r=.ret (.tuple #[ci,aa e])/\q=jI T K Rr G dd)(jN:aF fK 30 [ap 0] (aP T K Rr G dd) λr q=>r=.ret (aa z)/\q=(aP T K Rr G dd))(h0:m6 .i64 (k+1)=k+1)(h1:s.ended=true){Q:aU}(n0:(fZ [ap 0,aa 0] [ap 0,aa 0] [ab (aL S 1 2 3 4) 89,ak.abs d,ab (ah L) 9,ab (ay R) 3,ab (an H) 114] (aP S L R H d)))(n1:(fZ [ap 0] [ap 0] [ab (aL T 1 2 3 4) 89,ak.abs dd,ab (ah K) 9,ab (ay Rr) 3,ab (an G) 114] (aP T K Rr G dd)))(aY:DC (ay C) ag)(bh:DC (af bw) ag)(l4:(ad.bi T)->Q .normal (TN S L R H d s bw C o hd T K Rr G dd e z k))(l5:(ad.bi T)=false->(ad.more T)->Q .normal (TP S L R H d s bw C o hd T K Rr G dd e z k))(l6:(ad.bi T)=false->(ad.more T)=false->Q .normal (TQ S L R H d s bw C o hd T K Rr G dd e z k)):ao fK 148 8 (xq.drop 2) (alK S L R H d s bw C o hd T K Rr G dd e z k) Q:=
 aV (alw S L R H d T K Rr G dd e z xp jN) 1000 (aB [26,5,1,3,3,1,9,1,1,1,1,1,1,13,1,1,1,1,1,1] (.fork 6 (.leaf [0,1,2,6,7,8,9] [0,1,2,3,4,5,6,7,8,9,10,14,15,16] [6,7,14,15,16]) (.fork 1 (.leaf [0,1,2,6,7,8,9] [0,1,2,3,4,5,6,7,8,9,10,14,15,16] [6,7,14,15,16]) (.leaf [0,1,2,6,7,8,9] [0,1,2,3,4,5,6,7,8,9,10,14,15,16] [6,7,14,15,16])))) (λu=>by kernel_rfl) (mN (show(decide ((↑(DD (aX.bytes s)):Int)<(↑(DD (aX.bytes s)):Int)))=false by simp) (xr 5 (show(aX.ended s)=true by assumption) (aO L R H (mN n0 (mN (aW K) (mN (aS Rr) (mN (aZ G) (mN (aW K) (mN (aS Rr) (mN (aZ G) (mN n1 (mN (aW K) (mN (aS Rr) (mN (aZ G) (mF (c:=ad.bi T) (λh0=>(mN (aS C) (mN (aE bw) (mN (aW K) (mN (aS Rr) (mN (aZ G) (mQ (ao.done (by kernel_rfl) (l4 h0))))))))) (λh0=>(mF (c:=ad.more T) (λh1=>(mN (aS C) (mN (aE bw) (mN (aW K) (mN (aS Rr) (mN (aZ G) (mQ (ao.done (by kernel_rfl) (l5 h0 h1))))))))) (λh1=>(mN (aS C) (mN (aE bw) (mN (aW K) (mN (aS Rr) (mN (aZ G) (mQ (ao.done (by kernel_rfl) (l6 h0 h1))))))))))))))))))))))))))
abbrev TR:=λS L R H d (s:aX) (bw:ByteArray) C o (hd:Int) (w:Bool) (k:Int)=>(⟨[(6,ap 8),(7,ap 9)],[ab (aL S 1 10 11 12) 89,.abs d,.dead,.dead,.dead,ab ([cA 7 0 (DD s.bytes) bw.size,.bool s.ended,aa s.code,aa s.kK,aa s.id]) 30,.cells (ay C) 3 true,.cells (af bw) 5 true,ab jM 43,ab (mg o 0 0 hd s.bytes.size) 43,ab (ah L) 9,ab (ay R) 3,ab (an H) 114]⟩:ai)
abbrev Kp:=λS L R H d (s:aX) bw C o (hd:Int) (w:Bool) (k:Int)=>(⟨[(0,.iface 37 (ap 0)),(1,aq 5 1),(2,aq 6 (nG C)),(6,ap 8),(7,ap 9),(8,ap 10),(9,aa k)],[ab (aL S 1 11 12 13) 89,.abs d,.dead,.dead,.dead,ab (ow s bw 7) 30,.cells (ay C) 3 true,.cells (af bw) 5 true,ab jM 43,ab (mg o 0 0 hd s.bytes.size) 43,ab (mh w) 92,ab (ah L) 9,ab (ay R) 3,ab (an H) 114]⟩:ai)
theorem alM(S L R H d)(s:aX)(bw C o)(hd:Int)(w:Bool)(k:Int)(pH:(an H).all ag=true)(h0:s.ended=false){Q:aU}(aY:DC (ay C) ag)(bh:DC (af bw) ag)(bT:DC (ah L) ag)(bO:DC (ay R) ag)(nu:DC (an H) ag)(l5:Q (.exit 0) (TR S L R H d s bw C o hd w k)):ao fK 148 8 (xq.drop 2) (Kp S L R H d s bw C o hd w k) Q:=
 aV bp 1000 (aB [26,4,0,0,0,0] (.leaf [6,7] [0,1,2,3,4,5,6,7,8,9,11,12,13] [6,7,11,12,13])) (λu=>by kernel_rfl) (mN (show(decide ((↑(DD (aX.bytes s)):Int)<(↑(DD (aX.bytes s)):Int)))=false by simp) (xr 5 (show(aX.ended s)=false by assumption) (mN (aS C) (mN (aE bw) (aO L R H (mE 0 l5))))))
abbrev TS:=λS L R H d s (bw:ByteArray) C o (nd er hd t:Int)=>(⟨[(6,ap 8)],[ab (aL S 1 9 10 11) 89,.abs d,.dead,.dead,.dead,ab ([cA 7 0 (DD (aX.bytes s)) bw.size,.bool (aX.ended s),aa (aX.code s),aa (aX.kK s),aa (aX.id s)]) 30,.cells (ay C) 3 true,.cells (af bw) 5 true,ab ([.string o,.string (KI),.string (KI),.string (KI),aa nd,aa er,aa hd,aa t,aa 0,aa 0,aa 0,.bool false]) 43,ab (ah L) 9,ab (ay R) 3,ab (an H) 114]⟩:ai)
theorem alN(S L R H d s)(bw:ByteArray)(C o)(nd er hd t:Int){Q:bu}(hq:Q (.ret (.agg (ar6 [.string o,.string (KI),.string (KI),.string (KI),aa nd,aa er,aa hd,aa t,aa 0,aa 0,aa 0,.bool false]))) [ab (aL S 1 8 9 10) 89,.abs d,.dead,.dead,.dead,ab ([cA 7 0 (DD (aX.bytes s)) bw.size,.bool (aX.ended s),aa (aX.code s),aa (aX.kK s),aa (aX.id s)]) 30,.cells (ay C) 3 true,.cells (af bw) 5 true,ab (ah L) 9,ab (ay R) 3,ab (an H) 114]):aG fK 13 148 8 Q .ret (TS S L R H d s bw C o nd er hd t):=aG.ret (vs:=[.agg (ar6 [.string o,.string (KI),.string (KI),.string (KI),aa nd,aa er,aa hd,aa t,aa 0,aa 0,aa 0,.bool false])]) (l:=[8]) (bs:=[0,1,2,3,4,5,6,7,9,10,11]) (pl:=[6,7,9,10,11]) (q:=[ay C,af bw,ah L,ay R,an H]) (λu=>by kernel_rfl) (by kernel_rfl) (aD (aS C) (aD (aE bw) (ia L R H be))) hq
abbrev alO:=λS L R H d s bw C o (nd er hd t:Int)=>(⟨[(6,ap 8),(7,ap 9)],[ab (aL S 1 10 11 12) 89,.abs d,.dead,.dead,.dead,ab (ow s bw 7) 30,.cells (ay C) 3 true,.cells (af bw) 5 true,ab jM 43,ab (mg o nd er hd t) 43,ab (ah L) 9,ab (ay R) 3,ab (an H) 114]⟩:ai)
theorem alP(S L R H d s bw C o)(nd er hd t:Int)(pH:(an H).all ag=true){Q:aU}(l5:Q .ret (TS S L R H d s bw C o nd er hd t)):ao fK 148 8 (zN.drop 5) (alO S L R H d s bw C o nd er hd t) Q:=
 aV bp 1000 (.leaf [6] [0,1,2,3,4,5,6,7,8,10,11,12] [6,7,10,11,12]) (λu=>by kernel_rfl) (mN (aS C) (mN (aE bw) (aO L R H (mR l5))))
end
noncomputable section
def TT:List Code:=a7 (dI fK 35)
open Tree renaming aQ->mN,dE->mF,fj->mL,fY->mQ,dN->mR,gH->mE
abbrev xv:=λC=>([.cells (ay C) 3 true]:List ak)
abbrev Kq:=λC (k:Int)=>(⟨[(4,aa 32)],xv C⟩:ai)
theorem alQ(C)(k:Int){Q:bu}(hq:Q (.ret (aa 32)) (Kq C k).objs):aG fK 35 23 1 Q .ret (Kq C k):=aG.ret (vs:=[aa 32]) (l:=[]) (bs:=[0]) (pl:=[0]) (q:=[ay C]) (λu=>by kernel_rfl) (by kernel_rfl) (aD (aS C) be) hq
abbrev TU:=λC (k:Int)=>(⟨[(0,aq 0 (nG C)),(1,aa k)],xv C⟩:ai)
theorem alR(C)(k:Int)(h0:(nG C)=0){Q:aU}(aY:DC (ay C) ag)(l1:Q .ret (Kq C k)):ao fK 23 1 TT (TU C k) Q:=
 aV bp 1000 (aB [3] (.leaf [4] [0] [0])) (λu=>by kernel_rfl) (mN (decide_eq_true (by omega):((↑(nG C):Int)==0)=true) (mN (aS C) (mR l1)))
abbrev TV(C:List Int)(k:Int):ai:=⟨[(4,.int .i64 (m6 .i64 (m6 .i64 (0-atk (av (ay C) (0+m5 (atk k (↑(nG C):Int))*1)) 32)+1)))],xv C⟩
theorem alS(C)(k:Int){Q:bu}(hq:Q (.ret (.int .i64 (m6 .i64 (m6 .i64 (0-atk (av (ay C) (0+m5 (atk k (↑(nG C):Int))*1)) 32)+1)))) (xv C)):aG fK 35 23 1 Q .ret (TV C k):=aG.ret (vs:=[.int .i64 (m6 .i64 (m6 .i64 (0-atk (av (ay C) (0+m5 (atk k (↑(nG C):Int))*1)) 32)+1))]) (l:=[]) (bs:=[0]) (pl:=[0]) (q:=[ay C]) (λu=>by kernel_rfl) (by kernel_rfl) (aD (aS C) be) hq
abbrev TW(C:List Int)(k:Int):ai:=⟨[(4,.int .i64 (m6 .i64 (atk (av (ay C) (0+m5 (atk k (↑(nG C):Int))*1)) 32+1)))],xv C⟩
theorem alT(C)(k:Int){Q:bu}(hq:Q (.ret (.int .i64 (m6 .i64 (atk (av (ay C) (0+m5 (atk k (↑(nG C):Int))*1)) 32+1)))) (xv C)):aG fK 35 23 1 Q .ret (TW C k):=aG.ret (vs:=[.int .i64 (m6 .i64 (atk (av (ay C) (0+m5 (atk k (↑(nG C):Int))*1)) 32+1))]) (l:=[]) (bs:=[0]) (pl:=[0]) (q:=[ay C]) (λu=>by kernel_rfl) (by kernel_rfl) (aD (aS C) be) hq
theorem alU(C)(k:Int)(h0:0<(nG C))(h1:(nG C)<=3000)(h2:0<=k)(h3:k<100000){Q:aU}(n0:(!decide ((↑(nG C):Int)=0))=true)(n1:(decide (0<=atk k (↑(nG C):Int)))=true)(n2:(Nat.blt (m5 (atk k (↑(nG C):Int))) (nG C))=true)(n3:(cP Ul (ay C) (0+m5 (atk k (↑(nG C):Int))*1))=true)(l5:(decide (atk (av (ay C) (0+m5 (atk k (↑(nG C):Int))*1)) 32<0))->Q .ret (TV C k))(l6:(decide (atk (av (ay C) (0+m5 (atk k (↑(nG C):Int))*1)) 32<0))=false->Q .ret (TW C k)):ao fK 23 1 TT (TU C k) Q:=
 aV bp 1000 (aB [2,2,1,0,1,1,0,1] (.fork 1 (.leaf [4] [0] [0]) (.leaf [4] [0] [0]))) (λu=>by kernel_rfl) (mN (decide_eq_false (by omega):((↑(nG C):Int)==0)=false) (mN n0 (mN n1 (mN n2 (mN n3 (mF (c:=decide (atk (av (ay C) (0+m5 (atk k (↑(nG C):Int))*1)) 32<0)) (λh0=>(mN (aS C) (mR (l5 h0)))) (λh0=>(mN (aS C) (mR (l6 h0))))))))))
end
structure Small(L:List ByteArray):Prop where
 each:∀x∈L,x.size<=64
 all:a8 L<=256
structure Inv(x:MS):Prop where
 cut:js x.S
 kh:x.H.length=x.S.hn
 sm:Small x.L
 fW:x.H=[]\/(x.L=[]/\x.S.n=0)
 bR:x.H.length<=3
 ok:∀h∈x.H,pP h
 run:x.S.ro+x.S.rn<=x.L.length
theorem alV(L:List ByteArray):lI L+L.length=a8 L:=by
 induction L with
 |nil=>rfl
 |cons x l ih=>show x.size+lI l+(l.length+1)=x.size+1+a8 l;omega
theorem alW(L:List ByteArray)(n:Nat):a8 (L.take n)<=a8 L:=by
 induction L generalizing n with
 |nil=>simp
 |cons x l ih=>cases n with
  |zero=>exact asb _
  |succ n=>have:=ih n;show x.size+1+a8 (l.take n)<=x.size+1+a8 l;omega
theorem alX(L:List ByteArray)(n:Nat):a8 (L.drop n)<=a8 L:=by
 induction L generalizing n with
 |nil=>simp
 |cons x l ih=>cases n with
  |zero=>exact arO _
  |succ n=>have:=ih n;show a8 (l.drop n)<=x.size+1+a8 l;omega
theorem Inv.held{x:MS}(h:Inv x):TE x/\jW x<=320:=by
 have h1:=rO x.L
 have h2:=h.sm.all
 have h3:=h.run
 refine⟨⟨h.cut,h.kh,h.bR,h.ok,h.run,by omega,h.sm.each⟩,?_⟩
 have hn:=h.cut.n1
 have nm:=h.cut.n0
 have a:=alV x.run
 have b:=alW (x.L.drop x.S.ro) x.S.rn
 have c:=alX x.L x.S.ro
 have e:=TD h.ok
 have hf:=h.bR
 unfold jW
 have a:lI x.run+x.run.length=a8 ((x.L.drop x.S.ro).take x.S.rn):=a
 rcases h.fW with hH|⟨hL,hz⟩
 ·rw[hH]
  show _+0<=320
  omega
 ·have:a8 x.L=0:=by rw[hL];rfl
  rw[hz]
  show 0+_+_<=320
  omega
theorem Kr{S:ad}{L:List ByteArray}{R:List Int}{d:aA}(h:Small L):Small (cM S L R d).2.2.1:=by
 have hs:Small (bb (aN S.aC) L):=⟨λx hx=>h.each x ((ib L).mem_iff.1 hx),by rw[pO (ib L)];exact h.all⟩
 unfold cM
 split
 ·exact hs
 split
 ·exact hs
 ·exact⟨(λx hx=>by cases hx),asb _⟩
structure nE(S T:ad):Prop where
 at_:T.at_=S.at_
 more:T.more=S.more
 bi:T.bi=S.bi
 B:T.B=S.B
 n:T.n=S.n
 failed:T.failed=S.failed
 aC:T.aC=S.aC
 ro:T.ro=S.ro
 hn:T.hn=S.hn
theorem nE.refl(S:ad):nE S S:=⟨rfl,rfl,rfl,rfl,rfl,rfl,rfl,rfl,rfl⟩
theorem nE.trans{S T U:ad}(h:nE S T)(k:nE T U):nE S U:=⟨k.at_.trans h.at_,k.more.trans h.more,k.bi.trans h.bi,k.B.trans h.B,k.n.trans h.n,k.failed.trans h.failed,k.aC.trans h.aC,k.ro.trans h.ro,k.hn.trans h.hn⟩
theorem Ks(S:ad)(L:List ByteArray)(R:List Int)(d:aA):nE S (cM S L R d).2.1:=by
 unfold cM
 split
 ·exact nE.refl S
 split
 ·exact⟨rfl,rfl,rfl,rfl,rfl,rfl,rfl,rfl,rfl⟩
 ·exact⟨rfl,rfl,rfl,rfl,rfl,rfl,rfl,rfl,rfl⟩
theorem zO:∀(l:List ByteArray) (s:cm),nE s.1 (cx l s).2.1
 | [],s=>nE.refl _
 |x::l,s=>by
  unfold cx
  split
  ·split
   ·exact Ks _ _ _ _
   ·have h1:=zO l (jT x (cM s.1 s.2.1 s.2.2.1 s.2.2.2).2)
    have h0:nE (cM s.1 s.2.1 s.2.2.1 s.2.2.2).2.1 (jT x (cM s.1 s.2.1 s.2.2.1 s.2.2.2).2).1:=⟨rfl,rfl,rfl,rfl,rfl,rfl,rfl,rfl,rfl⟩
    exact(Ks s.1 s.2.1 s.2.2.1 s.2.2.2).trans (h0.trans h1)
  ·have h1:=zO l (jT x s)
   have h0:nE s.1 (jT x s).1:=⟨rfl,rfl,rfl,rfl,rfl,rfl,rfl,rfl,rfl⟩
   exact h0.trans h1
theorem Dq:∀(l:List ByteArray) (s:cm),jK s->Small s.2.1->(∀x∈l,x.size<=64)->Small (cx l s).2.2.1
 | [],s,h,hs,hx=>hs
 |x::l,s,h,hs,hx=>by
  have gq:=hx x arH
  have kw:∀y∈l,y.size<=64:=λy hy=>hx y (arG _ hy)
  have hw:=h.bJ
  have hlen:=h.len
  have put:∀t:cm,Small t.2.1->a8 t.2.1+(x.size+1)<=256->Small (jT x t).2.1:=λt ht hw=>by
   refine⟨λy hy=>?_,?_⟩
   ·rcases arL.1 hy with hy|hy
    ·exact ht.each y hy
    ·rw[ar0.1 hy];exact gq
   ·show a8 (t.2.1++[x])<=256
    rw[lg]
    show a8 t.2.1+(x.size+1+0)<=256
    omega
  unfold cx
  by_cases hc:0<s.1.rn/\s.1.bJ+x.size+1>256
  ·rw[if_pos hc]
   by_cases he:(cM s.1 s.2.1 s.2.2.1 s.2.2.2).1=0
   ·rw[if_neg (λh=>h he)]
    obtain⟨s1,s2⟩:=h.jp
    have pf:=s2 he
    have h0:a8 (cM s.1 s.2.1 s.2.2.1 s.2.2.2).2.2.1=0:=by rw[pf];rfl
    exact Dq l _ (s1.put x (by omega)) (put _ (Kr hs) (by omega)) kw
   ·rw[if_pos he]
    exact Kr hs
  ·rw[if_neg hc]
   have dg:a8 s.2.1+(x.size+1)<=256:=by
    by_cases h0:0<s.1.rn
    ·have:¬s.1.bJ+x.size+1>256:=λh=>hc ⟨h0,h⟩
     omega
    ·have:s.2.1=[]:=ar5 (by omega)
     rw[this];show 0+(x.size+1)<=256;omega
   exact Dq l _ (h.put x (by omega)) (put s hs dg) kw
structure lh(F:Nat)(x:MS):Prop where
 ok:Kb F x
 sm:Small x.L
 none:x.H=[]
 ro:x.S.ro=0
 more:x.S.more=false
 bi:x.S.bi=false
theorem lh.inv{F:Nat}{x:MS}(h:lh F x):Inv x:=⟨h.ok.cut,h.ok.kh,h.sm,.inl h.none,by rw[h.none];exact asb _,by rw[h.none];exact λ_ hh=>(by cases hh),by rw[h.ro];have:=h.ok.pQ.ok.len;show 0+x.S.rn<=x.L.length;have:x.L.length=x.S.rn:=this;omega⟩
theorem vu{x:MS}(h:Inv x)(e:Int):Inv (x.fail e):=⟨⟨h.cut.n0,h.cut.n1⟩,h.kh,h.sm,h.fW,h.bR,h.ok,h.run⟩
theorem zP{F:Nat}{x:MS}(h:lh F x)(b:ByteArray):Inv (bX x b).2/\((bX x b).1=0->∃F',lh F' (bX x b).2/\F'+(bX x b).2.S.n.toNat=F+x.S.n.toNat+b.size):=by
 obtain⟨S,L,R,H,d⟩:=x
 obtain⟨⟨hg,hc,hH,hf,ca⟩,dX,fk,de,tE,TX⟩:=h
 dsimp only[MS.z]at*
 obtain⟨c1,c2,c3,c4⟩:=zL b.data.toList S [] hc λx hx=>by cases hx
 obtain⟨s1,s2,s3,s4,s5,s6,s7,s8,s9,Tq,Ts,Kc,Kd⟩:=xo b.data.toList S []
 unfold bX
 dsimp only
 generalize bW b.data.toList S []=o at*
 obtain⟨e,S1,M⟩:=o
 dsimp only at*
 have oO:Good F (S1,L,R,d):=⟨⟨by rw[show((S1,L,R,d):cm).1.rn=S1.rn from rfl,s6];exact hg.ok.len,by rw[show((S1,L,R,d):cm).1.sn=S1.sn from rfl,s8];exact hg.ok.runs,hg.ok.cL,hg.ok.made,by rw[show((S1,L,R,d):cm).1.bJ=S1.bJ from rfl,s7];exact hg.ok.bJ,hg.ok.bR⟩,hg.old,hg.bR⟩
 obtain⟨t1,t2⟩:=zI M F (S1,L,R,d) oO c2
 have t3:=zO M (S1,L,R,d)
 have t4:=Dq M (S1,L,R,d) oO.ok dX c2
 generalize cx M (S1,L,R,d)=o at*
 obtain⟨f,T,K,Rr,dd⟩:=o
 dsimp only[fJ]at*
 have TY:js T:=⟨by rw[t3.n];exact c1.n0,by rw[t3.n];exact c1.n1⟩
 have hi:Inv ⟨T,K,Rr,H,dd⟩:=⟨TY,hH.trans (s9.symm.trans t3.hn.symm),t4,.inl fk,by rw[fk];exact asb _,by rw[fk];exact λ_ hh=>(by cases hh),by show T.ro+T.rn<=K.length;rw[t3.ro,s5,de];have:K.length=T.rn:=t1.len;omega⟩
 by_cases nN:f=0
 ·rw[if_neg (λh=>h nN)]
  by_cases zQ:e=0
  ·rw[if_neg (λh=>h zQ)]
   refine⟨hi,λ_=>⟨F+a8 M,⟨⟨t2 nN,TY,hi.kh,by show T.failed=false;rw[t3.failed,Kd zQ];exact hf,by show T.at_=0;rw[t3.at_,s1];exact ca⟩,t4,fk,by show T.ro=0;rw[t3.ro,s5];exact de,by show T.more=false;rw[t3.more,s2];exact tE,by show T.bi=false;rw[t3.bi,s3];exact TX⟩,?_⟩⟩
   have h3:=c3 zQ
   have hb:b.data.toList.length=b.size:=by simp
   show F+a8 M+T.n.toNat=_
   rw[t3.n]
   have:a8 ([]:List ByteArray)=0:=rfl
   omega
  ·rw[if_pos zQ]
   exact⟨vu hi e,λh=>absurd h zQ⟩
 ·rw[if_pos nN]
  exact⟨vu hi f,λh=>absurd h nN⟩
structure zR(S T:ad):Prop where
 more:T.more=S.more
 bi:T.bi=S.bi
 ro:T.ro=S.ro
 aC:T.aC=S.aC
 n:T.n=0
theorem TZ{F:Nat}{s:cm}(h:Good F s)(hc:js s.1)(hs:Small s.2.1):zR s.1 (fo s).2.1/\Small (fo s).2.2.1:=by
 have hn:=hc.n1
 unfold fo
 split
 ·rename_i h0;exact⟨⟨rfl,rfl,rfl,rfl,h0⟩,hs⟩
 ·have h1:=zO [eZ s.1] ({s.1 with n:=0},s.2)
  have hok:jK ({s.1 with n:=0},s.2):=⟨h.ok.len,h.ok.runs,h.ok.cL,h.ok.made,h.ok.bJ,h.ok.bR⟩
  exact⟨⟨h1.more,h1.bi,h1.ro,h1.aC,h1.n⟩,Dq [eZ s.1] ({s.1 with n:=0},s.2) hok hs λx hx=>by rw[ar0.1 hx,xm];omega⟩
theorem Kt{S:ad}(h:S.n=0):js S:=⟨by omega,by omega⟩
theorem alY{s:cm}{H:List au}(hL:s.2.1=[])(hl:s.2.1.length=s.1.rn)(hH:H=[])(hh:H.length=s.1.hn)(hn:s.1.n=0)(de:s.1.ro=0)(hr:jr s.2.2.2 s.2.2.1):
 Inv (fJ (jt s H).2.1 (jt s H).2.2)/\zR s.1 (jt s H).2.1.1:=by
 obtain⟨S,L,R,d⟩:=s
 dsimp only at*
 subst hL hH
 obtain⟨p1,p2,p3⟩:=Dg S.aC R.length R d hr
 have hv:jt (S,[],R,d) []=if(dj S.aC R.length R d).1≠0 then((dj S.aC R.length R d).1,({S with sn:=(dj S.aC R.length R d).2.1.length},[],(dj S.aC R.length R d).2),[])
  else match dj S.aC R.length R d with
   |(_,R,d)=>match dB R [] d with
    |(e,l,dd)=>if e=0 then(0,({S with sn:=R.length,hn:=l.length},[],R,dd),l)else(e,({S with sn:=R.length,hn:=0},[],R,dd),[]):=rfl
 rw[hv]
 clear hv
 generalize dj S.aC R.length R d=o at*
 obtain⟨e,R2,d2⟩:=o
 dsimp only at*
 have small:Small []:=⟨(λx hx=>by cases hx),asb _⟩
 have jd:S.rn=0:=hl.symm
 have mk:∀(T:ad) (H:List au) (R:List Int) (d:aA),T.n=0->T.ro=0->T.rn=0->H.length=T.hn->H.length<=3->(∀h∈H,pP h)->Inv ⟨T,[],R,H,d⟩:=λT H R d a b c e g k=>⟨Kt a,e,small,.inr ⟨rfl,a⟩,g,k,by show T.ro+T.rn<=0;omega⟩
 by_cases he:e=0
 ·rw[if_neg (λh=>h he)]
  obtain⟨q1,q2⟩:=p2 he
  have dh:=zz R2 [] [] d2 d2 p1 rfl ⟨rfl,(λ_ h=>by cases h),arO _⟩
  generalize dB R2 [] d2=o at*
  obtain⟨e2,l,d3⟩:=o
  dsimp only at*
  by_cases eH:e2=0
  ·rw[if_pos eH]
   have ho:=dh eH
   rw[asK]at ho
   have oF:l.length=R2.length:=by have:=congrArg nG ho.CU;rw[List.length_map]at this;exact this
   exact⟨mk _ l R2 d3 hn de jd rfl (by have:=q2 (arO _);omega) ho.ok,rfl,rfl,rfl,rfl,hn⟩
  ·rw[if_neg eH]
   exact⟨mk _ [] R2 d3 hn de jd rfl (asb _) (λh hh=>by cases hh),rfl,rfl,rfl,rfl,hn⟩
 ·rw[if_pos he]
  exact⟨mk _ [] R2 d2 hn de jd hh (asb _) (λh hh=>by cases hh),rfl,rfl,rfl,rfl,hn⟩
theorem T0{s:cm}(h:jK s)(hs:Small s.2.1)(hh:([]:List au).length=s.1.hn)(hn:s.1.n=0)(de:s.1.ro=0):Inv (fJ s []):=
 ⟨Kt hn,hh,hs,.inl rfl,asb _,(λh hh=>by cases hh),by show s.1.ro+s.1.rn<=s.2.1.length;rw[de,h.len];omega⟩
theorem Dr{F:Nat}{x:MS}(h:lh F x)(hF:F<=800000):Inv (fJ (gI x.z x.H).2.1 (gI x.z x.H).2.2)/\zR x.S (gI x.z x.H).2.1.1:=by
 obtain⟨r1,r2⟩:=zJ h.ok.pQ h.ok.cut
 obtain⟨k1,k2⟩:=TZ h.ok.pQ h.ok.cut h.sm
 have r3:=Tt x.z
 have ky:=h.ok.cut.n1
 have hH:=h.none
 have hh:([]:List au).length=x.S.hn:=by rw[<-hH];exact h.ok.kh
 have de:(fo x.z).2.1.ro=0:=k1.ro.trans h.ro
 rw[hH]
 unfold gI
 split
 ·exact⟨T0 r1 k2 (hh.trans r3.symm) k1.n de,k1⟩
 rename_i he
 have g:=zK (r2 (ate.1 he))
 have k3:zR x.S (kJ (fo x.z).2).1:=⟨k1.more,k1.bi,k1.ro,k1.aC,k1.n⟩
 have k4:Small (kJ (fo x.z).2).2.1:=k2
 have T1:([]:List au).length=(kJ (fo x.z).2).1.hn:=hh.trans r3.symm
 have zS:(kJ (fo x.z).2).1.ro=0:=de
 generalize kJ (fo x.z).2=t at*
 unfold rS
 split
 ·refine⟨⟨Kt k3.n,T1,⟨λy hy=>k4.each y ((ib t.2.1).mem_iff.1 hy),by show a8 (bb _ t.2.1)<=256;rw[pO (ib t.2.1)];exact k4.all⟩,.inl rfl,asb _,(λh hh=>by cases hh),?_⟩,k3⟩
  show t.1.ro+t.1.rn<=(bb _ t.2.1).length
  rw[lG,zS,g.ok.len];omega
 unfold qG
 have cZ:jK (fq t).2/\((fq t).1=0->(fq t).2.2.1=[]):=by
  unfold fq
  split
  ·exact g.ok.jp
  ·rename_i h0
   refine⟨g.ok,λ_=>?_⟩
   have:=g.ok.len
   show t.2.1=[]
   exact ar5 (by omega)
 have cN:nE t.1 (fq t).2.1:=by unfold fq;split;exact Ks _ _ _ _;exact nE.refl _
 have vZ:Small (fq t).2.2.1:=by unfold fq;split;exact Kr k4;exact k4
 have k5:zR x.S (fq t).2.1:=⟨cN.more.trans k3.more,cN.bi.trans k3.bi,cN.ro.trans k3.ro,cN.aC.trans k3.aC,cN.n.trans k3.n⟩
 have T2:([]:List au).length=(fq t).2.1.hn:=T1.trans cN.hn.symm
 split
 ·exact⟨T0 cZ.1 vZ T2 k5.n (cN.ro.trans zS),k5⟩
 rename_i eH
 have eH:=ate.1 eH
 have g2:Good (F+(x.S.n.toNat+1)) (fq t).2:=by
  unfold fq at eH⊢
  split
  ·rename_i h1;rw[if_pos h1]at eH;exact g.jp eH
  ·exact g
 have gq:x.S.n.toNat<=64:=by have:x.S.n<=64:=ky;omega
 obtain⟨a,b⟩:=alY (H:=[]) (cZ.2 eH) cZ.1.len rfl T2 k5.n (cN.ro.trans zS) (g2.runs (by omega))
 exact⟨a,b.more.trans k5.more,b.bi.trans k5.bi,b.ro.trans k5.ro,b.aC.trans k5.aC,b.n⟩
theorem alZ{x:MS}(h:Inv x)(hl:Dl x)(ho:x.S.bi=false):Inv ⟨(cy x.S x.R x.H x.d).2.1,x.L,x.R,x.H,(cy x.S x.R x.H x.d).2.2⟩/\
 ((cy x.S x.R x.H x.d).2.1.bi=true\/((cy x.S x.R x.H x.d).2.1.bi=false/\(cy x.S x.R x.H x.d).2.1.more=true/\rT ⟨(cy x.S x.R x.H x.d).2.1,x.L,x.R,x.H,(cy x.S x.R x.H x.d).2.2⟩)):=by
 unfold cy
 cases hm:jL x.S x.H with
 |true=>
  rw[if_pos rfl]
  exact⟨⟨⟨h.cut.n0,h.cut.n1⟩,h.kh,h.sm,h.fW,h.bR,h.ok,h.run⟩,.inr ⟨ho,rfl,hl.runs,h.kh,hl.cL,hl.Dm,h.bR,h.ok,h.run,h.sm.each,hm⟩⟩
 |false=>
  rw[if_neg (by simp)]
  exact⟨⟨⟨h.cut.n0,h.cut.n1⟩,h.kh,h.sm,h.fW,h.bR,h.ok,h.run⟩,.inl rfl⟩
theorem Ku{F:Nat}{x:MS}(h:lh F x)(hF:F<=800000):Inv (e9 x).2/\((e9 x).1=0->(e9 x).2.S.bi=true\/((e9 x).2.S.bi=false/\(e9 x).2.S.more=true/\rT (e9 x).2)):=by
 obtain⟨i1,k1⟩:=Dr h hF
 have ub:=Dn h.ok.pQ h.ok.cut hF h.ok.kh
 unfold e9
 generalize gI x.z x.H=o at*
 obtain⟨e,t,G⟩:=o
 dsimp only[fJ]at*
 by_cases he:e=0
 ·rw[if_neg (λh=>h he)]
  have hr:=alZ i1 ub (k1.bi.trans h.bi)
  dsimp only at hr
  generalize cy t.1 t.2.2.1 G t.2.2.2=o at*
  obtain⟨f,U,d3⟩:=o
  dsimp only at*
  by_cases hf:f=0
  ·rw[if_neg (λh=>h hf)]
   exact⟨hr.1,λ_=>hr.2⟩
  ·rw[if_pos hf]
   exact⟨vu hr.1 f,λh=>absurd h hf⟩
 ·rw[if_pos he]
  exact⟨vu i1 e,λh=>absurd h he⟩
theorem T3{x:MS}(h:Inv x)(h1:x.R.length=x.S.sn)(h2:ct x.d)(h3:x.R.length<=900000)(ho:x.S.bi=false):Inv ⟨(cy x.S x.R x.H x.d).2.1,x.L,x.R,x.H,(cy x.S x.R x.H x.d).2.2⟩/\
 ((cy x.S x.R x.H x.d).2.1.bi=true\/((cy x.S x.R x.H x.d).2.1.bi=false/\(cy x.S x.R x.H x.d).2.1.more=true/\rT ⟨(cy x.S x.R x.H x.d).2.1,x.L,x.R,x.H,(cy x.S x.R x.H x.d).2.2⟩)):=by
 unfold cy
 cases hm:jL x.S x.H with
 |true=>
  rw[if_pos rfl]
  exact⟨⟨⟨h.cut.n0,h.cut.n1⟩,h.kh,h.sm,h.fW,h.bR,h.ok,h.run⟩,.inr ⟨ho,rfl,h1,h.kh,h2,h3,h.bR,h.ok,h.run,h.sm.each,hm⟩⟩
 |false=>
  rw[if_neg (by simp)]
  exact⟨⟨⟨h.cut.n0,h.cut.n1⟩,h.kh,h.sm,h.fW,h.bR,h.ok,h.run⟩,.inl rfl⟩
theorem Kv{x:MS}(h:Inv x)(hm:rT x)(ho:x.S.bi=false):Inv (fv x).2.2/\(fv x).2.1.size<=64/\((fv x).1=0->(fv x).2.2.S.bi=true\/((fv x).2.2.S.bi=false/\(fv x).2.2.S.more=true/\rT (fv x).2.2)):=by
 unfold fv
 by_cases jd:0<x.S.rn
 ·rw[if_pos jd]
  have kR:=h.run
  have hp:Inv ⟨x.S.pop,x.L,x.R,x.H,x.d⟩:=⟨⟨h.cut.n0,h.cut.n1⟩,h.kh,h.sm,h.fW,h.bR,h.ok,by show x.S.ro+1+(x.S.rn-1)<=x.L.length;omega⟩
  have hr:=T3 hp hm.runs hm.cL hm.Dm ho
  dsimp only at hr
  have hx:=h.sm.each _ (Tw (L:=x.L) (i:=x.S.ro) (by omega)).2.2
  generalize cy x.S.pop x.R x.H x.d=o at*
  obtain⟨f,U,d3⟩:=o
  dsimp only at*
  by_cases hf:f=0
  ·rw[if_neg (λh=>h hf)]
   exact⟨hr.1,hx,λ_=>hr.2⟩
  ·rw[if_pos hf]
   exact⟨vu hr.1 f,hx,λh=>absurd h hf⟩
 ·rw[if_neg jd]
  have hs:=hm.some
  unfold jL at hs
  rw[decide_eq_false jd]at hs
  cases hk:eo x.S.aC x.H with
  |none=>rw[hk]at hs;cases hs
  |some k=>
   dsimp only
   obtain⟨k1,k2⟩:=vd hk
   have hok:=hm.ok _ (tm k1)
   have fC:=hm.cL.bE (aK x.H k)
   have de:=zy (h:=aK x.H k) hm.cL
   have fk:(bE (aK x.H k) x.d).1≠0->(bE (aK x.H k) x.d).2.1=aK x.H k:=λe=>by
    unfold bE at e⊢
    split
    ·rfl
    ·rename_i h1;rw[if_neg h1]at e;exact absurd rfl e
   generalize bE (aK x.H k) x.d=o at*
   obtain⟨e,y,dd⟩:=o
   dsimp only at*
   have br:x.H≠[]:=by intro h0;rw[h0]at k1;cases k1
   have hL:=h.fW.resolve_left br
   have mk:pP y->Inv ⟨x.S,x.L,x.R,x.H.set k y,dd⟩:=λhy=>⟨h.cut,by rw[asU];exact h.kh,h.sm,.inr hL,by rw[asU];exact h.bR,λz hz=>by
    rcases auk hz with hz|rfl
    ·exact h.ok z hz
    ·exact hy,h.run⟩
   by_cases he:e=0
   ·rw[if_neg (λh=>h he)]
    have hi:=mk (de he).2.1
    have hr:=T3 hi hm.runs fC hm.Dm ho
    dsimp only at hr
    generalize cy x.S x.R (x.H.set k y) dd=o at*
    obtain⟨f,U,d3⟩:=o
    dsimp only at*
    by_cases hf:f=0
    ·rw[if_neg (λh=>h hf)]
     exact⟨hr.1,hok.line,λ_=>hr.2⟩
    ·rw[if_pos hf]
     exact⟨vu hr.1 f,hok.line,λh=>absurd h hf⟩
   ·rw[if_pos he]
    have hi:=mk (by rw[fk he];exact hok)
    exact⟨vu hi e,hok.line,λh=>absurd h he⟩
def mj(C:List Int)(k:Int):Int:=
 if C.length=0 then 32
 else if(C.getD (k.tmod C.length).toNat 0).tmod 32<0 then 0-(C.getD (k.tmod C.length).toNat 0).tmod 32+1 else(C.getD (k.tmod C.length).toNat 0).tmod 32+1
theorem T4(x:Int): -32<x.tmod 32/\x.tmod 32<32:=by
 have h1:=av8 x (b:=32) (by decide)
 have h2:=av8 (-x) (b:=32) (by decide)
 rw[Int.neg_tmod]at h2
 omega
theorem T5(C:List Int)(k:Int):1<=mj C k/\mj C k<=32:=by
 unfold mj
 split
 ·omega
 ·have:=T4 (C.getD (k.tmod C.length).toNat 0)
  split<;>omega
theorem al0(C:List Int)(k:Int)(hC:C.length<=3000)(h0:0<=k)(h1:k<100000):
 aF fK 35 [.slice (some ⟨0,0,none⟩) C.length C.length,.int .i64 k] [.cells (ay C) 3 true] λr q=>r=.ret (.int .i64 (mj C k))/\q=[.cells (ay C) 3 true]:=by
 refine aF.dv (n:=cp fK 35) (by kernel_rfl) ?_
 by_cases hz:C.length=0
 ·have:mj C k=32:=by unfold mj;rw[if_pos hz]
  rw[this]
  exact alR C k hz (by simp) (alQ C k ⟨rfl,rfl⟩)
 ·have hp:0<C.length:=by omega
  have wA:0<=k.tmod C.length:=Int.tmod_nonneg _ h0
  have kG:k.tmod C.length<C.length:=av8 k (by omega)
  have hi:(k.tmod C.length).toNat<C.length:=by omega
  have ha:av (ay C) (0+m5 (atk k (↑(nG C):Int))*1)=C.getD (k.tmod C.length).toNat 0:=by
   rw[show 0+m5 (atk k (↑(nG C):Int))*1=(k.tmod C.length).toNat by omega,GX hi,List.getD_eq_getElem?_getD,KH hi]
   rfl
  have hb:=T4 (C.getD (k.tmod C.length).toNat 0)
  apply alU C k hp hC h0 h1
  all_goals first
   |(intro g
     rw[ha]at g
     have g:=of_decide_eq_true g
     refine alS C k ⟨?_,rfl⟩
     rw[ha,bK (z:=0-(C.getD (k.tmod C.length).toNat 0).tmod 32) (by omega) (by omega),bK (by omega) (by omega)]
     unfold mj
     rw[if_neg hz,if_pos g])
   |(intro g
     rw[ha]at g
     have g:=of_decide_eq_false g
     refine alT C k ⟨?_,rfl⟩
     rw[ha,bK (by omega) (by omega)]
     unfold mj
     rw[if_neg hz,if_neg g])
   |(rw[show 0+m5 (atk k (↑(nG C):Int))*1=(k.tmod C.length).toNat by omega];exact GY hi)
   |exact decide_eq_true wA
   |exact ed.2 hi
   |(simp;exact λh=>hz (by rw[h];rfl))
   |(trace_state;simp;omega)
structure DS where
 x:MS
 o:ByteArray
 nd:Int
 er:Int
 hd:Int
 t:Nat
 w:Bool
def lJ(hd z:Int):Int:=if z>hd then z else hd
def gA(s:aX)(C:List Int)(k:Nat)(t:Nat):Nat:=min s.bytes.size (t+(mj C k).toNat)
noncomputable def kL(g:DS):DS:=⟨(fv g.x).2.2,g.o++bM (fv g.x).2.1,fT (fv g.x).2.2.S,(fv g.x).1,lJ g.hd (jW (fv g.x).2.2),g.t,g.w⟩
def ju(s:aX)(C:List Int)(k:Nat)(g:DS):DS:=⟨(bX g.x (s.bytes.extract g.t (gA s C k g.t))).2,g.o,fT (bX g.x (s.bytes.extract g.t (gA s C k g.t))).2.S,(bX g.x (s.bytes.extract g.t (gA s C k g.t))).1,lJ g.hd (jW (bX g.x (s.bytes.extract g.t (gA s C k g.t))).2),gA s C k g.t,g.w⟩
noncomputable def jO(g:DS):DS:=⟨(e9 g.x).2,g.o,fT (e9 g.x).2.S,(e9 g.x).1,lJ g.hd (jW (e9 g.x).2),g.t,true⟩
noncomputable def fF(s:aX)(C:List Int)(k:Nat)(g:DS):Option DS:=
 if g.nd= -2 then some (kL g)else if g.t<s.bytes.size then some (ju s C k g)else if s.ended=true/\g.w=false then some (jO g)else none
noncomputable def dR(s:aX)(C:List Int):Nat->Nat->DS->DS
 |0,_,g=>g
 |m+1,k,g=>if g.er=0/\g.nd≠-1 then(match fF s C k g with|none=>g|some g'=>dR s C m (k+1) g')else g
noncomputable def mY:Nat:=Classical.choose (⟨100000,rfl⟩:∃n:Nat,n=100000)
theorem T6:mY=100000:=Classical.choose_spec (⟨100000,rfl⟩:∃n:Nat,n=100000)
def li(x:MS):DS:=⟨x,KI,0,0,0,0,false⟩
structure jP(s:aX)(k:Nat)(g:DS):Prop where
 nd:g.nd=fT g.x.S
 t:g.t<=s.bytes.size
 o:g.o.size<=65*k
 inv:Inv g.x
 st:g.er=0->g.x.S.bi=true\/(g.x.S.bi=false/\g.x.S.more=true/\rT g.x)\/(∃F,lh F g.x/\F+g.x.S.n.toNat=g.t/\g.w=false)
 hd:0<=g.hd/\g.hd<=320
theorem Kw{hd:Int}{z:Nat}(h:0<=hd/\hd<=320)(hz:z<=320):0<=lJ hd z/\lJ hd z<=320:=by unfold lJ;split<;>omega
theorem jP.more{s:aX}{k:Nat}{g:DS}(h:jP s k g)(he:g.er=0)(hn:g.nd= -2):g.x.S.bi=false/\g.x.S.more=true/\rT g.x:=by
 have h1:=h.nd
 unfold fT at h1
 rcases h.st he with h2|h2|⟨F,h2,_⟩
 ·rw[h2,if_pos rfl]at h1;omega
 ·exact h2
 ·rw[h2.bi,h2.more,if_neg (by simp),if_neg (by simp),h2.ok.jb]at h1;omega
theorem jP.kL{s:aX}{k:Nat}{g:DS}(h:jP s k g)(he:g.er=0)(hn:g.nd= -2):jP s (k+1) (kL g):=by
 obtain⟨h1,h2,h3⟩:=h.more he hn
 obtain⟨i1,i2,i3⟩:=Kv h.inv h3 h1
 refine⟨rfl,h.t,?_,i1,λe=>?_,Kw h.hd i1.held.2⟩
 ·show(g.o++bM (fv g.x).2.1).size<=_
  rw[atS,lH]
  have:=h.o
  omega
 ·rcases i3 e with a|a
  ·exact .inl a
  ·exact .inr (.inl a)
theorem extract_size(b:ByteArray)(i j:Nat)(hj:j<=b.size):(b.extract i j).size=j-i:=by rw[ByteArray.size_extract];omega
theorem Kx(s:aX)(C:List Int)(k t:Nat)(ht:t<s.bytes.size):t<gA s C k t/\gA s C k t<=s.bytes.size/\gA s C k t<=t+32:=by
 have:=T5 C k
 unfold gA
 omega
theorem jP.feed{s:aX}{k:Nat}{g:DS}(h:jP s k g)(he:g.er=0)(h1:g.nd≠-1)(hn:g.nd≠-2):∃F,lh F g.x/\F+g.x.S.n.toNat=g.t/\g.w=false:=by
 have h2:=h.nd
 unfold fT at h2
 rcases h.st he with h3|h3|h3
 ·rw[h3,if_pos rfl]at h2;exact absurd h2 h1
 ·rw[h3.1,h3.2.1,if_neg (by simp),if_pos rfl]at h2;exact absurd h2 hn
 ·exact h3
theorem jP.ju{s:aX}{C:List Int}{k:Nat}{g:DS}(h:jP s k g)(he:g.er=0)(h1:g.nd≠-1)(hn:g.nd≠-2)(ht:g.t<s.bytes.size):jP s (k+1) (ju s C k g):=by
 obtain⟨F,f1,f2,f3⟩:=h.feed he h1 hn
 obtain⟨u1,u2,u3⟩:=Kx s C k g.t ht
 have cc:=extract_size s.bytes g.t (gA s C k g.t) u2
 obtain⟨i1,i2⟩:=zP f1 (s.bytes.extract g.t (gA s C k g.t))
 unfold Go.Proofs.YtnlkkgpcikkpoaaGreat.ju
 rw[cc]at i2
 generalize bX g.x (s.bytes.extract g.t (gA s C k g.t))=r at*
 generalize gA s C k g.t=u at*
 have ho:=h.o
 refine⟨rfl,u2,by dsimp only;omega,i1,λe=>?_,Kw h.hd i1.held.2⟩
 obtain⟨F',a,b⟩:=i2 e
 have hb:F'+r.2.S.n.toNat=u:=by
  rw[b]
  clear b a i1 i2 e
  omega
 exact .inr (.inr ⟨F',a,hb,f3⟩)
theorem jP.jO{s:aX}{k:Nat}{g:DS}(h:jP s k g)(he:g.er=0)(h1:g.nd≠-1)(hn:g.nd≠-2)(hs:s.bytes.size<=800000):jP s (k+1) (jO g):=by
 obtain⟨F,f1,f2,f3⟩:=h.feed he h1 hn
 have ht:=h.t
 obtain⟨i1,i2⟩:=Ku f1 (by omega)
 refine⟨rfl,h.t,by have:=h.o;show g.o.size<=_;omega,i1,λe=>?_,Kw h.hd i1.held.2⟩
 rcases i2 e with a|a
 ·exact .inl a
 ·exact .inr (.inl a)
theorem Ky{S:ad}(h:S.ro=0):S.z=S:=by cases S;unfold ad.z;simp only at h;rw[h]
theorem al1(x:MS)(b:ByteArray):(bX x b).2.S.ro=x.S.ro:=by
 unfold bX
 have h1:=(xo b.data.toList x.S []).2.2.2.2.1
 generalize bW b.data.toList x.S []=o at*
 obtain⟨e,S1,M⟩:=o
 have h2:=(zO M (S1,x.L,x.R,x.d)).ro
 dsimp only at*
 generalize cx M (S1,x.L,x.R,x.d)=o at*
 obtain⟨f,t⟩:=o
 dsimp only at*
 split
 ·exact h2.trans h1
 split
 ·exact h2.trans h1
 ·exact h2.trans h1
theorem al2(S:ad)(R:List Int)(H:List au)(d:aA):(cy S R H d).2.1.ro=S.ro:=by unfold cy;split<;>rfl
theorem al3{F:Nat}{x:MS}(h:lh F x)(hF:F<=800000):(e9 x).2.S.ro=0:=by
 have k:=(Dr h hF).2.ro
 unfold e9
 generalize gI x.z x.H=o at*
 obtain⟨e,t,G⟩:=o
 dsimp only at*
 have hr:=al2 t.1 t.2.2.1 G t.2.2.2
 generalize cy t.1 t.2.2.1 G t.2.2.2=o at*
 obtain⟨f,U,d3⟩:=o
 dsimp only at*
 split
 ·exact k.trans h.ro
 split
 ·exact hr.trans (k.trans h.ro)
 ·exact hr.trans (k.trans h.ro)
theorem al4(x:ByteArray):ar2 (ar6 (asp (ash (cut (af (bM x)) 0 (x.size+1)) bytesOf) []))=bM x/\(at3 (ash (cut (af (bM x)) 0 (x.size+1)) bytesOf))=true:=by
 have h:=C1 (bM x) (x.size+1) (by rw[lH];omega)
 rw[h]
 refine⟨?_,rfl⟩
 rw[Option.getD_some,RX,<-lH]
 apply ByteArray.ext
 rw[ato]
 exact Array.extract_size
theorem al5(b:ByteArray)(i j:Nat)(hj:j<=b.size):([]:List Value)++arP ((j-i)*1) (as3 (0+i*1) (af b))=af (b.extract i j):=by
 rw[asK,atV,atV,as9]
 unfold af
 rw[<-List.map_drop,<-List.map_take]
 congr 1
 rw[ato,atf]
theorem rU{s:aX}{C:List Int}{m k:Nat}{g:DS}(h:¬(g.er=0/\g.nd≠-1)):dR s C m k g=g:=by
 cases m with
 |zero=>rfl
 |succ m=>unfold dR;rw[if_neg h]
theorem tF{s:aX}{C:List Int}{m k:Nat}{g g':DS}(h:g.er=0/\g.nd≠-1)(hs:fF s C k g=some g'):dR s C (m+1) k g=dR s C m (k+1) g':=by
 conv=>lhs;unfold dR
 rw[if_pos h,hs]
theorem T7{s:aX}{C:List Int}{m k:Nat}{g:DS}(hs:fF s C k g=none):dR s C m k g=g:=by
 cases m with
 |zero=>rfl
 |succ m=>
  unfold dR
  rw[hs]
  split<;>rfl
theorem tG{S:ad}(h:S.bi=true):fT S= -1:=by unfold fT;rw[if_pos h]
theorem vw{S:ad}(h:S.bi=false)(h2:S.more=true):fT S= -2:=by unfold fT;rw[if_neg (by rw[h];simp),if_pos h2]
theorem rV{S:ad}(h:S.bi=false)(h2:S.more=false):fT S=S.at_:=by unfold fT;rw[if_neg (by rw[h];simp),if_neg (by rw[h2];simp)]
def oA(s:aX)(bw:ByteArray)(C:List Int)(t:Nat×Nat×DS):ai:=
 ⟨[(0,.iface 37 (.pointer (some ⟨0,0,none⟩))),(1,.slice (some ⟨5,0,none⟩) 1 1),(2,.slice (some ⟨6,0,none⟩) C.length C.length),(6,.pointer (some ⟨8,0,none⟩)),(7,.pointer (some ⟨9,0,none⟩)),(8,.pointer (some ⟨10,0,none⟩)),(9,iZ t.1)],
  [.cells (aL t.2.2.x.S 1 11 12 13) 89 false,.abs t.2.2.x.d,.dead,.dead,.dead,.cells (ow s bw 7) 30 false,.cells (ay C) 3 true,.cells (af bw) 5 true,.cells jM 43 false,.cells (mg t.2.2.o t.2.2.nd t.2.2.er t.2.2.hd t.2.2.t) 43 false,.cells (mh t.2.2.w) 92 false,.cells (ah t.2.2.x.L) 9 false,.cells (ay t.2.2.x.R) 3 false,.cells (an t.2.2.x.H) 114 false]⟩
def zT(x:MS)(s:aX)(bw:ByteArray)(C:List Int):List ak:=[.cells (aL x.S 1 8 9 10) 89 false,.abs x.d,.dead,.dead,.dead,.cells (ow s bw 7) 30 false,.cells (ay C) 3 true,.cells (af bw) 5 true,.cells (ah x.L) 9 false,.cells (ay x.R) 3 false,.cells (an x.H) 114 false]
def Kz(g:DS)(s:aX)(bw:ByteArray)(C:List Int)(r:bD)(q:List ak):Prop:=r=.ret (.agg (mg g.o g.nd g.er g.hd g.t).toArray)/\q=zT g.x s bw C
theorem al6{b w:ByteArray}{n i j:Nat}(h:b=w.extract 0 n)(hj:j<=n):b.extract i j=w.extract i j:=by
 subst h
 rw[ByteArray.extract_extract]
 congr 1<;>omega
theorem al7(x:MS)(s:aX)(bw:ByteArray)(C:List Int)(hx:lh 0 x)(hn:x.S.n=0)(hs:s.bytes.size<=4500)(al8:s.bytes=bw.extract 0 s.bytes.size)(Ds:s.bytes.size<=bw.size)(al9:bw.size<=4500)(hC:C.length<=3000):
 aF fK 13 [.iface 37 (.pointer (some ⟨0,0,none⟩)),.slice (some ⟨5,0,none⟩) 1 1,.slice (some ⟨6,0,none⟩) C.length C.length] (aP x.S x.L x.R x.H x.d++[.cells (ow s bw 7) 30 false,.cells (ay C) 3 true,.cells (af bw) 5 true])
  (Kz (dR s C mY 0 (li x)) s bw C):=by
 have pH:=aZ x.H
 refine aF.dv (n:=cp fK 13) (by kernel_rfl) ?_
 refine ao.move (d':=⟨[(0,.iface 37 (.pointer (some ⟨0,0,none⟩))),(1,.slice (some ⟨5,0,none⟩) 1 1),(2,.slice (some ⟨6,0,none⟩) C.length C.length)],zT x s bw C⟩) [some 0,some 1,none,none,none,some 5,some 6,some 7,some 2,some 3,some 4] [6,7,2,3,4] (q:=[ay C,af bw,ah x.L,ay x.R,an x.H]) (by kernel_rfl) (aD (by simp) (aD (by simp) (aD (by simp) (aD (by simp) (aD pH be))))) (by kernel_rfl) (by kernel_rfl) ?_
 apply aly x.S x.L x.R x.H x.d s bw C pH hx.bi hx.more hx.ok.jb
 case aY=>simp
 case bh=>simp
 case bT=>simp
 case bO=>simp
 case nu=>exact pH
 case l5=>
  have ca:=hx.ok.jb
  refine ao.eX 4 0 (by kernel_rfl) ?_
  have e0:Km x.S x.L x.R x.H x.d s bw C=oA s bw C (0,mY,li x):=by
   unfold Km oA
   rw[ca]
   rfl
  rw[e0]
  have JA:=T6
  have Dt:jP s 0 (li x):=⟨by show(0:Int)=fT x.S;rw[rV hx.bi hx.more,ca],asb _,arO _,hx.inv,λ_=>.inr (.inr ⟨0,hx,by show 0+x.S.n.toNat=0;rw[hn];rfl,rfl⟩),by show(0:Int)<=0/\(0:Int)<=320;omega⟩
  refine ao.gu (oA s bw C) (λt=>t.2.1) (λt=>t.2.1+t.1=100000/\jP s t.1 t.2.2/\dR s C t.2.1 t.1 t.2.2=dR s C mY 0 (li x)) (0,mY,li x) (by kernel_rfl) ⟨by dsimp only;omega,Dt,rfl⟩ ?_
  clear Dt e0 hx ca hn pH
  rintro⟨k,m,g⟩ ⟨h1,h2,h3⟩
  dsimp only at h1 h2 h3
  have pH:=aZ g.x.H
  have fin:∀{n:Nat} {d:ai},n=cp fK 13->dR s C m k g=g->d=Ko g.x.S g.x.L g.x.R g.x.H g.x.d s bw C g.o g.nd g.er g.hd g.t g.w k->QL (oA s bw C) (λt=>t.2.1) (λt=>t.2.1+t.1=100000/\jP s t.1 t.2.2/\dR s C t.2.1 t.1 t.2.2=dR s C mY 0 (li x)) (k,m,g)
   (QB 0 (λd'=>ao fK n 8 (zN.drop (4+1)) d' (aG fK 13 n 8 (Kz (dR s C mY 0 (li x)) s bw C))) (aG fK 13 n 8 (Kz (dR s C mY 0 (li x)) s bw C))) (.exit 0) d:=λAj cN hd=>by
   subst Aj hd
   rw[cN]at h3
   rw[<-h3]
   with_reducible (repeat first|refine QL.ret ?_|refine QL.exit ?_|refine QB.ret ?_|refine QB.cw ?_|refine QB.normal ?_|refine QB.cJ (by rfl) ?_)
   apply alP g.x.S g.x.L g.x.R g.x.H g.x.d s bw C g.o g.nd g.er g.hd g.t pH
   ·exact alN g.x.S g.x.L g.x.R g.x.H g.x.d s bw C g.o g.nd g.er g.hd g.t ⟨rfl,rfl⟩
  apply alC g.x.S g.x.L g.x.R g.x.H g.x.d s bw C g.o g.nd g.er g.hd g.t g.w k pH
  case l8=>
   intro gk
   have gk:=of_decide_eq_false gk
   have hm:m=0:=by omega
   exact fin rfl (by rw[hm];rfl) rfl
  case l7=>
   intro gk ge
   have ge:¬g.er=0:=by simpa using ge
   exact fin rfl (rU λh=>ge h.1) rfl
  case l6=>
   intro gk ge gn
   have gn:g.nd= -1:=by simpa using gn
   exact fin rfl (rU λh=>h.2 gn) rfl
  case l5=>
   intro gk ge gn
   have gk:=of_decide_eq_true gk
   have ge:g.er=0:=by simpa using ge
   have gn:g.nd≠-1:=by simpa using gn
   obtain⟨m,rfl⟩:∃m',m=m'+1:=⟨m-1,by omega⟩
   have wk:m6 Ul ((k:Int)+1)=(k:Int)+1:=bK (by omega) (by omega)
   by_cases cC:g.nd= -2
   ·obtain⟨o1,o2,o3⟩:=h2.more ge cC
    have cN:fF s C k g=some (kL g):=by unfold fF;rw[if_pos cC]
    have hD:=h2.kL ge cC
    rw[tF ⟨ge,gn⟩ cN]at h3
    have tE:=ak5 g.x o3 o1 o2
    obtain⟨i1,i2,i3⟩:=Kv h2.inv o3 o1
    have jN:=Kk (fv g.x).2.2 i1.held.1
    have ama:=h2.o
    unfold Go.Proofs.YtnlkkgpcikkpoaaGreat.kL at hD h3
    clear cN i3 o1 o2 o3
    generalize fv g.x=r at*
    obtain⟨e,x1,y⟩:=r
    dsimp only at*
    obtain⟨zU,T8⟩:=al4 x1
    have C7:=lH x1
    have w1:m6 Ul (0+((x1.size+1:Nat):Int))=((x1.size+1:Nat):Int):=by rw[bK (by omega) (by omega)];omega
    unfold xu
    rw[cC,ge]
    apply alH g.x.S g.x.L g.x.R g.x.H g.x.d s bw C g.o g.hd g.t g.w y.S y.L y.R y.H y.d e (jW y) x1 k pH (aZ _) tE jN wk i2
    case n1=>intro _;exact T8
    case n9=>intro _;exact T8
    case n2=>intro _;rw[zU];exact decide_eq_true (by omega)
    case n10=>intro _;rw[zU];exact decide_eq_true (by omega)
    case l6=>intro gw;rw[w1]at gw;have gw:=of_decide_eq_true gw;omega
    case l7=>intro gw;rw[w1]at gw;have gw:=of_decide_eq_true gw;omega
    case l8=>intro gw;rw[w1]at gw;have gw:=of_decide_eq_true gw;omega
    case kH=>
     intro _ go
     refine QL.to (k+1,m,⟨y,g.o++bM x1,fT y.S,e,lJ g.hd (jW y),g.t,g.w⟩) ⟨by dsimp only;omega,hD,h3⟩ (by dsimp only;omega) ?_
     unfold TH oA
     rw[zU,fP (by omega),tG go]
     rfl
    case oq=>
     intro _ go gm
     refine QL.to (k+1,m,⟨y,g.o++bM x1,fT y.S,e,lJ g.hd (jW y),g.t,g.w⟩) ⟨by dsimp only;omega,hD,h3⟩ (by dsimp only;omega) ?_
     unfold TI oA
     rw[zU,fP (by omega),vw go gm]
     rfl
    case vq=>
     intro _ go gm
     refine QL.to (k+1,m,⟨y,g.o++bM x1,fT y.S,e,lJ g.hd (jW y),g.t,g.w⟩) ⟨by dsimp only;omega,hD,h3⟩ (by dsimp only;omega) ?_
     unfold TJ oA
     rw[zU,fP (by omega),rV go gm]
     rfl
   ·obtain⟨F,f1,f2,f3⟩:=h2.feed ge gn cC
    have cB:g.nd=0:=by rw[h2.nd,rV f1.bi f1.more];exact f1.ok.jb
    have hz:=Ky f1.ro
    have rW:=h2.t
    by_cases ht:g.t<s.bytes.size
    ·have cN:fF s C k g=some (ju s C k g):=by unfold fF;rw[if_neg cC,if_pos ht]
     have hD:=h2.ju (C:=C) ge gn cC ht
     rw[tF ⟨ge,gn⟩ cN]at h3
     obtain⟨u1,u2,u3⟩:=Kx s C k g.t ht
     have EU:=extract_size s.bytes g.t (gA s C k g.t) u2
     have pS:=ak0 F g.x (s.bytes.extract g.t (gA s C k g.t)) f1.ok f1.bi f1.more (by omega) (by omega)
     have de:=al1 g.x (s.bytes.extract g.t (gA s C k g.t))
     rw[f1.ro]at de
     rw[hz,Ky de]at pS
     obtain⟨i1,i2⟩:=zP f1 (s.bytes.extract g.t (gA s C k g.t))
     have jN:=Kk (bX g.x (s.bytes.extract g.t (gA s C k g.t))).2 i1.held.1
     have vo:=T5 C k
     have qH:=al0 C k hC (by omega) (by omega)
     have hw:m6 Ul ((g.t:Int)+mj C k)=(g.t:Int)+mj C k:=bK (by omega) (by omega)
     have hT:(if m6 Ul ((g.t:Int)+mj C k)<(↑(DD (aX.bytes s)):Int)then m6 Ul ((g.t:Int)+mj C k)else(↑(DD (aX.bytes s)):Int))=((gA s C k g.t:Nat):Int):=by
      rw[hw]
      show(if(g.t:Int)+mj C k<(s.bytes.size:Int)then(g.t:Int)+mj C k else(s.bytes.size:Int))=_
      unfold gA
      split<;>omega
     unfold Go.Proofs.YtnlkkgpcikkpoaaGreat.ju at hD h3
     clear cN i2 de
     generalize hc:s.bytes.extract g.t (gA s C k g.t)=c at*
     generalize gA s C k g.t=u at*
     generalize bX g.x c=r at*
     obtain⟨e,y⟩:=r
     dsimp only at*
     unfold xu
     rw[cB,ge]
     apply alJ g.x.S g.x.L g.x.R g.x.H g.x.d s bw C g.o g.hd g.t g.w y.S y.L y.R y.H y.d e (jW y) c k (mj C k) pH (aZ _) pS jN qH wk (by omega) (by omega) hs Ds al9 vo.1 vo.2 hw
     case n1=>exact uF (nq (BH (aE _) _) _)
     case n2=>
      rw[hT]
      refine iI ?_ ?_
      ·rw[EU];simp only[atG,as9]
      ·have:=al5 bw g.t u (by omega)
       have FG:bw.extract g.t u=c:=(al6 al8 u2).symm.trans hc
       simp only[atG]
       show[_,_,_,_,_,ak.cells ([]++arP ((u-g.t)*1) (as3 (0+g.t*1) (af bw))) _ _]=_
       rw[this,FG]
       rfl
     case l6=>
      intro go
      refine QL.to (k+1,m,⟨y,g.o,fT y.S,e,lJ g.hd (jW y),u,g.w⟩) ⟨by dsimp only;omega,hD,h3⟩ (by dsimp only;omega) ?_
      unfold TK oA
      rw[hT,fP (by omega),tG go]
      rfl
     case l7=>
      intro go gm
      refine QL.to (k+1,m,⟨y,g.o,fT y.S,e,lJ g.hd (jW y),u,g.w⟩) ⟨by dsimp only;omega,hD,h3⟩ (by dsimp only;omega) ?_
      unfold TL oA
      rw[hT,fP (by omega),vw go gm]
      rfl
     case l8=>
      intro go gm
      refine QL.to (k+1,m,⟨y,g.o,fT y.S,e,lJ g.hd (jW y),u,g.w⟩) ⟨by dsimp only;omega,hD,h3⟩ (by dsimp only;omega) ?_
      unfold TM oA
      rw[hT,fP (by omega),rV go gm]
      rfl
    ·have oB:g.t=s.bytes.size:=by omega
     by_cases jA:s.ended=true
     ·have cN:fF s C k g=some (jO g):=by unfold fF;rw[if_neg cC,if_neg ht,if_pos ⟨jA,f3⟩]
      have hD:=h2.jO ge gn cC (by omega)
      rw[tF ⟨ge,gn⟩ cN]at h3
      have hF:F<=800000:=by omega
      have xp:=ak3 F g.x hF f1.ok (by rw[f1.none];exact asb _) f1.bi f1.more (by have:(gI g.x.z g.x.H).2.2.length<=3:=(Dr f1 hF).1.bR;omega)
      rw[hz,Ky (al3 f1 hF)]at xp
      obtain⟨i1,i2⟩:=Ku f1 hF
      have jN:=Kk (e9 g.x).2 i1.held.1
      unfold Go.Proofs.YtnlkkgpcikkpoaaGreat.jO at hD h3
      clear cN i2
      generalize e9 g.x=r at*
      obtain⟨e,y⟩:=r
      dsimp only at*
      unfold xu
      rw[cB,ge,oB,f3]
      rw[oB]at h3 hD
      apply alL g.x.S g.x.L g.x.R g.x.H g.x.d s bw C g.o g.hd y.S y.L y.R y.H y.d e (jW y) k pH (aZ _) xp jN wk jA
      case n0=>exact iI rfl rfl
      case n1=>exact iI rfl rfl
      case aY=>simp
      case bh=>simp
      case l4=>
       intro go
       refine QL.to (k+1,m,⟨y,g.o,fT y.S,e,lJ g.hd (jW y),s.bytes.size,true⟩) ⟨by dsimp only;omega,hD,h3⟩ (by dsimp only;omega) ?_
       unfold TN oA
       rw[fP (by omega),tG go]
       rfl
      case l5=>
       intro go gm
       refine QL.to (k+1,m,⟨y,g.o,fT y.S,e,lJ g.hd (jW y),s.bytes.size,true⟩) ⟨by dsimp only;omega,hD,h3⟩ (by dsimp only;omega) ?_
       unfold TP oA
       rw[fP (by omega),vw go gm]
       rfl
      case l6=>
       intro go gm
       refine QL.to (k+1,m,⟨y,g.o,fT y.S,e,lJ g.hd (jW y),s.bytes.size,true⟩) ⟨by dsimp only;omega,hD,h3⟩ (by dsimp only;omega) ?_
       unfold TQ oA
       rw[fP (by omega),rV go gm]
       rfl
     ·have cN:fF s C k g=none:=by unfold fF;rw[if_neg cC,if_neg ht,if_neg (λh=>jA h.1)]
      have yk:s.ended=false:=by simpa using jA
      have MT:xu g.x.S g.x.L g.x.R g.x.H g.x.d s bw C g.o g.nd g.er g.hd g.t g.w k=Kp g.x.S g.x.L g.x.R g.x.H g.x.d s bw C g.o g.hd g.w k:=by
       unfold xu Kp
       rw[cB,ge,oB]
       rfl
      rw[MT]
      apply alM g.x.S g.x.L g.x.R g.x.H g.x.d s bw C g.o g.hd g.w k pH yk
      case aY=>simp
      case bh=>simp
      case bT=>simp
      case bO=>simp
      case nu=>exact pH
      case l5=>exact fin rfl (T7 cN) (by unfold TR Ko;rw[cB,ge,oB])
theorem Du{a b:ByteArray}(h:a.data.toList=b.data.toList):a=b:=ByteArray.ext (Array.ext' h)
def fw:List ByteArray->ByteArray
 | []=>KI
 |x::l=>bM x++fw l
structure jX(x:ByteArray):Prop where
 small:x.size<=64
 none:(10:UInt8)∉x.data.toList
theorem xw:∀l:List ByteArray,(fw l).size=a8 l
 | []=>rfl
 |x::l=>by show(bM x++fw l).size=x.size+1+a8 l;rw[atS,lH,xw l]
theorem KA:∀a b:List ByteArray,fw (a++b)=fw a++fw b
 | [],b=>by show fw b=KI++fw b;rw[ByteArray.empty_append]
 |x::a,b=>by show bM x++fw (a++b)=bM x++fw a++fw b;rw[KA a b,ByteArray.append_assoc]
theorem T9(x:ByteArray):fw [x]=bM x:=by show bM x++KI=_;rw[ByteArray.append_empty]
theorem amb(a:List ByteArray)(x:ByteArray):fw (a++[x])=fw a++bM x:=by rw[KA,T9]
theorem Ua(x:ByteArray):(bM x).data.toList=x.data.toList++[10]:=by unfold bM;simp
theorem Ub:∀(x r:List UInt8),(10:UInt8)∉x->auQ (x++10::r) 10=x.length
 | [],r,_=>rfl
 |b::x,r,h=>by
  have hb:(b==10)=false:=by
   rw[beq_eq_false_iff_ne]
   intro e
   exact h (by rw[e];exact arH)
  have ih:=Ub x r λhx=>h (arG _ hx)
  show(if(b==10)=true then(0:Int)else if(auQ (x++10::r) 10== -1)=true then -1 else auQ (x++10::r) 10+1)=_
  rw[hb,ih,if_neg (by simp),if_neg (by simp)]
  simp
theorem amc{f:ByteArray}{a l:List ByteArray}{x:ByteArray}(hf:f=fw (a++x::l))(hx:jX x):
 ba (f.extract (a8 a) (a8 a+min (f.size-a8 a) 65)) 10=x.size/\(f.extract (a8 a) (a8 a+min (f.size-a8 a) 65)).extract 0 x.size=x:=by
 have hs:f.size=a8 a+(x.size+1+a8 l):=by rw[hf,xw,lg];rfl
 have hl:f.data.toList=(fw a).data.toList++(x.data.toList++10::(fw l).data.toList):=by
  rw[hf,KA]
  show(fw a++(bM x++fw l)).data.toList=_
  rw[auf,asY,auf,asY,Ua]
  simp
 have JD:(fw a).data.toList.length=a8 a:=by rw[<-xw];rfl
 have iT:x.data.toList.length=x.size:=rfl
 have hm:x.size+1<=min (f.size-a8 a) 65:=by have:=hx.small;omega
 obtain⟨k,hk⟩:∃k,min (f.size-a8 a) 65=x.size+1+k:=⟨min (f.size-a8 a) 65-(x.size+1),by omega⟩
 have he:(f.extract (a8 a) (a8 a+min (f.size-a8 a) 65)).data.toList=x.data.toList++10::(fw l).data.toList.take k:=by
  rw[ato,atf,as1,hl,hk,<-JD,List.drop_left,Nat.add_sub_cancel_left,<-iT,Nat.add_assoc,List.take_length_add_append,Nat.add_comm 1 k,List.take_succ_cons]
 refine⟨?_,?_⟩
 ·show auQ _ ((10:Int).toNat.toUInt8)=_
  rw[he,show((10:Int).toNat.toUInt8)=(10:UInt8)from rfl,Ub _ _ hx.none]
  rfl
 ·refine Du ?_
  rw[ato,atf,as1,he,List.drop_zero,Nat.sub_zero,<-iT,List.take_left]
theorem amd{f:ByteArray}{n:Nat}(hf:f.size=n):ba (f.extract n (n+min (f.size-n) 65)) 10= -1:=by
 have:f.extract n (n+min (f.size-n) 65)=KI:=by
  refine Du ?_
  rw[ato,atf,as1,avl (by rw[Array.length_toList];show f.size<=n;omega),List.take_nil]
  rfl
 rw[this]
 rfl
def jY(d:aA)(no:Int)(l:List ByteArray):Prop:=fileOf d.files no=some (fw l)/\∀x∈l,jX x
theorem Dv{d:aA}(h:d.bG=[]):j9 d=0:=by show cE d.bG d.calls=0;rw[h];rfl
structure Sm(d d':aA):Prop where
 sc:d'.bG=d.bG
 ef:d'.made=d.made
 ks:d'.files.map (·.1)=d.files.map (·.1)
theorem Sm.refl(d:aA):Sm d d:=⟨rfl,rfl,rfl⟩
theorem Sm.trans{d e f:aA}(h:Sm d e)(g:Sm e f):Sm d f:=⟨g.sc.trans h.sc,g.ef.trans h.ef,g.ks.trans h.ks⟩
theorem ame(l:List (Nat×ByteArray))(no:Int)(b:ByteArray):(ka l no b).map (·.1)=l.map (·.1):=by
 unfold ka
 rw[List.map_map]
 refine List.map_congr_left λp _=>?_
 show(if _ then _ else _:Nat×ByteArray).1=p.1
 split<;>rfl
theorem Uc{d:aA}{no:Int}{l:List ByteArray}{x:ByteArray}(hs:d.bG=[])(h:jY d no l)(hx:jX x):(bP d no (bM x)).1=0/\jY (bP d no (bM x)).2 no (l++[x])/\(∀m,m≠no->fileOf (bP d no (bM x)).2.files m=fileOf d.files m)/\Sm d (bP d no (bM x)).2:=by
 have hz:=lH x
 have dX:=hx.small
 have he:=Dv hs
 have hd:bP d no (bM x)=(0,{fz d with files:=ka d.files no (bM x)}):=by
  unfold bP
  rw[h.1]
  dsimp only
  rw[if_neg (by omega),if_neg (λh=>h he)]
 rw[hd]
 refine⟨rfl,⟨?_,λy hy=>?_⟩,λm hm=>Rm hm,rfl,rfl,ame _ _ _⟩
 ·show fileOf (ka d.files no (bM x)) no=_
  rw[Q2,h.1,amb]
  rfl
 ·rcases arL.1 hy with hy|hy
  ·exact h.2 y hy
  ·rw[ar0.1 hy];exact hx
theorem Ud(no:Int):∀(l a:List ByteArray) (d:aA),d.bG=[]->jY d no a->(∀x∈l,jX x)->(ic no l d).1=0/\jY (ic no l d).2 no (a++l)/\(∀m,m≠no->fileOf (ic no l d).2.files m=fileOf d.files m)/\Sm d (ic no l d).2
 | [],a,d,hs,h,hl=>by rw[asg];exact⟨rfl,h,λ_ _=>rfl,Sm.refl d⟩
 |x::l,a,d,hs,h,hl=>by
  obtain⟨w1,w2,w3,w4⟩:=Uc hs h (hl x arH)
  obtain⟨v1,v2,v3,v4⟩:=Ud no l (a++[x]) _ (w4.sc.trans hs) w2 λy hy=>hl y (arG _ hy)
  unfold ic
  rw[if_neg (λh=>h w1)]
  rw[arI]at v2
  exact⟨v1,v2,λm hm=>(v3 m hm).trans (w3 m hm),w4.trans v4⟩
theorem Ue{d:aA}(hd:ct d)(hs:d.bG=[]):((bj d).2.1=17/\d.made=64)\/((bj d).2.1=0/\(bj d).1=(d.made:Int)+1/\jY (bj d).2.2 (bj d).1 []/\(∀m,m≠(d.made:Int)+1->fileOf (bj d).2.2.files m=fileOf d.files m)/\(bj d).2.2.bG=[]/\(bj d).2.2.made=d.made+1/\(bj d).2.2.files.map (·.1)=d.files.map (·.1)++[d.made+1]):=by
 by_cases hm:d.made=64
 ·refine .inl ⟨?_,hm⟩
  unfold bj
  rw[if_pos hm]
 ·have he:=Dv hs
  have h0:bj d=((d.made:Int)+1,0,{fz d with made:=d.made+1,files:=d.files++[(d.made+1,KI)]}):=by
   unfold bj
   rw[if_neg hm,if_neg (λh=>h he)]
  have hf:=zu hd (by rw[h0])
  refine .inr ⟨by rw[h0],by rw[h0],⟨hf,λx hx=>by cases hx⟩,λm pa=>?_,by rw[h0];exact hs,by rw[h0],by rw[h0];simp⟩
  rw[h0]
  unfold fileOf
  show((d.files++[_]).find? _).map _=_
  rw[List.find?_append]
  have:(List.find? (λp:Nat×ByteArray=>(p.1:Int)==m) [(d.made+1,KI)])=none:=by
   rw[List.find?_eq_none]
   intro p hp
   rw[ar0.1 hp]
   simp only[beq_iff_eq]
   omega
  rw[this,Option.or_none]
theorem amf{d:aA}{no:Int}{f:ByteArray}(hs:d.bG=[])(h:fileOf d.files no=some f):(dZ d no).1=0/\(∀m,m≠no->fileOf (dZ d no).2.files m=fileOf d.files m)/\(dZ d no).2.bG=[]/\(dZ d no).2.made=d.made/\(dZ d no).2.files=d.files.filter λp=> !((p.1:Int)==no):=by
 have he:=Dv hs
 have h0:dZ d no=(0,{fz d with files:=nv d.files no}):=by
  unfold dZ
  rw[h]
  dsimp only
  rw[if_neg (λh=>h he)]
 rw[h0]
 refine⟨rfl,λm hm=>?_,hs,rfl,rfl⟩
 show fileOf (nv d.files no) m=fileOf d.files m
 unfold fileOf nv
 induction d.files with
 |nil=>rfl
 |cons p l ih=>
  rw[List.filter_cons]
  by_cases e:(p.1:Int)=no
  ·have e1:(!((p.1:Int)==no))=false:=by simpa using e
   have e2:((p.1:Int)==m)=false:=by rw[beq_eq_false_iff_ne];omega
   rw[e1,if_neg (by simp),atz,e2]
   exact ih
  ·have e1:(!((p.1:Int)==no))=true:=by simpa using e
   rw[e1,if_pos rfl,atz,atz]
   cases((p.1:Int)==m)with
   |true=>rfl
   |false=>exact ih
theorem KB:∀(R:List Int) (d:aA),d.bG=[]->(∀r∈R,∃f,fileOf d.files r=some f)->R.Nodup->(eN R d).1=0/\(∀m,m∉R->fileOf (eN R d).2.files m=fileOf d.files m)/\(eN R d).2.bG=[]/\(eN R d).2.made=d.made/\∀p∈(eN R d).2.files,p∈d.files/\(p.1:Int)∉R
 | [],d,hs,h,hn=>⟨rfl,λ_ _=>rfl,hs,rfl,λp hp=>⟨hp,by simp⟩⟩
 |no::R,d,hs,h,hn=>by
  obtain⟨f,hf⟩:=h no arH
  obtain⟨r1,r2,r3,r4,r5⟩:=amf hs hf
  have fk:=asG.1 hn
  obtain⟨g1,g2,g3,g4,g5⟩:=KB R (dZ d no).2 r3 (λr hr=>by
   obtain⟨f,hf⟩:=h r (arG _ hr)
   exact⟨f,by rw[r2 r λe=>fk.1 (by rw[<-e];exact hr)];exact hf⟩) fk.2
  unfold eN
  rw[if_neg (λh=>h r1)]
  refine⟨g1,λm hm=>?_,g3,g4.trans r4,λp hp=>?_⟩
  ·rw[g2 m λh=>hm (arG _ h),r2 m λe=>hm (by rw[e];exact arH)]
  ·obtain⟨a,b⟩:=g5 p hp
   rw[r5]at a
   obtain⟨a1,a2⟩:=List.mem_filter.1 a
   refine⟨a1,λhh=>?_⟩
   rcases arD.1 hh with hh|hh
   ·rw[hh]at a2;simp at a2
   ·exact b hh
def kj(d:aA)(h:au)(l:List ByteArray):Prop:=∃a:List ByteArray,fileOf d.files h.no=some (fw (a++l))/\(∀x∈l,jX x)/\match l with
 | []=>h.there=false/\h.at_=a8 a
 |x::_=>h.there=true/\h.line=x/\h.at_=a8 (a++[x])
theorem kj.same{d d':aA}{h:au}{l:List ByteArray}(hh:kj d h l)(hf:fileOf d'.files h.no=fileOf d.files h.no):kj d' h l:=by
 obtain⟨a,h1,h2⟩:=hh
 exact⟨a,hf.trans h1,h2⟩
theorem Uf{d:aA}{h:au}{a l:List ByteArray}(hs:d.bG=[])(hf:fileOf d.files h.no=some (fw (a++l)))(hl:∀x∈l,jX x)(ca:h.at_=a8 a):(bE h d).1=0/\(bE h d).2.1.no=h.no/\kj d (bE h d).2.1 l/\(bE h d).2.2=fz d:=by
 have he:=Dv hs
 have cc:(fw (a++l)).size=a8 a+a8 l:=by rw[xw,lg]
 have h0:aJ d h.no h.at_ 65=((fw (a++l)).extract (a8 a) (a8 a+min ((fw (a++l)).size-a8 a) 65),0,fz d):=by
  unfold aJ
  rw[hf]
  dsimp only
  rw[if_neg (by rw[ca,cc];omega),if_neg (λh=>h he),ca]
  rfl
 unfold bE
 rw[h0]
 dsimp only
 rw[if_neg (λh=>h rfl)]
 refine⟨rfl,rfl,⟨a,hf,hl,?_⟩,rfl⟩
 cases l with
 |nil=>
  have:=amd (f:=fw (a++[])) (n:=a8 a) (by rw[cc];rfl)
  unfold xa
  dsimp only
  rw[this]
  exact⟨rfl,by show h.at_+(-1+1)=_;rw[ca];omega⟩
 |cons x l=>
  obtain⟨c1,c2⟩:=amc (f:=fw (a++x::l)) rfl (hl x arH)
  unfold xa
  dsimp only
  rw[c1]
  refine⟨by simp,?_,?_⟩
  ·show ByteArray.extract _ 0 (max (x.size:Int) 0).toNat=x
   rw[show(max (x.size:Int) 0).toNat=x.size by omega]
   exact c2
  ·show h.at_+((x.size:Int)+1)=((a8 (a++[x]):Nat):Int)
   rw[ca,lg]
   show(a8 a:Int)+_=((a8 a+(x.size+1+0):Nat):Int)
   omega
theorem kj.next{d:aA}{h:au}{x:ByteArray}{l:List ByteArray}(hh:kj d h (x::l))(hs:d.bG=[]):(bE h d).1=0/\(bE h d).2.1.no=h.no/\kj d (bE h d).2.1 l/\(bE h d).2.2=fz d:=by
 obtain⟨a,h1,h2,h3,h4,h5⟩:=hh
 refine Uf (a:=a++[x]) hs (by rw[arI];exact h1) (λy hy=>h2 y (arG _ hy)) h5
theorem KC:∀(R:List Int) (X:List (List ByteArray)) (H:List au) (d:aA),d.bG=[]->bS (jY d) R X->(dB R H d).1=0/\Sm d (dB R H d).2.2/\(dB R H d).2.2.files=d.files/\∃H',(dB R H d).2.1=H++H'/\bS (kj d) H' X/\H'.map (·.no)=R
 | [],[],H,d,hs,h=>⟨rfl,Sm.refl d,rfl,[],(asg H).symm,.nil,rfl⟩
 |no::R,l::X,H,d,hs,.cons h t=>by
  obtain⟨r1,r2,r3,r4⟩:=Uf (h:=⟨no,0,KI,false⟩) (a:=[]) hs h.1 h.2 rfl
  have hf:(bE ⟨no,0,KI,false⟩ d).2.2.files=d.files:=by rw[r4];rfl
  have dX:Sm d (bE ⟨no,0,KI,false⟩ d).2.2:=by rw[r4];exact⟨rfl,rfl,rfl⟩
  have t':bS (jY (bE ⟨no,0,KI,false⟩ d).2.2) R X:=by
   have key:∀{R:List Int} {X:List (List ByteArray)},bS (jY d) R X->bS (jY (bE ⟨no,0,KI,false⟩ d).2.2) R X:=λh=>by
    induction h with
    |nil=>exact .nil
    |cons h _ ih=>exact .cons ⟨by rw[hf];exact h.1,h.2⟩ ih
   exact key t
  obtain⟨o1,o2,o3,H',o4,o5,o6⟩:=KC R X (H++[(bE ⟨no,0,KI,false⟩ d).2.1]) _ (dX.sc.trans hs) t'
  unfold dB
  rw[if_neg (λh=>h r1)]
  refine⟨o1,dX.trans o2,o3.trans hf,(bE ⟨no,0,KI,false⟩ d).2.1::H',by rw[o4,arI];rfl,.cons r3 ?_,by rw[List.map_cons,o6,r2]⟩
  have key:∀{H:List au} {X:List (List ByteArray)},bS (kj (bE ⟨no,0,KI,false⟩ d).2.2) H X->bS (kj d) H X:=λh=>by
   induction h with
   |nil=>exact .nil
   |cons h _ ih=>exact .cons (h.same (by rw[hf])) ih
  exact key o5
theorem Vm.bS.set{α β:Type}{R:α->β->Prop}{a:α}{b:β}(h:R a b):∀{l:List α} {l':List β} (k:Nat),bS R l l'->bS R (l.set k a) (l'.set k b)
 | [],[],_,.nil=>.nil
 |_::_,_::_,0,.cons _ t=>.cons h t
 |_::_,_::_,k+1,.cons g t=>.cons g (bS.set h k t)
theorem Vm.bS.kp{α β:Type}{R:α->β->Prop}:∀{l:List α} {l':List β} {m:List α} {m':List β},bS R l l'->bS R m m'->bS R (l++m) (l'++m')
 | [],[],_,_,.nil,h=>h
 |_::_,_::_,_,_,.cons g t,h=>.cons g (bS.kp t h)
theorem Vm.bS.split{α β:Type}{R:α->β->Prop}:∀{l m:List α} {l':List β},bS R (l++m) l'->∃a b,l'=a++b/\bS R l a/\bS R m b
 | [],m,l',h=>⟨[],l',rfl,.nil,h⟩
 |x::l,m,y::l',.cons g t=>by
  obtain⟨a,b,e,h1,h2⟩:=bS.split t
  exact⟨y::a,b,by rw[e];rfl,.cons g h1,h2⟩
theorem Vm.bS.imp{α β:Type}{R S:α->β->Prop}:∀{l:List α} {l':List β},bS R l l'->(∀a∈l,∀b∈l',R a b->S a b)->bS S l l'
 | [],[],.nil,_=>.nil
 |a::_,b::_,.cons g t,h=>.cons (h a arH b arH g) (bS.imp t λx hx y hy=>h x (arG _ hx) y (arG _ hy))
theorem Dw:∀{X:List (List ByteArray)} {k:Nat} {x:ByteArray} {l:List ByteArray},X[k]?=some (x::l)->X.flatten.Perm (x::(X.set k l).flatten)
 | [],k,x,l,h=>by cases h
 |y::X,0,x,l,h=>by
  have:y=x::l:=by simpa using h
  rw[this]
  exact .refl _
 |y::X,k+1,x,l,h=>by
  have ih:=Dw (X:=X) (k:=k) (x:=x) (l:=l) (by simpa using h)
  show(y++X.flatten).Perm (x::(y++(X.set k l).flatten))
  exact((ih.append_left y)).trans awn
theorem Ug{f:Bool}{H:List au}:∀(l:List au) (i:Nat) (k:Option Nat),H.drop i=l->(∀j,j<i->(aK H j).there=true->∃m,k=some m/\¬aN f (aK H j).line (aK H m).line<0)->∀j,j<H.length->(aK H j).there=true->∃m,ke f H l i k=some m/\¬aN f (aK H j).line (aK H m).line<0
 | [],i,k,hl,hk,j,hj,ht=>hk j (by have:=congrArg nG hl;rw[ass,List.length_nil]at this;omega) ht
 |h::l,i,k,hl,hk,j,hj,ht=>by
  have hi:i<H.length:=by
   have:=congrArg nG hl
   rw[ass,List.length_cons]at this
   omega
  have hh:aK H i=h:=by
   have e:=xe hi
   have:(H.drop i)[0]?=some h:=by rw[hl];rfl
   rw[List.getElem?_drop,Nat.add_zero,e]at this
   exact atZ this
  have hT:=og f
  unfold ke
  refine Ug l (i+1) _ (by rw[<-List.tail_drop,hl];rfl) ?_ j hj ht
  intro j hj ht
  by_cases hc:jq f H h k=true
  ·rw[if_pos hc]
   refine⟨i,rfl,?_⟩
   rw[hh]
   rcases awo.1 hj with hj|rfl
   ·obtain⟨m,rfl,hm⟩:=hk j hj ht
    have hc:(h.there&&decide (aN f h.line (aK H m).line<0))=true:=hc
    rw[Bool.and_eq_true]at hc
    have h2:=of_decide_eq_true hc.2
    exact hT.trans _ _ _ (hT.asym _ _ h2) hm
   ·rw[hh]
    exact λh=>hT.asym _ _ h h
  ·rw[if_neg hc]
   rcases awo.1 hj with hj|rfl
   ·exact hk j hj ht
   ·rw[hh]at ht⊢
    cases k with
    |none=>exact absurd ht hc
    |some m=>
     refine⟨m,rfl,λh0=>hc ?_⟩
     show(h.there&&decide (aN f h.line (aK H m).line<0))=true
     rw[ht,decide_eq_true h0]
     rfl
theorem Uh{f:Bool}{H:List au}{j:Nat}(hj:j<H.length)(ht:(aK H j).there=true):∃m,eo f H=some m/\¬aN f (aK H j).line (aK H m).line<0:=
 Ug H 0 none rfl (λj h=>absurd h (awB j)) j hj ht
theorem Vm.bS.hd{d:aA}{H:List au}{X:List (List ByteArray)}(h:bS (kj d) H X){k:Nat}(hk:k<H.length):∃l,X[k]?=some l/\kj d (aK H k) l:=by
 have hX:k<X.length:=by rw[<-h.len];exact hk
 obtain⟨a,h1,h2⟩:=h.get (KH hX)
 rw[xe hk]at h1
 cases h1
 exact⟨_,KH hX,h2⟩
structure xx(f:Bool)(d:aA)(H:List au)(X:List (List ByteArray))(k:Nat)(x:ByteArray)(l:List ByteArray):Prop where
 lt:k<H.length
 at_:X[k]?=some (x::l)
 hd:kj d (aK H k) (x::l)
 line:(aK H k).line=x
 bb:bb (aN f) X.flatten=x::bb (aN f) (X.set k l).flatten
 each:∀y∈X.set k l,dp (aN f) y
theorem KD{f:Bool}{d:aA}{H:List au}{X:List (List ByteArray)}(h:bS (kj d) H X)(hs:∀l∈X,dp (aN f) l):
 (eo f H=none/\X.flatten=[])\/∃k x l,eo f H=some k/\xx f d H X k x l:=by
 have hT:=og f
 cases hk:eo f H with
 |none=>
  refine .inl ⟨rfl,?_⟩
  rw[List.flatten_eq_nil_iff]
  intro l hl
  obtain⟨j,hj,rfl⟩:=avO hl
  have zV:j<H.length:=by rw[h.len];exact hj
  obtain⟨l',e,a,h1,h2,h3⟩:=h.hd zV
  rw[KH hj]at e
  have e:=atZ e
  rw[e]
  cases l' with
  |nil=>rfl
  |cons x l'=>
   obtain⟨m,hm,_⟩:=Uh (f:=f) zV h3.1
   rw[hk]at hm
   cases hm
 |some k=>
  obtain⟨k1,k2⟩:=vd hk
  obtain⟨l',e,hh⟩:=h.hd k1
  obtain⟨a,h1,h2,h3⟩:=hh
  cases l' with
  |nil=>rw[k2]at h3;exact absurd h3.1 (by simp)
  |cons x l=>
   have hX:=List.mem_of_getElem? e
   have jF:=hs _ hX
   have each:∀y∈X.set k l,dp (aN f) y:=λy hy=>by
    rcases auk hy with hy|rfl
    ·exact hs y hy
    ·exact(atD.1 jF).2
   refine .inr ⟨k,x,l,rfl,k1,e,⟨a,h1,h2,h3⟩,h3.2.1,?_,each⟩
   refine(wX hT (((ib _).cons x).trans (Dw e).symm) ?_).symm
   refine atD.2 ⟨λy hy=>?_,ny hT _⟩
   have hy:y∈X.flatten:=(Dw e).mem_iff.2 (arG _ ((ib _).mem_iff.1 hy))
   obtain⟨ly,dq,hy⟩:=List.mem_flatten.1 hy
   obtain⟨j,hj,rfl⟩:=avO dq
   have zV:j<H.length:=by rw[h.len];exact hj
   obtain⟨lj,ej,aj,j1,j2,j3⟩:=h.hd zV
   rw[KH hj]at ej
   have ej:=atZ ej
   rw[ej]at hy
   cases lj with
   |nil=>cases hy
   |cons z lz=>
    obtain⟨m,hm,hle⟩:=Uh (f:=f) zV j3.1
    rw[hk]at hm
    cases hm
    rw[j3.2.1,h3.2.1]at hle
    have Ui:gg (aN f) x z=true:=oT.2 hle
    rcases arD.1 hy with rfl|hy
    ·exact Ui
    ·exact hT.le_trans Ui ((atD.1 (by have:=hs _ dq;rw[ej]at this;exact this)).1 y hy)
theorem xx.len{f:Bool}{d:aA}{H:List au}{X:List (List ByteArray)}{k:Nat}{x:ByteArray}{l:List ByteArray}(h:xx f d H X k x l):X.flatten.length=(X.set k l).flatten.length+1:=(Dw h.at_).length_eq
theorem xx.read{f:Bool}{d:aA}{H:List au}{X:List (List ByteArray)}{k:Nat}{x:ByteArray}{l:List ByteArray}(h:xx f d H X k x l)(ha:bS (kj d) H X)(hs:d.bG=[]):
 (bE (aK H k) d).1=0/\(bE (aK H k) d).2.2=fz d/\bS (kj (fz d)) (H.set k (bE (aK H k) d).2.1) (X.set k l)/\(bE (aK H k) d).2.1.no=(aK H k).no:=by
 obtain⟨r1,r2,r3,r4⟩:=h.hd.next hs
 refine⟨r1,r4,(bS.set r3 k ha).imp λ_ _ _ _ g=>g.same rfl,r2⟩
theorem Uj(f:Bool)(no:Int):∀(n:Nat) (H:List au) (X:List (List ByteArray)) (d:aA) (a:List ByteArray),d.bG=[]->bS (kj d) H X->(∀l∈X,dp (aN f) l)->jY d no a->(∀h∈H,h.no≠no)->X.flatten.length<n->
 (jU f no n H d).1=0/\jY (jU f no n H d).2 no (a++bb (aN f) X.flatten)/\(∀m,m≠no->fileOf (jU f no n H d).2.files m=fileOf d.files m)/\Sm d (jU f no n H d).2
 |0,H,X,d,a,hs,ha,ho,hf,hn,hl=>absurd hl (awB _)
 |n+1,H,X,d,a,hs,ha,ho,hf,hn,hl=>by
  unfold jU
  rcases KD ha ho with⟨hk,hX⟩|⟨k,x,l,hk,hp⟩
  ·rw[hk,hX]
   have:bb (aN f) ([]:List ByteArray)=[]:=ar5 (lG _)
   rw[this,asg]
   exact⟨rfl,hf,λ_ _=>rfl,Sm.refl d⟩
  ·rw[hk]
   dsimp only
   have hx:jX x:=by obtain⟨_,_,h2,_⟩:=hp.hd;exact h2 x arH
   rw[hp.line]
   obtain⟨w1,w2,w3,w4⟩:=Uc hs hf hx
   rw[if_neg (λh=>h w1)]
   generalize(bP d no (bM x)).2=d1 at*
   have jn:=w4.sc.trans hs
   have yQ:bS (kj d1) H X:=ha.imp λh hh _ _ g=>g.same (w3 _ (hn h hh))
   have jG:xx f d1 H X k x l:=⟨hp.lt,hp.at_,hp.hd.same (w3 _ (hn _ (tm hp.lt))),hp.line,hp.bb,hp.each⟩
   obtain⟨r1,r2,r3,r4⟩:=jG.read yQ jn
   rw[if_neg (λh=>h r1),r2]
   have hlen:=hp.len
   obtain⟨v1,v2,v3,v4⟩:=Uj f no n (H.set k (bE (aK H k) d1).2.1) (X.set k l) (fz d1) (a++[x]) jn r3 hp.each w2 (λh hh=>by
    rcases auk hh with hh|rfl
    ·exact hn h hh
    ·rw[r4];exact hn _ (tm hp.lt)) (by omega)
   rw[arI]at v2
   rw[hp.bb]
   exact⟨v1,v2,λm hm=>(v3 m hm).trans (w3 m hm),w4.trans ((⟨rfl,rfl,rfl⟩:Sm d1 (fz d1)).trans v4)⟩
structure ml(f:Bool)(d:aA)(R:List Int)(X:List (List ByteArray)):Prop where
 sc:d.bG=[]
 ok:ct d
 at_:bS (jY d) R X
 nd:R.Nodup
 bb:∀l∈X,dp (aN f) l
 old:∀r∈R,r<=d.made
 all:∀p∈d.files,(p.1:Int)∈R
 bR:a8 X.flatten<=1000000
theorem amg{d:aA}{R:List Int}{X:List (List ByteArray)}(h:bS (jY d) R X):eO d R=a8 X.flatten:=by
 induction h with
 |nil=>rfl
 |@cons r l R X h t ih=>
  show cg d r+eO d R=a8 (l++X.flatten)
  rw[lg,ih]
  unfold cg
  rw[h.1]
  show(fw l).size+_=_
  rw[xw]
theorem qI(X Y:List (List ByteArray)):(X++Y).flatten=X.flatten++Y.flatten:=List.flatten_append
theorem ml.merge{f:Bool}{d:aA}{A l B:List Int}{XA XL XB:List (List ByteArray)}(h:ml f d (A++l++B) (XA++XL++XB))(hA:A.length=XA.length)(hl:l.length=XL.length):
 (gi f l d).2.1=17\/((gi f l d).2.1=0/\ml f (gi f l d).2.2 (A++[(gi f l d).1]++B) (XA++[_root_.Go.Proofs.YtnlkkgpcikkpoaaGreat.bb (aN f) XL.flatten]++XB)):=by
 obtain⟨yQ,hB⟩:bS (jY d) (A++l) (XA++XL)/\bS (jY d) B XB:=by
  obtain⟨a,b,e,h1,h2⟩:=h.at_.split
  have:=h1.len
  rw[KO]at this
  obtain⟨e1,e2⟩:=axB e (by rw[KO];omega)
  rw[e1,e2]
  exact⟨h1,h2⟩
 obtain⟨amh,hL⟩:bS (jY d) A XA/\bS (jY d) l XL:=by
  obtain⟨a,b,e,h1,h2⟩:=yQ.split
  have:=h1.len
  obtain⟨e1,e2⟩:=axB e (by omega)
  rw[e1,e2]
  exact⟨h1,h2⟩
 have iq:=h.bR
 rw[qI,qI,lg,lg]at iq
 have cB:=h.nd
 have ami:∀r∈A++B,r∉l:=λr hr hl=>by
  rw[arI,aso]at cB
  obtain⟨n1,n2,n3⟩:=cB
  rw[aso]at n2
  rcases arL.1 hr with hr|hr
  ·exact n3 r hr r (asi _ hl) rfl
  ·exact n2.2.2 r hl r hr rfl
 have amj:l.Nodup:=by
  rw[arI,aso]at cB
  exact(aso.1 cB.2.1).1
 have gF:∀r∈l,r<=d.made:=λr hr=>h.old r (asi _ (asc _ hr))
 have tU:jr d l:=⟨h.ok,gF,by rw[amg hL];omega⟩
 have fC:=(Jl f tU).cL
 have amk:∀y∈XL,dp (aN f) y:=λy hy=>h.bb y (asi _ (asc _ hy))
 have ir:=Ue h.ok h.sc
 have JA:=Rg
 unfold gi at fC⊢
 generalize bj d=c at*
 obtain⟨no,e,d1⟩:=c
 dsimp only at*
 rcases ir with⟨he,_⟩|⟨he,fk,hf,Dx,jn,kG,qu⟩
 ·rw[if_pos (by rw[he];simp)]
  exact .inl he
 subst he fk
 rw[if_neg (λh=>h rfl)]at fC⊢
 have w9:bS (jY d1) l XL:=hL.imp λr hr _ _ g=>⟨by rw[Dx r (by have:=gF r hr;omega)];exact g.1,g.2⟩
 obtain⟨o1,o2,o3,H',o4,o5,o6⟩:=KC l XL [] d1 jn w9
 generalize dB l [] d1=q at*
 obtain⟨e2,H,d2⟩:=q
 dsimp only at*
 subst o1
 rw[if_neg (λh=>h rfl)]at fC⊢
 rw[asK]at o4
 subst o4
 have lW:=o2.sc.trans jn
 have zM:bS (kj d2) H XL:=o5.imp λ_ _ _ _ g=>g.same (by rw[o3])
 have KE:jY d2 ((d.made:Int)+1) []:=⟨by rw[o3];exact hf.1,hf.2⟩
 have fk:∀x∈H,x.no≠(d.made:Int)+1:=λx hx=>by
  have:x.no∈l:=by rw[<-o6];exact atb hx
  have:=gF _ this
  omega
 obtain⟨m1,m2,m3,m4⟩:=Uj f ((d.made:Int)+1) qC H XL d2 [] lW zM amk KE fk (by have:=rO XL.flatten;omega)
 generalize jU f ((d.made:Int)+1) qC H d2=q at*
 obtain⟨e3,d3⟩:=q
 dsimp only at*
 subst m1
 rw[if_neg (λh=>h rfl)]at fC⊢
 have zj:=m4.sc.trans lW
 have yO:∀m,m≠(d.made:Int)+1->fileOf d3.files m=fileOf d.files m:=λm hm=>by rw[m3 m hm,o3,Dx m hm]
 have C7:∀r∈l,∃b,fileOf d3.files r=some b:=λr hr=>by
  rw[yO r (by have:=gF r hr;omega)]
  have key:∀{l:List Int} {X:List (List ByteArray)},bS (jY d) l X->∀r∈l,∃b,fileOf d.files r=some b:=λh=>by
   induction h with
   |nil=>intro r hr;cases hr
   |cons g _ ih=>
    intro r hr
    rcases arD.1 hr with rfl|hr
    ·exact⟨_,g.1⟩
    ·exact ih r hr
  exact key hL r hr
 obtain⟨g1,g2,g3,g4,g5⟩:=KB l d3 zj C7 amj
 generalize eN l d3=q at*
 obtain⟨e4,d4⟩:=q
 dsimp only at*
 subst g1
 have ni:d4.made=d.made+1:=by rw[g4,m4.ef,o2.ef,kG]
 have wh:(d.made:Int)+1∉l:=λhm=>by have:=gF _ hm;omega
 have fQ:∀r,r∈A++B->fileOf d4.files r=fileOf d.files r:=λr hr=>by
  have eT:r<=d.made:=h.old r (by rcases arL.1 hr with hr|hr;exact asi _ (asi _ hr);exact asc _ hr)
  rw[g2 r (ami r hr),yO r (by omega)]
 have KF:∀r∈A++B,r<=d.made:=λr hr=>h.old r (by rcases arL.1 hr with hr|hr;exact asi _ (asi _ hr);exact asc _ hr)
 refine .inr ⟨rfl,g3,fC,?_,?_,λy hy=>?_,λr hr=>?_,λp hp=>?_,?_⟩
 ·refine((amh.imp λr hr _ _ g=>⟨by rw[fQ r (asi _ hr)];exact g.1,g.2⟩).kp (.cons ⟨?_,?_⟩ .nil)).kp (hB.imp λr hr _ _ g=>⟨by rw[fQ r (asc _ hr)];exact g.1,g.2⟩)
  ·rw[g2 _ wh];exact m2.1
  ·exact m2.2
 ·have n0:(A++B).Nodup:=by
   rw[arI,aso]at cB
   obtain⟨n1,n2,n3⟩:=cB
   rw[aso]at n2⊢
   exact⟨n1,n2.2.1,λa ha b hb=>n3 a ha b (asc _ hb)⟩
  have hp:(A++[(d.made:Int)+1]++B).Perm (((d.made:Int)+1)::(A++B)):=by
   rw[arI]
   exact awn
  refine hp.nodup_iff.2 (asG.2 ⟨λhm=>?_,n0⟩)
  have:=KF _ hm
  omega
 ·rcases arL.1 hy with hy|hy
  ·rcases arL.1 hy with hy|hy
   ·exact h.bb y (asi _ (asi _ hy))
   ·rw[ar0.1 hy];exact ny (og f) _
  ·exact h.bb y (asc _ hy)
 ·rw[ni]
  rcases arL.1 hr with hr|hr
  ·rcases arL.1 hr with hr|hr
   ·have:=KF r (asi _ hr);omega
   ·rw[ar0.1 hr];omega
  ·have:=KF r (asc _ hr);omega
 ·obtain⟨p1,p2⟩:=g5 p hp
  have hk:p.1∈d.files.map (·.1)++[d.made+1]:=by
   rw[<-qu,<-o2.ks,<-m4.ks]
   exact atb p1
  rcases arL.1 hk with hk|hk
  ·obtain⟨q,hq,e⟩:=List.mem_map.1 hk
   have:=h.all q hq
   rw[e]at this
   rcases arL.1 this with this|this
   ·rcases arL.1 this with this|this
    ·exact asi _ (asi _ this)
    ·exact absurd this p2
   ·exact asc _ this
  ·rw[ar0.1 hk]
   exact asi _ (asc _ (ar0.2 (by omega)))
 ·rw[qI,qI,lg,lg]
  show a8 XA.flatten+a8 (_++[])+_<=_
  rw[asg,pO (ib _)]
  omega
theorem KG{f:Bool}{R:List Int}:∀(n j:Nat) (s:List Int×aA) (Z XR:List (List ByteArray)),j+n=(R.length+2)/3->s.1.length=Z.length->ml f s.2 (s.1++R.drop (3*j)) (Z++XR)->
 (mS f R n j s).1=17\/((mS f R n j s).1=0/\∃X',ml f (mS f R n j s).2.2 (mS f R n j s).2.1 X'/\X'.flatten.Perm (Z++XR).flatten)
 |0,j,s,Z,XR,hn,hz,h=>by
  rw[avl (by omega),asg]at h
  have hl:=h.at_.len
  rw[KO]at hl
  have:XR=[]:=ar5 (by omega)
  subst this
  rw[asg]at h⊢
  exact .inr ⟨rfl,Z,h,.refl _⟩
 |n+1,j,s,Z,XR,hn,hz,h=>by
  have du:=Sy R j
  have hl:=h.at_.len
  rw[KO,KO,ass]at hl
  obtain⟨XL,XB,rfl,iT⟩:∃XL XB,XR=XL++XB/\XL.length=(fR R j).length:=⟨XR.take (fR R j).length,XR.drop (fR R j).length,(List.take_append_drop _ _).symm,by rw[List.length_take];omega⟩
  rw[JM,<-arI,<-arI]at h
  unfold mS kg
  by_cases h1:min 3 (R.length-3*j)=1
  ·rw[if_pos h1]
   rw[if_neg (λh=>h rfl)]
   have:=KG n (j+1) (s.1++fR R j,s.2) (Z++XL) XB (by omega) (by rw[KO,KO,hz,iT]) h
   rw[arI]at this
   exact this
  ·rw[if_neg h1]
   rcases h.merge hz iT.symm with he|⟨he,hr⟩
   ·rw[if_pos (by rw[he];simp)]
    exact .inl he
   ·rw[if_neg (λh=>h he)]
    have:=KG n (j+1) (s.1++[(gi f (fR R j) s.2).1],(gi f (fR R j) s.2).2.2) (Z++[bb (aN f) XL.flatten]) XB (by omega) (by rw[KO,KO,hz];rfl) hr
    rcases this with e|⟨e,X',h1,h2⟩
    ·exact .inl e
    ·refine .inr ⟨e,X',h1,h2.trans ?_⟩
     rw[arI,qI,qI,qI,qI]
     refine List.Perm.append_left _ (List.Perm.append_right _ ?_)
     show(bb (aN f) XL.flatten++[]).Perm _
     rw[asg]
     exact ib _
theorem Uk{f:Bool}:∀(m:Nat) (R:List Int) (X:List (List ByteArray)) (d:aA),ml f d R X->(dj f m R d).1=17\/((dj f m R d).1=0/\∃X',ml f (dj f m R d).2.2 (dj f m R d).2.1 X'/\X'.flatten.Perm X.flatten)
 |0,R,X,d,h=>.inr ⟨rfl,X,h,.refl _⟩
 |m+1,R,X,d,h=>by
  unfold dj
  by_cases h3:R.length<=3
  ·rw[if_pos h3];exact .inr ⟨rfl,X,h,.refl _⟩
  rw[if_neg h3]
  have hp:=KG (f:=f) (R:=R) ((R.length+2)/3) 0 ([],d) [] X (by omega) rfl h
  unfold gz
  rcases hp with e|⟨e,X',h1,h2⟩
  ·rw[if_pos (by rw[e];simp)]
   exact .inl e
  ·rw[if_neg (λh=>h e)]
   rcases Uk m _ X' _ h1 with e|⟨e,Y,g1,g2⟩
   ·exact .inl e
   ·exact .inr ⟨e,Y,g1,g2.trans h2⟩
open Tree renaming aQ->mN,dE->mF,fj->mL
structure aqN(A B:ByteArray)(l:List aX)(sc:List (Int×Int))(C:List Int):Prop where
 az:A.size<=1000
 bz:B.size<=1000
 bR:l.length<=8
 aqO:sc.length<=100
 each:∀s∈l,s.bytes.size<=4500
 aqP:C.length<=3000
def KK(f:Bool):ad:=⟨0,false,false,λ_=>0,0,false,f,0,0,0,0,0,false,0,false⟩
def mZ(sc:List (Int×Int)):aA:=⟨sc,[],0,0,0⟩
def gj(f:Bool)(sc:List (Int×Int)):MS:=⟨KK f,[],[],[],mZ sc⟩
theorem KL{sc:List (Int×Int)}(h:sc.length<=1000000):ct (mZ sc):=⟨h,by show(0:Nat)<=64;omega,(λp hp=>by cases hp),List.nodup_nil,(λp hp=>by cases hp),by show m6 .i64 0=0;decide⟩
theorem DB(f:Bool){sc:List (Int×Int)}(h:sc.length<=1000000):lh 0 (gj f sc):=
 ⟨⟨⟨⟨rfl,rfl,KL h,asb _,rfl,asb _⟩,(λr hr=>by cases hr),arO _⟩,⟨Int.le_refl _,by show(0:Int)<=64;omega⟩,rfl,rfl,rfl⟩,⟨(λx hx=>by cases hx),asb _⟩,rfl,rfl,rfl,rfl⟩
end Go.Proofs.YtnlkkgpcikkpoaaGreat
