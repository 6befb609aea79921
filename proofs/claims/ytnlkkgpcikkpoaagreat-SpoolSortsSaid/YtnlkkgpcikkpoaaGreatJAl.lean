/- Part of the proof: Zpv, Zpx, Zpy, Zqa, Zqb, Zqc, Zqd, Zqe. -/
import Derived.Test.YtnlkkgpcikkpoaaGreatJAk
import Derived.KernelRfl
open Array renaming toList->arN
open ByteArray renaming data->arK,empty->KI,size->DD
open Decidable renaming not_not->ate
open Go renaming Code->ar3,FuncId->arY
open Go.Addr renaming mk->au9
open Go.IntKind renaming i64->Ul,u8->Um,wrap->m6
open Go.Proofs.Tryz renaming prog->fK
open Go.Value renaming int->KJ,oneCell'->asr,pointer->asy
open Int renaming toNat->m5
open List renaming all->DC,drop_of_length_le->as7,getElem?_eq_getElem->KH,length->nG,length_cons->ar4,length_set->asU,map->arV,mem_cons_of_mem->arG,mem_cons_self->arH,mem_singleton->ar0,take->arP
open Nat renaming beq->arE,ble->arM,blt->arF,zero_le->asb
open Option.some renaming inj->atZ
open UInt8 renaming toNat->arR
set_option linter.unusedVariables false
set_option linter.unusedSimpArgs false
set_option maxRecDepth 100000
namespace Go.Proofs.YtnlkkgpcikkpoaaGreat
open Go Vm Go.RowKit
noncomputable section
def ajD(S:ad)(L:List ByteArray)(R:List Int)(H:List au)(d:aA)(b:ByteArray)(S1:ad)(M:List ByteArray)(e:Int)(T:ad)(K:List ByteArray)(Rr:List Int)(dd:aA)(f:Int):List (arY×Sum):=[(46,Sum.one (λ_ _=>some [0,1,6,7,8,5]) [.pointer (some ⟨0,3,none⟩),aq 5 b.size] (aP S.z L R H d++[ab (af b) 5]) (.ret (.tuple #[aq 6 M.length,aa e])) (aP S1.z L R H d++[ab (af b) 5,ab (ah M) 9])),(47,Sum.one (λ_ _=>some [0,1,6,7,8,9]) [ap 0,aq 5 M.length] (aP S1.z L R H d++[ab (ah M) 9]) (.ret (aa f)) (oX (ab (ah M) 9) T.z K Rr H dd)),(71,Sum.dQ fK zr)]
theorem ajE(S:ad)(L:List ByteArray)(R:List Int)(H:List au)(d:aA)(b:ByteArray)(S1:ad)(M:List ByteArray)(e:Int)(T:ad)(K:List ByteArray)(Rr:List Int)(dd:aA)(f:Int)(tB:aF fK 46 [.pointer (some ⟨0,3,none⟩),aq 5 b.size] (aP S.z L R H d++[ab (af b) 5]) λr q=>r=.ret (.tuple #[aq 6 (nG M),aa e])/\q=aP S1.z L R H d++[ab (af b) 5,ab (ah M) 9])(mU:aF fK 47 [ap 0,aq 5 (nG M)] (aP S1.z L R H d++[ab (ah M) 9]) λr q=>r=.ret (aa f)/\q=oX (ab (ah M) 9) T.z K Rr H dd):dD fK (dM fK (dP (ajD S L R H d b S1 M e T K Rr dd f)) 50 40):=dU dC mixed (ee (.cons (bB.one tB) (.cons (bB.one mU) (.cons IX .nil)))) 50 40
def ajF(S:ad)(L:List ByteArray)(R:List Int)(H:List au)(d:aA)(T:ad)(K:List ByteArray)(Rr:List Int)(G:List au)(dd:aA)(e:Int)(U:ad)(d3:aA)(f:Int):List (arY×Sum):=[(50,Sum.one (λ_ _=>some [0,1,2,3,4]) [ap 0] (aP S.z L R H d) (.ret (aa e)) (jI T.z K Rr G dd)),(51,Sum.one (λ_ _=>some [0,1,5,6,7]) [ap 0] (aP T.z K Rr G dd) (.ret (aa f)) (aP U.z K Rr G d3)),(71,Sum.dQ fK zr)]
theorem ajG(S:ad)(L:List ByteArray)(R:List Int)(H:List au)(d:aA)(T:ad)(K:List ByteArray)(Rr:List Int)(G:List au)(dd:aA)(e:Int)(U:ad)(d3:aA)(f:Int)(jA:aF fK 50 [ap 0] (aP S.z L R H d) λr q=>r=.ret (aa e)/\q=jI T.z K Rr G dd)(iL:aF fK 51 [ap 0] (aP T.z K Rr G dd) λr q=>r=.ret (aa f)/\q=aP U.z K Rr G d3):dD fK (dM fK (dP (ajF S L R H d T K Rr G dd e U d3 f)) 50 40):=dU dC mixed (ee (.cons (bB.one jA) (.cons (bB.one iL) (.cons IX .nil)))) 50 40
def ajH(S:ad)(L:List ByteArray)(R:List Int)(H:List au)(d:aA)(k:Nat)(e:Int)(G:List au)(dd:aA):List (arY×Sum):=[(54,Sum.one (λ_ _=>some [0,1,2,3,4]) [ap 0,.pointer (some ⟨4,k*4,none⟩)] (aP S L R H d) (.ret (aa e)) (aP S L R G dd))]
theorem ajI(S:ad)(L:List ByteArray)(R:List Int)(H:List au)(d:aA)(k:Nat)(e:Int)(G:List au)(dd:aA)(gL:aF fK 54 [ap 0,.pointer (some ⟨4,k*4,none⟩)] (aP S L R H d) λr q=>r=.ret (aa e)/\q=aP S L R G dd):dD fK (dM fK (dP (ajH S L R H d k e G dd)) 50 40):=dU dC mixed (ee (.cons (bB.one gL) .nil)) 50 40
def ajJ(S:ad)(L:List ByteArray)(R:List Int)(H:List au)(d:aA)(U:ad)(d3:aA)(f:Int):List (arY×Sum):=[(51,Sum.one (λ_ _=>some [0,1,2,3,4]) [ap 0] (aP S L R H d) (.ret (aa f)) (aP U L R H d3)),(71,Sum.dQ fK zr)]
theorem ajK(S:ad)(L:List ByteArray)(R:List Int)(H:List au)(d:aA)(U:ad)(d3:aA)(f:Int)(iL:aF fK 51 [ap 0] (aP S L R H d) λr q=>r=.ret (aa f)/\q=aP U L R H d3):dD fK (dM fK (dP (ajJ S L R H d U d3 f)) 50 40):=dU dC mixed (ee (.cons (bB.one iL) (.cons IX .nil))) 50 40
def ajL:List ar3:=a7 (dI fK 27)
def ajM:List ar3:=a7 (dI fK 28)
def tC:List ar3:=a7 (dI fK 29)
open Tree renaming aQ->mN,dE->mF,fj->mL,fY->mQ,dN->mR,gH->mE
abbrev fE:List ar3:=(a7 (qo false (tC.drop 9)))
abbrev ajN:List ar3:=(a7 (qo true (tC.drop 9)))
def S4:Nat->Bool->Bool->Tree->Tree
 |0,_,_,t=>t
 |n+1,d,b,t=>.cY d b (S4 n d b t)
theorem fg{R:bf->ai->Prop}{c v:Bool}{t:Tree}(n:Nat)(h1:c=v)(h2:t.ok R):(S4 n c v t).ok R:=by
 induction n with
 |zero=>exact h2
 |succ n ih=>exact⟨h1,ih⟩
abbrev Di:=λH b T K Rr dd=>([ab (aL (ad.mk (ad.at_ T) (ad.more T) true (ad.B (ad.z T)) (ad.n T) (ad.failed T) (ad.aC T) 0 (ad.rn T) (ad.bJ T) (ad.sn T) (ad.hn T) (ad.eL T) (aA.raw dd) (ad.closed T)) 1 6 7 8) 89,.abs dd,.dead,.dead,.dead,ab (af b) 5,ab (ah K) 9,ab (ay Rr) 3,ab (an H) 114]:List ak)
abbrev S5:=λ(S:ad) (L:List ByteArray) (R:List Int) H (d:aA) b (S1:ad) (M:List ByteArray) (e:Int) T K Rr dd (f:Int)=>(⟨[(6,ci),(7,aa f)],Di H b T K Rr dd⟩:ai)
theorem ajO(S L R H d b S1 M)(e:Int)(T K Rr dd)(f:Int){Q:bu}(aY:DC (af b) ag)(bh:DC (an H) ag)(hq:Q (.ret (.tuple #[ci,aa f])) (Di H b T K Rr dd)):aG fK 27 44 6 Q .ret (S5 S L R H d b S1 M e T K Rr dd f):=aG.ret (vs:=[ci,aa f]) (l:=[]) (bs:=[0,1,2,3,4,5,6,7,8]) (pl:=[5,6,7,8]) (q:=[af b,ah K,ay Rr,an H]) (λu=>by kernel_rfl) (by kernel_rfl) (aD aY (aD (by simp) (aD (by simp) (aD bh be)))) hq
abbrev Dj:=λH b T K Rr dd=>([ab (aL (ad.mk (ad.at_ T) (ad.more T) true (ad.B (ad.z T)) (ad.n T) (ad.failed T) (ad.aC T) 0 (ad.rn T) (ad.bJ T) (ad.sn T) (ad.hn T) (ad.eL T) (ad.raw T) (ad.closed T)) 1 6 7 8) 89,.abs dd,.dead,.dead,.dead,ab (af b) 5,ab (ah K) 9,ab (ay Rr) 3,ab (an H) 114]:List ak)
abbrev S6:=λ(S:ad) (L:List ByteArray) (R:List Int) H (d:aA) b (S1:ad) (M:List ByteArray) (e:Int) T K Rr dd (f:Int)=>(⟨[(6,ci),(7,aa f)],Dj H b T K Rr dd⟩:ai)
theorem ajP(S L R H d b S1 M)(e:Int)(T K Rr dd)(f:Int){Q:bu}(aY:DC (af b) ag)(bh:DC (an H) ag)(hq:Q (.ret (.tuple #[ci,aa f])) (Dj H b T K Rr dd)):aG fK 27 44 6 Q .ret (S6 S L R H d b S1 M e T K Rr dd f):=aG.ret (vs:=[ci,aa f]) (l:=[]) (bs:=[0,1,2,3,4,5,6,7,8]) (pl:=[5,6,7,8]) (q:=[af b,ah K,ay Rr,an H]) (λu=>by kernel_rfl) (by kernel_rfl) (aD aY (aD (by simp) (aD (by simp) (aD bh be)))) hq
abbrev S7:=λ(S:ad) (L:List ByteArray) (R:List Int) H (d:aA) b (S1:ad) (M:List ByteArray) (e:Int) T K Rr dd (f:Int)=>(⟨[(6,ci),(7,aa e)],Di H b T K Rr dd⟩:ai)
theorem ajQ(S L R H d b S1 M)(e:Int)(T K Rr dd)(f:Int){Q:bu}(aY:DC (af b) ag)(bh:DC (an H) ag)(hq:Q (.ret (.tuple #[ci,aa e])) (Di H b T K Rr dd)):aG fK 27 44 6 Q .ret (S7 S L R H d b S1 M e T K Rr dd f):=aG.ret (vs:=[ci,aa e]) (l:=[]) (bs:=[0,1,2,3,4,5,6,7,8]) (pl:=[5,6,7,8]) (q:=[af b,ah K,ay Rr,an H]) (λu=>by kernel_rfl) (by kernel_rfl) (aD aY (aD (by simp) (aD (by simp) (aD bh be)))) hq
abbrev S8:=λ(S:ad) (L:List ByteArray) (R:List Int) H (d:aA) b (S1:ad) (M:List ByteArray) (e:Int) T K Rr dd (f:Int)=>(⟨[(6,ci),(7,aa e)],Dj H b T K Rr dd⟩:ai)
theorem ajR(S L R H d b S1 M)(e:Int)(T K Rr dd)(f:Int){Q:bu}(aY:DC (af b) ag)(bh:DC (an H) ag)(hq:Q (.ret (.tuple #[ci,aa e])) (Dj H b T K Rr dd)):aG fK 27 44 6 Q .ret (S8 S L R H d b S1 M e T K Rr dd f):=aG.ret (vs:=[ci,aa e]) (l:=[]) (bs:=[0,1,2,3,4,5,6,7,8]) (pl:=[5,6,7,8]) (q:=[af b,ah K,ay Rr,an H]) (λu=>by kernel_rfl) (by kernel_rfl) (aD aY (aD (by simp) (aD (by simp) (aD bh be)))) hq
abbrev J9:=λ(S:ad) (L:List ByteArray) (R:List Int) H (d:aA) b (S1:ad) (M:List ByteArray) (e:Int) T K Rr dd (f:Int)=>(⟨[(6,ci),(7,aa 0)],[ab (aL (ad.z T) 1 6 7 8) 89,.abs dd,.dead,.dead,.dead,ab (af b) 5,ab (ah K) 9,ab (ay Rr) 3,ab (an H) 114]⟩:ai)
theorem ajS(S L R H d b S1 M)(e:Int)(T K Rr dd)(f:Int){Q:bu}(aY:DC (af b) ag)(bh:DC (an H) ag)(hq:Q (.ret (.tuple #[ci,aa 0])) (J9 S L R H d b S1 M e T K Rr dd f).objs):aG fK 27 44 6 Q .ret (J9 S L R H d b S1 M e T K Rr dd f):=aG.ret (vs:=[ci,aa 0]) (l:=[]) (bs:=[0,1,2,3,4,5,6,7,8]) (pl:=[5,6,7,8]) (q:=[af b,ah K,ay Rr,an H]) (λu=>by kernel_rfl) (by kernel_rfl) (aD aY (aD (by simp) (aD (by simp) (aD bh be)))) hq
abbrev ajT:=λ(S:ad) L R H d (b:ByteArray) (S1:ad) (M:List ByteArray) (e:Int) (T:ad) (K:List ByteArray) (Rr:List Int) (dd:aA) (f:Int)=>(⟨[(0,ap 0),(1,aa 0),(2,aq 5 b.size)],[ab (aL S.z 1 6 7 8) 89,.abs d,.dead,.dead,.dead,ab (af b) 5,ab (ah L) 9,ab (ay R) 3,ab (an H) 114]⟩:ai)
theorem ajU(S:ad)(L R H d)(b:ByteArray)(S1:ad)(M)(e:Int)(T:ad)(K Rr dd)(f:Int)(pH:(an H).all ag=true)(tB:aF fK 46 [.pointer (some ⟨0,3,none⟩),aq 5 b.size] (aP S.z L R H d++[ab (af b) 5]) λr q=>r=.ret (.tuple #[aq 6 (nG M),aa e])/\q=aP S1.z L R H d++[ab (af b) 5,ab (ah M) 9])(mU:aF fK 47 [ap 0,aq 5 (nG M)] (aP S1.z L R H d++[ab (ah M) 9]) λr q=>r=.ret (aa f)/\q=oX (ab (ah M) 9) T.z K Rr H dd)(h0:S.bi=false)(h1:S.more=false)(h2:S.at_=0)(h3:0<b.size)(h4:b.size<=32){Q:aU}(n0:(fZ [asy (some (au9 0 3 none)),aq 5 b.size] [asy (some (au9 0 3 none)),aq 5 b.size] [ab (aL S.z 1 2 3 4) 89,ak.abs d,ab (ah L) 9,ab (ay R) 3,ab (an H) 114,ab (af b) 5] (aP S.z L R H d++[ab (af b) 5])))(n1:(fZ [ap 0,aq 5 (nG M)] [ap 0,aq 5 (nG M)] [ab (aL S1.z 1 2 3 4) 89,ak.abs d,ab (ah L) 9,ab (ay R) 3,ab (an H) 114,ab (ah M) 9] (aP S1.z L R H d++[ab (ah M) 9])))(aY:DC (af b) ag)(bh:DC (an H) ag)(l4:(f != 0)->(f==25)->Q .ret (S5 S L R H d b S1 M e T K Rr dd f))(l5:(f != 0)->(f==25)=false->Q .ret (S6 S L R H d b S1 M e T K Rr dd f))(l6:(f != 0)=false->(e != 0)->(e==25)->Q .ret (S7 S L R H d b S1 M e T K Rr dd f))(l7:(f != 0)=false->(e != 0)->(e==25)=false->Q .ret (S8 S L R H d b S1 M e T K Rr dd f))(l8:(f != 0)=false->(e != 0)=false->Q .ret (J9 S L R H d b S1 M e T K Rr dd f)):ao fK 44 6 ajL (ajT S L R H d b S1 M e T K Rr dd f) Q:=
 aV (ajE S L R H d b S1 M e T K Rr dd f tB mU) 1000 (aB [8,2,0,0,0,0,2,0,0,4,0,2,0,0,5,1,1,1,1,1,1,1,1,1,3,1,1,1,1,1,1,1,1] (.fork 0 (.fork 1 (.leaf [6,7] [0,1,2,3,4,5,10,11,12] [5,10,11,12]) (.leaf [6,7] [0,1,2,3,4,5,10,11,12] [5,10,11,12])) (.fork 0 (.fork 1 (.leaf [6,7] [0,1,2,3,4,5,10,11,12] [5,10,11,12]) (.leaf [6,7] [0,1,2,3,4,5,10,11,12] [5,10,11,12])) (.leaf [6,7] [0,1,2,3,4,5,10,11,12] [5,10,11,12])))) (λu=>by kernel_rfl) (mN (show(ad.bi S)=false by assumption) (fg 7 (show(ad.more S)=false by assumption) (mN (show(0 != ad.at_ S)=false by simp at pH tB mU h0 h1 h2 h3 h4⊢ <;>omega) (fg 4 (decide_eq_false (by omega):((b.size:Int)==0)=false) (mN (decide_eq_false (by omega):(decide ((b.size:Int)>32))=false) (aO L R H (mN (aE b) (mN n0 (aO L R H (mN (aE b) (mN (aW M) (aO L R H (mN (aW M) (mN n1 (mN (aW M) (mN (aW K) (mN (aS Rr) (mN (aZ H) (mF (c:=f != 0) (λh0=>(mF (c:=f==25) (λh1=>(mN (aE b) (mN (aW K) (mN (aS Rr) (mN (aZ H) (mR (l4 h0 h1))))))) (λh1=>(mN (aE b) (mN (aW K) (mN (aS Rr) (mN (aZ H) (mR (l5 h0 h1))))))))) (λh0=>(mF (c:=e != 0) (λh1=>(mF (c:=e==25) (λh2=>(mN (aE b) (mN (aW K) (mN (aS Rr) (mN (aZ H) (mR (l6 h0 h1 h2))))))) (λh2=>(mN (aE b) (mN (aW K) (mN (aS Rr) (mN (aZ H) (mR (l7 h0 h1 h2))))))))) (λh1=>(mN (aE b) (mN (aW K) (mN (aS Rr) (mN (aZ H) (mR (l8 h0 h1))))))))))))))))))))))))))))
abbrev S9:=λT K Rr G dd=>([ab (aL (ad.mk (ad.at_ T) (ad.more T) true (ad.B (ad.z T)) (ad.n T) (ad.failed T) (ad.aC T) 0 (ad.rn T) (ad.bJ T) (ad.sn T) (ad.hn T) (ad.eL T) (aA.raw dd) (ad.closed T)) 1 5 6 7) 89,.abs dd,.dead,.dead,.dead,ab (ah K) 9,ab (ay Rr) 3,ab (an G) 114]:List ak)
abbrev Ta:=λ(S:ad) (L:List ByteArray) (R:List Int) (H:List au) (d:aA) T K Rr G dd (e:Int) (U:ad) (d3:aA) (f:Int)=>(⟨[(4,ci),(5,aa e)],S9 T K Rr G dd⟩:ai)
theorem ajV(S L R H d T K Rr G dd)(e:Int)(U d3)(f:Int){Q:bu}(hq:Q (.ret (.tuple #[ci,aa e])) (S9 T K Rr G dd)):aG fK 28 33 5 Q .ret (Ta S L R H d T K Rr G dd e U d3 f):=aG.ret (vs:=[ci,aa e]) (l:=[]) (bs:=[0,1,2,3,4,5,6,7]) (pl:=[5,6,7]) (q:=[ah K,ay Rr,an G]) (λu=>by kernel_rfl) (by kernel_rfl) (aD (by simp) (aD (by simp) (aD (by simp) be))) hq
abbrev Tb:=λT K Rr G dd=>([ab (aL (ad.mk (ad.at_ T) (ad.more T) true (ad.B (ad.z T)) (ad.n T) (ad.failed T) (ad.aC T) 0 (ad.rn T) (ad.bJ T) (ad.sn T) (ad.hn T) (ad.eL T) (ad.raw T) (ad.closed T)) 1 5 6 7) 89,.abs dd,.dead,.dead,.dead,ab (ah K) 9,ab (ay Rr) 3,ab (an G) 114]:List ak)
abbrev Tc:=λ(S:ad) (L:List ByteArray) (R:List Int) (H:List au) (d:aA) T K Rr G dd (e:Int) (U:ad) (d3:aA) (f:Int)=>(⟨[(4,ci),(5,aa e)],Tb T K Rr G dd⟩:ai)
theorem ajW(S L R H d T K Rr G dd)(e:Int)(U d3)(f:Int){Q:bu}(hq:Q (.ret (.tuple #[ci,aa e])) (Tb T K Rr G dd)):aG fK 28 33 5 Q .ret (Tc S L R H d T K Rr G dd e U d3 f):=aG.ret (vs:=[ci,aa e]) (l:=[]) (bs:=[0,1,2,3,4,5,6,7]) (pl:=[5,6,7]) (q:=[ah K,ay Rr,an G]) (λu=>by kernel_rfl) (by kernel_rfl) (aD (by simp) (aD (by simp) (aD (by simp) be))) hq
abbrev Td:=λK Rr G U d3=>([ab (aL (ad.mk (ad.at_ U) (ad.more U) true (ad.B (ad.z U)) (ad.n U) (ad.failed U) (ad.aC U) 0 (ad.rn U) (ad.bJ U) (ad.sn U) (ad.hn U) (ad.eL U) (aA.raw d3) (ad.closed U)) 1 5 6 7) 89,.abs d3,.dead,.dead,.dead,ab (ah K) 9,ab (ay Rr) 3,ab (an G) 114]:List ak)
abbrev Te:=λ(S:ad) (L:List ByteArray) (R:List Int) (H:List au) (d:aA) (T:ad) K Rr G (dd:aA) (e:Int) U d3 (f:Int)=>(⟨[(4,ci),(5,aa f)],Td K Rr G U d3⟩:ai)
theorem ajX(S L R H d T K Rr G dd)(e:Int)(U d3)(f:Int){Q:bu}(hq:Q (.ret (.tuple #[ci,aa f])) (Td K Rr G U d3)):aG fK 28 33 5 Q .ret (Te S L R H d T K Rr G dd e U d3 f):=aG.ret (vs:=[ci,aa f]) (l:=[]) (bs:=[0,1,2,3,4,5,6,7]) (pl:=[5,6,7]) (q:=[ah K,ay Rr,an G]) (λu=>by kernel_rfl) (by kernel_rfl) (aD (by simp) (aD (by simp) (aD (by simp) be))) hq
abbrev Tf:=λK Rr G U d3=>([ab (aL (ad.mk (ad.at_ U) (ad.more U) true (ad.B (ad.z U)) (ad.n U) (ad.failed U) (ad.aC U) 0 (ad.rn U) (ad.bJ U) (ad.sn U) (ad.hn U) (ad.eL U) (ad.raw U) (ad.closed U)) 1 5 6 7) 89,.abs d3,.dead,.dead,.dead,ab (ah K) 9,ab (ay Rr) 3,ab (an G) 114]:List ak)
abbrev Tg:=λ(S:ad) (L:List ByteArray) (R:List Int) (H:List au) (d:aA) (T:ad) K Rr G (dd:aA) (e:Int) U d3 (f:Int)=>(⟨[(4,ci),(5,aa f)],Tf K Rr G U d3⟩:ai)
theorem ajY(S L R H d T K Rr G dd)(e:Int)(U d3)(f:Int){Q:bu}(hq:Q (.ret (.tuple #[ci,aa f])) (Tf K Rr G U d3)):aG fK 28 33 5 Q .ret (Tg S L R H d T K Rr G dd e U d3 f):=aG.ret (vs:=[ci,aa f]) (l:=[]) (bs:=[0,1,2,3,4,5,6,7]) (pl:=[5,6,7]) (q:=[ah K,ay Rr,an G]) (λu=>by kernel_rfl) (by kernel_rfl) (aD (by simp) (aD (by simp) (aD (by simp) be))) hq
abbrev Ka:=λ(S:ad) (L:List ByteArray) (R:List Int) (H:List au) (d:aA) (T:ad) K Rr G (dd:aA) (e:Int) U d3 (f:Int)=>(⟨[(4,ci),(5,aa 0)],[ab (aL (ad.z U) 1 5 6 7) 89,.abs d3,.dead,.dead,.dead,ab (ah K) 9,ab (ay Rr) 3,ab (an G) 114]⟩:ai)
theorem ajZ(S L R H d T K Rr G dd)(e:Int)(U d3)(f:Int){Q:bu}(hq:Q (.ret (.tuple #[ci,aa 0])) (Ka S L R H d T K Rr G dd e U d3 f).objs):aG fK 28 33 5 Q .ret (Ka S L R H d T K Rr G dd e U d3 f):=aG.ret (vs:=[ci,aa 0]) (l:=[]) (bs:=[0,1,2,3,4,5,6,7]) (pl:=[5,6,7]) (q:=[ah K,ay Rr,an G]) (λu=>by kernel_rfl) (by kernel_rfl) (aD (by simp) (aD (by simp) (aD (by simp) be))) hq
abbrev aj0:=λ(S:ad) L R H d (T:ad) (K:List ByteArray) (Rr:List Int) (G:List au) (dd:aA) (e:Int) (U:ad) (d3:aA) (f:Int)=>(⟨[(0,ap 0),(1,aa 0)],[ab (aL S.z 1 2 3 4) 89,.abs d,ab (ah L) 9,ab (ay R) 3,ab (an H) 114]⟩:ai)
theorem aj1(S:ad)(L R H d)(T:ad)(K Rr G dd)(e:Int)(U:ad)(d3)(f:Int)(pH:(an H).all ag=true)(pG:(an G).all ag=true)(jA:aF fK 50 [ap 0] (aP S.z L R H d) λr q=>r=.ret (aa e)/\q=jI T.z K Rr G dd)(iL:aF fK 51 [ap 0] (aP T.z K Rr G dd) λr q=>r=.ret (aa f)/\q=aP U.z K Rr G d3)(h0:S.bi=false)(h1:S.more=false)(h2:S.at_=0){Q:aU}(n0:(fZ [ap 0] [ap 0] [ab (aL S.z 1 2 3 4) 89,ak.abs d,ab (ah L) 9,ab (ay R) 3,ab (an H) 114] (aP S.z L R H d)))(l1:(e != 0)->(e==25)->Q .ret (Ta S L R H d T K Rr G dd e U d3 f))(l2:(e != 0)->(e==25)=false->Q .ret (Tc S L R H d T K Rr G dd e U d3 f))(n3:(e != 0)=false->(fZ [ap 0] [ap 0] [ab (aL T.z 1 2 3 4) 89,ak.abs dd,ab (ah K) 9,ab (ay Rr) 3,ab (an G) 114] (aP T.z K Rr G dd)))(l4:(e != 0)=false->(f != 0)->(f==25)->Q .ret (Te S L R H d T K Rr G dd e U d3 f))(l5:(e != 0)=false->(f != 0)->(f==25)=false->Q .ret (Tg S L R H d T K Rr G dd e U d3 f))(l6:(e != 0)=false->(f != 0)=false->Q .ret (Ka S L R H d T K Rr G dd e U d3 f)):ao fK 33 5 ajM (aj0 S L R H d T K Rr G dd e U d3 f) Q:=
 aV (ajG S L R H d T K Rr G dd e U d3 f jA iL) 1000 (aB [6,2,0,0,0,0,2,0,0,5,1,1,1,1,1,1] (.fork 0 (.fork 1 (.leaf [4,5] [0,1,2,3,4,5,6,7] [5,6,7]) (.leaf [4,5] [0,1,2,3,4,5,6,7] [5,6,7])) (aB [3,1,1,1,1,1,1] (.fork 0 (.fork 1 (.leaf [4,5] [0,1,2,3,4,5,6,7] [5,6,7]) (.leaf [4,5] [0,1,2,3,4,5,6,7] [5,6,7])) (.leaf [4,5] [0,1,2,3,4,5,6,7] [5,6,7]))))) (λu=>by kernel_rfl) (mN (show(ad.bi S)=false by assumption) (fg 7 (show(ad.more S)=false by assumption) (mN (show(0 != ad.at_ S)=false by simp at pH pG jA iL h0 h1 h2⊢ <;>omega) (aO L R H (mN n0 (mN (aW K) (mN (aS Rr) (mN (aZ G) (mF (c:=e != 0) (λh0=>(mF (c:=e==25) (λh1=>(mN (aW K) (mN (aS Rr) (mN (aZ G) (mR (l1 h0 h1)))))) (λh1=>(mN (aW K) (mN (aS Rr) (mN (aZ G) (mR (l2 h0 h1)))))))) (λh0=>(mN (aW K) (mN (aS Rr) (mN (aZ G) (mN (n3 h0) (mN (aW K) (mN (aS Rr) (mN (aZ G) (mF (c:=f != 0) (λh1=>(mF (c:=f==25) (λh2=>(mN (aW K) (mN (aS Rr) (mN (aZ G) (mR (l4 h0 h1 h2)))))) (λh2=>(mN (aW K) (mN (aS Rr) (mN (aZ G) (mR (l5 h0 h1 h2)))))))) (λh1=>(mN (aW K) (mN (aS Rr) (mN (aZ G) (mR (l6 h0 h1))))))))))))))))))))))))
abbrev xn:=λS L R H d=>([ab (aL S 1 2 3 4) 89,.abs d,ab (ah L) 9,ab (ay R) 3,ab (an H) 114]:List ak)
abbrev aj2:=λS L R H d=>(⟨[(0,ap 0),(6,aa 0),(22,.bool (decide ((↑(ad.rn S):Int)>0)))],xn S L R H d⟩:ai)
abbrev Th:=λS L R H d=>(⟨[(0,ap 0)],xn S L R H d⟩:ai)
theorem aj3(S:ad)(L R H d)(pH:(an H).all ag=true)(h0:S.bi=false)(h1:S.more=true)(h2:0<S.rn){Q:aU}(aY:DC (ah L) ag)(bh:DC (ay R) ag)(bT:DC (an H) ag)(l3:ao fK 68 5 (tC.drop 9) (aj2 S L R H d) Q):ao fK 68 5 tC (Th S L R H d) Q:=
 aV bp 9 (aB [6,2] (.leaf [0,6,22] [0,1,2,3,4] [2,3,4])) (λu=>by kernel_rfl) (mN (show(ad.bi S)=false by assumption) (mN (show(!ad.more S)=false by simp at pH h0 h1 h2⊢ <;>omega) (aO L R H (mQ l3))))
abbrev aj4:=λS L R H d=>(⟨[(0,ap 0),(6,aa 0),(22,.bool (decide ((↑(ad.rn S):Int)>0)))],xn S L R H d⟩:ai)
theorem aj5(S:ad)(L R H d)(pH:(an H).all ag=true)(h0:S.bi=false)(h1:S.more=true)(h2:S.rn=0){Q:aU}(aY:DC (ah L) ag)(bh:DC (ay R) ag)(bT:DC (an H) ag)(l3:ao fK 68 5 (tC.drop 9) (aj4 S L R H d) Q):ao fK 68 5 tC (Th S L R H d) Q:=
 aV bp 9 (aB [6,2] (.leaf [0,6,22] [0,1,2,3,4] [2,3,4])) (λu=>by kernel_rfl) (mN (show(ad.bi S)=false by assumption) (mN (show(!ad.more S)=false by simp at pH h0 h1 h2⊢ <;>omega) (aO L R H (mQ l3))))
abbrev Ti:=λS L R H d=>(⟨[(0,ap 0),(5,.string (aR (ah L) (ad.ro S+0))),(6,aa 0)],[ab (aL (ad.mk (ad.at_ S) (ad.more S) (ad.bi S) (ad.B S) (ad.n S) (ad.failed S) (ad.aC S) (ad.ro S+1) (ad.rn S-1) (ad.bJ S) (ad.sn S) (ad.hn S) (ad.eL S) (ad.raw S) (ad.closed S)) 1 2 3 4) 89,.abs d,ab (ah L) 9,ab (ay R) 3,ab (an H) 114]⟩:ai)
abbrev aj6:=λS L R H d=>(⟨[(0,ap 0),(6,aa 0)],xn S L R H d⟩:ai)
theorem aj7(S:ad)(L R H d)(pH:(an H).all ag=true)(h0:0<S.rn){Q:aU}(n0:(dY (ah L) (ad.ro S+0)))(l4:Q .normal (Ti S L R H d)):ao fK 68 5 ajN (aj6 S L R H d) Q:=
 aV bp 1000 (aB [2,3,0,1,2,3,1] (.leaf [0,5,6] [0,1,2,3,4] [2,3,4])) (λu=>by kernel_rfl) (mN (show(arF 0 (ad.rn S))=true by simp at pH h0⊢ <;>omega) (mN n0 (mN (show(arM 1 (ad.rn S))=true by simp at pH h0⊢ <;>omega) (mN (show(arM (ad.rn S) (ad.rn S))=true by simp) (aO L R H (mQ (ao.done (by kernel_rfl) l4)))))))
abbrev aj8:=λS L R d a=>(⟨[(0,ap 0),(7,ap 4)],[ab (aL S 1 2 3 4) 89,.abs d,ab (ah L) 9,ab (ay R) 3,ab (an [a]) 114]⟩:ai)
abbrev aj9:=λS L R d a=>(⟨[(0,ap 0)],[ab (aL S 1 2 3 4) 89,.abs d,ab (ah L) 9,ab (ay R) 3,ab (an [a]) 114]⟩:ai)
theorem aka(S:ad)(L R d a)(h0:S.hn=1){Q:aU}(n0:(au.there a))(aY:DC (ah L) ag)(bh:DC (ay R) ag)(l3:ao fK 68 5 (fE.drop 1) (aj8 S L R d a) Q):ao fK 68 5 fE (aj9 S L R d a) Q:=
 aV Cc 1 (aB [9,0,3,7,1,1,21,3,2,0,3] (.leaf [0,7] [0,1,2,3,4] [2,3])) (λu=>by kernel_rfl) (mN (decide_eq_true (by omega):(decide (0<(↑(ad.hn S):Int)))=true) (mN (show(arF 0 (ad.hn S))=true by simp at h0⊢ <;>omega) (fg 5 n0 (mN (decide_eq_false (by omega):(decide (1<(↑(ad.hn S):Int)))=false) (mN (show(arF 0 (ad.hn S))=true by simp at h0⊢ <;>omega) (mN (aW L) (mN (aS R) (mQ l3))))))))
abbrev vp:=λS L R d a b=>([ab (aL S 1 2 3 4) 89,.abs d,ab (ah L) 9,ab (ay R) 3,ab (an [a,b]) 114]:List ak)
abbrev akb:=λS L R d a b=>(⟨[(0,ap 0),(7,.pointer (some ⟨4,4,none⟩))],vp S L R d a b⟩:ai)
abbrev akc:=λS L R d a b=>(⟨[(0,ap 0),(7,ap 4)],vp S L R d a b⟩:ai)
abbrev akd:=λS L R d a b=>(⟨[(0,ap 0),(7,.pointer (some ⟨4,4,none⟩))],vp S L R d a b⟩:ai)
abbrev ake:=λS L R d a b=>(⟨[(0,ap 0),(7,ap 4)],vp S L R d a b⟩:ai)
abbrev akf:=λS L R d a b=>(⟨[(0,ap 0),(7,ap 4)],vp S L R d a b⟩:ai)
abbrev akg:=λS L R d a b=>(⟨[(0,ap 0),(7,.pointer (some ⟨4,4,none⟩))],vp S L R d a b⟩:ai)
abbrev akh:=λS L R d a b=>(⟨[(0,ap 0)],vp S L R d a b⟩:ai)
theorem aki(S:ad)(L R d a b)(h0:S.hn=2){Q:aU}(l2:(au.there a)->(au.there b)->S.aC->(decide (b8 (au.line a) (au.line b)<0))->ao fK 68 5 (fE.drop 1) (akb S L R d a b) Q)(l3:(au.there a)->(au.there b)->S.aC->(decide (b8 (au.line a) (au.line b)<0))=false->ao fK 68 5 (fE.drop 1) (akc S L R d a b) Q)(l4:(au.there a)->(au.there b)->S.aC=false->(decide (b8 (au.line b) (au.line a)<0))->ao fK 68 5 (fE.drop 1) (akd S L R d a b) Q)(l5:(au.there a)->(au.there b)->S.aC=false->(decide (b8 (au.line b) (au.line a)<0))=false->ao fK 68 5 (fE.drop 1) (ake S L R d a b) Q)(l6:(au.there a)->(au.there b)=false->ao fK 68 5 (fE.drop 1) (akf S L R d a b) Q)(n7:(au.there a)=false->(au.there b))(l8:(au.there a)=false->ao fK 68 5 (fE.drop 1) (akg S L R d a b) Q):ao fK 68 5 fE (akh S L R d a b) Q:=
 aV Cc 1 (aB [9,0,3] (.fork 3 (aB [1,1,21,3,3,0,3] (.fork 3 (aB [1,1,14,3] (.fork 6 (aB [7,3] (.fork 0 (aB [0,0,3] (.leaf [0,7] [0,1,2,3,4] [2,3])) (aB [0,0,3] (.leaf [0,7] [0,1,2,3,4] [2,3])))) (aB [7,3] (.fork 0 (aB [0,0,3] (.leaf [0,7] [0,1,2,3,4] [2,3])) (aB [0,0,3] (.leaf [0,7] [0,1,2,3,4] [2,3])))))) (aB [0,0,0,0,2,0,3] (.leaf [0,7] [0,1,2,3,4] [2,3])))) (aB [0,0,0,0,3,0,3,7,1,1,21,3,2,0,3] (.leaf [0,7] [0,1,2,3,4] [2,3])))) (λu=>by kernel_rfl) (mN (decide_eq_true (by omega):(decide (0<(↑(ad.hn S):Int)))=true) (mN (show(arF 0 (ad.hn S))=true by simp at h0⊢ <;>omega) (mF (c:=au.there a) (λh0=>(fg 4 h0 (mN (decide_eq_true (by omega):(decide (1<(↑(ad.hn S):Int)))=true) (mN (show(arF 1 (ad.hn S))=true by simp at h0 h0⊢ <;>omega) (mF (c:=au.there b) (λh1=>(fg 2 h1 (mN (show(arF 0 (ad.hn S))=true by simp at h0 h0 h1⊢ <;>omega) (mF (c:=ad.aC S) (λh2=>(fg 2 h1 (mF (c:=decide (b8 (au.line a) (au.line b)<0)) (λh3=>(mN (decide_eq_false (by omega):(decide (2<(↑(ad.hn S):Int)))=false) (mN (show(arF 1 (ad.hn S))=true by simp at h0 h0 h1 h2 h3⊢ <;>omega) (mN (aW L) (mN (aS R) (mQ (l2 h0 h1 h2 h3))))))) (λh3=>(mN (decide_eq_false (by omega):(decide (2<(↑(ad.hn S):Int)))=false) (mN (show(arF 0 (ad.hn S))=true by simp at h0 h0 h1 h2 h3⊢ <;>omega) (mN (aW L) (mN (aS R) (mQ (l3 h0 h1 h2 h3)))))))))) (λh2=>(fg 2 h1 (mF (c:=decide (b8 (au.line b) (au.line a)<0)) (λh3=>(mN (decide_eq_false (by omega):(decide (2<(↑(ad.hn S):Int)))=false) (mN (show(arF 1 (ad.hn S))=true by simp at h0 h0 h1 h2 h3⊢ <;>omega) (mN (aW L) (mN (aS R) (mQ (l4 h0 h1 h2 h3))))))) (λh3=>(mN (decide_eq_false (by omega):(decide (2<(↑(ad.hn S):Int)))=false) (mN (show(arF 0 (ad.hn S))=true by simp at h0 h0 h1 h2 h3⊢ <;>omega) (mN (aW L) (mN (aS R) (mQ (l5 h0 h1 h2 h3)))))))))))))) (λh1=>(fg 4 h1 (mN (decide_eq_false (by omega):(decide (2<(↑(ad.hn S):Int)))=false) (mN (show(arF 0 (ad.hn S))=true by simp at h0 h0 h1⊢ <;>omega) (mN (aW L) (mN (aS R) (mQ (l6 h0 h1))))))))))))) (λh0=>(fg 4 h0 (mN (decide_eq_true (by omega):(decide (1<(↑(ad.hn S):Int)))=true) (mN (show(arF 1 (ad.hn S))=true by simp at h0 h0⊢ <;>omega) (fg 5 (n7 h0) (mN (decide_eq_false (by omega):(decide (2<(↑(ad.hn S):Int)))=false) (mN (show(arF 1 (ad.hn S))=true by simp at h0 h0⊢ <;>omega) (mN (aW L) (mN (aS R) (mQ (l8 h0))))))))))))))
abbrev jh:=λS L R d a b c=>([ab (aL S 1 2 3 4) 89,.abs d,ab (ah L) 9,ab (ay R) 3,ab (an [a,b,c]) 114]:List ak)
abbrev akj:=λS L R d a b c=>(⟨[(0,ap 0),(7,.pointer (some ⟨4,8,none⟩))],jh S L R d a b c⟩:ai)
abbrev akk:=λS L R d a b c=>(⟨[(0,ap 0),(7,.pointer (some ⟨4,4,none⟩))],jh S L R d a b c⟩:ai)
abbrev akl:=λS L R d a b c=>(⟨[(0,ap 0),(7,.pointer (some ⟨4,4,none⟩))],jh S L R d a b c⟩:ai)
abbrev akm:=λS L R d a b c=>(⟨[(0,ap 0),(7,.pointer (some ⟨4,8,none⟩))],jh S L R d a b c⟩:ai)
abbrev akn:=λS L R d a b c=>(⟨[(0,ap 0),(7,ap 4)],jh S L R d a b c⟩:ai)
abbrev ako:=λS L R d a b c=>(⟨[(0,ap 0),(7,ap 4)],jh S L R d a b c⟩:ai)
abbrev akp:=λS L R d a b c=>(⟨[(0,ap 0),(7,.pointer (some ⟨4,8,none⟩))],jh S L R d a b c⟩:ai)
abbrev akq:=λS L R d a b c=>(⟨[(0,ap 0),(7,.pointer (some ⟨4,4,none⟩))],jh S L R d a b c⟩:ai)
abbrev akr:=λS L R d a b c=>(⟨[(0,ap 0),(7,.pointer (some ⟨4,4,none⟩))],jh S L R d a b c⟩:ai)
abbrev aks:=λS L R d a b c=>(⟨[(0,ap 0),(7,.pointer (some ⟨4,8,none⟩))],jh S L R d a b c⟩:ai)
abbrev akt:=λS L R d a b c=>(⟨[(0,ap 0),(7,ap 4)],jh S L R d a b c⟩:ai)
abbrev aku:=λS L R d a b c=>(⟨[(0,ap 0),(7,ap 4)],jh S L R d a b c⟩:ai)
abbrev akv:=λS L R d a b c=>(⟨[(0,ap 0),(7,.pointer (some ⟨4,8,none⟩))],jh S L R d a b c⟩:ai)
abbrev akw:=λS L R d a b c=>(⟨[(0,ap 0),(7,ap 4)],jh S L R d a b c⟩:ai)
abbrev akx:=λS L R d a b c=>(⟨[(0,ap 0),(7,.pointer (some ⟨4,8,none⟩))],jh S L R d a b c⟩:ai)
abbrev aky:=λS L R d a b c=>(⟨[(0,ap 0),(7,ap 4)],jh S L R d a b c⟩:ai)
abbrev akz:=λS L R d a b c=>(⟨[(0,ap 0),(7,ap 4)],jh S L R d a b c⟩:ai)
abbrev akA:=λS L R d a b c=>(⟨[(0,ap 0),(7,.pointer (some ⟨4,8,none⟩))],jh S L R d a b c⟩:ai)
abbrev akB:=λS L R d a b c=>(⟨[(0,ap 0),(7,.pointer (some ⟨4,4,none⟩))],jh S L R d a b c⟩:ai)
abbrev akC:=λS L R d a b c=>(⟨[(0,ap 0),(7,.pointer (some ⟨4,8,none⟩))],jh S L R d a b c⟩:ai)
abbrev akD:=λS L R d a b c=>(⟨[(0,ap 0),(7,.pointer (some ⟨4,4,none⟩))],jh S L R d a b c⟩:ai)
abbrev akE:=λS L R d a b c=>(⟨[(0,ap 0),(7,.pointer (some ⟨4,4,none⟩))],jh S L R d a b c⟩:ai)
abbrev akF:=λS L R d a b c=>(⟨[(0,ap 0),(7,.pointer (some ⟨4,8,none⟩))],jh S L R d a b c⟩:ai)
abbrev akG:=λS L R d a b c=>(⟨[(0,ap 0)],jh S L R d a b c⟩:ai)
theorem akH(S:ad)(L R d a b c)(h0:S.hn=3){Q:aU}(l2:(au.there a)->(au.there b)->S.aC->(decide (b8 (au.line a) (au.line b)<0))->(au.there c)->(decide (b8 (au.line b) (au.line c)<0))->ao fK 68 5 (fE.drop 1) (akj S L R d a b c) Q)(l3:(au.there a)->(au.there b)->S.aC->(decide (b8 (au.line a) (au.line b)<0))->(au.there c)->(decide (b8 (au.line b) (au.line c)<0))=false->ao fK 68 5 (fE.drop 1) (akk S L R d a b c) Q)(l4:(au.there a)->(au.there b)->S.aC->(decide (b8 (au.line a) (au.line b)<0))->(au.there c)=false->ao fK 68 5 (fE.drop 1) (akl S L R d a b c) Q)(l5:(au.there a)->(au.there b)->S.aC->(decide (b8 (au.line a) (au.line b)<0))=false->(au.there c)->(decide (b8 (au.line a) (au.line c)<0))->ao fK 68 5 (fE.drop 1) (akm S L R d a b c) Q)(l6:(au.there a)->(au.there b)->S.aC->(decide (b8 (au.line a) (au.line b)<0))=false->(au.there c)->(decide (b8 (au.line a) (au.line c)<0))=false->ao fK 68 5 (fE.drop 1) (akn S L R d a b c) Q)(l7:(au.there a)->(au.there b)->S.aC->(decide (b8 (au.line a) (au.line b)<0))=false->(au.there c)=false->ao fK 68 5 (fE.drop 1) (ako S L R d a b c) Q)(l8:(au.there a)->(au.there b)->S.aC=false->(decide (b8 (au.line b) (au.line a)<0))->(au.there c)->(decide (b8 (au.line c) (au.line b)<0))->ao fK 68 5 (fE.drop 1) (akp S L R d a b c) Q)(l9:(au.there a)->(au.there b)->S.aC=false->(decide (b8 (au.line b) (au.line a)<0))->(au.there c)->(decide (b8 (au.line c) (au.line b)<0))=false->ao fK 68 5 (fE.drop 1) (akq S L R d a b c) Q)(jJ:(au.there a)->(au.there b)->S.aC=false->(decide (b8 (au.line b) (au.line a)<0))->(au.there c)=false->ao fK 68 5 (fE.drop 1) (akr S L R d a b c) Q)(iJ:(au.there a)->(au.there b)->S.aC=false->(decide (b8 (au.line b) (au.line a)<0))=false->(au.there c)->(decide (b8 (au.line c) (au.line a)<0))->ao fK 68 5 (fE.drop 1) (aks S L R d a b c) Q)(kH:(au.there a)->(au.there b)->S.aC=false->(decide (b8 (au.line b) (au.line a)<0))=false->(au.there c)->(decide (b8 (au.line c) (au.line a)<0))=false->ao fK 68 5 (fE.drop 1) (akt S L R d a b c) Q)(oq:(au.there a)->(au.there b)->S.aC=false->(decide (b8 (au.line b) (au.line a)<0))=false->(au.there c)=false->ao fK 68 5 (fE.drop 1) (aku S L R d a b c) Q)(vq:(au.there a)->(au.there b)=false->(au.there c)->S.aC->(decide (b8 (au.line a) (au.line c)<0))->ao fK 68 5 (fE.drop 1) (akv S L R d a b c) Q)(Dk:(au.there a)->(au.there b)=false->(au.there c)->S.aC->(decide (b8 (au.line a) (au.line c)<0))=false->ao fK 68 5 (fE.drop 1) (akw S L R d a b c) Q)(akI:(au.there a)->(au.there b)=false->(au.there c)->S.aC=false->(decide (b8 (au.line c) (au.line a)<0))->ao fK 68 5 (fE.drop 1) (akx S L R d a b c) Q)(akJ:(au.there a)->(au.there b)=false->(au.there c)->S.aC=false->(decide (b8 (au.line c) (au.line a)<0))=false->ao fK 68 5 (fE.drop 1) (aky S L R d a b c) Q)(akK:(au.there a)->(au.there b)=false->(au.there c)=false->ao fK 68 5 (fE.drop 1) (akz S L R d a b c) Q)(akL:(au.there a)=false->(au.there b)->(au.there c)->S.aC->(decide (b8 (au.line b) (au.line c)<0))->ao fK 68 5 (fE.drop 1) (akA S L R d a b c) Q)(akM:(au.there a)=false->(au.there b)->(au.there c)->S.aC->(decide (b8 (au.line b) (au.line c)<0))=false->ao fK 68 5 (fE.drop 1) (akB S L R d a b c) Q)(akN:(au.there a)=false->(au.there b)->(au.there c)->S.aC=false->(decide (b8 (au.line c) (au.line b)<0))->ao fK 68 5 (fE.drop 1) (akC S L R d a b c) Q)(akO:(au.there a)=false->(au.there b)->(au.there c)->S.aC=false->(decide (b8 (au.line c) (au.line b)<0))=false->ao fK 68 5 (fE.drop 1) (akD S L R d a b c) Q)(akP:(au.there a)=false->(au.there b)->(au.there c)=false->ao fK 68 5 (fE.drop 1) (akE S L R d a b c) Q)(n24:(au.there a)=false->(au.there b)=false->(au.there c))(akQ:(au.there a)=false->(au.there b)=false->ao fK 68 5 (fE.drop 1) (akF S L R d a b c) Q):ao fK 68 5 fE (akG S L R d a b c) Q:=
 aV Cc 1 (aB [9,0,3] (.fork 3 (aB [1,1,21,3,3,0,3] (.fork 3 (aB [1,1,14,3] (.fork 6 (aB [7,3] (.fork 0 (aB [1,0,3] (.fork 3 (aB [1,1,14,3,13,7,3] (.fork 0 (aB [0,0,3] (.leaf [0,7] [0,1,2,3,4] [2,3])) (aB [0,0,3] (.leaf [0,7] [0,1,2,3,4] [2,3])))) (aB [0,0,0,0,2,0,3] (.leaf [0,7] [0,1,2,3,4] [2,3])))) (aB [1,0,3] (.fork 3 (aB [1,1,14,3,13,7,3] (.fork 0 (aB [0,0,3] (.leaf [0,7] [0,1,2,3,4] [2,3])) (aB [0,0,3] (.leaf [0,7] [0,1,2,3,4] [2,3])))) (aB [0,0,0,0,2,0,3] (.leaf [0,7] [0,1,2,3,4] [2,3])))))) (aB [7,3] (.fork 0 (aB [1,0,3] (.fork 3 (aB [1,1,14,3,12,7,3] (.fork 0 (aB [0,0,3] (.leaf [0,7] [0,1,2,3,4] [2,3])) (aB [0,0,3] (.leaf [0,7] [0,1,2,3,4] [2,3])))) (aB [0,0,0,0,2,0,3] (.leaf [0,7] [0,1,2,3,4] [2,3])))) (aB [1,0,3] (.fork 3 (aB [1,1,14,3,12,7,3] (.fork 0 (aB [0,0,3] (.leaf [0,7] [0,1,2,3,4] [2,3])) (aB [0,0,3] (.leaf [0,7] [0,1,2,3,4] [2,3])))) (aB [0,0,0,0,2,0,3] (.leaf [0,7] [0,1,2,3,4] [2,3])))))))) (aB [0,0,0,0,3,0,3] (.fork 3 (aB [1,1,14,3] (.fork 6 (aB [7,3] (.fork 0 (aB [0,0,3] (.leaf [0,7] [0,1,2,3,4] [2,3])) (aB [0,0,3] (.leaf [0,7] [0,1,2,3,4] [2,3])))) (aB [7,3] (.fork 0 (aB [0,0,3] (.leaf [0,7] [0,1,2,3,4] [2,3])) (aB [0,0,3] (.leaf [0,7] [0,1,2,3,4] [2,3])))))) (aB [0,0,0,0,2,0,3] (.leaf [0,7] [0,1,2,3,4] [2,3])))))) (aB [0,0,0,0,3,0,3] (.fork 3 (aB [1,1,21,3,3,0,3] (.fork 3 (aB [1,1,14,3] (.fork 6 (aB [7,3] (.fork 0 (aB [0,0,3] (.leaf [0,7] [0,1,2,3,4] [2,3])) (aB [0,0,3] (.leaf [0,7] [0,1,2,3,4] [2,3])))) (aB [7,3] (.fork 0 (aB [0,0,3] (.leaf [0,7] [0,1,2,3,4] [2,3])) (aB [0,0,3] (.leaf [0,7] [0,1,2,3,4] [2,3])))))) (aB [0,0,0,0,2,0,3] (.leaf [0,7] [0,1,2,3,4] [2,3])))) (aB [0,0,0,0,3,0,3,7,1,1,21,3,2,0,3] (.leaf [0,7] [0,1,2,3,4] [2,3])))))) (λu=>by kernel_rfl) (mN (decide_eq_true (by omega):(decide (0<(↑(ad.hn S):Int)))=true) (mN (show(arF 0 (ad.hn S))=true by simp at h0⊢ <;>omega) (mF (c:=au.there a) (λh0=>(fg 4 h0 (mN (decide_eq_true (by omega):(decide (1<(↑(ad.hn S):Int)))=true) (mN (show(arF 1 (ad.hn S))=true by simp at h0 h0⊢ <;>omega) (mF (c:=au.there b) (λh1=>(fg 2 h1 (mN (show(arF 0 (ad.hn S))=true by simp at h0 h0 h1⊢ <;>omega) (mF (c:=ad.aC S) (λh2=>(fg 2 h1 (mF (c:=decide (b8 (au.line a) (au.line b)<0)) (λh3=>(mN (decide_eq_true (by omega):(decide (2<(↑(ad.hn S):Int)))=true) (mN (show(arF 2 (ad.hn S))=true by simp at h0 h0 h1 h2 h3⊢ <;>omega) (mF (c:=au.there c) (λh4=>(fg 2 h4 (mN (show(arF 1 (ad.hn S))=true by simp at h0 h0 h1 h2 h3 h4⊢ <;>omega) (mN h2 (fg 2 h4 (mF (c:=decide (b8 (au.line b) (au.line c)<0)) (λh5=>(mN (decide_eq_false (by omega):(decide (3<(↑(ad.hn S):Int)))=false) (mN (show(arF 2 (ad.hn S))=true by simp at h0 h0 h1 h2 h3 h4 h5⊢ <;>omega) (mN (aW L) (mN (aS R) (mQ (l2 h0 h1 h2 h3 h4 h5))))))) (λh5=>(mN (decide_eq_false (by omega):(decide (3<(↑(ad.hn S):Int)))=false) (mN (show(arF 1 (ad.hn S))=true by simp at h0 h0 h1 h2 h3 h4 h5⊢ <;>omega) (mN (aW L) (mN (aS R) (mQ (l3 h0 h1 h2 h3 h4 h5))))))))))))) (λh4=>(fg 4 h4 (mN (decide_eq_false (by omega):(decide (3<(↑(ad.hn S):Int)))=false) (mN (show(arF 1 (ad.hn S))=true by simp at h0 h0 h1 h2 h3 h4⊢ <;>omega) (mN (aW L) (mN (aS R) (mQ (l4 h0 h1 h2 h3 h4)))))))))))) (λh3=>(mN (decide_eq_true (by omega):(decide (2<(↑(ad.hn S):Int)))=true) (mN (show(arF 2 (ad.hn S))=true by simp at h0 h0 h1 h2 h3⊢ <;>omega) (mF (c:=au.there c) (λh4=>(fg 2 h4 (mN (show(arF 0 (ad.hn S))=true by simp at h0 h0 h1 h2 h3 h4⊢ <;>omega) (mN h2 (fg 2 h4 (mF (c:=decide (b8 (au.line a) (au.line c)<0)) (λh5=>(mN (decide_eq_false (by omega):(decide (3<(↑(ad.hn S):Int)))=false) (mN (show(arF 2 (ad.hn S))=true by simp at h0 h0 h1 h2 h3 h4 h5⊢ <;>omega) (mN (aW L) (mN (aS R) (mQ (l5 h0 h1 h2 h3 h4 h5))))))) (λh5=>(mN (decide_eq_false (by omega):(decide (3<(↑(ad.hn S):Int)))=false) (mN (show(arF 0 (ad.hn S))=true by simp at h0 h0 h1 h2 h3 h4 h5⊢ <;>omega) (mN (aW L) (mN (aS R) (mQ (l6 h0 h1 h2 h3 h4 h5))))))))))))) (λh4=>(fg 4 h4 (mN (decide_eq_false (by omega):(decide (3<(↑(ad.hn S):Int)))=false) (mN (show(arF 0 (ad.hn S))=true by simp at h0 h0 h1 h2 h3 h4⊢ <;>omega) (mN (aW L) (mN (aS R) (mQ (l7 h0 h1 h2 h3 h4))))))))))))))) (λh2=>(fg 2 h1 (mF (c:=decide (b8 (au.line b) (au.line a)<0)) (λh3=>(mN (decide_eq_true (by omega):(decide (2<(↑(ad.hn S):Int)))=true) (mN (show(arF 2 (ad.hn S))=true by simp at h0 h0 h1 h2 h3⊢ <;>omega) (mF (c:=au.there c) (λh4=>(fg 2 h4 (mN (show(arF 1 (ad.hn S))=true by simp at h0 h0 h1 h2 h3 h4⊢ <;>omega) (mN h2 (fg 2 h4 (mF (c:=decide (b8 (au.line c) (au.line b)<0)) (λh5=>(mN (decide_eq_false (by omega):(decide (3<(↑(ad.hn S):Int)))=false) (mN (show(arF 2 (ad.hn S))=true by simp at h0 h0 h1 h2 h3 h4 h5⊢ <;>omega) (mN (aW L) (mN (aS R) (mQ (l8 h0 h1 h2 h3 h4 h5))))))) (λh5=>(mN (decide_eq_false (by omega):(decide (3<(↑(ad.hn S):Int)))=false) (mN (show(arF 1 (ad.hn S))=true by simp at h0 h0 h1 h2 h3 h4 h5⊢ <;>omega) (mN (aW L) (mN (aS R) (mQ (l9 h0 h1 h2 h3 h4 h5))))))))))))) (λh4=>(fg 4 h4 (mN (decide_eq_false (by omega):(decide (3<(↑(ad.hn S):Int)))=false) (mN (show(arF 1 (ad.hn S))=true by simp at h0 h0 h1 h2 h3 h4⊢ <;>omega) (mN (aW L) (mN (aS R) (mQ (jJ h0 h1 h2 h3 h4)))))))))))) (λh3=>(mN (decide_eq_true (by omega):(decide (2<(↑(ad.hn S):Int)))=true) (mN (show(arF 2 (ad.hn S))=true by simp at h0 h0 h1 h2 h3⊢ <;>omega) (mF (c:=au.there c) (λh4=>(fg 2 h4 (mN (show(arF 0 (ad.hn S))=true by simp at h0 h0 h1 h2 h3 h4⊢ <;>omega) (mN h2 (fg 2 h4 (mF (c:=decide (b8 (au.line c) (au.line a)<0)) (λh5=>(mN (decide_eq_false (by omega):(decide (3<(↑(ad.hn S):Int)))=false) (mN (show(arF 2 (ad.hn S))=true by simp at h0 h0 h1 h2 h3 h4 h5⊢ <;>omega) (mN (aW L) (mN (aS R) (mQ (iJ h0 h1 h2 h3 h4 h5))))))) (λh5=>(mN (decide_eq_false (by omega):(decide (3<(↑(ad.hn S):Int)))=false) (mN (show(arF 0 (ad.hn S))=true by simp at h0 h0 h1 h2 h3 h4 h5⊢ <;>omega) (mN (aW L) (mN (aS R) (mQ (kH h0 h1 h2 h3 h4 h5))))))))))))) (λh4=>(fg 4 h4 (mN (decide_eq_false (by omega):(decide (3<(↑(ad.hn S):Int)))=false) (mN (show(arF 0 (ad.hn S))=true by simp at h0 h0 h1 h2 h3 h4⊢ <;>omega) (mN (aW L) (mN (aS R) (mQ (oq h0 h1 h2 h3 h4))))))))))))))))))) (λh1=>(fg 4 h1 (mN (decide_eq_true (by omega):(decide (2<(↑(ad.hn S):Int)))=true) (mN (show(arF 2 (ad.hn S))=true by simp at h0 h0 h1⊢ <;>omega) (mF (c:=au.there c) (λh2=>(fg 2 h2 (mN (show(arF 0 (ad.hn S))=true by simp at h0 h0 h1 h2⊢ <;>omega) (mF (c:=ad.aC S) (λh3=>(fg 2 h2 (mF (c:=decide (b8 (au.line a) (au.line c)<0)) (λh4=>(mN (decide_eq_false (by omega):(decide (3<(↑(ad.hn S):Int)))=false) (mN (show(arF 2 (ad.hn S))=true by simp at h0 h0 h1 h2 h3 h4⊢ <;>omega) (mN (aW L) (mN (aS R) (mQ (vq h0 h1 h2 h3 h4))))))) (λh4=>(mN (decide_eq_false (by omega):(decide (3<(↑(ad.hn S):Int)))=false) (mN (show(arF 0 (ad.hn S))=true by simp at h0 h0 h1 h2 h3 h4⊢ <;>omega) (mN (aW L) (mN (aS R) (mQ (Dk h0 h1 h2 h3 h4)))))))))) (λh3=>(fg 2 h2 (mF (c:=decide (b8 (au.line c) (au.line a)<0)) (λh4=>(mN (decide_eq_false (by omega):(decide (3<(↑(ad.hn S):Int)))=false) (mN (show(arF 2 (ad.hn S))=true by simp at h0 h0 h1 h2 h3 h4⊢ <;>omega) (mN (aW L) (mN (aS R) (mQ (akI h0 h1 h2 h3 h4))))))) (λh4=>(mN (decide_eq_false (by omega):(decide (3<(↑(ad.hn S):Int)))=false) (mN (show(arF 0 (ad.hn S))=true by simp at h0 h0 h1 h2 h3 h4⊢ <;>omega) (mN (aW L) (mN (aS R) (mQ (akJ h0 h1 h2 h3 h4)))))))))))))) (λh2=>(fg 4 h2 (mN (decide_eq_false (by omega):(decide (3<(↑(ad.hn S):Int)))=false) (mN (show(arF 0 (ad.hn S))=true by simp at h0 h0 h1 h2⊢ <;>omega) (mN (aW L) (mN (aS R) (mQ (akK h0 h1 h2)))))))))))))))))) (λh0=>(fg 4 h0 (mN (decide_eq_true (by omega):(decide (1<(↑(ad.hn S):Int)))=true) (mN (show(arF 1 (ad.hn S))=true by simp at h0 h0⊢ <;>omega) (mF (c:=au.there b) (λh1=>(fg 4 h1 (mN (decide_eq_true (by omega):(decide (2<(↑(ad.hn S):Int)))=true) (mN (show(arF 2 (ad.hn S))=true by simp at h0 h0 h1⊢ <;>omega) (mF (c:=au.there c) (λh2=>(fg 2 h2 (mN (show(arF 1 (ad.hn S))=true by simp at h0 h0 h1 h2⊢ <;>omega) (mF (c:=ad.aC S) (λh3=>(fg 2 h2 (mF (c:=decide (b8 (au.line b) (au.line c)<0)) (λh4=>(mN (decide_eq_false (by omega):(decide (3<(↑(ad.hn S):Int)))=false) (mN (show(arF 2 (ad.hn S))=true by simp at h0 h0 h1 h2 h3 h4⊢ <;>omega) (mN (aW L) (mN (aS R) (mQ (akL h0 h1 h2 h3 h4))))))) (λh4=>(mN (decide_eq_false (by omega):(decide (3<(↑(ad.hn S):Int)))=false) (mN (show(arF 1 (ad.hn S))=true by simp at h0 h0 h1 h2 h3 h4⊢ <;>omega) (mN (aW L) (mN (aS R) (mQ (akM h0 h1 h2 h3 h4)))))))))) (λh3=>(fg 2 h2 (mF (c:=decide (b8 (au.line c) (au.line b)<0)) (λh4=>(mN (decide_eq_false (by omega):(decide (3<(↑(ad.hn S):Int)))=false) (mN (show(arF 2 (ad.hn S))=true by simp at h0 h0 h1 h2 h3 h4⊢ <;>omega) (mN (aW L) (mN (aS R) (mQ (akN h0 h1 h2 h3 h4))))))) (λh4=>(mN (decide_eq_false (by omega):(decide (3<(↑(ad.hn S):Int)))=false) (mN (show(arF 1 (ad.hn S))=true by simp at h0 h0 h1 h2 h3 h4⊢ <;>omega) (mN (aW L) (mN (aS R) (mQ (akO h0 h1 h2 h3 h4)))))))))))))) (λh2=>(fg 4 h2 (mN (decide_eq_false (by omega):(decide (3<(↑(ad.hn S):Int)))=false) (mN (show(arF 1 (ad.hn S))=true by simp at h0 h0 h1 h2⊢ <;>omega) (mN (aW L) (mN (aS R) (mQ (akP h0 h1 h2))))))))))))) (λh1=>(fg 4 h1 (mN (decide_eq_true (by omega):(decide (2<(↑(ad.hn S):Int)))=true) (mN (show(arF 2 (ad.hn S))=true by simp at h0 h0 h1⊢ <;>omega) (fg 5 (n24 h0 h1) (mN (decide_eq_false (by omega):(decide (3<(↑(ad.hn S):Int)))=false) (mN (show(arF 2 (ad.hn S))=true by simp at h0 h0 h1⊢ <;>omega) (mN (aW L) (mN (aS R) (mQ (akQ h0 h1)))))))))))))))))))
abbrev Tj:=λS L R H (d:aA) (k:Nat) (e:Int) G dd=>(⟨[(0,ap 0),(5,.string (aR (an H) (k*4+2))),(6,aa e)],[ab (aL S 1 2 3 4) 89,.abs dd,ab (ah L) 9,ab (ay R) 3,ab (an G) 114]⟩:ai)
abbrev akR:=λS L R H d (k:Nat) (e:Int) (G:List au) (dd:aA)=>(⟨[(0,ap 0),(7,.pointer (some ⟨4,k*4,none⟩))],xn S L R H d⟩:ai)
theorem akS(S L R H d)(k:Nat)(e:Int)(G dd)(pH:(an H).all ag=true)(pG:(an G).all ag=true)(gL:aF fK 54 [ap 0,.pointer (some ⟨4,k*4,none⟩)] (aP S L R H d) λr q=>r=.ret (aa e)/\q=aP S L R G dd)(h0:k<(nG H))(h1:(nG H)<=1000){Q:aU}(n0:(dY (an H) (k*4+2)))(l4:Q .normal (Tj S L R H d k e G dd)):ao fK 68 5 (fE.drop 1) (akR S L R H d k e G dd) Q:=
 aV (ajI S L R H d k e G dd gL) 1000 (aB [0,1,3,1,1,1,1,1,1] (.leaf [0,5,6] [0,1,2,3,4] [2,3,4])) (λu=>by kernel_rfl) (mN n0 (aO L R H (mN (kC [ap 0,asy (some (au9 4 (k*4) none))] (aP S L R H d)) (mN (aW L) (mN (aS R) (mN (aZ G) (mN (aW L) (mN (aS R) (mN (aZ G) (mQ (ao.done (by kernel_rfl) l4)))))))))))
abbrev Tk:=λ(S:ad) L R H (d:aA) U d3 (f:Int) (x:ByteArray) (e:Int)=>(⟨[(2,aq 5 1),(3,aa f)],[ab (aL (ad.mk (ad.at_ U) (ad.more U) true (ad.B U) (ad.n U) (ad.failed U) (ad.aC U) (ad.ro U) (ad.rn U) (ad.bJ U) (ad.sn U) (ad.hn U) (ad.eL U) (aA.raw d3) (ad.closed U)) 1 2 3 4) 89,.abs d3,ab (ah L) 9,ab (ay R) 3,ab (an H) 114,ab ([aa 0,aq 6 (x.size+1)]) 122,ab (arV (λb=>KJ Um (↑(arR b):Int)) (arP x.size (arN (arK x)))++[KJ Um 10]) 5]⟩:ai)
theorem akT(S L R H d U d3)(f:Int)(x:ByteArray)(e:Int){Q:bu}(aY:DC (ah L) ag)(bh:DC (ay R) ag)(bT:DC (an H) ag)(hq:Q (.ret (.tuple #[aq 5 1,aa f])) [ab (aL (ad.mk (ad.at_ U) (ad.more U) true (ad.B U) (ad.n U) (ad.failed U) (ad.aC U) (ad.ro U) (ad.rn U) (ad.bJ U) (ad.sn U) (ad.hn U) (ad.eL U) (aA.raw d3) (ad.closed U)) 1 2 3 4) 89,.abs d3,ab (ah L) 9,ab (ay R) 3,ab (an H) 114,ab ([aa 0,aq 6 (x.size+1)]) 122,ab (arV (λb=>KJ Um (↑(arR b):Int)) (arP x.size (arN (arK x)))++[KJ Um 10]) 5]):aG fK 29 68 5 Q .ret (Tk S L R H d U d3 f x e):=aG.ret (vs:=[aq 5 1,aa f]) (l:=[]) (bs:=[0,1,2,3,4,5,6]) (pl:=[2,3,4,6]) (q:=[ah L,ay R,an H,arV (λb=>KJ Um (↑(arR b):Int)) (arP x.size (arN (arK x)))++[KJ Um 10]]) (λu=>by kernel_rfl) (by kernel_rfl) (aD aY (aD bh (aD bT (aD (by exact fO (kA _) rfl) be)))) hq
abbrev Tl:=λ(S:ad) L R H (d:aA) U d3 (f:Int) (x:ByteArray) (e:Int)=>(⟨[(2,aq 5 1),(3,aa f)],[ab (aL (ad.mk (ad.at_ U) (ad.more U) true (ad.B U) (ad.n U) (ad.failed U) (ad.aC U) (ad.ro U) (ad.rn U) (ad.bJ U) (ad.sn U) (ad.hn U) (ad.eL U) (ad.raw U) (ad.closed U)) 1 2 3 4) 89,.abs d3,ab (ah L) 9,ab (ay R) 3,ab (an H) 114,ab ([aa 0,aq 6 (x.size+1)]) 122,ab (arV (λb=>KJ Um (↑(arR b):Int)) (arP x.size (arN (arK x)))++[KJ Um 10]) 5]⟩:ai)
theorem akU(S L R H d U d3)(f:Int)(x:ByteArray)(e:Int){Q:bu}(aY:DC (ah L) ag)(bh:DC (ay R) ag)(bT:DC (an H) ag)(hq:Q (.ret (.tuple #[aq 5 1,aa f])) [ab (aL (ad.mk (ad.at_ U) (ad.more U) true (ad.B U) (ad.n U) (ad.failed U) (ad.aC U) (ad.ro U) (ad.rn U) (ad.bJ U) (ad.sn U) (ad.hn U) (ad.eL U) (ad.raw U) (ad.closed U)) 1 2 3 4) 89,.abs d3,ab (ah L) 9,ab (ay R) 3,ab (an H) 114,ab ([aa 0,aq 6 (x.size+1)]) 122,ab (arV (λb=>KJ Um (↑(arR b):Int)) (arP x.size (arN (arK x)))++[KJ Um 10]) 5]):aG fK 29 68 5 Q .ret (Tl S L R H d U d3 f x e):=aG.ret (vs:=[aq 5 1,aa f]) (l:=[]) (bs:=[0,1,2,3,4,5,6]) (pl:=[2,3,4,6]) (q:=[ah L,ay R,an H,arV (λb=>KJ Um (↑(arR b):Int)) (arP x.size (arN (arK x)))++[KJ Um 10]]) (λu=>by kernel_rfl) (by kernel_rfl) (aD aY (aD bh (aD bT (aD (by exact fO (kA _) rfl) be)))) hq
abbrev Tm:=λ(S:ad) L R H (d:aA) U d3 (f:Int) (x:ByteArray) (e:Int)=>(⟨[(2,aq 5 1),(3,aa f)],[ab (aL U 1 2 3 4) 89,.abs d3,ab (ah L) 9,ab (ay R) 3,ab (an H) 114,ab ([aa 0,aq 6 (x.size+1)]) 122,ab (arV (λb=>KJ Um (↑(arR b):Int)) (arP x.size (arN (arK x)))++[KJ Um 10]) 5]⟩:ai)
theorem akV(S L R H d U d3)(f:Int)(x:ByteArray)(e:Int){Q:bu}(aY:DC (ah L) ag)(bh:DC (ay R) ag)(bT:DC (an H) ag)(hq:Q (.ret (.tuple #[aq 5 1,aa f])) [ab (aL U 1 2 3 4) 89,.abs d3,ab (ah L) 9,ab (ay R) 3,ab (an H) 114,ab ([aa 0,aq 6 (x.size+1)]) 122,ab (arV (λb=>KJ Um (↑(arR b):Int)) (arP x.size (arN (arK x)))++[KJ Um 10]) 5]):aG fK 29 68 5 Q .ret (Tm S L R H d U d3 f x e):=aG.ret (vs:=[aq 5 1,aa f]) (l:=[]) (bs:=[0,1,2,3,4,5,6]) (pl:=[2,3,4,6]) (q:=[ah L,ay R,an H,arV (λb=>KJ Um (↑(arR b):Int)) (arP x.size (arN (arK x)))++[KJ Um 10]]) (λu=>by kernel_rfl) (by kernel_rfl) (aD aY (aD bh (aD bT (aD (by exact fO (kA _) rfl) be)))) hq
abbrev Tn:=λS L R H d (U:ad) (d3:aA) (f:Int) (x:ByteArray) (e:Int)=>(⟨[(2,aq 5 1),(3,aa e)],[ab (aL (ad.mk (ad.at_ S) (ad.more S) true (ad.B S) (ad.n S) (ad.failed S) (ad.aC S) (ad.ro S) (ad.rn S) (ad.bJ S) (ad.sn S) (ad.hn S) (ad.eL S) (aA.raw d) (ad.closed S)) 1 2 3 4) 89,.abs d,ab (ah L) 9,ab (ay R) 3,ab (an H) 114,ab ([aa 0,aq 6 (x.size+1)]) 122,ab (arV (λb=>KJ Um (↑(arR b):Int)) (arP x.size (arN (arK x)))++[KJ Um 10]) 5]⟩:ai)
theorem akW(S L R H d U d3)(f:Int)(x:ByteArray)(e:Int){Q:bu}(aY:DC (ah L) ag)(bh:DC (ay R) ag)(bT:DC (an H) ag)(hq:Q (.ret (.tuple #[aq 5 1,aa e])) [ab (aL (ad.mk (ad.at_ S) (ad.more S) true (ad.B S) (ad.n S) (ad.failed S) (ad.aC S) (ad.ro S) (ad.rn S) (ad.bJ S) (ad.sn S) (ad.hn S) (ad.eL S) (aA.raw d) (ad.closed S)) 1 2 3 4) 89,.abs d,ab (ah L) 9,ab (ay R) 3,ab (an H) 114,ab ([aa 0,aq 6 (x.size+1)]) 122,ab (arV (λb=>KJ Um (↑(arR b):Int)) (arP x.size (arN (arK x)))++[KJ Um 10]) 5]):aG fK 29 68 5 Q .ret (Tn S L R H d U d3 f x e):=aG.ret (vs:=[aq 5 1,aa e]) (l:=[]) (bs:=[0,1,2,3,4,5,6]) (pl:=[2,3,4,6]) (q:=[ah L,ay R,an H,arV (λb=>KJ Um (↑(arR b):Int)) (arP x.size (arN (arK x)))++[KJ Um 10]]) (λu=>by kernel_rfl) (by kernel_rfl) (aD aY (aD bh (aD bT (aD (by exact fO (kA _) rfl) be)))) hq
abbrev Tp:=λS L R H d (U:ad) (d3:aA) (f:Int) (x:ByteArray) (e:Int)=>(⟨[(2,aq 5 1),(3,aa e)],[ab (aL (ad.mk (ad.at_ S) (ad.more S) true (ad.B S) (ad.n S) (ad.failed S) (ad.aC S) (ad.ro S) (ad.rn S) (ad.bJ S) (ad.sn S) (ad.hn S) (ad.eL S) (ad.raw S) (ad.closed S)) 1 2 3 4) 89,.abs d,ab (ah L) 9,ab (ay R) 3,ab (an H) 114,ab ([aa 0,aq 6 (x.size+1)]) 122,ab (arV (λb=>KJ Um (↑(arR b):Int)) (arP x.size (arN (arK x)))++[KJ Um 10]) 5]⟩:ai)
theorem akX(S L R H d U d3)(f:Int)(x:ByteArray)(e:Int){Q:bu}(aY:DC (ah L) ag)(bh:DC (ay R) ag)(bT:DC (an H) ag)(hq:Q (.ret (.tuple #[aq 5 1,aa e])) [ab (aL (ad.mk (ad.at_ S) (ad.more S) true (ad.B S) (ad.n S) (ad.failed S) (ad.aC S) (ad.ro S) (ad.rn S) (ad.bJ S) (ad.sn S) (ad.hn S) (ad.eL S) (ad.raw S) (ad.closed S)) 1 2 3 4) 89,.abs d,ab (ah L) 9,ab (ay R) 3,ab (an H) 114,ab ([aa 0,aq 6 (x.size+1)]) 122,ab (arV (λb=>KJ Um (↑(arR b):Int)) (arP x.size (arN (arK x)))++[KJ Um 10]) 5]):aG fK 29 68 5 Q .ret (Tp S L R H d U d3 f x e):=aG.ret (vs:=[aq 5 1,aa e]) (l:=[]) (bs:=[0,1,2,3,4,5,6]) (pl:=[2,3,4,6]) (q:=[ah L,ay R,an H,arV (λb=>KJ Um (↑(arR b):Int)) (arP x.size (arN (arK x)))++[KJ Um 10]]) (λu=>by kernel_rfl) (by kernel_rfl) (aD aY (aD bh (aD bT (aD (by exact fO (kA _) rfl) be)))) hq
abbrev akY:=λS L R H d (U:ad) (d3:aA) (f:Int) x (e:Int)=>(⟨[(0,ap 0),(5,.string x),(6,aa e)],xn S L R H d⟩:ai)
theorem akZ(S L R H d U d3)(f:Int)(x:ByteArray)(e:Int)(pH:(an H).all ag=true)(iL:aF fK 51 [ap 0] (aP S L R H d) λr q=>r=.ret (aa f)/\q=aP U L R H d3)(h0:x.size<=1000){Q:aU}(n0:(e==0)->(fZ [ap 0] [ap 0] [ab (aL S 1 2 3 4) 89,ak.abs d,ab (ah L) 9,ab (ay R) 3,ab (an H) 114] (aP S L R H d)))(n1:(e==0)->(f != 0)->(f==25)->(DC (arV (λb=>KJ Um (↑(arR b):Int)) (arP x.size (arN (arK x)))) asr)=true)(aY:DC (ah L) ag)(bh:DC (ay R) ag)(bT:DC (an H) ag)(l5:(e==0)->(f != 0)->(f==25)->Q .ret (Tk S L R H d U d3 f x e))(n6:(e==0)->(f != 0)->(f==25)=false->(DC (arV (λb=>KJ Um (↑(arR b):Int)) (arP x.size (arN (arK x)))) asr)=true)(l7:(e==0)->(f != 0)->(f==25)=false->Q .ret (Tl S L R H d U d3 f x e))(n8:(e==0)->(f != 0)=false->(DC (arV (λb=>KJ Um (↑(arR b):Int)) (arP x.size (arN (arK x)))) asr)=true)(l9:(e==0)->(f != 0)=false->Q .ret (Tm S L R H d U d3 f x e))(n10:(e==0)=false->(e==25)->(DC (arV (λb=>KJ Um (↑(arR b):Int)) (arP x.size (arN (arK x)))) asr)=true)(iJ:(e==0)=false->(e==25)->Q .ret (Tn S L R H d U d3 f x e))(n12:(e==0)=false->(e==25)=false->(DC (arV (λb=>KJ Um (↑(arR b):Int)) (arP x.size (arN (arK x)))) asr)=true)(oq:(e==0)=false->(e==25)=false->Q .ret (Tp S L R H d U d3 f x e)):ao fK 68 5 (tC.drop 10) (akY S L R H d U d3 f x e) Q:=
 aV (ajK S L R H d U d3 f iL) 1000 (.fork 0 (aB [3,1,1,1,1,1,1] (.fork 0 (.fork 1 (aB [28,1,1,1,2,3,5,1] (.leaf [2,3] [0,1,2,3,4,9,8] [2,3,4,8])) (aB [20,1,1,1,2,3,5,1] (.leaf [2,3] [0,1,2,3,4,9,8] [2,3,4,8]))) (aB [16,1,1,1,2,3,5,1] (.leaf [2,3] [0,1,2,3,4,9,8] [2,3,4,8])))) (aB [1] (.fork 1 (aB [28,1,1,1,2,3,5,1] (.leaf [2,3] [0,1,2,3,4,9,8] [2,3,4,8])) (aB [20,1,1,1,2,3,5,1] (.leaf [2,3] [0,1,2,3,4,9,8] [2,3,4,8]))))) (λu=>by kernel_rfl) (mF (c:=e==0) (λh0=>(aO L R H (mN (n0 h0) (aO L R H (mF (c:=f != 0) (λh1=>(mF (c:=f==25) (λh2=>(mN (show(arM (0+x.size) 1000000)=true by simp at pH iL h0 h0 h1 h2⊢ <;>omega) (mN (n1 h0 h1 h2) (mN (show(arE (nG (arV (λb=>KJ Um (↑(arR b):Int)) (arP x.size (arN (arK x))))) (x.size*1))=true by simp) (mN (show(arM (x.size+1) 1000000)=true by simp at pH iL h0 h0 h1 h2⊢ <;>omega) (mN (kY _:(full x.size x.size)=true) (mN (show(arE (0+x.size*1) (nG (arV (λb=>KJ Um (↑(arR b):Int)) (arP x.size (arN (arK x))))))=true by simp) (aO L R H (mN (show(DC (arV (λb=>KJ Um (↑(arR b):Int)) (arP x.size (arN (arK x)))++[KJ Um 10]) ag)=true by exact fO (kA _) rfl) (mR (l5 h0 h1 h2))))))))))) (λh2=>(mN (show(arM (0+x.size) 1000000)=true by simp at pH iL h0 h0 h1 h2⊢ <;>omega) (mN (n6 h0 h1 h2) (mN (show(arE (nG (arV (λb=>KJ Um (↑(arR b):Int)) (arP x.size (arN (arK x))))) (x.size*1))=true by simp) (mN (show(arM (x.size+1) 1000000)=true by simp at pH iL h0 h0 h1 h2⊢ <;>omega) (mN (kY _:(full x.size x.size)=true) (mN (show(arE (0+x.size*1) (nG (arV (λb=>KJ Um (↑(arR b):Int)) (arP x.size (arN (arK x))))))=true by simp) (aO L R H (mN (show(DC (arV (λb=>KJ Um (↑(arR b):Int)) (arP x.size (arN (arK x)))++[KJ Um 10]) ag)=true by exact fO (kA _) rfl) (mR (l7 h0 h1 h2))))))))))))) (λh1=>(mN (show(arM (0+x.size) 1000000)=true by simp at pH iL h0 h0 h1⊢ <;>omega) (mN (n8 h0 h1) (mN (show(arE (nG (arV (λb=>KJ Um (↑(arR b):Int)) (arP x.size (arN (arK x))))) (x.size*1))=true by simp) (mN (show(arM (x.size+1) 1000000)=true by simp at pH iL h0 h0 h1⊢ <;>omega) (mN (kY _:(full x.size x.size)=true) (mN (show(arE (0+x.size*1) (nG (arV (λb=>KJ Um (↑(arR b):Int)) (arP x.size (arN (arK x))))))=true by simp) (aO L R H (mN (show(DC (arV (λb=>KJ Um (↑(arR b):Int)) (arP x.size (arN (arK x)))++[KJ Um 10]) ag)=true by exact fO (kA _) rfl) (mR (l9 h0 h1)))))))))))))))) (λh0=>(mN (show(e != 0)=true by simp at pH iL h0 h0⊢ <;>omega) (mF (c:=e==25) (λh1=>(mN (show(arM (0+x.size) 1000000)=true by simp at pH iL h0 h0 h1⊢ <;>omega) (mN (n10 h0 h1) (mN (show(arE (nG (arV (λb=>KJ Um (↑(arR b):Int)) (arP x.size (arN (arK x))))) (x.size*1))=true by simp) (mN (show(arM (x.size+1) 1000000)=true by simp at pH iL h0 h0 h1⊢ <;>omega) (mN (kY _:(full x.size x.size)=true) (mN (show(arE (0+x.size*1) (nG (arV (λb=>KJ Um (↑(arR b):Int)) (arP x.size (arN (arK x))))))=true by simp) (aO L R H (mN (show(DC (arV (λb=>KJ Um (↑(arR b):Int)) (arP x.size (arN (arK x)))++[KJ Um 10]) ag)=true by exact fO (kA _) rfl) (mR (iJ h0 h1))))))))))) (λh1=>(mN (show(arM (0+x.size) 1000000)=true by simp at pH iL h0 h0 h1⊢ <;>omega) (mN (n12 h0 h1) (mN (show(arE (nG (arV (λb=>KJ Um (↑(arR b):Int)) (arP x.size (arN (arK x))))) (x.size*1))=true by simp) (mN (show(arM (x.size+1) 1000000)=true by simp at pH iL h0 h0 h1⊢ <;>omega) (mN (kY _:(full x.size x.size)=true) (mN (show(arE (0+x.size*1) (nG (arV (λb=>KJ Um (↑(arR b):Int)) (arP x.size (arN (arK x))))))=true by simp) (aO L R H (mN (show(DC (arV (λb=>KJ Um (↑(arR b):Int)) (arP x.size (arN (arK x)))++[KJ Um 10]) ag)=true by exact fO (kA _) rfl) (mR (oq h0 h1)))))))))))))))
end
structure MS where
 S:ad
 L:List ByteArray
 R:List Int
 H:List au
 d:aA
def MS.z(s:MS):cm:=(s.S,s.L,s.R,s.d)
def fJ(s:cm)(H:List au):MS:=⟨s.1,s.2.1,s.2.2.1,H,s.2.2.2⟩
def ot(S:ad)(d:aA)(e:Int):ad:={S with raw:=if e=25 then d.raw else S.raw,bi:=true}
def MS.fail(s:MS)(e:Int):MS:={s with S:=ot s.S s.d e}
def bX(s:MS)(b:ByteArray):Int×MS:=
 match bW b.data.toList s.S []with
 |(e,S1,M)=>match cx M (S1,s.L,s.R,s.d)with
  |(f,t)=>if f≠0 then(f,(fJ t s.H).fail f)else if e≠0 then(e,(fJ t s.H).fail e)else(0,fJ t s.H)
noncomputable def e9(s:MS):Int×MS:=
 match gI s.z s.H with
 |(e,t,G)=>if e≠0 then(e,(fJ t G).fail e)else match cy t.1 t.2.2.1 G t.2.2.2 with
  |(f,U,d3)=>if f≠0 then(f,(⟨U,t.2.1,t.2.2.1,G,d3⟩:MS).fail f)else(0,⟨U,t.2.1,t.2.2.1,G,d3⟩)
theorem zL:∀(l:List UInt8) (S:ad) (M:List ByteArray),js S->(∀x∈M,x.size<=64)->js (bW l S M).2.1/\(∀x∈(bW l S M).2.2,x.size<=64)/\((bW l S M).1=0->a8 (bW l S M).2.2+(bW l S M).2.1.n.toNat=a8 M+S.n.toNat+l.length)/\(bW l S M).2.2.length<=M.length+l.length
 | [],S,M,h,hM=>⟨h,hM,λ_=>rfl,by show M.length<=_;omega⟩
 |x::l,S,M,h,hM=>by
  have h0:=h.n0
  have h1:=h.n1
  unfold bW
  by_cases hx:x=10
  ·rw[if_pos hx]
   obtain⟨a,b,c,e⟩:=zL l {S with n:=0} (M++[eZ S]) (js.zero S) λy hy=>by
    rcases List.mem_append.1 hy with hy|hy
    ·exact hM y hy
    ·rw[ar0.1 hy,xm];omega
   refine⟨a,b,λhe=>?_,by rw[List.length_append]at e;rw[ar4];simp at e;omega⟩
   have:=c he
   rw[lg,show a8 [eZ S]=S.n.toNat+1 by show(eZ S).size+1+0=_;rw[xm]]at this
   rw[ar4,this]
   show a8 M+(S.n.toNat+1)+0+l.length=_
   omega
  rw[if_neg hx]
  by_cases mX:S.n=64
  ·simp only[if_pos mX]
   exact⟨⟨by show(0:Int)<=0;omega,by show(0:Int)<=64;omega⟩,hM,(λhe=>by cases he),by omega⟩
  ·rw[if_neg mX]
   obtain⟨a,b,c,e⟩:=zL l (mc S x) M (h.add mX x) hM
   refine⟨a,b,λhe=>?_,by rw[ar4];omega⟩
   rw[c he,ar4]
   show a8 M+(S.n+1).toNat+l.length=_
   omega
theorem xo:∀(l:List UInt8) (S:ad) (M:List ByteArray),(bW l S M).2.1.at_=S.at_/\(bW l S M).2.1.more=S.more/\(bW l S M).2.1.bi=S.bi/\(bW l S M).2.1.aC=S.aC/\(bW l S M).2.1.ro=S.ro/\(bW l S M).2.1.rn=S.rn/\(bW l S M).2.1.bJ=S.bJ/\(bW l S M).2.1.sn=S.sn/\(bW l S M).2.1.hn=S.hn/\(bW l S M).2.1.eL=S.eL/\(bW l S M).2.1.raw=S.raw/\(bW l S M).2.1.closed=S.closed/\((bW l S M).1=0->(bW l S M).2.1.failed=S.failed)
 | [],S,M=>⟨rfl,rfl,rfl,rfl,rfl,rfl,rfl,rfl,rfl,rfl,rfl,rfl,λ_=>rfl⟩
 |x::l,S,M=>by
  unfold bW
  split
  ·exact xo l _ _
  split
  ·exact⟨rfl,rfl,rfl,rfl,rfl,rfl,rfl,rfl,rfl,rfl,rfl,rfl,λh=>by cases h⟩
  ·exact xo l _ _
structure Kb(F:Nat)(s:MS):Prop where
 pQ:Good F s.z
 cut:js s.S
 kh:s.H.length=s.S.hn
 fail:s.S.failed=false
 jb:s.S.at_=0
theorem ak0(F:Nat)(s:MS)(b:ByteArray)(hs:Kb F s)(ho:s.S.bi=false)(hm:s.S.more=false)(ak1:0<b.size)(hb:b.size<=32):
 aF fK 27 [.pointer (some ⟨0,0,none⟩),.int .i64 0,.slice (some ⟨5,0,none⟩) b.size b.size] (aP s.S.z s.L s.R s.H s.d++[.cells (af b) 5 false]) λr q=>
  r=.ret (.tuple #[.slice none 0 0,.int .i64 (bX s b).1])/\q=oX (.cells (af b) 5 false) (bX s b).2.S.z (bX s b).2.L (bX s b).2.R (bX s b).2.H (bX s b).2.d:=by
 obtain⟨S,L,R,H,d⟩:=s
 obtain⟨hg,hc,hH,hf,ca⟩:=hs
 dsimp only[MS.z]at*
 have pH:=aZ H
 have tB:=aiP S.z L R H d b ⟨hc.n0,hc.n1⟩ hf (by omega)
 obtain⟨c1,c2,c3,c4⟩:=zL b.data.toList S [] hc λx hx=>by cases hx
 have cz:∀(l:List UInt8) (S:ad) (M:List ByteArray),bW l S.z M=((bW l S M).1,(bW l S M).2.1.z,(bW l S M).2.2):=by
  intro l
  induction l with
  |nil=>intro S M;rfl
  |cons x l ih=>
   intro S M
   unfold bW
   split
   ·exact ih {S with n:=0} _
   split
   ·rw[if_pos (by assumption)];rfl
   ·rw[if_neg (by assumption)];exact ih (mc S x) M
 rw[cz]at tB
 dsimp only at tB
 have cN:=xo b.data.toList S []
 unfold bX
 generalize bW b.data.toList S []=o at*
 obtain⟨e,S1,M⟩:=o
 dsimp only at*
 obtain⟨s1,s2,s3,s4,s5,s6,s7,s8,s9,Tq,Ts,Kc,Kd⟩:=cN
 have gP:M.length<=32:=by
  have:b.data.toList.length=b.size:=by simp
  have h0:([]:List ByteArray).length=0:=rfl
  omega
 have oO:Good F (S1,L,R,d):=⟨⟨by rw[show((S1,L,R,d):cm).1.rn=S1.rn from rfl,s6];exact hg.ok.len,by rw[show((S1,L,R,d):cm).1.sn=S1.sn from rfl,s8];exact hg.ok.runs,hg.ok.cL,hg.ok.made,by rw[show((S1,L,R,d):cm).1.bJ=S1.bJ from rfl,s7];exact hg.ok.bJ,hg.ok.bR⟩,hg.old,hg.bR⟩
 have mU:=Rb M false M.length rfl (by omega) c2 H (S1,L,R,d) oO.ok
 generalize cx M (S1,L,R,d)=o at*
 obtain⟨f,T,K,Rr,dd⟩:=o
 dsimp only at*
 refine aF.dv (n:=cp fK 27) (by kernel_rfl) ?_
 refine ao.move (d':=⟨[(0,.pointer (some ⟨0,0,none⟩)),(1,.int .i64 0),(2,.slice (some ⟨5,0,none⟩) b.size b.size)],oX (.cells (af b) 5 false) S.z L R H d⟩) [some 0,some 1,none,none,none,some 5,some 2,some 3,some 4] [2,3,4,5] (q:=[af b,ah L,ay R,an H]) (by kernel_rfl) (aD (by simp) (aD (by simp) (aD (by simp) (aD pH be)))) (by kernel_rfl) (by kernel_rfl) ?_
 apply ajU S L R H d b S1 M e T K Rr dd f pH tB mU ho hm ca ak1 hb
 case n0=>exact iI rfl rfl
 case n1=>exact iI rfl rfl
 case aY=>simp
 case bh=>exact pH
 case l4=>
  intro g1 g2
  have g1:f≠0:=by simpa using g1
  have g2:f=25:=by simpa using g2
  rw[if_pos g1]
  refine ajO S L R H d b S1 M e T K Rr dd f (by simp) pH ⟨rfl,?_⟩
  unfold MS.fail ot fJ
  rw[if_pos g2]
  rfl
 case l5=>
  intro g1 g2
  have g1:f≠0:=by simpa using g1
  have g2:¬f=25:=by simpa using g2
  rw[if_pos g1]
  refine ajP S L R H d b S1 M e T K Rr dd f (by simp) pH ⟨rfl,?_⟩
  unfold MS.fail ot fJ
  rw[if_neg g2]
  rfl
 case l6=>
  intro g1 g2 g3
  have g1:¬f≠0:=by simpa using g1
  have g2:e≠0:=by simpa using g2
  have g3:e=25:=by simpa using g3
  rw[if_neg g1,if_pos g2]
  refine ajQ S L R H d b S1 M e T K Rr dd f (by simp) pH ⟨rfl,?_⟩
  unfold MS.fail ot fJ
  rw[if_pos g3]
  rfl
 case l7=>
  intro g1 g2 g3
  have g1:¬f≠0:=by simpa using g1
  have g2:e≠0:=by simpa using g2
  have g3:¬e=25:=by simpa using g3
  rw[if_neg g1,if_pos g2]
  refine ajR S L R H d b S1 M e T K Rr dd f (by simp) pH ⟨rfl,?_⟩
  unfold MS.fail ot fJ
  rw[if_neg g3]
  rfl
 case l8=>
  intro g1 g2
  have g1:¬f≠0:=by simpa using g1
  have g2:¬e≠0:=by simpa using g2
  rw[if_neg g1,if_neg g2]
  exact ajS S L R H d b S1 M e T K Rr dd f (by simp) pH ⟨rfl,rfl⟩
structure Dl(x:MS):Prop where
 run:x.L.length=x.S.rn
 runs:x.R.length=x.S.sn
 kh:x.H.length=x.S.hn
 cL:ct x.d
 Dm:x.R.length<=900000
theorem jK.lens{s:cm}{H:List au}(h:jK s)(hH:H.length=s.1.hn):Dl (fJ s H):=
 ⟨h.len,h.runs,hH,h.cL,by have:=h.made;have:=h.cL.made;show s.2.2.1.length<=_;omega⟩
theorem Ke(S:ad)(L:List ByteArray)(R:List Int)(d:aA):(cM S L R d).2.1.hn=S.hn:=by unfold cM;split;rfl;split;rfl;rfl
theorem Kf:∀(l:List ByteArray) (s:cm),(cx l s).2.1.hn=s.1.hn
 | [],s=>rfl
 |x::l,s=>by
  unfold cx
  split
  ·split
   ·exact Ke _ _ _ _
   ·rw[Kf];exact Ke _ _ _ _
  ·rw[Kf];rfl
theorem Tt(s:cm):(fo s).2.1.hn=s.1.hn:=by
 unfold fo
 split
 ·rfl
 ·rw[Kf]
theorem ak2(s:cm)(H:List au)(hL:s.2.1.length=s.1.rn)(hH:H.length=s.1.hn)(hR:s.2.2.1.length<=900000)(hr:jr s.2.2.2 s.2.2.1):Dl (fJ (jt s H).2.1 (jt s H).2.2):=by
 obtain⟨S,L,R,d⟩:=s
 dsimp only at*
 obtain⟨p1,p2,p3⟩:=Dg S.aC R.length R d hr
 have hv:jt (S,L,R,d) H=if(dj S.aC R.length R d).1≠0 then((dj S.aC R.length R d).1,({S with sn:=(dj S.aC R.length R d).2.1.length},L,(dj S.aC R.length R d).2),H)
  else match dj S.aC R.length R d with
   |(_,R,d)=>match dB R [] d with
    |(e,l,dd)=>if e=0 then(0,({S with sn:=R.length,hn:=l.length},L,R,dd),l)else(e,({S with sn:=R.length,hn:=0},L,R,dd),[]):=rfl
 rw[hv]
 clear hv
 generalize dj S.aC R.length R d=o at*
 obtain⟨e,R2,d2⟩:=o
 dsimp only at*
 by_cases he:e=0
 ·rw[if_neg (λh=>h he)]
  obtain⟨o1,o2,o3,o4⟩:=vc R2 [] d2 p1
  generalize dB R2 [] d2=o at*
  obtain⟨e2,l,d3⟩:=o
  dsimp only at*
  split
  ·exact⟨hL,rfl,rfl,o1,by show R2.length<=_;omega⟩
  ·exact⟨hL,rfl,rfl,o1,by show R2.length<=_;omega⟩
 ·rw[if_pos he]
  exact⟨hL,rfl,hH,p1,by show R2.length<=_;omega⟩
theorem Dn{F:Nat}{s:cm}{H:List au}(h:Good F s)(hc:js s.1)(hF:F<=800000)(hH:H.length=s.1.hn):Dl (fJ (gI s H).2.1 (gI s H).2.2):=by
 obtain⟨r1,r2⟩:=zJ h hc
 have r3:=Tt s
 have ky:=hc.n1
 unfold gI
 split
 ·exact r1.lens (hH.trans r3.symm)
 rename_i he
 have g:=zK (r2 (ate.1 he))
 have zM:H.length=(kJ (fo s).2).1.hn:=hH.trans r3.symm
 generalize kJ (fo s).2=t at*
 unfold rS
 split
 ·refine⟨?_,g.ok.runs,zM,g.ok.cL,?_⟩
  ·show(bb _ _).length=_;rw[lG];exact g.ok.len
  ·have:=g.ok.made;have:=g.ok.cL.made;show t.2.2.1.length<=_;omega
 unfold qG
 have cZ:jK (fq t).2:=by unfold fq;split;exact g.ok.jp.1;exact g.ok
 have jw:(fq t).2.1.hn=t.1.hn:=by unfold fq;split;exact Ke _ _ _ _;rfl
 split
 ·exact cZ.lens (zM.trans jw.symm)
 rename_i eH
 have g2:Good (F+(s.1.n.toNat+1)) (fq t).2:=by
  have eH:=ate.1 eH
  unfold fq at eH⊢
  split
  ·rename_i h1;rw[if_pos h1]at eH;exact g.jp eH
  ·exact g
 exact ak2 _ H cZ.len (zM.trans jw.symm) (by have:=cZ.made;have:=cZ.cL.made;omega) (g2.runs (by omega))
theorem ak3(F:Nat)(s:MS)(hF:F<=800000)(hs:Kb F s)(hh:s.H.length<=900000)(ho:s.S.bi=false)(hm:s.S.more=false)(aqK:(gI s.z s.H).2.2.length<=900000):
 aF fK 28 [.pointer (some ⟨0,0,none⟩),.int .i64 0] (aP s.S.z s.L s.R s.H s.d) λr q=>
  r=.ret (.tuple #[.slice none 0 0,.int .i64 (e9 s).1])/\q=jI (e9 s).2.S.z (e9 s).2.L (e9 s).2.R (e9 s).2.H (e9 s).2.d:=by
 obtain⟨S,L,R,H,d⟩:=s
 obtain⟨hg,hc,hH,hf,ca⟩:=hs
 dsimp only[MS.z]at*
 have pH:=aZ H
 have jA:=ajB F S L R H d hF hg hc hH
 have ub:=Dn hg hc hF hH
 unfold e9
 dsimp only[MS.z]
 generalize gI (S,L,R,d) H=o at*
 obtain⟨e,⟨T,K,Rr,dd⟩,G⟩:=o
 dsimp only[fJ]at*
 obtain⟨l1,l2,l3,l4,l5⟩:=ub
 dsimp only at*
 have iL:=SZ T.z K Rr G dd l2 l3 (by omega) (by omega) l4
 have iM:cy T.z Rr G dd=((cy T Rr G dd).1,(cy T Rr G dd).2.1.z,(cy T Rr G dd).2.2):=by
  unfold cy
  rw[show jL T.z G=jL T G from rfl]
  split<;>rfl
 rw[iM]at iL
 dsimp only at iL
 generalize cy T Rr G dd=o at*
 obtain⟨f,U,d3⟩:=o
 dsimp only at*
 refine aF.dv (n:=cp fK 28) (by kernel_rfl) ?_
 apply aj1 S L R H d T K Rr G dd e U d3 f pH (aZ G) jA iL ho hm ca
 case n0=>exact iI rfl rfl
 case n3=>intro _;exact iI rfl rfl
 case l1=>
  intro g1 g2
  have g1:e≠0:=by simpa using g1
  have g2:e=25:=by simpa using g2
  rw[if_pos g1]
  refine ajV S L R H d T K Rr G dd e U d3 f ⟨rfl,?_⟩
  unfold MS.fail ot
  rw[if_pos g2]
  rfl
 case l2=>
  intro g1 g2
  have g1:e≠0:=by simpa using g1
  have g2:¬e=25:=by simpa using g2
  rw[if_pos g1]
  refine ajW S L R H d T K Rr G dd e U d3 f ⟨rfl,?_⟩
  unfold MS.fail ot
  rw[if_neg g2]
  rfl
 case l4=>
  intro g1 g2 g3
  have g1:¬e≠0:=by simpa using g1
  have g2:f≠0:=by simpa using g2
  have g3:f=25:=by simpa using g3
  rw[if_neg g1,if_pos g2]
  refine ajX S L R H d T K Rr G dd e U d3 f ⟨rfl,?_⟩
  unfold MS.fail ot
  rw[if_pos g3]
  rfl
 case l5=>
  intro g1 g2 g3
  have g1:¬e≠0:=by simpa using g1
  have g2:f≠0:=by simpa using g2
  have g3:¬f=25:=by simpa using g3
  rw[if_neg g1,if_pos g2]
  refine ajY S L R H d T K Rr G dd e U d3 f ⟨rfl,?_⟩
  unfold MS.fail ot
  rw[if_neg g3]
  rfl
 case l6=>
  intro g1 g2
  have g1:¬e≠0:=by simpa using g1
  have g2:¬f≠0:=by simpa using g2
  rw[if_neg g1,if_neg g2]
  exact ajZ S L R H d T K Rr G dd e U d3 f ⟨rfl,rfl⟩
theorem ak4(S:ad)(L:List ByteArray)(R:List Int)(H:List au)(d:aA)(hH:H.length=S.hn)(h3:H.length<=3)(k:Nat)(hk:eo S.aC H=some k){n kk:Nat}{Q:bf->ai->Prop}(hn:n=68)(ec:kk=5)
 (h:ao fK n kk (fE.drop 1) ⟨[(0,.pointer (some ⟨0,0,none⟩)),(7,.pointer (some ⟨4,k*4,none⟩))],aP S L R H d⟩ Q):ao fK n kk fE ⟨[(0,.pointer (some ⟨0,0,none⟩))],aP S L R H d⟩ Q:=by
 subst hn ec
 match H,hH,h3,hk,h with
 | [],_,_,hk,_=>cases hk
 | [a],hH,_,hk,h=>
   have h1:a.there=true:=by
    unfold eo ke ke jq at hk
    cases ht:a.there with
    |true=>rfl
    |false=>rw[ht]at hk;cases hk
   have h2:eo S.aC [a]=some 0:=by simp[eo,ke,jq,h1]
   rw[h2]at hk
   cases hk
   exact aka S L R d a hH.symm h1 (by simp) (by simp) h
 | [a,b],hH,_,hk,h=>
   have e0:aK [a,b] 0=a:=rfl
   have e1:aK [a,b] 1=b:=rfl
   apply aki S L R d a b hH.symm
   all_goals
    intros
    first
     |(have kW:=hk
       simp[eo,ke,jq,aN, *]at kW
       subst kW
       exact h)
     |(have kW:=hk
       simp[eo,ke,jq,aN, *]at kW
       obtain⟨_,Kg⟩:=kW
       subst Kg
       exact h)
     |(cases hb:b.there with
       |true=>rfl
       |false=>
        exfalso
        have kW:=hk
        simp[eo,ke,jq,aN, *]at kW)
 | [a,b,c],hH,_,hk,h=>
   have e0:aK [a,b,c] 0=a:=rfl
   have e1:aK [a,b,c] 1=b:=rfl
   have e2:aK [a,b,c] 2=c:=rfl
   apply akH S L R d a b c hH.symm
   all_goals
    intros
    first
     |(have kW:=hk
       simp[eo,ke,jq,aN, *]at kW
       subst kW
       exact h)
     |(have kW:=hk
       simp[eo,ke,jq,aN, *]at kW
       obtain⟨_,Kg⟩:=kW
       subst Kg
       exact h)
     |(cases hb:c.there with
       |true=>rfl
       |false=>
        exfalso
        have kW:=hk
        simp[eo,ke,jq,aN, *]at kW)
def tD(L:List ByteArray)(i:Nat):ByteArray:=L.getD i KI
noncomputable def fv(s:MS):Int×ByteArray×MS:=
 if 0<s.S.rn then match cy s.S.pop s.R s.H s.d with
  |(f,U,d3)=>if f≠0 then(f,tD s.L s.S.ro,(⟨U,s.L,s.R,s.H,d3⟩:MS).fail f)else(0,tD s.L s.S.ro,⟨U,s.L,s.R,s.H,d3⟩)
 else match eo s.S.aC s.H with
  |none=>(0,KI,s)
  |some k=>match bE (aK s.H k) s.d with
   |(e,y,dd)=>if e≠0 then(e,(aK s.H k).line,(⟨s.S,s.L,s.R,s.H.set k y,dd⟩:MS).fail e)else match cy s.S s.R (s.H.set k y) dd with
    |(f,U,d3)=>if f≠0 then(f,(aK s.H k).line,(⟨U,s.L,s.R,s.H.set k y,d3⟩:MS).fail f)else(0,(aK s.H k).line,⟨U,s.L,s.R,s.H.set k y,d3⟩)
def Dp(x:ByteArray):List ak:=[.cells [.int .i64 0,.slice (some ⟨6,0,none⟩) (x.size+1) (x.size+1)] 122 false,.cells (af (bM x)) 5 false]
def Tu(x:Int×ByteArray×MS)(r:bD)(q:List ak):Prop:=r=.ret (.tuple #[.slice (some ⟨5,0,none⟩) 1 1,.int .i64 x.1])/\q=aP x.2.2.S x.2.2.L x.2.2.R x.2.2.H x.2.2.d++Dp x.2.1
theorem Tv(S:ad)(L:List ByteArray)(R:List Int)(H:List au)(d:aA)(x:ByteArray)(e:Int)(hx:x.size<=1000)(hR:R.length=S.sn)(hH:H.length=S.hn)(hl:H.length<=1000000)(hr:R.length<=1000000)(hd:ct d):
 ao fK 68 5 (tC.drop 10) ⟨[(0,.pointer (some ⟨0,0,none⟩)),(5,.string x),(6,.int .i64 e)],aP S L R H d⟩
  (aG fK 29 68 5 (Tu (if e≠0 then(e,x,(⟨S,L,R,H,d⟩:MS).fail e)else match cy S R H d with
   |(f,U,d3)=>if f≠0 then(f,x,(⟨U,L,R,H,d3⟩:MS).fail f)else(0,x,⟨U,L,R,H,d3⟩)))):=by
 have pH:=aZ H
 have iL:=SZ S L R H d hR hH hl hr hd
 generalize cy S R H d=o at*
 obtain⟨f,U,d3⟩:=o
 dsimp only at*
 have one:(arV (λb:UInt8=>KJ Um (↑(arR b):Int)) (arP x.size (arN (arK x)))).all asr=true:=by
  rw[List.take_of_length_le (by exact Nat.le_refl _)];exact G6 _
 apply akZ S L R H d U d3 f x e pH iL hx
 case n0=>intro _;exact iI rfl rfl
 case n1=>intros;exact one
 case n6=>intros;exact one
 case n8=>intros;exact one
 case n10=>intros;exact one
 case n12=>intros;exact one
 case aY=>simp
 case bh=>simp
 case bT=>exact pH
 case l5=>
  intro g1 g2 g3
  have g1:e=0:=by simpa using g1
  have g2:f≠0:=by simpa using g2
  have g3:f=25:=by simpa using g3
  rw[if_neg (λh=>h g1),if_pos g2]
  refine akT S L R H d U d3 f x e (by simp) (by simp) pH ⟨rfl,?_⟩
  unfold MS.fail ot
  rw[join_eq,if_pos g3]
  rfl
 case l7=>
  intro g1 g2 g3
  have g1:e=0:=by simpa using g1
  have g2:f≠0:=by simpa using g2
  have g3:¬f=25:=by simpa using g3
  rw[if_neg (λh=>h g1),if_pos g2]
  refine akU S L R H d U d3 f x e (by simp) (by simp) pH ⟨rfl,?_⟩
  unfold MS.fail ot
  rw[join_eq,if_neg g3]
  rfl
 case l9=>
  intro g1 g2
  have g1:e=0:=by simpa using g1
  have g2:f=0:=by simpa using g2
  rw[if_neg (λh=>h g1),if_neg (λh=>h g2)]
  refine akV S L R H d U d3 f x e (by simp) (by simp) pH ⟨by rw[g2],?_⟩
  rw[join_eq]
  rfl
 case iJ=>
  intro g1 g3
  have g1:e≠0:=by simpa using g1
  have g3:e=25:=by simpa using g3
  rw[if_pos g1]
  refine akW S L R H d U d3 f x e (by simp) (by simp) pH ⟨rfl,?_⟩
  unfold MS.fail ot
  rw[join_eq,if_pos g3]
  rfl
 case oq=>
  intro g1 g3
  have g1:e≠0:=by simpa using g1
  have g3:¬e=25:=by simpa using g3
  rw[if_pos g1]
  refine akX S L R H d U d3 f x e (by simp) (by simp) pH ⟨rfl,?_⟩
  unfold MS.fail ot
  rw[join_eq,if_neg g3]
  rfl
structure rT(s:MS):Prop where
 runs:s.R.length=s.S.sn
 kh:s.H.length=s.S.hn
 cL:ct s.d
 Dm:s.R.length<=900000
 bR:s.H.length<=3
 ok:∀h∈s.H,pP h
 run:s.S.ro+s.S.rn<=s.L.length
 small:∀x∈s.L,x.size<=64
 some:jL s.S s.H=true
theorem Tw{L:List ByteArray}{i:Nat}(h:i<L.length):aR (ah L) (i+0)=tD L i/\dY (ah L) (i+0)=true/\tD L i∈L:=by
 have h0:i+0=i:=rfl
 rw[h0,yT h,uG h]
 unfold tD
 rw[List.getD_eq_getElem?_getD,KH h]
 exact⟨rfl,rfl,List.getElem_mem h⟩
theorem ak5(s:MS)(hs:rT s)(ho:s.S.bi=false)(hm:s.S.more=true):
 aF fK 29 [.pointer (some ⟨0,0,none⟩)] (aP s.S s.L s.R s.H s.d) (Tu (fv s)):=by
 obtain⟨S,L,R,H,d⟩:=s
 obtain⟨h1,h2,h3,h4,h5,h6,h7,h8,h9⟩:=hs
 dsimp only at*
 have pH:=aZ H
 refine aF.dv (n:=cp fK 29) (by kernel_rfl) ?_
 by_cases jd:0<S.rn
 ·apply aj3 S L R H d pH ho hm jd
  case aY=>simp
  case bh=>simp
  case bT=>exact pH
  case l3=>
   refine ao.wD 9 (c:=22) (b:=decide (((S.rn:Nat):Int)>0)) (by kernel_rfl) (by rfl) (by rfl) ?_
   rw[decide_eq_true (show((S.rn:Nat):Int)>0 by omega)]
   refine ao.join ?_
   refine ao.less [(0,.pointer (some ⟨0,0,none⟩)),(6,.int .i64 0)] (by kernel_rfl) (by intro p hp;rcases List.mem_cons.1 hp with rfl|hp;exact arH;rw[ar0.1 hp];exact arG _ arH) ?_
   obtain⟨r1,r2,r3⟩:=Tw (L:=L) (i:=S.ro) (by omega)
   apply aj7 S L R H d pH jd
   case n0=>exact r2
   case l4=>
    refine QA.normal ?_
    unfold Ti
    rw[r1]
    have:=Tv S.pop L R H d (tD L S.ro) 0 (by have:=h8 _ r3;omega) h1 h2 (by omega) (by omega) h3
    rw[if_neg (λh=>h rfl)]at this
    unfold fv
    dsimp only
    rw[if_pos jd]
    exact this
 ·have jd:S.rn=0:=by omega
  obtain⟨k,hk⟩:∃k,eo S.aC H=some k:=by
   unfold jL at h9
   rw[decide_eq_false (by omega)]at h9
   cases hk:eo S.aC H with
   |none=>rw[hk]at h9;cases h9
   |some k=>exact⟨k,rfl⟩
  obtain⟨k1,k2⟩:=vd hk
  have hok:=h6 _ (tm k1)
  have gL:=ag1 S L R H d k k1 hok h3
  have fC:=h3.bE (aK H k)
  have de:=zy (h:=aK H k) h3
  unfold fv
  dsimp only
  rw[if_neg (by omega),hk]
  dsimp only
  generalize bE (aK H k) d=o at*
  obtain⟨e,y,dd⟩:=o
  dsimp only at*
  apply aj5 S L R H d pH ho hm jd
  case aY=>simp
  case bh=>simp
  case bT=>exact pH
  case l3=>
   refine ao.wD 9 (c:=22) (b:=decide (((S.rn:Nat):Int)>0)) (by kernel_rfl) (by rfl) (by rfl) ?_
   rw[decide_eq_false (show¬((S.rn:Nat):Int)>0 by omega)]
   refine ao.join ?_
   refine ao.less [(0,.pointer (some ⟨0,0,none⟩))] (by kernel_rfl) (by intro p hp;rw[ar0.1 hp];exact arH) ?_
   refine ak4 S L R H d h2 h5 k hk rfl rfl ?_
   apply akS S L R H d k e (H.set k y) dd pH (aZ _) gL k1 (by omega)
   case n0=>have:=(rowAt k1).n5;rw[show 0+m5 (k:Int)*4+2=k*4+2 by simp]at this;exact this
   case l4=>
    refine QA.normal ?_
    unfold Tj
    have lW:=(rowAt k1).s2
    rw[show 0+m5 (k:Int)*4+2=k*4+2 by simp]at lW
    rw[lW]
    exact Tv S L R (H.set k y) dd (aK H k).line e (by have:=hok.line;omega) h1 (by rw[asU];exact h2) (by rw[asU];omega) (by omega) fC
noncomputable section
def vt:List ar3:=a7 (dI fK 30)
open Tree renaming aQ->mN,dE->mF,fj->mL,fY->mQ,dN->mR,gH->mE
abbrev Kh:List ar3:=(a7 (inner (a7 (inner (vt.drop 7)))))
abbrev Ki:List ar3:=(a7 (inner (a7 (inner (vt.drop 5)))))
abbrev mf:=λS L R H d=>([ab (aL S 1 2 3 4) 89,.abs d,ab (ah L) 9,ab (ay R) 3,ab (an H) 114]:List ak)
abbrev ak6:=λS L R H d=>(⟨[(0,ap 0),(3,aa (ad.n S)),(17,cA 2 (ad.ro S) (ad.rn S) (ad.rn S)),(18,aa (ad.rn S)),(19,aa 0)],mf S L R H d⟩:ai)
abbrev ak7:=λS L R H d=>(⟨[(0,ap 0)],mf S L R H d⟩:ai)
theorem ak8(S L R H d)(pH:(an H).all ag=true){Q:aU}(l3:ao fK 46 5 (vt.drop 5) (ak6 S L R H d) Q):ao fK 46 5 vt (ak7 S L R H d) Q:=
 aV bp 5 (.leaf [0,3,17,18,19] [0,1,2,3,4] [2,3,4]) (λu=>by kernel_rfl) (aO L R H (mQ l3))
abbrev ak9:=λS L R H d (z i:Int)=>(⟨[(0,ap 0),(3,aa z),(17,cA 2 (ad.ro S) (ad.rn S) (ad.rn S)),(18,aa (ad.rn S)),(19,aa i)],mf S L R H d⟩:ai)
abbrev ala:=λS L R H d (z i:Int)=>(⟨[(0,ap 0),(3,aa z)],mf S L R H d⟩:ai)
abbrev Tx:=λ(S:ad) L R H d (z i:Int)=>(⟨[(0,ap 0),(3,aa z),(17,cA 2 S.ro S.rn S.rn),(18,aa S.rn),(19,aa i)],mf S L R H d⟩:ai)
theorem alb(S L R H d)(z i:Int)(pH:(an H).all ag=true){Q:aU}(l3:(decide (i<(↑(ad.rn S):Int)))->ao fK 46 5 (Ki.drop 2) (ak9 S L R H d z i) Q)(l4:(decide (i<(↑(ad.rn S):Int)))=false->Q (.exit 0) (ala S L R H d z i)):ao fK 46 5 Ki (Tx S L R H d z i) Q:=
 aV bp 2 (.fork 0 (.leaf [0,3,17,18,19] [0,1,2,3,4] [2,3,4]) (.leaf [0,3] [0,1,2,3,4] [2,3,4])) (λu=>by kernel_rfl) (mF (c:=decide (i<(↑(ad.rn S):Int))) (λh0=>(aO L R H (mQ (l3 h0)))) (λh0=>(aO L R H (mE 0 (l4 h0)))))
abbrev Ty:=λS L R H d (z i:Int)=>(⟨[(0,ap 0),(3,.int .i64 (m6 .i64 (z+(↑(DD (aR (ah L) (ad.ro S+m5 i*1))):Int)))),(17,cA 2 (ad.ro S) (ad.rn S) (ad.rn S)),(18,aa (ad.rn S)),(19,.int .i64 (m6 .i64 (i+1)))],mf S L R H d⟩:ai)
theorem alc(S:ad)(L R H d)(z i:Int)(pH:(an H).all ag=true)(h0:0<=i)(h1:i<S.rn)(h2:S.rn<=1000000)(h3:m6 .i64 (i+1)=i+1){Q:aU}(n0:(dY (ah L) (ad.ro S+m5 i*1)))(l4:Q .normal (Ty S L R H d z i)):ao fK 46 5 (Ki.drop 2) (Tx S L R H d z i) Q:=
 aV bp 1000 (aB [0,1,1,0,1] (.leaf [0,3,17,18,19] [0,1,2,3,4] [2,3,4])) (λu=>by kernel_rfl) (mN (decide_eq_true (by omega):(decide (0<=i))=true) (mN (show(arF (m5 i) (ad.rn S))=true by simp at pH h0 h1 h2 h3⊢ <;>omega) (mN n0 (aO L R H (mQ (ao.done (by kernel_rfl) l4))))))
abbrev ald:=λS L R H d (z:Int)=>(⟨[(3,aa z),(31,aq 4 (ad.hn S)),(32,aa (ad.hn S)),(33,aa 0)],mf S L R H d⟩:ai)
abbrev ale:=λS L R H d (z:Int)=>(⟨[(0,ap 0),(3,aa z)],mf S L R H d⟩:ai)
theorem alf(S L R H d)(z:Int)(pH:(an H).all ag=true){Q:aU}(l3:ao fK 46 5 ((vt.drop 6).drop 1) (ald S L R H d z) Q):ao fK 46 5 (vt.drop 6) (ale S L R H d z) Q:=
 aV bp 1 (.leaf [3,31,32,33] [0,1,2,3,4] [2,3,4]) (λu=>by kernel_rfl) (aO L R H (mQ l3))
abbrev alg:=λS L R H d (z i:Int)=>(⟨[(3,aa z),(31,aq 4 (ad.hn S)),(32,aa (ad.hn S)),(33,aa i)],mf S L R H d⟩:ai)
abbrev alh:=λS L R H d (z i:Int)=>(⟨[(3,aa z)],mf S L R H d⟩:ai)
abbrev Tz:=λ(S:ad) L R H d (z i:Int)=>(⟨[(3,aa z),(31,aq 4 S.hn),(32,aa S.hn),(33,aa i)],mf S L R H d⟩:ai)
theorem ali(S L R H d)(z i:Int)(pH:(an H).all ag=true){Q:aU}(l3:(decide (i<(↑(ad.hn S):Int)))->ao fK 46 5 (Kh.drop 2) (alg S L R H d z i) Q)(l4:(decide (i<(↑(ad.hn S):Int)))=false->Q (.exit 2) (alh S L R H d z i)):ao fK 46 5 Kh (Tz S L R H d z i) Q:=
 aV bp 2 (.fork 0 (.leaf [3,31,32,33] [0,1,2,3,4] [2,3,4]) (.leaf [3] [0,1,2,3,4] [2,3,4])) (λu=>by kernel_rfl) (mF (c:=decide (i<(↑(ad.hn S):Int))) (λh0=>(aO L R H (mQ (l3 h0)))) (λh0=>(aO L R H (mE 2 (l4 h0)))))
abbrev TA:=λS L R H d (z i:Int)=>(⟨[(3,.int .i64 (m6 .i64 (z+(↑(DD (aR (an H) (0+m5 i*4+1+1))):Int)))),(31,aq 4 (ad.hn S)),(32,aa (ad.hn S)),(33,.int .i64 (m6 .i64 (i+1)))],mf S L R H d⟩:ai)
abbrev TB:=λS L R H d (z i:Int)=>(⟨[(3,aa z),(31,aq 4 (ad.hn S)),(32,aa (ad.hn S)),(33,.int .i64 (m6 .i64 (i+1)))],mf S L R H d⟩:ai)
theorem alj(S:ad)(L R H d)(z i:Int)(pH:(an H).all ag=true)(hH:(nG H)=S.hn)(h0:0<=i)(h1:i<S.hn)(h2:S.hn<=1000000)(h3:m6 .i64 (i+1)=i+1){Q:aU}(n0:(arM (0+m5 i*4+4) (nG (an H))))(n1:(cP Ul (an H) (0+m5 i*4)))(n2:(cP Ul (an H) (0+m5 i*4+1)))(n3:(dY (an H) (0+m5 i*4+1+1)))(n4:(pw (an H) (0+m5 i*4+1+1+1)))(l8:(ig (an H) (0+m5 i*4+1+1+1))->Q .normal (TA S L R H d z i))(l9:(ig (an H) (0+m5 i*4+1+1+1))=false->Q .normal (TB S L R H d z i)):ao fK 46 5 (Kh.drop 2) (Tz S L R H d z i) Q:=
 aV bp 1000 (aB [0,1,1,0,1,1,1,1,1] (.fork 2 (.leaf [3,31,32,33] [0,1,2,3,4] [2,3,4]) (.leaf [3,31,32,33] [0,1,2,3,4] [2,3,4]))) (λu=>by kernel_rfl) (mN (decide_eq_true (by omega):(decide (0<=i))=true) (mN (show(arF (m5 i) (ad.hn S))=true by simp at pH hH h0 h1 h2 h3⊢ <;>omega) (mN n0 (mN n1 (mN n2 (mN n3 (mN n4 (mF (c:=ig (an H) (0+m5 i*4+1+1+1)) (λh0=>(aO L R H (mQ (ao.done (by kernel_rfl) (l8 h0))))) (λh0=>(aO L R H (mQ (ao.done (by kernel_rfl) (l9 h0)))))))))))))
abbrev TC:=λS L R H d (z:Int)=>(⟨[(2,aa z)],mf S L R H d⟩:ai)
theorem alk(S L R H d)(z:Int){Q:bu}(hq:Q (.ret (aa z)) (mf S L R H d)):aG fK 30 46 5 Q .ret (TC S L R H d z):=aG.ret (vs:=[aa z]) (l:=[]) (bs:=[0,1,2,3,4]) (pl:=[2,3,4]) (q:=[ah L,ay R,an H]) (λu=>by kernel_rfl) (by kernel_rfl) (ia L R H be) hq
abbrev alm:=λS L R H d (z:Int)=>(⟨[(3,aa z)],mf S L R H d⟩:ai)
theorem aln(S L R H d)(z:Int)(pH:(an H).all ag=true){Q:aU}(l3:Q .ret (TC S L R H d z)):ao fK 46 5 (vt.drop 8) (alm S L R H d z) Q:=
 aV bp 1000 (.leaf [2] [0,1,2,3,4] [2,3,4]) (λu=>by kernel_rfl) (aO L R H (mR l3))
end
def lI:List ByteArray->Nat
 | []=>0
 |x::l=>x.size+lI l
def pR:List au->Nat
 | []=>0
 |h::l=>(if h.there then h.line.size else 0)+pR l
def MS.run(s:MS):List ByteArray:=(s.L.drop s.S.ro).take s.S.rn
def jW(s:MS):Nat:=s.S.n.toNat+lI s.run+pR s.H
theorem alo{l:List ByteArray}{m:Nat}(h:∀x∈l,x.size<=m):lI l<=m*l.length:=by
 induction l with
 |nil=>exact asb _
 |cons x l ih=>
  have h1:=h x arH
  have h2:=ih λy hy=>h y (arG _ hy)
  show x.size+lI l<=m*(l.length+1)
  rw[Nat.mul_add]
  omega
theorem TD{l:List au}(h:∀x∈l,pP x):pR l<=64*l.length:=by
 induction l with
 |nil=>exact asb _
 |cons x l ih=>
  have h1:=(h x arH).line
  have h2:=ih λy hy=>h y (arG _ hy)
  show(if x.there then x.line.size else 0)+pR l<=64*(l.length+1)
  split<;>omega
structure TE(s:MS):Prop where
 cut:js s.S
 kh:s.H.length=s.S.hn
 bR:s.H.length<=3
 ok:∀h∈s.H,pP h
 run:s.S.ro+s.S.rn<=s.L.length
 aqL:s.S.rn<=1000
 small:∀x∈s.L,x.size<=64
def TF(s:MS)(t:Nat×Int):ai:=⟨[(0,.pointer (some ⟨0,0,none⟩)),(3,.int .i64 t.2),(17,.slice (some ⟨2,s.S.ro,none⟩) s.S.rn s.S.rn),(18,.int .i64 s.S.rn),(19,iZ t.1)],aP s.S s.L s.R s.H s.d⟩
def Kj(s:MS)(t:Nat×Int):ai:=⟨[(3,.int .i64 t.2),(31,.slice (some ⟨4,0,none⟩) s.S.hn s.S.hn),(32,.int .i64 s.S.hn),(33,iZ t.1)],aP s.S s.L s.R s.H s.d⟩
theorem Kk(s:MS)(hs:TE s):aF fK 30 [.pointer (some ⟨0,0,none⟩)] (aP s.S s.L s.R s.H s.d) λr q=>r=.ret (.int .i64 (jW s))/\q=aP s.S s.L s.R s.H s.d:=by
 obtain⟨S,L,R,H,d⟩:=s
 obtain⟨hc,hH,h3,hok,jd,gE,dX⟩:=hs
 dsimp only at*
 have pH:=aZ H
 have nm:=hc.n0
 have ky:=hc.n1
 obtain⟨l,hl⟩:∃l,l=(L.drop S.ro).take S.rn:=⟨_,rfl⟩
 have oF:l.length=S.rn:=by rw[hl,List.length_take,List.length_drop];omega
 have alp:∀x∈l,x.size<=64:=λx hx=>dX x (List.mem_of_mem_drop (List.mem_of_mem_take (hl▸hx)))
 have uo:=alo alp
 have jw:=TD hok
 have hv:jW ⟨S,L,R,H,d⟩=S.n.toNat+lI l+pR H:=by rw[hl];rfl
 rw[hv]
 refine aF.dv (n:=cp fK 30) (by kernel_rfl) ?_
 apply ak8 S L R H d pH
 ·
  refine ao.eX 5 0 (by kernel_rfl) ?_
  refine ao.gu (TF ⟨S,L,R,H,d⟩) (λt=>S.rn-t.1) (λt=>t.1<=S.rn/\0<=t.2/\t.2+lI (l.drop t.1)=S.n+lI l) (0,S.n) (by kernel_rfl) ⟨asb _,nm,by simp⟩ ?_
  rintro⟨i,z⟩ ⟨h1,h2,h4⟩
  dsimp only at h1 h2 h4
  apply alb S L R H d z i pH
  case l3=>
   intro g
   have g:=of_decide_eq_true g
   have hi:i<S.rn:=by omega
   have qZ:i<l.length:=by omega
   have hd:l.drop i=l[i]::l.drop (i+1):=List.drop_eq_getElem_cons qZ
   have hx:L[S.ro+i]?=some l[i]:=by
    have:l[i]?=some l[i]:=KH qZ
    rw[<-this,hl,List.getElem?_take,if_pos hi,List.getElem?_drop]
   have Kl:S.ro+i<L.length:=by omega
   have he:aR (ah L) (S.ro+m5 (i:Int)*1)=l[i]:=by
    rw[show S.ro+m5 (i:Int)*1=S.ro+i by simp,yT Kl]
    rw[KH Kl]at hx
    exact atZ hx
   rw[hd]at h4
   have h4:z+((l[i].size+lI (l.drop (i+1)):Nat):Int)=S.n+lI l:=h4
   apply alc S L R H d z i pH (by omega) g (by omega) (bK (by omega) (by omega))
   case n0=>rw[show S.ro+m5 (i:Int)*1=S.ro+i by simp];exact uG Kl
   case l4=>
    refine QL.to (i+1,z+l[i].size) ⟨hi,by dsimp only;omega,by dsimp only;omega⟩ (by dsimp only;omega) ?_
    unfold Ty TF
    rw[he,bK (z:=z+(l[i].size:Int)) (by omega) (by omega),fP (by omega)]
    rfl
  case l4=>
   intro g
   have g:=of_decide_eq_false g
   rw[as7 (by omega)]at h4
   have h4:z+((0:Nat):Int)=S.n+lI l:=h4
   with_reducible (repeat first|refine QL.ret ?_|refine QL.exit ?_|refine QB.ret ?_|refine QB.cw ?_|refine QB.normal ?_|refine QB.cJ (by rfl) ?_)
   apply alf S L R H d z pH
   ·
    rw[List.drop_drop]
    refine ao.eX 7 2 (by kernel_rfl) ?_
    refine ao.gu (Kj ⟨S,L,R,H,d⟩) (λt=>S.hn-t.1) (λt=>t.1<=S.hn/\0<=t.2/\t.2+pR (H.drop t.1)=S.n+lI l+pR H) (0,z) (by kernel_rfl) ⟨asb _,h2,by simp;omega⟩ ?_
    clear h4 h2 g h1
    rintro⟨j,y⟩ ⟨h1,h2,h4⟩
    dsimp only at h1 h2 h4
    apply ali S L R H d y j pH
    case l4=>
     intro g
     have g:=of_decide_eq_false g
     rw[as7 (by omega)]at h4
     have h4:y+((0:Nat):Int)=S.n+lI l+pR H:=h4
     with_reducible (repeat first|refine QL.ret ?_|refine QL.exit ?_|refine QB.ret ?_|refine QB.cw ?_|refine QB.normal ?_|refine QB.cJ (by rfl) ?_)
     apply aln S L R H d y pH
     ·exact alk S L R H d y ⟨by rw[show y=((S.n.toNat+lI l+pR H:Nat):Int)by omega],rfl⟩
    case l3=>
     intro g
     have g:=of_decide_eq_true g
     have hj:j<H.length:=by omega
     obtain⟨n0,n1,n2,n3,n4,xb,xs,Sb,n5⟩:=rowAt hj
     rw[Jt hj]at h4
     have h4:y+(((if(aK H j).there then(aK H j).line.size else 0)+pR (H.drop (j+1)):Nat):Int)=S.n+lI l+pR H:=h4
     apply alj S L R H d y j pH hH (by omega) g (by omega) (bK (by omega) (by omega)) n0 n1 n2 n3 n4
     case l8=>
      intro gb
      rw[xb]at gb
      rw[if_pos gb]at h4
      refine QL.to (j+1,y+(aK H j).line.size) ⟨by dsimp only;omega,by dsimp only;omega,by dsimp only;omega⟩ (by dsimp only;omega) ?_
      unfold TA Kj
      rw[xs,bK (z:=y+((aK H j).line.size:Int)) (by omega) (by omega),fP (by omega)]
      rfl
     case l9=>
      intro gb
      rw[xb]at gb
      rw[if_neg (by rw[gb];simp)]at h4
      refine QL.to (j+1,y) ⟨by dsimp only;omega,h2,by dsimp only;omega⟩ (by dsimp only;omega) ?_
      unfold TB Kj
      rw[fP (by omega)]
      rfl
structure aX where
 bytes:ByteArray
 ended:Bool
 code:Int
 kK:Int
 id:Int
def mg(o:ByteArray)(nd er hd t:Int):List Value:=[.string o,.string KI,.string KI,.string KI,.int .i64 nd,.int .i64 er,.int .i64 hd,.int .i64 t,.int .i64 0,.int .i64 0,.int .i64 0,.bool false]
def mh(w:Bool):List Value:=[.bool w,.bool false,.bool false,.bool false]
def jM:List Value:=mg KI 0 0 0 0
def fT(S:ad):Int:=if S.bi then -1 else if S.more then -2 else S.at_
noncomputable section
def zN:List ar3:=a7 (dI fK 13)
open Tree renaming aQ->mN,dE->mF,fj->mL
end
end Go.Proofs.YtnlkkgpcikkpoaaGreat
