/- Part of the proof: Zpv, Zpx, Zpy, Zqa, Zqb, Zqc, Zqd. -/
import Derived.Test.YtnlkkgpcikkpoaaGreatJAk
import Derived.KernelRfl
open Array renaming toList→apO
open ByteArray renaming data→apH,empty→apj,size→apk
open Decidable renaming not_not→aq2
open Go renaming Code→apV,FuncId→apQ
open Go.Addr renaming mk→asO
open Go.IntKind renaming i64→apr,u8→apA,wrap→apc
open Go.Proofs.Tryz renaming prog→av9
open Go.Value renaming int→apm,oneCell'→aqg,pointer→aqo
open Int renaming toNat→apd
open List renaming all→aph,drop_of_length_le→aqU,getElem?_eq_getElem→apl,length→apb,length_cons→ap1,length_set→aqK,map→apS,mem_cons_of_mem→apB,mem_cons_self→apC,mem_singleton→aqd,take→apE
open Nat renaming beq→apw,ble→apG,blt→apy,zero_le→ap7
open Option.some renaming inj→asC
open UInt8 renaming toNat→apT
set_option linter.unusedVariables false
set_option linter.unusedSimpArgs false
set_option maxRecDepth 100000
namespace Go.Proofs.YtnlkkgpcikkpoaaGreat
open Go Vm Go.RowKit
noncomputable section
def ah0(S:ad)(L:List ByteArray)(R:List Int)(H:List au)(d:ay)(b:ByteArray)(S1:ad)(M:List ByteArray)(e:Int)(T:ad)(K:List ByteArray)(Rr:List Int)(dd:ay)(f:Int):List (apQ×Sum):=[(46,Sum.one (fun _ _=>some [0,1,6,7,8,5]) [.pointer (some ⟨0,3,none⟩),ah 5 b.size] (aO S.z L R H d++[ab (ai b) 5]) (.ret (.tuple #[ah 6 M.length,aa e])) (aO S1.z L R H d++[ab (ai b) 5,ab (ap M) 9])),(47,Sum.one (fun _ _=>some [0,1,6,7,8,9]) [ao 0,ah 5 M.length] (aO S1.z L R H d++[ab (ap M) 9]) (.ret (aa f)) (nW (ab (ap M) 9) T.z K Rr H dd)),(71,Sum.dq av9 yR)]
theorem ah1(S:ad)(L:List ByteArray)(R:List Int)(H:List au)(d:ay)(b:ByteArray)(S1:ad)(M:List ByteArray)(e:Int)(T:ad)(K:List ByteArray)(Rr:List Int)(dd:ay)(f:Int)(sL:aE av9 46 [.pointer (some ⟨0,3,none⟩),ah 5 b.size] (aO S.z L R H d++[ab (ai b) 5]) fun r q=>r=.ret (.tuple #[ah 6 (apb M),aa e])∧q=aO S1.z L R H d++[ab (ai b) 5,ab (ap M) 9])(nX:aE av9 47 [ao 0,ah 5 (apb M)] (aO S1.z L R H d++[ab (ap M) 9]) fun r q=>r=.ret (aa f)∧q=nW (ab (ap M) 9) T.z K Rr H dd):dw av9 (dM av9 (dN (ah0 S L R H d b S1 M e T K Rr dd f)) 50 40):=dR du mixed (ed (.cons (bp.one sL) (.cons (bp.one nX) (.cons HN .nil)))) 50 40
def ah2(S:ad)(L:List ByteArray)(R:List Int)(H:List au)(d:ay)(T:ad)(K:List ByteArray)(Rr:List Int)(G:List au)(dd:ay)(e:Int)(U:ad)(d3:ay)(f:Int):List (apQ×Sum):=[(50,Sum.one (fun _ _=>some [0,1,2,3,4]) [ao 0] (aO S.z L R H d) (.ret (aa e)) (jm T.z K Rr G dd)),(51,Sum.one (fun _ _=>some [0,1,5,6,7]) [ao 0] (aO T.z K Rr G dd) (.ret (aa f)) (aO U.z K Rr G d3)),(71,Sum.dq av9 yR)]
theorem ah3(S:ad)(L:List ByteArray)(R:List Int)(H:List au)(d:ay)(T:ad)(K:List ByteArray)(Rr:List Int)(G:List au)(dd:ay)(e:Int)(U:ad)(d3:ay)(f:Int)(kj:aE av9 50 [ao 0] (aO S.z L R H d) fun r q=>r=.ret (aa e)∧q=jm T.z K Rr G dd)(ix:aE av9 51 [ao 0] (aO T.z K Rr G dd) fun r q=>r=.ret (aa f)∧q=aO U.z K Rr G d3):dw av9 (dM av9 (dN (ah2 S L R H d T K Rr G dd e U d3 f)) 50 40):=dR du mixed (ed (.cons (bp.one kj) (.cons (bp.one ix) (.cons HN .nil)))) 50 40
def ah4(S:ad)(L:List ByteArray)(R:List Int)(H:List au)(d:ay)(k:Nat)(e:Int)(G:List au)(dd:ay):List (apQ×Sum):=[(54,Sum.one (fun _ _=>some [0,1,2,3,4]) [ao 0,.pointer (some ⟨4,k*4,none⟩)] (aO S L R H d) (.ret (aa e)) (aO S L R G dd))]
theorem ah5(S:ad)(L:List ByteArray)(R:List Int)(H:List au)(d:ay)(k:Nat)(e:Int)(G:List au)(dd:ay)(gd:aE av9 54 [ao 0,.pointer (some ⟨4,k*4,none⟩)] (aO S L R H d) fun r q=>r=.ret (aa e)∧q=aO S L R G dd):dw av9 (dM av9 (dN (ah4 S L R H d k e G dd)) 50 40):=dR du mixed (ed (.cons (bp.one gd) .nil)) 50 40
def ah6(S:ad)(L:List ByteArray)(R:List Int)(H:List au)(d:ay)(U:ad)(d3:ay)(f:Int):List (apQ×Sum):=[(51,Sum.one (fun _ _=>some [0,1,2,3,4]) [ao 0] (aO S L R H d) (.ret (aa f)) (aO U L R H d3)),(71,Sum.dq av9 yR)]
theorem ah7(S:ad)(L:List ByteArray)(R:List Int)(H:List au)(d:ay)(U:ad)(d3:ay)(f:Int)(ix:aE av9 51 [ao 0] (aO S L R H d) fun r q=>r=.ret (aa f)∧q=aO U L R H d3):dw av9 (dM av9 (dN (ah6 S L R H d U d3 f)) 50 40):=dR du mixed (ed (.cons (bp.one ix) (.cons HN .nil))) 50 40
noncomputable def ah8:List apV:=aY (dz av9 27)
noncomputable def ah9:List apV:=aY (dz av9 28)
noncomputable def sM:List apV:=aY (dz av9 29)
open Tree renaming aN→mN,dj→mF,eT→mL,fz→mQ,dB→mR,fH→mE
noncomputable abbrev fg:List apV:=(aY (pF false (sM.drop 9)))
noncomputable abbrev aia:List apV:=(aY (pF true (sM.drop 9)))
def RL:Nat→Bool→Bool→Tree→Tree
 |0,_,_,t=>t
 |n+1,d,b,t=>.cD d b (RL n d b t)
theorem eV{R:bd→aj→Prop}{c v:Bool}{t:Tree}(n:Nat)(h1:c=v)(h2:t.ok R):(RL n c v t).ok R:=by
 induction n with
 |zero=>exact h2
 |succ n ih=>exact⟨h1,ih⟩
abbrev CB:=fun H b T K Rr dd=>([ab (aJ (ad.mk (ad.at_ T) (ad.more T) true (ad.B (ad.z T)) (ad.n T) (ad.failed T) (ad.aB T) 0 (ad.rn T) (ad.bH T) (ad.sn T) (ad.hn T) (ad.ee T) (ay.raw dd) (ad.closed T)) 1 6 7 8) 89,.abs dd,.dead,.dead,.dead,ab (ai b) 5,ab (ap K) 9,ab (aq Rr) 3,ab (ak H) 114]:List ag)
abbrev RM:=fun(S:ad) (L:List ByteArray) (R:List Int) H (d:ay) b (S1:ad) (M:List ByteArray) (e:Int) T K Rr dd (f:Int)=>(⟨[(6,b8),(7,aa f)],CB H b T K Rr dd⟩:aj)
theorem aib(S L R H d b S1 M)(e:Int)(T K Rr dd)(f:Int){Q:bg}(aR:aph (ai b) af=true)(be:aph (ak H) af=true)(hq:Q (.ret (.tuple #[b8,aa f])) (CB H b T K Rr dd)):aF av9 27 44 6 Q .ret (RM S L R H d b S1 M e T K Rr dd f):=aF.ret (vs:=[b8,aa f]) (l:=[]) (bs:=[0,1,2,3,4,5,6,7,8]) (pl:=[5,6,7,8]) (q:=[ai b,ap K,aq Rr,ak H]) (fun u=>by kernel_rfl) (by kernel_rfl) (aC aR (aC (by simp) (aC (by simp) (aC be bc)))) hq
abbrev CC:=fun H b T K Rr dd=>([ab (aJ (ad.mk (ad.at_ T) (ad.more T) true (ad.B (ad.z T)) (ad.n T) (ad.failed T) (ad.aB T) 0 (ad.rn T) (ad.bH T) (ad.sn T) (ad.hn T) (ad.ee T) (ad.raw T) (ad.closed T)) 1 6 7 8) 89,.abs dd,.dead,.dead,.dead,ab (ai b) 5,ab (ap K) 9,ab (aq Rr) 3,ab (ak H) 114]:List ag)
abbrev RN:=fun(S:ad) (L:List ByteArray) (R:List Int) H (d:ay) b (S1:ad) (M:List ByteArray) (e:Int) T K Rr dd (f:Int)=>(⟨[(6,b8),(7,aa f)],CC H b T K Rr dd⟩:aj)
theorem aic(S L R H d b S1 M)(e:Int)(T K Rr dd)(f:Int){Q:bg}(aR:aph (ai b) af=true)(be:aph (ak H) af=true)(hq:Q (.ret (.tuple #[b8,aa f])) (CC H b T K Rr dd)):aF av9 27 44 6 Q .ret (RN S L R H d b S1 M e T K Rr dd f):=aF.ret (vs:=[b8,aa f]) (l:=[]) (bs:=[0,1,2,3,4,5,6,7,8]) (pl:=[5,6,7,8]) (q:=[ai b,ap K,aq Rr,ak H]) (fun u=>by kernel_rfl) (by kernel_rfl) (aC aR (aC (by simp) (aC (by simp) (aC be bc)))) hq
abbrev RO:=fun(S:ad) (L:List ByteArray) (R:List Int) H (d:ay) b (S1:ad) (M:List ByteArray) (e:Int) T K Rr dd (f:Int)=>(⟨[(6,b8),(7,aa e)],CB H b T K Rr dd⟩:aj)
theorem aid(S L R H d b S1 M)(e:Int)(T K Rr dd)(f:Int){Q:bg}(aR:aph (ai b) af=true)(be:aph (ak H) af=true)(hq:Q (.ret (.tuple #[b8,aa e])) (CB H b T K Rr dd)):aF av9 27 44 6 Q .ret (RO S L R H d b S1 M e T K Rr dd f):=aF.ret (vs:=[b8,aa e]) (l:=[]) (bs:=[0,1,2,3,4,5,6,7,8]) (pl:=[5,6,7,8]) (q:=[ai b,ap K,aq Rr,ak H]) (fun u=>by kernel_rfl) (by kernel_rfl) (aC aR (aC (by simp) (aC (by simp) (aC be bc)))) hq
abbrev RP:=fun(S:ad) (L:List ByteArray) (R:List Int) H (d:ay) b (S1:ad) (M:List ByteArray) (e:Int) T K Rr dd (f:Int)=>(⟨[(6,b8),(7,aa e)],CC H b T K Rr dd⟩:aj)
theorem aie(S L R H d b S1 M)(e:Int)(T K Rr dd)(f:Int){Q:bg}(aR:aph (ai b) af=true)(be:aph (ak H) af=true)(hq:Q (.ret (.tuple #[b8,aa e])) (CC H b T K Rr dd)):aF av9 27 44 6 Q .ret (RP S L R H d b S1 M e T K Rr dd f):=aF.ret (vs:=[b8,aa e]) (l:=[]) (bs:=[0,1,2,3,4,5,6,7,8]) (pl:=[5,6,7,8]) (q:=[ai b,ap K,aq Rr,ak H]) (fun u=>by kernel_rfl) (by kernel_rfl) (aC aR (aC (by simp) (aC (by simp) (aC be bc)))) hq
abbrev I6:=fun(S:ad) (L:List ByteArray) (R:List Int) H (d:ay) b (S1:ad) (M:List ByteArray) (e:Int) T K Rr dd (f:Int)=>(⟨[(6,b8),(7,aa 0)],[ab (aJ (ad.z T) 1 6 7 8) 89,.abs dd,.dead,.dead,.dead,ab (ai b) 5,ab (ap K) 9,ab (aq Rr) 3,ab (ak H) 114]⟩:aj)
theorem aif(S L R H d b S1 M)(e:Int)(T K Rr dd)(f:Int){Q:bg}(aR:aph (ai b) af=true)(be:aph (ak H) af=true)(hq:Q (.ret (.tuple #[b8,aa 0])) (I6 S L R H d b S1 M e T K Rr dd f).objs):aF av9 27 44 6 Q .ret (I6 S L R H d b S1 M e T K Rr dd f):=aF.ret (vs:=[b8,aa 0]) (l:=[]) (bs:=[0,1,2,3,4,5,6,7,8]) (pl:=[5,6,7,8]) (q:=[ai b,ap K,aq Rr,ak H]) (fun u=>by kernel_rfl) (by kernel_rfl) (aC aR (aC (by simp) (aC (by simp) (aC be bc)))) hq
abbrev aih:=fun(S:ad) L R H d (b:ByteArray) (S1:ad) (M:List ByteArray) (e:Int) (T:ad) (K:List ByteArray) (Rr:List Int) (dd:ay) (f:Int)=>(⟨[(0,ao 0),(1,aa 0),(2,ah 5 b.size)],[ab (aJ S.z 1 6 7 8) 89,.abs d,.dead,.dead,.dead,ab (ai b) 5,ab (ap L) 9,ab (aq R) 3,ab (ak H) 114]⟩:aj)
theorem aii(S:ad)(L R H d)(b:ByteArray)(S1:ad)(M)(e:Int)(T:ad)(K Rr dd)(f:Int)(pH:(ak H).all af=true)(sL:aE av9 46 [.pointer (some ⟨0,3,none⟩),ah 5 b.size] (aO S.z L R H d++[ab (ai b) 5]) fun r q=>r=.ret (.tuple #[ah 6 (apb M),aa e])∧q=aO S1.z L R H d++[ab (ai b) 5,ab (ap M) 9])(nX:aE av9 47 [ao 0,ah 5 (apb M)] (aO S1.z L R H d++[ab (ap M) 9]) fun r q=>r=.ret (aa f)∧q=nW (ab (ap M) 9) T.z K Rr H dd)(h0:S.bq=false)(h1:S.more=false)(h2:S.at_=0)(h3:0<b.size)(h4:b.size≤32){Q:aQ}(n0:(eD [aqo (some (asO 0 3 none)),ah 5 b.size] [aqo (some (asO 0 3 none)),ah 5 b.size] [ab (aJ (ad.z S) 1 2 3 4) 89,ag.abs d,ab (ap L) 9,ab (aq R) 3,ab (ak H) 114,ab (ai b) 5] (aO (ad.z S) L R H d++[ab (ai b) 5]))=true)(n1:(eD [ao 0,ah 5 (apb M)] [ao 0,ah 5 (apb M)] [ab (aJ (ad.z S1) 1 2 3 4) 89,ag.abs d,ab (ap L) 9,ab (aq R) 3,ab (ak H) 114,ab (ap M) 9] (aO (ad.z S1) L R H d++[ab (ap M) 9]))=true)(aR:aph (ai b) af=true)(be:aph (ak H) af=true)(l4:(f != 0)=true→(f==25)=true→Q .ret (RM S L R H d b S1 M e T K Rr dd f))(l5:(f != 0)=true→(f==25)=false→Q .ret (RN S L R H d b S1 M e T K Rr dd f))(l6:(f != 0)=false→(e != 0)=true→(e==25)=true→Q .ret (RO S L R H d b S1 M e T K Rr dd f))(l7:(f != 0)=false→(e != 0)=true→(e==25)=false→Q .ret (RP S L R H d b S1 M e T K Rr dd f))(l8:(f != 0)=false→(e != 0)=false→Q .ret (I6 S L R H d b S1 M e T K Rr dd f)):an av9 44 6 ah8 (aih S L R H d b S1 M e T K Rr dd f) Q:=
 aS (ah1 S L R H d b S1 M e T K Rr dd f sL nX) 1000 (aA [8,2,0,0,0,0,2,0,0,4,0,2,0,0,5,1,1,1,1,1,1,1,1,1,3,1,1,1,1,1,1,1,1] (.fork 0 (.fork 1 (.leaf [6,7] [0,1,2,3,4,5,10,11,12] [5,10,11,12]) (.leaf [6,7] [0,1,2,3,4,5,10,11,12] [5,10,11,12])) (.fork 0 (.fork 1 (.leaf [6,7] [0,1,2,3,4,5,10,11,12] [5,10,11,12]) (.leaf [6,7] [0,1,2,3,4,5,10,11,12] [5,10,11,12])) (.leaf [6,7] [0,1,2,3,4,5,10,11,12] [5,10,11,12])))) (fun u=>by kernel_rfl) (mN (show(ad.bq S)=false by assumption) (eV 7 (show(ad.more S)=false by assumption) (mN (show(0 != ad.at_ S)=false by simp at pH sL nX h0 h1 h2 h3 h4⊢ <;>omega) (eV 4 (decide_eq_false (by omega):((b.size:Int)==0)=false) (mN (decide_eq_false (by omega):(decide ((b.size:Int)>32))=false) (aM L R H (mN (aH b) (mN n0 (aM L R H (mN (aH b) (mN (aZ M) (aM L R H (mN (aZ M) (mN n1 (mN (aZ M) (mN (aZ K) (mN (aG Rr) (mN (aU H) (mF (c:=f != 0) (fun h0=>(mF (c:=f==25) (fun h1=>(mN (aH b) (mN (aZ K) (mN (aG Rr) (mN (aU H) (mR (l4 h0 h1))))))) (fun h1=>(mN (aH b) (mN (aZ K) (mN (aG Rr) (mN (aU H) (mR (l5 h0 h1))))))))) (fun h0=>(mF (c:=e != 0) (fun h1=>(mF (c:=e==25) (fun h2=>(mN (aH b) (mN (aZ K) (mN (aG Rr) (mN (aU H) (mR (l6 h0 h1 h2))))))) (fun h2=>(mN (aH b) (mN (aZ K) (mN (aG Rr) (mN (aU H) (mR (l7 h0 h1 h2))))))))) (fun h1=>(mN (aH b) (mN (aZ K) (mN (aG Rr) (mN (aU H) (mR (l8 h0 h1))))))))))))))))))))))))))))
abbrev RQ:=fun T K Rr G dd=>([ab (aJ (ad.mk (ad.at_ T) (ad.more T) true (ad.B (ad.z T)) (ad.n T) (ad.failed T) (ad.aB T) 0 (ad.rn T) (ad.bH T) (ad.sn T) (ad.hn T) (ad.ee T) (ay.raw dd) (ad.closed T)) 1 5 6 7) 89,.abs dd,.dead,.dead,.dead,ab (ap K) 9,ab (aq Rr) 3,ab (ak G) 114]:List ag)
abbrev RS:=fun(S:ad) (L:List ByteArray) (R:List Int) (H:List au) (d:ay) T K Rr G dd (e:Int) (U:ad) (d3:ay) (f:Int)=>(⟨[(4,b8),(5,aa e)],RQ T K Rr G dd⟩:aj)
theorem aij(S L R H d T K Rr G dd)(e:Int)(U d3)(f:Int){Q:bg}(hq:Q (.ret (.tuple #[b8,aa e])) (RQ T K Rr G dd)):aF av9 28 33 5 Q .ret (RS S L R H d T K Rr G dd e U d3 f):=aF.ret (vs:=[b8,aa e]) (l:=[]) (bs:=[0,1,2,3,4,5,6,7]) (pl:=[5,6,7]) (q:=[ap K,aq Rr,ak G]) (fun u=>by kernel_rfl) (by kernel_rfl) (aC (by simp) (aC (by simp) (aC (by simp) bc))) hq
abbrev RU:=fun T K Rr G dd=>([ab (aJ (ad.mk (ad.at_ T) (ad.more T) true (ad.B (ad.z T)) (ad.n T) (ad.failed T) (ad.aB T) 0 (ad.rn T) (ad.bH T) (ad.sn T) (ad.hn T) (ad.ee T) (ad.raw T) (ad.closed T)) 1 5 6 7) 89,.abs dd,.dead,.dead,.dead,ab (ap K) 9,ab (aq Rr) 3,ab (ak G) 114]:List ag)
abbrev RV:=fun(S:ad) (L:List ByteArray) (R:List Int) (H:List au) (d:ay) T K Rr G dd (e:Int) (U:ad) (d3:ay) (f:Int)=>(⟨[(4,b8),(5,aa e)],RU T K Rr G dd⟩:aj)
theorem aik(S L R H d T K Rr G dd)(e:Int)(U d3)(f:Int){Q:bg}(hq:Q (.ret (.tuple #[b8,aa e])) (RU T K Rr G dd)):aF av9 28 33 5 Q .ret (RV S L R H d T K Rr G dd e U d3 f):=aF.ret (vs:=[b8,aa e]) (l:=[]) (bs:=[0,1,2,3,4,5,6,7]) (pl:=[5,6,7]) (q:=[ap K,aq Rr,ak G]) (fun u=>by kernel_rfl) (by kernel_rfl) (aC (by simp) (aC (by simp) (aC (by simp) bc))) hq
abbrev RW:=fun K Rr G U d3=>([ab (aJ (ad.mk (ad.at_ U) (ad.more U) true (ad.B (ad.z U)) (ad.n U) (ad.failed U) (ad.aB U) 0 (ad.rn U) (ad.bH U) (ad.sn U) (ad.hn U) (ad.ee U) (ay.raw d3) (ad.closed U)) 1 5 6 7) 89,.abs d3,.dead,.dead,.dead,ab (ap K) 9,ab (aq Rr) 3,ab (ak G) 114]:List ag)
abbrev RX:=fun(S:ad) (L:List ByteArray) (R:List Int) (H:List au) (d:ay) (T:ad) K Rr G (dd:ay) (e:Int) U d3 (f:Int)=>(⟨[(4,b8),(5,aa f)],RW K Rr G U d3⟩:aj)
theorem ail(S L R H d T K Rr G dd)(e:Int)(U d3)(f:Int){Q:bg}(hq:Q (.ret (.tuple #[b8,aa f])) (RW K Rr G U d3)):aF av9 28 33 5 Q .ret (RX S L R H d T K Rr G dd e U d3 f):=aF.ret (vs:=[b8,aa f]) (l:=[]) (bs:=[0,1,2,3,4,5,6,7]) (pl:=[5,6,7]) (q:=[ap K,aq Rr,ak G]) (fun u=>by kernel_rfl) (by kernel_rfl) (aC (by simp) (aC (by simp) (aC (by simp) bc))) hq
abbrev RY:=fun K Rr G U d3=>([ab (aJ (ad.mk (ad.at_ U) (ad.more U) true (ad.B (ad.z U)) (ad.n U) (ad.failed U) (ad.aB U) 0 (ad.rn U) (ad.bH U) (ad.sn U) (ad.hn U) (ad.ee U) (ad.raw U) (ad.closed U)) 1 5 6 7) 89,.abs d3,.dead,.dead,.dead,ab (ap K) 9,ab (aq Rr) 3,ab (ak G) 114]:List ag)
abbrev RZ:=fun(S:ad) (L:List ByteArray) (R:List Int) (H:List au) (d:ay) (T:ad) K Rr G (dd:ay) (e:Int) U d3 (f:Int)=>(⟨[(4,b8),(5,aa f)],RY K Rr G U d3⟩:aj)
theorem aim(S L R H d T K Rr G dd)(e:Int)(U d3)(f:Int){Q:bg}(hq:Q (.ret (.tuple #[b8,aa f])) (RY K Rr G U d3)):aF av9 28 33 5 Q .ret (RZ S L R H d T K Rr G dd e U d3 f):=aF.ret (vs:=[b8,aa f]) (l:=[]) (bs:=[0,1,2,3,4,5,6,7]) (pl:=[5,6,7]) (q:=[ap K,aq Rr,ak G]) (fun u=>by kernel_rfl) (by kernel_rfl) (aC (by simp) (aC (by simp) (aC (by simp) bc))) hq
abbrev I7:=fun(S:ad) (L:List ByteArray) (R:List Int) (H:List au) (d:ay) (T:ad) K Rr G (dd:ay) (e:Int) U d3 (f:Int)=>(⟨[(4,b8),(5,aa 0)],[ab (aJ (ad.z U) 1 5 6 7) 89,.abs d3,.dead,.dead,.dead,ab (ap K) 9,ab (aq Rr) 3,ab (ak G) 114]⟩:aj)
theorem ain(S L R H d T K Rr G dd)(e:Int)(U d3)(f:Int){Q:bg}(hq:Q (.ret (.tuple #[b8,aa 0])) (I7 S L R H d T K Rr G dd e U d3 f).objs):aF av9 28 33 5 Q .ret (I7 S L R H d T K Rr G dd e U d3 f):=aF.ret (vs:=[b8,aa 0]) (l:=[]) (bs:=[0,1,2,3,4,5,6,7]) (pl:=[5,6,7]) (q:=[ap K,aq Rr,ak G]) (fun u=>by kernel_rfl) (by kernel_rfl) (aC (by simp) (aC (by simp) (aC (by simp) bc))) hq
abbrev aio:=fun(S:ad) L R H d (T:ad) (K:List ByteArray) (Rr:List Int) (G:List au) (dd:ay) (e:Int) (U:ad) (d3:ay) (f:Int)=>(⟨[(0,ao 0),(1,aa 0)],[ab (aJ S.z 1 2 3 4) 89,.abs d,ab (ap L) 9,ab (aq R) 3,ab (ak H) 114]⟩:aj)
theorem aip(S:ad)(L R H d)(T:ad)(K Rr G dd)(e:Int)(U:ad)(d3)(f:Int)(pH:(ak H).all af=true)(pG:(ak G).all af=true)(kj:aE av9 50 [ao 0] (aO S.z L R H d) fun r q=>r=.ret (aa e)∧q=jm T.z K Rr G dd)(ix:aE av9 51 [ao 0] (aO T.z K Rr G dd) fun r q=>r=.ret (aa f)∧q=aO U.z K Rr G d3)(h0:S.bq=false)(h1:S.more=false)(h2:S.at_=0){Q:aQ}(n0:(eD [ao 0] [ao 0] [ab (aJ (ad.z S) 1 2 3 4) 89,ag.abs d,ab (ap L) 9,ab (aq R) 3,ab (ak H) 114] (aO (ad.z S) L R H d))=true)(l1:(e != 0)=true→(e==25)=true→Q .ret (RS S L R H d T K Rr G dd e U d3 f))(l2:(e != 0)=true→(e==25)=false→Q .ret (RV S L R H d T K Rr G dd e U d3 f))(n3:(e != 0)=false→(eD [ao 0] [ao 0] [ab (aJ (ad.z T) 1 2 3 4) 89,ag.abs dd,ab (ap K) 9,ab (aq Rr) 3,ab (ak G) 114] (aO (ad.z T) K Rr G dd))=true)(l4:(e != 0)=false→(f != 0)=true→(f==25)=true→Q .ret (RX S L R H d T K Rr G dd e U d3 f))(l5:(e != 0)=false→(f != 0)=true→(f==25)=false→Q .ret (RZ S L R H d T K Rr G dd e U d3 f))(l6:(e != 0)=false→(f != 0)=false→Q .ret (I7 S L R H d T K Rr G dd e U d3 f)):an av9 33 5 ah9 (aio S L R H d T K Rr G dd e U d3 f) Q:=
 aS (ah3 S L R H d T K Rr G dd e U d3 f kj ix) 1000 (aA [6,2,0,0,0,0,2,0,0,5,1,1,1,1,1,1] (.fork 0 (.fork 1 (.leaf [4,5] [0,1,2,3,4,5,6,7] [5,6,7]) (.leaf [4,5] [0,1,2,3,4,5,6,7] [5,6,7])) (aA [3,1,1,1,1,1,1] (.fork 0 (.fork 1 (.leaf [4,5] [0,1,2,3,4,5,6,7] [5,6,7]) (.leaf [4,5] [0,1,2,3,4,5,6,7] [5,6,7])) (.leaf [4,5] [0,1,2,3,4,5,6,7] [5,6,7]))))) (fun u=>by kernel_rfl) (mN (show(ad.bq S)=false by assumption) (eV 7 (show(ad.more S)=false by assumption) (mN (show(0 != ad.at_ S)=false by simp at pH pG kj ix h0 h1 h2⊢ <;>omega) (aM L R H (mN n0 (mN (aZ K) (mN (aG Rr) (mN (aU G) (mF (c:=e != 0) (fun h0=>(mF (c:=e==25) (fun h1=>(mN (aZ K) (mN (aG Rr) (mN (aU G) (mR (l1 h0 h1)))))) (fun h1=>(mN (aZ K) (mN (aG Rr) (mN (aU G) (mR (l2 h0 h1)))))))) (fun h0=>(mN (aZ K) (mN (aG Rr) (mN (aU G) (mN (n3 h0) (mN (aZ K) (mN (aG Rr) (mN (aU G) (mF (c:=f != 0) (fun h1=>(mF (c:=f==25) (fun h2=>(mN (aZ K) (mN (aG Rr) (mN (aU G) (mR (l4 h0 h1 h2)))))) (fun h2=>(mN (aZ K) (mN (aG Rr) (mN (aU G) (mR (l5 h0 h1 h2)))))))) (fun h1=>(mN (aZ K) (mN (aG Rr) (mN (aU G) (mR (l6 h0 h1))))))))))))))))))))))))
abbrev wI:=fun S L R H d=>([ab (aJ S 1 2 3 4) 89,.abs d,ab (ap L) 9,ab (aq R) 3,ab (ak H) 114]:List ag)
abbrev aiq:=fun S L R H d=>(⟨[(0,ao 0),(6,aa 0),(22,.bool (decide ((↑(ad.rn S):Int)>0)))],wI S L R H d⟩:aj)
abbrev R1:=fun S L R H d=>(⟨[(0,ao 0)],wI S L R H d⟩:aj)
theorem air(S:ad)(L R H d)(pH:(ak H).all af=true)(h0:S.bq=false)(h1:S.more=true)(h2:0<S.rn){Q:aQ}(aR:aph (ap L) af=true)(be:aph (aq R) af=true)(bB:aph (ak H) af=true)(l3:an av9 68 5 (sM.drop 9) (aiq S L R H d) Q):an av9 68 5 sM (R1 S L R H d) Q:=
 aS bo 9 (aA [6,2] (.leaf [0,6,22] [0,1,2,3,4] [2,3,4])) (fun u=>by kernel_rfl) (mN (show(ad.bq S)=false by assumption) (mN (show(!ad.more S)=false by simp at pH h0 h1 h2⊢ <;>omega) (aM L R H (mQ l3))))
abbrev ais:=fun S L R H d=>(⟨[(0,ao 0),(6,aa 0),(22,.bool (decide ((↑(ad.rn S):Int)>0)))],wI S L R H d⟩:aj)
theorem ait(S:ad)(L R H d)(pH:(ak H).all af=true)(h0:S.bq=false)(h1:S.more=true)(h2:S.rn=0){Q:aQ}(aR:aph (ap L) af=true)(be:aph (aq R) af=true)(bB:aph (ak H) af=true)(l3:an av9 68 5 (sM.drop 9) (ais S L R H d) Q):an av9 68 5 sM (R1 S L R H d) Q:=
 aS bo 9 (aA [6,2] (.leaf [0,6,22] [0,1,2,3,4] [2,3,4])) (fun u=>by kernel_rfl) (mN (show(ad.bq S)=false by assumption) (mN (show(!ad.more S)=false by simp at pH h0 h1 h2⊢ <;>omega) (aM L R H (mQ l3))))
abbrev R3:=fun S L R H d=>(⟨[(0,ao 0),(5,.string (aX (ap L) (ad.ro S+0))),(6,aa 0)],[ab (aJ (ad.mk (ad.at_ S) (ad.more S) (ad.bq S) (ad.B S) (ad.n S) (ad.failed S) (ad.aB S) (ad.ro S+1) (ad.rn S-1) (ad.bH S) (ad.sn S) (ad.hn S) (ad.ee S) (ad.raw S) (ad.closed S)) 1 2 3 4) 89,.abs d,ab (ap L) 9,ab (aq R) 3,ab (ak H) 114]⟩:aj)
abbrev aiu:=fun S L R H d=>(⟨[(0,ao 0),(6,aa 0)],wI S L R H d⟩:aj)
theorem aiv(S:ad)(L R H d)(pH:(ak H).all af=true)(h0:0<S.rn){Q:aQ}(n0:(eS (ap L) (ad.ro S+0))=true)(l4:Q .normal (R3 S L R H d)):an av9 68 5 aia (aiu S L R H d) Q:=
 aS bo 1000 (aA [2,3,0,1,2,3,1] (.leaf [0,5,6] [0,1,2,3,4] [2,3,4])) (fun u=>by kernel_rfl) (mN (show(apy 0 (ad.rn S))=true by simp at pH h0⊢ <;>omega) (mN n0 (mN (show(apG 1 (ad.rn S))=true by simp at pH h0⊢ <;>omega) (mN (show(apG (ad.rn S) (ad.rn S))=true by simp) (aM L R H (mQ (an.done (by kernel_rfl) l4)))))))
abbrev aiw:=fun S L R d a=>(⟨[(0,ao 0),(7,ao 4)],[ab (aJ S 1 2 3 4) 89,.abs d,ab (ap L) 9,ab (aq R) 3,ab (ak [a]) 114]⟩:aj)
abbrev aix:=fun S L R d a=>(⟨[(0,ao 0)],[ab (aJ S 1 2 3 4) 89,.abs d,ab (ap L) 9,ab (aq R) 3,ab (ak [a]) 114]⟩:aj)
theorem aiy(S:ad)(L R d a)(h0:S.hn=1){Q:aQ}(n0:(au.there a)=true)(aR:aph (ap L) af=true)(be:aph (aq R) af=true)(l3:an av9 68 5 (fg.drop 1) (aiw S L R d a) Q):an av9 68 5 fg (aix S L R d a) Q:=
 aS Bu 1 (aA [9,0,3,7,1,1,21,3,2,0,3] (.leaf [0,7] [0,1,2,3,4] [2,3])) (fun u=>by kernel_rfl) (mN (decide_eq_true (by omega):(decide (0<(↑(ad.hn S):Int)))=true) (mN (show(apy 0 (ad.hn S))=true by simp at h0⊢ <;>omega) (eV 5 n0 (mN (decide_eq_false (by omega):(decide (1<(↑(ad.hn S):Int)))=false) (mN (show(apy 0 (ad.hn S))=true by simp at h0⊢ <;>omega) (mN (aZ L) (mN (aG R) (mQ l3))))))))
abbrev uK:=fun S L R d a b=>([ab (aJ S 1 2 3 4) 89,.abs d,ab (ap L) 9,ab (aq R) 3,ab (ak [a,b]) 114]:List ag)
abbrev aiz:=fun S L R d a b=>(⟨[(0,ao 0),(7,.pointer (some ⟨4,4,none⟩))],uK S L R d a b⟩:aj)
abbrev aiA:=fun S L R d a b=>(⟨[(0,ao 0),(7,ao 4)],uK S L R d a b⟩:aj)
abbrev aiB:=fun S L R d a b=>(⟨[(0,ao 0),(7,.pointer (some ⟨4,4,none⟩))],uK S L R d a b⟩:aj)
abbrev aiC:=fun S L R d a b=>(⟨[(0,ao 0),(7,ao 4)],uK S L R d a b⟩:aj)
abbrev aiD:=fun S L R d a b=>(⟨[(0,ao 0),(7,ao 4)],uK S L R d a b⟩:aj)
abbrev aiE:=fun S L R d a b=>(⟨[(0,ao 0),(7,.pointer (some ⟨4,4,none⟩))],uK S L R d a b⟩:aj)
abbrev aiF:=fun S L R d a b=>(⟨[(0,ao 0)],uK S L R d a b⟩:aj)
theorem aiG(S:ad)(L R d a b)(h0:S.hn=2){Q:aQ}(l2:(au.there a)=true→(au.there b)=true→(ad.aB S)=true→(decide (bZ (au.line a) (au.line b)<0))=true→an av9 68 5 (fg.drop 1) (aiz S L R d a b) Q)(l3:(au.there a)=true→(au.there b)=true→(ad.aB S)=true→(decide (bZ (au.line a) (au.line b)<0))=false→an av9 68 5 (fg.drop 1) (aiA S L R d a b) Q)(l4:(au.there a)=true→(au.there b)=true→(ad.aB S)=false→(decide (bZ (au.line b) (au.line a)<0))=true→an av9 68 5 (fg.drop 1) (aiB S L R d a b) Q)(l5:(au.there a)=true→(au.there b)=true→(ad.aB S)=false→(decide (bZ (au.line b) (au.line a)<0))=false→an av9 68 5 (fg.drop 1) (aiC S L R d a b) Q)(l6:(au.there a)=true→(au.there b)=false→an av9 68 5 (fg.drop 1) (aiD S L R d a b) Q)(n7:(au.there a)=false→(au.there b)=true)(l8:(au.there a)=false→an av9 68 5 (fg.drop 1) (aiE S L R d a b) Q):an av9 68 5 fg (aiF S L R d a b) Q:=
 aS Bu 1 (aA [9,0,3] (.fork 3 (aA [1,1,21,3,3,0,3] (.fork 3 (aA [1,1,14,3] (.fork 6 (aA [7,3] (.fork 0 (aA [0,0,3] (.leaf [0,7] [0,1,2,3,4] [2,3])) (aA [0,0,3] (.leaf [0,7] [0,1,2,3,4] [2,3])))) (aA [7,3] (.fork 0 (aA [0,0,3] (.leaf [0,7] [0,1,2,3,4] [2,3])) (aA [0,0,3] (.leaf [0,7] [0,1,2,3,4] [2,3])))))) (aA [0,0,0,0,2,0,3] (.leaf [0,7] [0,1,2,3,4] [2,3])))) (aA [0,0,0,0,3,0,3,7,1,1,21,3,2,0,3] (.leaf [0,7] [0,1,2,3,4] [2,3])))) (fun u=>by kernel_rfl) (mN (decide_eq_true (by omega):(decide (0<(↑(ad.hn S):Int)))=true) (mN (show(apy 0 (ad.hn S))=true by simp at h0⊢ <;>omega) (mF (c:=au.there a) (fun h0=>(eV 4 h0 (mN (decide_eq_true (by omega):(decide (1<(↑(ad.hn S):Int)))=true) (mN (show(apy 1 (ad.hn S))=true by simp at h0 h0⊢ <;>omega) (mF (c:=au.there b) (fun h1=>(eV 2 h1 (mN (show(apy 0 (ad.hn S))=true by simp at h0 h0 h1⊢ <;>omega) (mF (c:=ad.aB S) (fun h2=>(eV 2 h1 (mF (c:=decide (bZ (au.line a) (au.line b)<0)) (fun h3=>(mN (decide_eq_false (by omega):(decide (2<(↑(ad.hn S):Int)))=false) (mN (show(apy 1 (ad.hn S))=true by simp at h0 h0 h1 h2 h3⊢ <;>omega) (mN (aZ L) (mN (aG R) (mQ (l2 h0 h1 h2 h3))))))) (fun h3=>(mN (decide_eq_false (by omega):(decide (2<(↑(ad.hn S):Int)))=false) (mN (show(apy 0 (ad.hn S))=true by simp at h0 h0 h1 h2 h3⊢ <;>omega) (mN (aZ L) (mN (aG R) (mQ (l3 h0 h1 h2 h3)))))))))) (fun h2=>(eV 2 h1 (mF (c:=decide (bZ (au.line b) (au.line a)<0)) (fun h3=>(mN (decide_eq_false (by omega):(decide (2<(↑(ad.hn S):Int)))=false) (mN (show(apy 1 (ad.hn S))=true by simp at h0 h0 h1 h2 h3⊢ <;>omega) (mN (aZ L) (mN (aG R) (mQ (l4 h0 h1 h2 h3))))))) (fun h3=>(mN (decide_eq_false (by omega):(decide (2<(↑(ad.hn S):Int)))=false) (mN (show(apy 0 (ad.hn S))=true by simp at h0 h0 h1 h2 h3⊢ <;>omega) (mN (aZ L) (mN (aG R) (mQ (l5 h0 h1 h2 h3)))))))))))))) (fun h1=>(eV 4 h1 (mN (decide_eq_false (by omega):(decide (2<(↑(ad.hn S):Int)))=false) (mN (show(apy 0 (ad.hn S))=true by simp at h0 h0 h1⊢ <;>omega) (mN (aZ L) (mN (aG R) (mQ (l6 h0 h1))))))))))))) (fun h0=>(eV 4 h0 (mN (decide_eq_true (by omega):(decide (1<(↑(ad.hn S):Int)))=true) (mN (show(apy 1 (ad.hn S))=true by simp at h0 h0⊢ <;>omega) (eV 5 (n7 h0) (mN (decide_eq_false (by omega):(decide (2<(↑(ad.hn S):Int)))=false) (mN (show(apy 1 (ad.hn S))=true by simp at h0 h0⊢ <;>omega) (mN (aZ L) (mN (aG R) (mQ (l8 h0))))))))))))))
abbrev iT:=fun S L R d a b c=>([ab (aJ S 1 2 3 4) 89,.abs d,ab (ap L) 9,ab (aq R) 3,ab (ak [a,b,c]) 114]:List ag)
abbrev aiH:=fun S L R d a b c=>(⟨[(0,ao 0),(7,.pointer (some ⟨4,8,none⟩))],iT S L R d a b c⟩:aj)
abbrev aiI:=fun S L R d a b c=>(⟨[(0,ao 0),(7,.pointer (some ⟨4,4,none⟩))],iT S L R d a b c⟩:aj)
abbrev aiJ:=fun S L R d a b c=>(⟨[(0,ao 0),(7,.pointer (some ⟨4,4,none⟩))],iT S L R d a b c⟩:aj)
abbrev aiK:=fun S L R d a b c=>(⟨[(0,ao 0),(7,.pointer (some ⟨4,8,none⟩))],iT S L R d a b c⟩:aj)
abbrev aiL:=fun S L R d a b c=>(⟨[(0,ao 0),(7,ao 4)],iT S L R d a b c⟩:aj)
abbrev aiM:=fun S L R d a b c=>(⟨[(0,ao 0),(7,ao 4)],iT S L R d a b c⟩:aj)
abbrev aiN:=fun S L R d a b c=>(⟨[(0,ao 0),(7,.pointer (some ⟨4,8,none⟩))],iT S L R d a b c⟩:aj)
abbrev aiO:=fun S L R d a b c=>(⟨[(0,ao 0),(7,.pointer (some ⟨4,4,none⟩))],iT S L R d a b c⟩:aj)
abbrev aiP:=fun S L R d a b c=>(⟨[(0,ao 0),(7,.pointer (some ⟨4,4,none⟩))],iT S L R d a b c⟩:aj)
abbrev aiQ:=fun S L R d a b c=>(⟨[(0,ao 0),(7,.pointer (some ⟨4,8,none⟩))],iT S L R d a b c⟩:aj)
abbrev aiR:=fun S L R d a b c=>(⟨[(0,ao 0),(7,ao 4)],iT S L R d a b c⟩:aj)
abbrev aiS:=fun S L R d a b c=>(⟨[(0,ao 0),(7,ao 4)],iT S L R d a b c⟩:aj)
abbrev aiT:=fun S L R d a b c=>(⟨[(0,ao 0),(7,.pointer (some ⟨4,8,none⟩))],iT S L R d a b c⟩:aj)
abbrev aiU:=fun S L R d a b c=>(⟨[(0,ao 0),(7,ao 4)],iT S L R d a b c⟩:aj)
abbrev aiV:=fun S L R d a b c=>(⟨[(0,ao 0),(7,.pointer (some ⟨4,8,none⟩))],iT S L R d a b c⟩:aj)
abbrev aiW:=fun S L R d a b c=>(⟨[(0,ao 0),(7,ao 4)],iT S L R d a b c⟩:aj)
abbrev aiX:=fun S L R d a b c=>(⟨[(0,ao 0),(7,ao 4)],iT S L R d a b c⟩:aj)
abbrev aiY:=fun S L R d a b c=>(⟨[(0,ao 0),(7,.pointer (some ⟨4,8,none⟩))],iT S L R d a b c⟩:aj)
abbrev aiZ:=fun S L R d a b c=>(⟨[(0,ao 0),(7,.pointer (some ⟨4,4,none⟩))],iT S L R d a b c⟩:aj)
abbrev ai0:=fun S L R d a b c=>(⟨[(0,ao 0),(7,.pointer (some ⟨4,8,none⟩))],iT S L R d a b c⟩:aj)
abbrev ai1:=fun S L R d a b c=>(⟨[(0,ao 0),(7,.pointer (some ⟨4,4,none⟩))],iT S L R d a b c⟩:aj)
abbrev ai2:=fun S L R d a b c=>(⟨[(0,ao 0),(7,.pointer (some ⟨4,4,none⟩))],iT S L R d a b c⟩:aj)
abbrev ai3:=fun S L R d a b c=>(⟨[(0,ao 0),(7,.pointer (some ⟨4,8,none⟩))],iT S L R d a b c⟩:aj)
abbrev ai4:=fun S L R d a b c=>(⟨[(0,ao 0)],iT S L R d a b c⟩:aj)
theorem ai5(S:ad)(L R d a b c)(h0:S.hn=3){Q:aQ}(l2:(au.there a)=true→(au.there b)=true→(ad.aB S)=true→(decide (bZ (au.line a) (au.line b)<0))=true→(au.there c)=true→(decide (bZ (au.line b) (au.line c)<0))=true→an av9 68 5 (fg.drop 1) (aiH S L R d a b c) Q)(l3:(au.there a)=true→(au.there b)=true→(ad.aB S)=true→(decide (bZ (au.line a) (au.line b)<0))=true→(au.there c)=true→(decide (bZ (au.line b) (au.line c)<0))=false→an av9 68 5 (fg.drop 1) (aiI S L R d a b c) Q)(l4:(au.there a)=true→(au.there b)=true→(ad.aB S)=true→(decide (bZ (au.line a) (au.line b)<0))=true→(au.there c)=false→an av9 68 5 (fg.drop 1) (aiJ S L R d a b c) Q)(l5:(au.there a)=true→(au.there b)=true→(ad.aB S)=true→(decide (bZ (au.line a) (au.line b)<0))=false→(au.there c)=true→(decide (bZ (au.line a) (au.line c)<0))=true→an av9 68 5 (fg.drop 1) (aiK S L R d a b c) Q)(l6:(au.there a)=true→(au.there b)=true→(ad.aB S)=true→(decide (bZ (au.line a) (au.line b)<0))=false→(au.there c)=true→(decide (bZ (au.line a) (au.line c)<0))=false→an av9 68 5 (fg.drop 1) (aiL S L R d a b c) Q)(l7:(au.there a)=true→(au.there b)=true→(ad.aB S)=true→(decide (bZ (au.line a) (au.line b)<0))=false→(au.there c)=false→an av9 68 5 (fg.drop 1) (aiM S L R d a b c) Q)(l8:(au.there a)=true→(au.there b)=true→(ad.aB S)=false→(decide (bZ (au.line b) (au.line a)<0))=true→(au.there c)=true→(decide (bZ (au.line c) (au.line b)<0))=true→an av9 68 5 (fg.drop 1) (aiN S L R d a b c) Q)(l9:(au.there a)=true→(au.there b)=true→(ad.aB S)=false→(decide (bZ (au.line b) (au.line a)<0))=true→(au.there c)=true→(decide (bZ (au.line c) (au.line b)<0))=false→an av9 68 5 (fg.drop 1) (aiO S L R d a b c) Q)(j4:(au.there a)=true→(au.there b)=true→(ad.aB S)=false→(decide (bZ (au.line b) (au.line a)<0))=true→(au.there c)=false→an av9 68 5 (fg.drop 1) (aiP S L R d a b c) Q)(iu:(au.there a)=true→(au.there b)=true→(ad.aB S)=false→(decide (bZ (au.line b) (au.line a)<0))=false→(au.there c)=true→(decide (bZ (au.line c) (au.line a)<0))=true→an av9 68 5 (fg.drop 1) (aiQ S L R d a b c) Q)(jY:(au.there a)=true→(au.there b)=true→(ad.aB S)=false→(decide (bZ (au.line b) (au.line a)<0))=false→(au.there c)=true→(decide (bZ (au.line c) (au.line a)<0))=false→an av9 68 5 (fg.drop 1) (aiR S L R d a b c) Q)(nt:(au.there a)=true→(au.there b)=true→(ad.aB S)=false→(decide (bZ (au.line b) (au.line a)<0))=false→(au.there c)=false→an av9 68 5 (fg.drop 1) (aiS S L R d a b c) Q)(CD:(au.there a)=true→(au.there b)=false→(au.there c)=true→(ad.aB S)=true→(decide (bZ (au.line a) (au.line c)<0))=true→an av9 68 5 (fg.drop 1) (aiT S L R d a b c) Q)(ai6:(au.there a)=true→(au.there b)=false→(au.there c)=true→(ad.aB S)=true→(decide (bZ (au.line a) (au.line c)<0))=false→an av9 68 5 (fg.drop 1) (aiU S L R d a b c) Q)(ai7:(au.there a)=true→(au.there b)=false→(au.there c)=true→(ad.aB S)=false→(decide (bZ (au.line c) (au.line a)<0))=true→an av9 68 5 (fg.drop 1) (aiV S L R d a b c) Q)(ai8:(au.there a)=true→(au.there b)=false→(au.there c)=true→(ad.aB S)=false→(decide (bZ (au.line c) (au.line a)<0))=false→an av9 68 5 (fg.drop 1) (aiW S L R d a b c) Q)(ai9:(au.there a)=true→(au.there b)=false→(au.there c)=false→an av9 68 5 (fg.drop 1) (aiX S L R d a b c) Q)(aja:(au.there a)=false→(au.there b)=true→(au.there c)=true→(ad.aB S)=true→(decide (bZ (au.line b) (au.line c)<0))=true→an av9 68 5 (fg.drop 1) (aiY S L R d a b c) Q)(ajb:(au.there a)=false→(au.there b)=true→(au.there c)=true→(ad.aB S)=true→(decide (bZ (au.line b) (au.line c)<0))=false→an av9 68 5 (fg.drop 1) (aiZ S L R d a b c) Q)(ajc:(au.there a)=false→(au.there b)=true→(au.there c)=true→(ad.aB S)=false→(decide (bZ (au.line c) (au.line b)<0))=true→an av9 68 5 (fg.drop 1) (ai0 S L R d a b c) Q)(ajd:(au.there a)=false→(au.there b)=true→(au.there c)=true→(ad.aB S)=false→(decide (bZ (au.line c) (au.line b)<0))=false→an av9 68 5 (fg.drop 1) (ai1 S L R d a b c) Q)(aje:(au.there a)=false→(au.there b)=true→(au.there c)=false→an av9 68 5 (fg.drop 1) (ai2 S L R d a b c) Q)(n24:(au.there a)=false→(au.there b)=false→(au.there c)=true)(ajf:(au.there a)=false→(au.there b)=false→an av9 68 5 (fg.drop 1) (ai3 S L R d a b c) Q):an av9 68 5 fg (ai4 S L R d a b c) Q:=
 aS Bu 1 (aA [9,0,3] (.fork 3 (aA [1,1,21,3,3,0,3] (.fork 3 (aA [1,1,14,3] (.fork 6 (aA [7,3] (.fork 0 (aA [1,0,3] (.fork 3 (aA [1,1,14,3,13,7,3] (.fork 0 (aA [0,0,3] (.leaf [0,7] [0,1,2,3,4] [2,3])) (aA [0,0,3] (.leaf [0,7] [0,1,2,3,4] [2,3])))) (aA [0,0,0,0,2,0,3] (.leaf [0,7] [0,1,2,3,4] [2,3])))) (aA [1,0,3] (.fork 3 (aA [1,1,14,3,13,7,3] (.fork 0 (aA [0,0,3] (.leaf [0,7] [0,1,2,3,4] [2,3])) (aA [0,0,3] (.leaf [0,7] [0,1,2,3,4] [2,3])))) (aA [0,0,0,0,2,0,3] (.leaf [0,7] [0,1,2,3,4] [2,3])))))) (aA [7,3] (.fork 0 (aA [1,0,3] (.fork 3 (aA [1,1,14,3,12,7,3] (.fork 0 (aA [0,0,3] (.leaf [0,7] [0,1,2,3,4] [2,3])) (aA [0,0,3] (.leaf [0,7] [0,1,2,3,4] [2,3])))) (aA [0,0,0,0,2,0,3] (.leaf [0,7] [0,1,2,3,4] [2,3])))) (aA [1,0,3] (.fork 3 (aA [1,1,14,3,12,7,3] (.fork 0 (aA [0,0,3] (.leaf [0,7] [0,1,2,3,4] [2,3])) (aA [0,0,3] (.leaf [0,7] [0,1,2,3,4] [2,3])))) (aA [0,0,0,0,2,0,3] (.leaf [0,7] [0,1,2,3,4] [2,3])))))))) (aA [0,0,0,0,3,0,3] (.fork 3 (aA [1,1,14,3] (.fork 6 (aA [7,3] (.fork 0 (aA [0,0,3] (.leaf [0,7] [0,1,2,3,4] [2,3])) (aA [0,0,3] (.leaf [0,7] [0,1,2,3,4] [2,3])))) (aA [7,3] (.fork 0 (aA [0,0,3] (.leaf [0,7] [0,1,2,3,4] [2,3])) (aA [0,0,3] (.leaf [0,7] [0,1,2,3,4] [2,3])))))) (aA [0,0,0,0,2,0,3] (.leaf [0,7] [0,1,2,3,4] [2,3])))))) (aA [0,0,0,0,3,0,3] (.fork 3 (aA [1,1,21,3,3,0,3] (.fork 3 (aA [1,1,14,3] (.fork 6 (aA [7,3] (.fork 0 (aA [0,0,3] (.leaf [0,7] [0,1,2,3,4] [2,3])) (aA [0,0,3] (.leaf [0,7] [0,1,2,3,4] [2,3])))) (aA [7,3] (.fork 0 (aA [0,0,3] (.leaf [0,7] [0,1,2,3,4] [2,3])) (aA [0,0,3] (.leaf [0,7] [0,1,2,3,4] [2,3])))))) (aA [0,0,0,0,2,0,3] (.leaf [0,7] [0,1,2,3,4] [2,3])))) (aA [0,0,0,0,3,0,3,7,1,1,21,3,2,0,3] (.leaf [0,7] [0,1,2,3,4] [2,3])))))) (fun u=>by kernel_rfl) (mN (decide_eq_true (by omega):(decide (0<(↑(ad.hn S):Int)))=true) (mN (show(apy 0 (ad.hn S))=true by simp at h0⊢ <;>omega) (mF (c:=au.there a) (fun h0=>(eV 4 h0 (mN (decide_eq_true (by omega):(decide (1<(↑(ad.hn S):Int)))=true) (mN (show(apy 1 (ad.hn S))=true by simp at h0 h0⊢ <;>omega) (mF (c:=au.there b) (fun h1=>(eV 2 h1 (mN (show(apy 0 (ad.hn S))=true by simp at h0 h0 h1⊢ <;>omega) (mF (c:=ad.aB S) (fun h2=>(eV 2 h1 (mF (c:=decide (bZ (au.line a) (au.line b)<0)) (fun h3=>(mN (decide_eq_true (by omega):(decide (2<(↑(ad.hn S):Int)))=true) (mN (show(apy 2 (ad.hn S))=true by simp at h0 h0 h1 h2 h3⊢ <;>omega) (mF (c:=au.there c) (fun h4=>(eV 2 h4 (mN (show(apy 1 (ad.hn S))=true by simp at h0 h0 h1 h2 h3 h4⊢ <;>omega) (mN h2 (eV 2 h4 (mF (c:=decide (bZ (au.line b) (au.line c)<0)) (fun h5=>(mN (decide_eq_false (by omega):(decide (3<(↑(ad.hn S):Int)))=false) (mN (show(apy 2 (ad.hn S))=true by simp at h0 h0 h1 h2 h3 h4 h5⊢ <;>omega) (mN (aZ L) (mN (aG R) (mQ (l2 h0 h1 h2 h3 h4 h5))))))) (fun h5=>(mN (decide_eq_false (by omega):(decide (3<(↑(ad.hn S):Int)))=false) (mN (show(apy 1 (ad.hn S))=true by simp at h0 h0 h1 h2 h3 h4 h5⊢ <;>omega) (mN (aZ L) (mN (aG R) (mQ (l3 h0 h1 h2 h3 h4 h5))))))))))))) (fun h4=>(eV 4 h4 (mN (decide_eq_false (by omega):(decide (3<(↑(ad.hn S):Int)))=false) (mN (show(apy 1 (ad.hn S))=true by simp at h0 h0 h1 h2 h3 h4⊢ <;>omega) (mN (aZ L) (mN (aG R) (mQ (l4 h0 h1 h2 h3 h4)))))))))))) (fun h3=>(mN (decide_eq_true (by omega):(decide (2<(↑(ad.hn S):Int)))=true) (mN (show(apy 2 (ad.hn S))=true by simp at h0 h0 h1 h2 h3⊢ <;>omega) (mF (c:=au.there c) (fun h4=>(eV 2 h4 (mN (show(apy 0 (ad.hn S))=true by simp at h0 h0 h1 h2 h3 h4⊢ <;>omega) (mN h2 (eV 2 h4 (mF (c:=decide (bZ (au.line a) (au.line c)<0)) (fun h5=>(mN (decide_eq_false (by omega):(decide (3<(↑(ad.hn S):Int)))=false) (mN (show(apy 2 (ad.hn S))=true by simp at h0 h0 h1 h2 h3 h4 h5⊢ <;>omega) (mN (aZ L) (mN (aG R) (mQ (l5 h0 h1 h2 h3 h4 h5))))))) (fun h5=>(mN (decide_eq_false (by omega):(decide (3<(↑(ad.hn S):Int)))=false) (mN (show(apy 0 (ad.hn S))=true by simp at h0 h0 h1 h2 h3 h4 h5⊢ <;>omega) (mN (aZ L) (mN (aG R) (mQ (l6 h0 h1 h2 h3 h4 h5))))))))))))) (fun h4=>(eV 4 h4 (mN (decide_eq_false (by omega):(decide (3<(↑(ad.hn S):Int)))=false) (mN (show(apy 0 (ad.hn S))=true by simp at h0 h0 h1 h2 h3 h4⊢ <;>omega) (mN (aZ L) (mN (aG R) (mQ (l7 h0 h1 h2 h3 h4))))))))))))))) (fun h2=>(eV 2 h1 (mF (c:=decide (bZ (au.line b) (au.line a)<0)) (fun h3=>(mN (decide_eq_true (by omega):(decide (2<(↑(ad.hn S):Int)))=true) (mN (show(apy 2 (ad.hn S))=true by simp at h0 h0 h1 h2 h3⊢ <;>omega) (mF (c:=au.there c) (fun h4=>(eV 2 h4 (mN (show(apy 1 (ad.hn S))=true by simp at h0 h0 h1 h2 h3 h4⊢ <;>omega) (mN h2 (eV 2 h4 (mF (c:=decide (bZ (au.line c) (au.line b)<0)) (fun h5=>(mN (decide_eq_false (by omega):(decide (3<(↑(ad.hn S):Int)))=false) (mN (show(apy 2 (ad.hn S))=true by simp at h0 h0 h1 h2 h3 h4 h5⊢ <;>omega) (mN (aZ L) (mN (aG R) (mQ (l8 h0 h1 h2 h3 h4 h5))))))) (fun h5=>(mN (decide_eq_false (by omega):(decide (3<(↑(ad.hn S):Int)))=false) (mN (show(apy 1 (ad.hn S))=true by simp at h0 h0 h1 h2 h3 h4 h5⊢ <;>omega) (mN (aZ L) (mN (aG R) (mQ (l9 h0 h1 h2 h3 h4 h5))))))))))))) (fun h4=>(eV 4 h4 (mN (decide_eq_false (by omega):(decide (3<(↑(ad.hn S):Int)))=false) (mN (show(apy 1 (ad.hn S))=true by simp at h0 h0 h1 h2 h3 h4⊢ <;>omega) (mN (aZ L) (mN (aG R) (mQ (j4 h0 h1 h2 h3 h4)))))))))))) (fun h3=>(mN (decide_eq_true (by omega):(decide (2<(↑(ad.hn S):Int)))=true) (mN (show(apy 2 (ad.hn S))=true by simp at h0 h0 h1 h2 h3⊢ <;>omega) (mF (c:=au.there c) (fun h4=>(eV 2 h4 (mN (show(apy 0 (ad.hn S))=true by simp at h0 h0 h1 h2 h3 h4⊢ <;>omega) (mN h2 (eV 2 h4 (mF (c:=decide (bZ (au.line c) (au.line a)<0)) (fun h5=>(mN (decide_eq_false (by omega):(decide (3<(↑(ad.hn S):Int)))=false) (mN (show(apy 2 (ad.hn S))=true by simp at h0 h0 h1 h2 h3 h4 h5⊢ <;>omega) (mN (aZ L) (mN (aG R) (mQ (iu h0 h1 h2 h3 h4 h5))))))) (fun h5=>(mN (decide_eq_false (by omega):(decide (3<(↑(ad.hn S):Int)))=false) (mN (show(apy 0 (ad.hn S))=true by simp at h0 h0 h1 h2 h3 h4 h5⊢ <;>omega) (mN (aZ L) (mN (aG R) (mQ (jY h0 h1 h2 h3 h4 h5))))))))))))) (fun h4=>(eV 4 h4 (mN (decide_eq_false (by omega):(decide (3<(↑(ad.hn S):Int)))=false) (mN (show(apy 0 (ad.hn S))=true by simp at h0 h0 h1 h2 h3 h4⊢ <;>omega) (mN (aZ L) (mN (aG R) (mQ (nt h0 h1 h2 h3 h4))))))))))))))))))) (fun h1=>(eV 4 h1 (mN (decide_eq_true (by omega):(decide (2<(↑(ad.hn S):Int)))=true) (mN (show(apy 2 (ad.hn S))=true by simp at h0 h0 h1⊢ <;>omega) (mF (c:=au.there c) (fun h2=>(eV 2 h2 (mN (show(apy 0 (ad.hn S))=true by simp at h0 h0 h1 h2⊢ <;>omega) (mF (c:=ad.aB S) (fun h3=>(eV 2 h2 (mF (c:=decide (bZ (au.line a) (au.line c)<0)) (fun h4=>(mN (decide_eq_false (by omega):(decide (3<(↑(ad.hn S):Int)))=false) (mN (show(apy 2 (ad.hn S))=true by simp at h0 h0 h1 h2 h3 h4⊢ <;>omega) (mN (aZ L) (mN (aG R) (mQ (CD h0 h1 h2 h3 h4))))))) (fun h4=>(mN (decide_eq_false (by omega):(decide (3<(↑(ad.hn S):Int)))=false) (mN (show(apy 0 (ad.hn S))=true by simp at h0 h0 h1 h2 h3 h4⊢ <;>omega) (mN (aZ L) (mN (aG R) (mQ (ai6 h0 h1 h2 h3 h4)))))))))) (fun h3=>(eV 2 h2 (mF (c:=decide (bZ (au.line c) (au.line a)<0)) (fun h4=>(mN (decide_eq_false (by omega):(decide (3<(↑(ad.hn S):Int)))=false) (mN (show(apy 2 (ad.hn S))=true by simp at h0 h0 h1 h2 h3 h4⊢ <;>omega) (mN (aZ L) (mN (aG R) (mQ (ai7 h0 h1 h2 h3 h4))))))) (fun h4=>(mN (decide_eq_false (by omega):(decide (3<(↑(ad.hn S):Int)))=false) (mN (show(apy 0 (ad.hn S))=true by simp at h0 h0 h1 h2 h3 h4⊢ <;>omega) (mN (aZ L) (mN (aG R) (mQ (ai8 h0 h1 h2 h3 h4)))))))))))))) (fun h2=>(eV 4 h2 (mN (decide_eq_false (by omega):(decide (3<(↑(ad.hn S):Int)))=false) (mN (show(apy 0 (ad.hn S))=true by simp at h0 h0 h1 h2⊢ <;>omega) (mN (aZ L) (mN (aG R) (mQ (ai9 h0 h1 h2)))))))))))))))))) (fun h0=>(eV 4 h0 (mN (decide_eq_true (by omega):(decide (1<(↑(ad.hn S):Int)))=true) (mN (show(apy 1 (ad.hn S))=true by simp at h0 h0⊢ <;>omega) (mF (c:=au.there b) (fun h1=>(eV 4 h1 (mN (decide_eq_true (by omega):(decide (2<(↑(ad.hn S):Int)))=true) (mN (show(apy 2 (ad.hn S))=true by simp at h0 h0 h1⊢ <;>omega) (mF (c:=au.there c) (fun h2=>(eV 2 h2 (mN (show(apy 1 (ad.hn S))=true by simp at h0 h0 h1 h2⊢ <;>omega) (mF (c:=ad.aB S) (fun h3=>(eV 2 h2 (mF (c:=decide (bZ (au.line b) (au.line c)<0)) (fun h4=>(mN (decide_eq_false (by omega):(decide (3<(↑(ad.hn S):Int)))=false) (mN (show(apy 2 (ad.hn S))=true by simp at h0 h0 h1 h2 h3 h4⊢ <;>omega) (mN (aZ L) (mN (aG R) (mQ (aja h0 h1 h2 h3 h4))))))) (fun h4=>(mN (decide_eq_false (by omega):(decide (3<(↑(ad.hn S):Int)))=false) (mN (show(apy 1 (ad.hn S))=true by simp at h0 h0 h1 h2 h3 h4⊢ <;>omega) (mN (aZ L) (mN (aG R) (mQ (ajb h0 h1 h2 h3 h4)))))))))) (fun h3=>(eV 2 h2 (mF (c:=decide (bZ (au.line c) (au.line b)<0)) (fun h4=>(mN (decide_eq_false (by omega):(decide (3<(↑(ad.hn S):Int)))=false) (mN (show(apy 2 (ad.hn S))=true by simp at h0 h0 h1 h2 h3 h4⊢ <;>omega) (mN (aZ L) (mN (aG R) (mQ (ajc h0 h1 h2 h3 h4))))))) (fun h4=>(mN (decide_eq_false (by omega):(decide (3<(↑(ad.hn S):Int)))=false) (mN (show(apy 1 (ad.hn S))=true by simp at h0 h0 h1 h2 h3 h4⊢ <;>omega) (mN (aZ L) (mN (aG R) (mQ (ajd h0 h1 h2 h3 h4)))))))))))))) (fun h2=>(eV 4 h2 (mN (decide_eq_false (by omega):(decide (3<(↑(ad.hn S):Int)))=false) (mN (show(apy 1 (ad.hn S))=true by simp at h0 h0 h1 h2⊢ <;>omega) (mN (aZ L) (mN (aG R) (mQ (aje h0 h1 h2))))))))))))) (fun h1=>(eV 4 h1 (mN (decide_eq_true (by omega):(decide (2<(↑(ad.hn S):Int)))=true) (mN (show(apy 2 (ad.hn S))=true by simp at h0 h0 h1⊢ <;>omega) (eV 5 (n24 h0 h1) (mN (decide_eq_false (by omega):(decide (3<(↑(ad.hn S):Int)))=false) (mN (show(apy 2 (ad.hn S))=true by simp at h0 h0 h1⊢ <;>omega) (mN (aZ L) (mN (aG R) (mQ (ajf h0 h1)))))))))))))))))))
abbrev R4:=fun S L R H (d:ay) (k:Nat) (e:Int) G dd=>(⟨[(0,ao 0),(5,.string (aX (ak H) (k*4+2))),(6,aa e)],[ab (aJ S 1 2 3 4) 89,.abs dd,ab (ap L) 9,ab (aq R) 3,ab (ak G) 114]⟩:aj)
abbrev ajg:=fun S L R H d (k:Nat) (e:Int) (G:List au) (dd:ay)=>(⟨[(0,ao 0),(7,.pointer (some ⟨4,k*4,none⟩))],wI S L R H d⟩:aj)
theorem ajh(S L R H d)(k:Nat)(e:Int)(G dd)(pH:(ak H).all af=true)(pG:(ak G).all af=true)(gd:aE av9 54 [ao 0,.pointer (some ⟨4,k*4,none⟩)] (aO S L R H d) fun r q=>r=.ret (aa e)∧q=aO S L R G dd)(h0:k<(apb H))(h1:(apb H)≤1000){Q:aQ}(n0:(eS (ak H) (k*4+2))=true)(l4:Q .normal (R4 S L R H d k e G dd)):an av9 68 5 (fg.drop 1) (ajg S L R H d k e G dd) Q:=
 aS (ah5 S L R H d k e G dd gd) 1000 (aA [0,1,3,1,1,1,1,1,1] (.leaf [0,5,6] [0,1,2,3,4] [2,3,4])) (fun u=>by kernel_rfl) (mN n0 (aM L R H (mN (ll [ao 0,aqo (some (asO 4 (k*4) none))] (aO S L R H d)) (mN (aZ L) (mN (aG R) (mN (aU G) (mN (aZ L) (mN (aG R) (mN (aU G) (mQ (an.done (by kernel_rfl) l4)))))))))))
abbrev R5:=fun(S:ad) L R H (d:ay) U d3 (f:Int) (x:ByteArray) (e:Int)=>(⟨[(2,ah 5 1),(3,aa f)],[ab (aJ (ad.mk (ad.at_ U) (ad.more U) true (ad.B U) (ad.n U) (ad.failed U) (ad.aB U) (ad.ro U) (ad.rn U) (ad.bH U) (ad.sn U) (ad.hn U) (ad.ee U) (ay.raw d3) (ad.closed U)) 1 2 3 4) 89,.abs d3,ab (ap L) 9,ab (aq R) 3,ab (ak H) 114,ab ([aa 0,ah 6 (x.size+1)]) 122,ab (apS (fun b=>apm apA (↑(apT b):Int)) (apE x.size (apO (apH x)))++[apm apA 10]) 5]⟩:aj)
theorem aji(S L R H d U d3)(f:Int)(x:ByteArray)(e:Int){Q:bg}(aR:aph (ap L) af=true)(be:aph (aq R) af=true)(bB:aph (ak H) af=true)(hq:Q (.ret (.tuple #[ah 5 1,aa f])) [ab (aJ (ad.mk (ad.at_ U) (ad.more U) true (ad.B U) (ad.n U) (ad.failed U) (ad.aB U) (ad.ro U) (ad.rn U) (ad.bH U) (ad.sn U) (ad.hn U) (ad.ee U) (ay.raw d3) (ad.closed U)) 1 2 3 4) 89,.abs d3,ab (ap L) 9,ab (aq R) 3,ab (ak H) 114,ab ([aa 0,ah 6 (x.size+1)]) 122,ab (apS (fun b=>apm apA (↑(apT b):Int)) (apE x.size (apO (apH x)))++[apm apA 10]) 5]):aF av9 29 68 5 Q .ret (R5 S L R H d U d3 f x e):=aF.ret (vs:=[ah 5 1,aa f]) (l:=[]) (bs:=[0,1,2,3,4,5,6]) (pl:=[2,3,4,6]) (q:=[ap L,aq R,ak H,apS (fun b=>apm apA (↑(apT b):Int)) (apE x.size (apO (apH x)))++[apm apA 10]]) (fun u=>by kernel_rfl) (by kernel_rfl) (aC aR (aC be (aC bB (aC (by exact iq (lj _) rfl) bc)))) hq
abbrev R6:=fun(S:ad) L R H (d:ay) U d3 (f:Int) (x:ByteArray) (e:Int)=>(⟨[(2,ah 5 1),(3,aa f)],[ab (aJ (ad.mk (ad.at_ U) (ad.more U) true (ad.B U) (ad.n U) (ad.failed U) (ad.aB U) (ad.ro U) (ad.rn U) (ad.bH U) (ad.sn U) (ad.hn U) (ad.ee U) (ad.raw U) (ad.closed U)) 1 2 3 4) 89,.abs d3,ab (ap L) 9,ab (aq R) 3,ab (ak H) 114,ab ([aa 0,ah 6 (x.size+1)]) 122,ab (apS (fun b=>apm apA (↑(apT b):Int)) (apE x.size (apO (apH x)))++[apm apA 10]) 5]⟩:aj)
theorem ajj(S L R H d U d3)(f:Int)(x:ByteArray)(e:Int){Q:bg}(aR:aph (ap L) af=true)(be:aph (aq R) af=true)(bB:aph (ak H) af=true)(hq:Q (.ret (.tuple #[ah 5 1,aa f])) [ab (aJ (ad.mk (ad.at_ U) (ad.more U) true (ad.B U) (ad.n U) (ad.failed U) (ad.aB U) (ad.ro U) (ad.rn U) (ad.bH U) (ad.sn U) (ad.hn U) (ad.ee U) (ad.raw U) (ad.closed U)) 1 2 3 4) 89,.abs d3,ab (ap L) 9,ab (aq R) 3,ab (ak H) 114,ab ([aa 0,ah 6 (x.size+1)]) 122,ab (apS (fun b=>apm apA (↑(apT b):Int)) (apE x.size (apO (apH x)))++[apm apA 10]) 5]):aF av9 29 68 5 Q .ret (R6 S L R H d U d3 f x e):=aF.ret (vs:=[ah 5 1,aa f]) (l:=[]) (bs:=[0,1,2,3,4,5,6]) (pl:=[2,3,4,6]) (q:=[ap L,aq R,ak H,apS (fun b=>apm apA (↑(apT b):Int)) (apE x.size (apO (apH x)))++[apm apA 10]]) (fun u=>by kernel_rfl) (by kernel_rfl) (aC aR (aC be (aC bB (aC (by exact iq (lj _) rfl) bc)))) hq
abbrev R7:=fun(S:ad) L R H (d:ay) U d3 (f:Int) (x:ByteArray) (e:Int)=>(⟨[(2,ah 5 1),(3,aa f)],[ab (aJ U 1 2 3 4) 89,.abs d3,ab (ap L) 9,ab (aq R) 3,ab (ak H) 114,ab ([aa 0,ah 6 (x.size+1)]) 122,ab (apS (fun b=>apm apA (↑(apT b):Int)) (apE x.size (apO (apH x)))++[apm apA 10]) 5]⟩:aj)
theorem ajk(S L R H d U d3)(f:Int)(x:ByteArray)(e:Int){Q:bg}(aR:aph (ap L) af=true)(be:aph (aq R) af=true)(bB:aph (ak H) af=true)(hq:Q (.ret (.tuple #[ah 5 1,aa f])) [ab (aJ U 1 2 3 4) 89,.abs d3,ab (ap L) 9,ab (aq R) 3,ab (ak H) 114,ab ([aa 0,ah 6 (x.size+1)]) 122,ab (apS (fun b=>apm apA (↑(apT b):Int)) (apE x.size (apO (apH x)))++[apm apA 10]) 5]):aF av9 29 68 5 Q .ret (R7 S L R H d U d3 f x e):=aF.ret (vs:=[ah 5 1,aa f]) (l:=[]) (bs:=[0,1,2,3,4,5,6]) (pl:=[2,3,4,6]) (q:=[ap L,aq R,ak H,apS (fun b=>apm apA (↑(apT b):Int)) (apE x.size (apO (apH x)))++[apm apA 10]]) (fun u=>by kernel_rfl) (by kernel_rfl) (aC aR (aC be (aC bB (aC (by exact iq (lj _) rfl) bc)))) hq
abbrev R8:=fun S L R H d (U:ad) (d3:ay) (f:Int) (x:ByteArray) (e:Int)=>(⟨[(2,ah 5 1),(3,aa e)],[ab (aJ (ad.mk (ad.at_ S) (ad.more S) true (ad.B S) (ad.n S) (ad.failed S) (ad.aB S) (ad.ro S) (ad.rn S) (ad.bH S) (ad.sn S) (ad.hn S) (ad.ee S) (ay.raw d) (ad.closed S)) 1 2 3 4) 89,.abs d,ab (ap L) 9,ab (aq R) 3,ab (ak H) 114,ab ([aa 0,ah 6 (x.size+1)]) 122,ab (apS (fun b=>apm apA (↑(apT b):Int)) (apE x.size (apO (apH x)))++[apm apA 10]) 5]⟩:aj)
theorem ajl(S L R H d U d3)(f:Int)(x:ByteArray)(e:Int){Q:bg}(aR:aph (ap L) af=true)(be:aph (aq R) af=true)(bB:aph (ak H) af=true)(hq:Q (.ret (.tuple #[ah 5 1,aa e])) [ab (aJ (ad.mk (ad.at_ S) (ad.more S) true (ad.B S) (ad.n S) (ad.failed S) (ad.aB S) (ad.ro S) (ad.rn S) (ad.bH S) (ad.sn S) (ad.hn S) (ad.ee S) (ay.raw d) (ad.closed S)) 1 2 3 4) 89,.abs d,ab (ap L) 9,ab (aq R) 3,ab (ak H) 114,ab ([aa 0,ah 6 (x.size+1)]) 122,ab (apS (fun b=>apm apA (↑(apT b):Int)) (apE x.size (apO (apH x)))++[apm apA 10]) 5]):aF av9 29 68 5 Q .ret (R8 S L R H d U d3 f x e):=aF.ret (vs:=[ah 5 1,aa e]) (l:=[]) (bs:=[0,1,2,3,4,5,6]) (pl:=[2,3,4,6]) (q:=[ap L,aq R,ak H,apS (fun b=>apm apA (↑(apT b):Int)) (apE x.size (apO (apH x)))++[apm apA 10]]) (fun u=>by kernel_rfl) (by kernel_rfl) (aC aR (aC be (aC bB (aC (by exact iq (lj _) rfl) bc)))) hq
abbrev R9:=fun S L R H d (U:ad) (d3:ay) (f:Int) (x:ByteArray) (e:Int)=>(⟨[(2,ah 5 1),(3,aa e)],[ab (aJ (ad.mk (ad.at_ S) (ad.more S) true (ad.B S) (ad.n S) (ad.failed S) (ad.aB S) (ad.ro S) (ad.rn S) (ad.bH S) (ad.sn S) (ad.hn S) (ad.ee S) (ad.raw S) (ad.closed S)) 1 2 3 4) 89,.abs d,ab (ap L) 9,ab (aq R) 3,ab (ak H) 114,ab ([aa 0,ah 6 (x.size+1)]) 122,ab (apS (fun b=>apm apA (↑(apT b):Int)) (apE x.size (apO (apH x)))++[apm apA 10]) 5]⟩:aj)
theorem ajm(S L R H d U d3)(f:Int)(x:ByteArray)(e:Int){Q:bg}(aR:aph (ap L) af=true)(be:aph (aq R) af=true)(bB:aph (ak H) af=true)(hq:Q (.ret (.tuple #[ah 5 1,aa e])) [ab (aJ (ad.mk (ad.at_ S) (ad.more S) true (ad.B S) (ad.n S) (ad.failed S) (ad.aB S) (ad.ro S) (ad.rn S) (ad.bH S) (ad.sn S) (ad.hn S) (ad.ee S) (ad.raw S) (ad.closed S)) 1 2 3 4) 89,.abs d,ab (ap L) 9,ab (aq R) 3,ab (ak H) 114,ab ([aa 0,ah 6 (x.size+1)]) 122,ab (apS (fun b=>apm apA (↑(apT b):Int)) (apE x.size (apO (apH x)))++[apm apA 10]) 5]):aF av9 29 68 5 Q .ret (R9 S L R H d U d3 f x e):=aF.ret (vs:=[ah 5 1,aa e]) (l:=[]) (bs:=[0,1,2,3,4,5,6]) (pl:=[2,3,4,6]) (q:=[ap L,aq R,ak H,apS (fun b=>apm apA (↑(apT b):Int)) (apE x.size (apO (apH x)))++[apm apA 10]]) (fun u=>by kernel_rfl) (by kernel_rfl) (aC aR (aC be (aC bB (aC (by exact iq (lj _) rfl) bc)))) hq
abbrev ajn:=fun S L R H d (U:ad) (d3:ay) (f:Int) x (e:Int)=>(⟨[(0,ao 0),(5,.string x),(6,aa e)],wI S L R H d⟩:aj)
theorem ajo(S L R H d U d3)(f:Int)(x:ByteArray)(e:Int)(pH:(ak H).all af=true)(ix:aE av9 51 [ao 0] (aO S L R H d) fun r q=>r=.ret (aa f)∧q=aO U L R H d3)(h0:x.size≤1000){Q:aQ}(n0:(e==0)=true→(eD [ao 0] [ao 0] [ab (aJ S 1 2 3 4) 89,ag.abs d,ab (ap L) 9,ab (aq R) 3,ab (ak H) 114] (aO S L R H d))=true)(n1:(e==0)=true→(f != 0)=true→(f==25)=true→(aph (apS (fun b=>apm apA (↑(apT b):Int)) (apE x.size (apO (apH x)))) aqg)=true)(aR:aph (ap L) af=true)(be:aph (aq R) af=true)(bB:aph (ak H) af=true)(l5:(e==0)=true→(f != 0)=true→(f==25)=true→Q .ret (R5 S L R H d U d3 f x e))(n6:(e==0)=true→(f != 0)=true→(f==25)=false→(aph (apS (fun b=>apm apA (↑(apT b):Int)) (apE x.size (apO (apH x)))) aqg)=true)(l7:(e==0)=true→(f != 0)=true→(f==25)=false→Q .ret (R6 S L R H d U d3 f x e))(n8:(e==0)=true→(f != 0)=false→(aph (apS (fun b=>apm apA (↑(apT b):Int)) (apE x.size (apO (apH x)))) aqg)=true)(l9:(e==0)=true→(f != 0)=false→Q .ret (R7 S L R H d U d3 f x e))(n10:(e==0)=false→(e==25)=true→(aph (apS (fun b=>apm apA (↑(apT b):Int)) (apE x.size (apO (apH x)))) aqg)=true)(iu:(e==0)=false→(e==25)=true→Q .ret (R8 S L R H d U d3 f x e))(n12:(e==0)=false→(e==25)=false→(aph (apS (fun b=>apm apA (↑(apT b):Int)) (apE x.size (apO (apH x)))) aqg)=true)(nt:(e==0)=false→(e==25)=false→Q .ret (R9 S L R H d U d3 f x e)):an av9 68 5 (sM.drop 10) (ajn S L R H d U d3 f x e) Q:=
 aS (ah7 S L R H d U d3 f ix) 1000 (.fork 0 (aA [3,1,1,1,1,1,1] (.fork 0 (.fork 1 (aA [28,1,1,1,2,3,5,1] (.leaf [2,3] [0,1,2,3,4,9,8] [2,3,4,8])) (aA [20,1,1,1,2,3,5,1] (.leaf [2,3] [0,1,2,3,4,9,8] [2,3,4,8]))) (aA [16,1,1,1,2,3,5,1] (.leaf [2,3] [0,1,2,3,4,9,8] [2,3,4,8])))) (aA [1] (.fork 1 (aA [28,1,1,1,2,3,5,1] (.leaf [2,3] [0,1,2,3,4,9,8] [2,3,4,8])) (aA [20,1,1,1,2,3,5,1] (.leaf [2,3] [0,1,2,3,4,9,8] [2,3,4,8]))))) (fun u=>by kernel_rfl) (mF (c:=e==0) (fun h0=>(aM L R H (mN (n0 h0) (aM L R H (mF (c:=f != 0) (fun h1=>(mF (c:=f==25) (fun h2=>(mN (show(apG (0+x.size) 1000000)=true by simp at pH ix h0 h0 h1 h2⊢ <;>omega) (mN (n1 h0 h1 h2) (mN (show(apw (apb (apS (fun b=>apm apA (↑(apT b):Int)) (apE x.size (apO (apH x))))) (x.size*1))=true by simp) (mN (show(apG (x.size+1) 1000000)=true by simp at pH ix h0 h0 h1 h2⊢ <;>omega) (mN (ln _:(full x.size x.size)=true) (mN (show(apw (0+x.size*1) (apb (apS (fun b=>apm apA (↑(apT b):Int)) (apE x.size (apO (apH x))))))=true by simp) (aM L R H (mN (show(aph (apS (fun b=>apm apA (↑(apT b):Int)) (apE x.size (apO (apH x)))++[apm apA 10]) af)=true by exact iq (lj _) rfl) (mR (l5 h0 h1 h2))))))))))) (fun h2=>(mN (show(apG (0+x.size) 1000000)=true by simp at pH ix h0 h0 h1 h2⊢ <;>omega) (mN (n6 h0 h1 h2) (mN (show(apw (apb (apS (fun b=>apm apA (↑(apT b):Int)) (apE x.size (apO (apH x))))) (x.size*1))=true by simp) (mN (show(apG (x.size+1) 1000000)=true by simp at pH ix h0 h0 h1 h2⊢ <;>omega) (mN (ln _:(full x.size x.size)=true) (mN (show(apw (0+x.size*1) (apb (apS (fun b=>apm apA (↑(apT b):Int)) (apE x.size (apO (apH x))))))=true by simp) (aM L R H (mN (show(aph (apS (fun b=>apm apA (↑(apT b):Int)) (apE x.size (apO (apH x)))++[apm apA 10]) af)=true by exact iq (lj _) rfl) (mR (l7 h0 h1 h2))))))))))))) (fun h1=>(mN (show(apG (0+x.size) 1000000)=true by simp at pH ix h0 h0 h1⊢ <;>omega) (mN (n8 h0 h1) (mN (show(apw (apb (apS (fun b=>apm apA (↑(apT b):Int)) (apE x.size (apO (apH x))))) (x.size*1))=true by simp) (mN (show(apG (x.size+1) 1000000)=true by simp at pH ix h0 h0 h1⊢ <;>omega) (mN (ln _:(full x.size x.size)=true) (mN (show(apw (0+x.size*1) (apb (apS (fun b=>apm apA (↑(apT b):Int)) (apE x.size (apO (apH x))))))=true by simp) (aM L R H (mN (show(aph (apS (fun b=>apm apA (↑(apT b):Int)) (apE x.size (apO (apH x)))++[apm apA 10]) af)=true by exact iq (lj _) rfl) (mR (l9 h0 h1)))))))))))))))) (fun h0=>(mN (show(e != 0)=true by simp at pH ix h0 h0⊢ <;>omega) (mF (c:=e==25) (fun h1=>(mN (show(apG (0+x.size) 1000000)=true by simp at pH ix h0 h0 h1⊢ <;>omega) (mN (n10 h0 h1) (mN (show(apw (apb (apS (fun b=>apm apA (↑(apT b):Int)) (apE x.size (apO (apH x))))) (x.size*1))=true by simp) (mN (show(apG (x.size+1) 1000000)=true by simp at pH ix h0 h0 h1⊢ <;>omega) (mN (ln _:(full x.size x.size)=true) (mN (show(apw (0+x.size*1) (apb (apS (fun b=>apm apA (↑(apT b):Int)) (apE x.size (apO (apH x))))))=true by simp) (aM L R H (mN (show(aph (apS (fun b=>apm apA (↑(apT b):Int)) (apE x.size (apO (apH x)))++[apm apA 10]) af)=true by exact iq (lj _) rfl) (mR (iu h0 h1))))))))))) (fun h1=>(mN (show(apG (0+x.size) 1000000)=true by simp at pH ix h0 h0 h1⊢ <;>omega) (mN (n12 h0 h1) (mN (show(apw (apb (apS (fun b=>apm apA (↑(apT b):Int)) (apE x.size (apO (apH x))))) (x.size*1))=true by simp) (mN (show(apG (x.size+1) 1000000)=true by simp at pH ix h0 h0 h1⊢ <;>omega) (mN (ln _:(full x.size x.size)=true) (mN (show(apw (0+x.size*1) (apb (apS (fun b=>apm apA (↑(apT b):Int)) (apE x.size (apO (apH x))))))=true by simp) (aM L R H (mN (show(aph (apS (fun b=>apm apA (↑(apT b):Int)) (apE x.size (apO (apH x)))++[apm apA 10]) af)=true by exact iq (lj _) rfl) (mR (nt h0 h1)))))))))))))))
end
structure MS where
 S:ad
 L:List ByteArray
 R:List Int
 H:List au
 d:ay
def MS.z(s:MS):ci:=(s.S,s.L,s.R,s.d)
def gN(s:ci)(H:List au):MS:=⟨s.1,s.2.1,s.2.2.1,H,s.2.2.2⟩
def nu(S:ad)(d:ay)(e:Int):ad:={S with raw:=if e=25 then d.raw else S.raw,bq:=true}
def MS.fail(s:MS)(e:Int):MS:={s with S:=nu s.S s.d e}
def bX(s:MS)(b:ByteArray):Int×MS:=
 match cg b.data.toList s.S []with
 |(e,S1,M)=>match cY M (S1,s.L,s.R,s.d)with
  |(f,t)=>if f≠0 then(f,(gN t s.H).fail f)else if e≠0 then(e,(gN t s.H).fail e)else(0,gN t s.H)
noncomputable def gp(s:MS):Int×MS:=
 match iw s.z s.H with
 |(e,t,G)=>if e≠0 then(e,(gN t G).fail e)else match cZ t.1 t.2.2.1 G t.2.2.2 with
  |(f,U,d3)=>if f≠0 then(f,(⟨U,t.2.1,t.2.2.1,G,d3⟩:MS).fail f)else(0,⟨U,t.2.1,t.2.2.1,G,d3⟩)
theorem za:∀(l:List UInt8) (S:ad) (M:List ByteArray),jJ S→(∀x∈M,x.size≤64)→jJ (cg l S M).2.1∧(∀x∈(cg l S M).2.2,x.size≤64)∧((cg l S M).1=0→bP (cg l S M).2.2+(cg l S M).2.1.n.toNat=bP M+S.n.toNat+l.length)∧(cg l S M).2.2.length≤M.length+l.length
 | [],S,M,h,hM=>⟨h,hM,fun _=>rfl,by show M.length≤_;omega⟩
 |x::l,S,M,h,hM=>by
  have h0:=h.n0
  have h1:=h.n1
  unfold cg
  by_cases hx:x=10
  ·rw[if_pos hx]
   obtain⟨a,b,c,e⟩:=za l {S with n:=0} (M++[gU S]) (jJ.zero S) fun y hy=>by
    rcases List.mem_append.1 hy with hy|hy
    ·exact hM y hy
    ·rw[aqd.1 hy,wH];omega
   refine⟨a,b,fun he=>?_,by rw[List.length_append]at e;rw[ap1];simp at e;omega⟩
   have:=c he
   rw[yU,show bP [gU S]=S.n.toNat+1 by show(gU S).size+1+0=_;rw[wH]]at this
   rw[ap1,this]
   show bP M+(S.n.toNat+1)+0+l.length=_
   omega
  rw[if_neg hx]
  by_cases CE:S.n=64
  ·simp only[if_pos CE]
   exact⟨⟨by show(0:Int)≤0;omega,by show(0:Int)≤64;omega⟩,hM,(fun he=>by cases he),by omega⟩
  ·rw[if_neg CE]
   obtain⟨a,b,c,e⟩:=za l (o6 S x) M (h.add CE x) hM
   refine⟨a,b,fun he=>?_,by rw[ap1];omega⟩
   rw[c he,ap1]
   show bP M+(S.n+1).toNat+l.length=_
   omega
theorem wJ:∀(l:List UInt8) (S:ad) (M:List ByteArray),(cg l S M).2.1.at_=S.at_∧(cg l S M).2.1.more=S.more∧(cg l S M).2.1.bq=S.bq∧(cg l S M).2.1.aB=S.aB∧(cg l S M).2.1.ro=S.ro∧(cg l S M).2.1.rn=S.rn∧(cg l S M).2.1.bH=S.bH∧(cg l S M).2.1.sn=S.sn∧(cg l S M).2.1.hn=S.hn∧(cg l S M).2.1.ee=S.ee∧(cg l S M).2.1.raw=S.raw∧(cg l S M).2.1.closed=S.closed∧((cg l S M).1=0→(cg l S M).2.1.failed=S.failed)
 | [],S,M=>⟨rfl,rfl,rfl,rfl,rfl,rfl,rfl,rfl,rfl,rfl,rfl,rfl,fun _=>rfl⟩
 |x::l,S,M=>by
  unfold cg
  split
  ·exact wJ l _ _
  split
  ·exact⟨rfl,rfl,rfl,rfl,rfl,rfl,rfl,rfl,rfl,rfl,rfl,rfl,fun h=>by cases h⟩
  ·exact wJ l _ _
structure I8(F:Nat)(s:MS):Prop where
 uL:Good F s.z
 cut:jJ s.S
 jK:s.H.length=s.S.hn
 fail:s.S.failed=false
 iX:s.S.at_=0
theorem ajp(F:Nat)(s:MS)(b:ByteArray)(hs:I8 F s)(ho:s.S.bq=false)(hm:s.S.more=false)(ajq:0<b.size)(hb:b.size≤32):
 aE av9 27 [.pointer (some ⟨0,0,none⟩),.int .i64 0,.slice (some ⟨5,0,none⟩) b.size b.size] (aO s.S.z s.L s.R s.H s.d++[.cells (ai b) 5 false]) fun r q=>
  r=.ret (.tuple #[.slice none 0 0,.int .i64 (bX s b).1])∧q=nW (.cells (ai b) 5 false) (bX s b).2.S.z (bX s b).2.L (bX s b).2.R (bX s b).2.H (bX s b).2.d:=by
 obtain⟨S,L,R,H,d⟩:=s
 obtain⟨hg,hc,hH,hf,ca⟩:=hs
 dsimp only[MS.z]at*
 have pH:=aU H
 have sL:=ahb S.z L R H d b ⟨hc.n0,hc.n1⟩ hf (by omega)
 obtain⟨c1,c2,c3,c4⟩:=za b.data.toList S [] hc fun x hx=>by cases hx
 have cz:∀(l:List UInt8) (S:ad) (M:List ByteArray),cg l S.z M=((cg l S M).1,(cg l S M).2.1.z,(cg l S M).2.2):=by
  intro l
  induction l with
  |nil=>intro S M;rfl
  |cons x l ih=>
   intro S M
   unfold cg
   split
   ·exact ih {S with n:=0} _
   split
   ·rw[if_pos (by assumption)];rfl
   ·rw[if_neg (by assumption)];exact ih (o6 S x) M
 rw[cz]at sL
 dsimp only at sL
 have cP:=wJ b.data.toList S []
 unfold bX
 generalize cg b.data.toList S []=o at*
 obtain⟨e,S1,M⟩:=o
 dsimp only at*
 obtain⟨s1,s2,s3,s4,s5,s6,s7,s8,s9,Sa,Sb,I9,Ja⟩:=cP
 have gi:M.length≤32:=by
  have:b.data.toList.length=b.size:=by simp
  have h0:([]:List ByteArray).length=0:=rfl
  omega
 have pM:Good F (S1,L,R,d):=⟨⟨by rw[show((S1,L,R,d):ci).1.rn=S1.rn from rfl,s6];exact hg.ok.len,by rw[show((S1,L,R,d):ci).1.sn=S1.sn from rfl,s8];exact hg.ok.runs,hg.ok.cF,hg.ok.made,by rw[show((S1,L,R,d):ci).1.bH=S1.bH from rfl,s7];exact hg.ok.bH,hg.ok.bQ⟩,hg.old,hg.bQ⟩
 have nX:=PY M false M.length rfl (by omega) c2 H (S1,L,R,d) pM.ok
 generalize cY M (S1,L,R,d)=o at*
 obtain⟨f,T,K,Rr,dd⟩:=o
 dsimp only at*
 refine aE.cT (n:=cn av9 27) (by kernel_rfl) ?_
 refine an.move (d':=⟨[(0,.pointer (some ⟨0,0,none⟩)),(1,.int .i64 0),(2,.slice (some ⟨5,0,none⟩) b.size b.size)],nW (.cells (ai b) 5 false) S.z L R H d⟩) [some 0,some 1,none,none,none,some 5,some 2,some 3,some 4] [2,3,4,5] (q:=[ai b,ap L,aq R,ak H]) (by kernel_rfl) (aC (by simp) (aC (by simp) (aC (by simp) (aC pH bc)))) (by kernel_rfl) (by kernel_rfl) ?_
 apply aii S L R H d b S1 M e T K Rr dd f pH sL nX ho hm ca ajq hb
 case n0=>exact fo rfl rfl
 case n1=>exact fo rfl rfl
 case aR=>simp
 case be=>exact pH
 case l4=>
  intro g1 g2
  have g1:f≠0:=by simpa using g1
  have g2:f=25:=by simpa using g2
  rw[if_pos g1]
  refine aib S L R H d b S1 M e T K Rr dd f (by simp) pH ⟨rfl,?_⟩
  unfold MS.fail nu gN
  rw[if_pos g2]
  rfl
 case l5=>
  intro g1 g2
  have g1:f≠0:=by simpa using g1
  have g2:¬f=25:=by simpa using g2
  rw[if_pos g1]
  refine aic S L R H d b S1 M e T K Rr dd f (by simp) pH ⟨rfl,?_⟩
  unfold MS.fail nu gN
  rw[if_neg g2]
  rfl
 case l6=>
  intro g1 g2 g3
  have g1:¬f≠0:=by simpa using g1
  have g2:e≠0:=by simpa using g2
  have g3:e=25:=by simpa using g3
  rw[if_neg g1,if_pos g2]
  refine aid S L R H d b S1 M e T K Rr dd f (by simp) pH ⟨rfl,?_⟩
  unfold MS.fail nu gN
  rw[if_pos g3]
  rfl
 case l7=>
  intro g1 g2 g3
  have g1:¬f≠0:=by simpa using g1
  have g2:e≠0:=by simpa using g2
  have g3:¬e=25:=by simpa using g3
  rw[if_neg g1,if_pos g2]
  refine aie S L R H d b S1 M e T K Rr dd f (by simp) pH ⟨rfl,?_⟩
  unfold MS.fail nu gN
  rw[if_neg g3]
  rfl
 case l8=>
  intro g1 g2
  have g1:¬f≠0:=by simpa using g1
  have g2:¬e≠0:=by simpa using g2
  rw[if_neg g1,if_neg g2]
  exact aif S L R H d b S1 M e T K Rr dd f (by simp) pH ⟨rfl,rfl⟩
structure CF(x:MS):Prop where
 run:x.L.length=x.S.rn
 runs:x.R.length=x.S.sn
 jK:x.H.length=x.S.hn
 cF:cj x.d
 CG:x.R.length≤900000
theorem ju.lens{s:ci}{H:List au}(h:ju s)(hH:H.length=s.1.hn):CF (gN s H):=
 ⟨h.len,h.runs,hH,h.cF,by have:=h.made;have:=h.cF.made;show s.2.2.1.length≤_;omega⟩
theorem Jb(S:ad)(L:List ByteArray)(R:List Int)(d:ay):(cM S L R d).2.1.hn=S.hn:=by unfold cM;split;rfl;split;rfl;rfl
theorem Jc:∀(l:List ByteArray) (s:ci),(cY l s).2.1.hn=s.1.hn
 | [],s=>rfl
 |x::l,s=>by
  unfold cY
  split
  ·split
   ·exact Jb _ _ _ _
   ·rw[Jc];exact Jb _ _ _ _
  ·rw[Jc];rfl
theorem Sc(s:ci):(fV s).2.1.hn=s.1.hn:=by
 unfold fV
 split
 ·rfl
 ·rw[Jc]
theorem ajr(s:ci)(H:List au)(hL:s.2.1.length=s.1.rn)(hH:H.length=s.1.hn)(hR:s.2.2.1.length≤900000)(hr:jo s.2.2.2 s.2.2.1):CF (gN (jp s H).2.1 (jp s H).2.2):=by
 obtain⟨S,L,R,d⟩:=s
 dsimp only at*
 obtain⟨p1,p2,p3⟩:=CA S.aB R.length R d hr
 have hv:jp (S,L,R,d) H=if(dI S.aB R.length R d).1≠0 then((dI S.aB R.length R d).1,({S with sn:=(dI S.aB R.length R d).2.1.length},L,(dI S.aB R.length R d).2),H)
  else match dI S.aB R.length R d with
   |(_,R,d)=>match dS R [] d with
    |(e,l,dd)=>if e=0 then(0,({S with sn:=R.length,hn:=l.length},L,R,dd),l)else(e,({S with sn:=R.length,hn:=0},L,R,dd),[]):=rfl
 rw[hv]
 clear hv
 generalize dI S.aB R.length R d=o at*
 obtain⟨e,R2,d2⟩:=o
 dsimp only at*
 by_cases he:e=0
 ·rw[if_neg (fun h=>h he)]
  obtain⟨o1,o2,o3,o4⟩:=wy R2 [] d2 p1
  generalize dS R2 [] d2=o at*
  obtain⟨e2,l,d3⟩:=o
  dsimp only at*
  split
  ·exact⟨hL,rfl,rfl,o1,by show R2.length≤_;omega⟩
  ·exact⟨hL,rfl,rfl,o1,by show R2.length≤_;omega⟩
 ·rw[if_pos he]
  exact⟨hL,rfl,hH,p1,by show R2.length≤_;omega⟩
theorem CH{F:Nat}{s:ci}{H:List au}(h:Good F s)(hc:jJ s.1)(hF:F≤800000)(hH:H.length=s.1.hn):CF (gN (iw s H).2.1 (iw s H).2.2):=by
 obtain⟨r1,r2⟩:=Cy h hc
 have r3:=Sc s
 have kn:=hc.n1
 unfold iw
 split
 ·exact r1.lens (hH.trans r3.symm)
 rename_i he
 have g:=Cz (r2 (aq2.1 he))
 have Jd:H.length=(lv (fV s).2).1.hn:=hH.trans r3.symm
 generalize lv (fV s).2=t at*
 unfold sK
 split
 ·refine⟨?_,g.ok.runs,Jd,g.ok.cF,?_⟩
  ·show(bE _ _).length=_;rw[nS];exact g.ok.len
  ·have:=g.ok.made;have:=g.ok.cF.made;show t.2.2.1.length≤_;omega
 unfold qZ
 have dk:ju (fL t).2:=by unfold fL;split;exact g.ok.mf.1;exact g.ok
 have jd:(fL t).2.1.hn=t.1.hn:=by unfold fL;split;exact Jb _ _ _ _;rfl
 split
 ·exact dk.lens (Jd.trans jd.symm)
 rename_i dY
 have g2:Good (F+(s.1.n.toNat+1)) (fL t).2:=by
  have dY:=aq2.1 dY
  unfold fL at dY⊢
  split
  ·rename_i h1;rw[if_pos h1]at dY;exact g.mf dY
  ·exact g
 exact ajr _ H dk.len (Jd.trans jd.symm) (by have:=dk.made;have:=dk.cF.made;omega) (g2.runs (by omega))
theorem ajs(F:Nat)(s:MS)(hF:F≤800000)(hs:I8 F s)(hh:s.H.length≤900000)(ho:s.S.bq=false)(hm:s.S.more=false)(aoB:(iw s.z s.H).2.2.length≤900000):
 aE av9 28 [.pointer (some ⟨0,0,none⟩),.int .i64 0] (aO s.S.z s.L s.R s.H s.d) fun r q=>
  r=.ret (.tuple #[.slice none 0 0,.int .i64 (gp s).1])∧q=jm (gp s).2.S.z (gp s).2.L (gp s).2.R (gp s).2.H (gp s).2.d:=by
 obtain⟨S,L,R,H,d⟩:=s
 obtain⟨hg,hc,hH,hf,ca⟩:=hs
 dsimp only[MS.z]at*
 have pH:=aU H
 have kj:=ahY F S L R H d hF hg hc hH
 have tu:=CH hg hc hF hH
 unfold gp
 dsimp only[MS.z]
 generalize iw (S,L,R,d) H=o at*
 obtain⟨e,⟨T,K,Rr,dd⟩,G⟩:=o
 dsimp only[gN]at*
 obtain⟨l1,l2,l3,l4,l5⟩:=tu
 dsimp only at*
 have ix:=RK T.z K Rr G dd l2 l3 (by omega) (by omega) l4
 have iy:cZ T.z Rr G dd=((cZ T Rr G dd).1,(cZ T Rr G dd).2.1.z,(cZ T Rr G dd).2.2):=by
  unfold cZ
  rw[show lx T.z G=lx T G from rfl]
  split<;>rfl
 rw[iy]at ix
 dsimp only at ix
 generalize cZ T Rr G dd=o at*
 obtain⟨f,U,d3⟩:=o
 dsimp only at*
 refine aE.cT (n:=cn av9 28) (by kernel_rfl) ?_
 apply aip S L R H d T K Rr G dd e U d3 f pH (aU G) kj ix ho hm ca
 case n0=>exact fo rfl rfl
 case n3=>intro _;exact fo rfl rfl
 case l1=>
  intro g1 g2
  have g1:e≠0:=by simpa using g1
  have g2:e=25:=by simpa using g2
  rw[if_pos g1]
  refine aij S L R H d T K Rr G dd e U d3 f ⟨rfl,?_⟩
  unfold MS.fail nu
  rw[if_pos g2]
  rfl
 case l2=>
  intro g1 g2
  have g1:e≠0:=by simpa using g1
  have g2:¬e=25:=by simpa using g2
  rw[if_pos g1]
  refine aik S L R H d T K Rr G dd e U d3 f ⟨rfl,?_⟩
  unfold MS.fail nu
  rw[if_neg g2]
  rfl
 case l4=>
  intro g1 g2 g3
  have g1:¬e≠0:=by simpa using g1
  have g2:f≠0:=by simpa using g2
  have g3:f=25:=by simpa using g3
  rw[if_neg g1,if_pos g2]
  refine ail S L R H d T K Rr G dd e U d3 f ⟨rfl,?_⟩
  unfold MS.fail nu
  rw[if_pos g3]
  rfl
 case l5=>
  intro g1 g2 g3
  have g1:¬e≠0:=by simpa using g1
  have g2:f≠0:=by simpa using g2
  have g3:¬f=25:=by simpa using g3
  rw[if_neg g1,if_pos g2]
  refine aim S L R H d T K Rr G dd e U d3 f ⟨rfl,?_⟩
  unfold MS.fail nu
  rw[if_neg g3]
  rfl
 case l6=>
  intro g1 g2
  have g1:¬e≠0:=by simpa using g1
  have g2:¬f≠0:=by simpa using g2
  rw[if_neg g1,if_neg g2]
  exact ain S L R H d T K Rr G dd e U d3 f ⟨rfl,rfl⟩
theorem ajt(S:ad)(L:List ByteArray)(R:List Int)(H:List au)(d:ay)(hH:H.length=S.hn)(h3:H.length≤3)(k:Nat)(hk:eI S.aB H=some k){n kk:Nat}{Q:bd→aj→Prop}(hn:n=68)(dP:kk=5)
 (h:an av9 n kk (fg.drop 1) ⟨[(0,.pointer (some ⟨0,0,none⟩)),(7,.pointer (some ⟨4,k*4,none⟩))],aO S L R H d⟩ Q):an av9 n kk fg ⟨[(0,.pointer (some ⟨0,0,none⟩))],aO S L R H d⟩ Q:=by
 subst hn dP
 match H,hH,h3,hk,h with
 | [],_,_,hk,_=>cases hk
 | [a],hH,_,hk,h=>
   have h1:a.there=true:=by
    unfold eI kw kw jn at hk
    cases ht:a.there with
    |true=>rfl
    |false=>rw[ht]at hk;cases hk
   have h2:eI S.aB [a]=some 0:=by simp[eI,kw,jn,h1]
   rw[h2]at hk
   cases hk
   exact aiy S L R d a hH.symm h1 (by simp) (by simp) h
 | [a,b],hH,_,hk,h=>
   have e0:aP [a,b] 0=a:=rfl
   have e1:aP [a,b] 1=b:=rfl
   apply aiG S L R d a b hH.symm
   all_goals
    intros
    first
     |(have ko:=hk
       simp[eI,kw,jn,aV, *]at ko
       subst ko
       exact h)
     |(have ko:=hk
       simp[eI,kw,jn,aV, *]at ko
       obtain⟨_,Je⟩:=ko
       subst Je
       exact h)
     |(cases hb:b.there with
       |true=>rfl
       |false=>
        exfalso
        have ko:=hk
        simp[eI,kw,jn,aV, *]at ko)
 | [a,b,c],hH,_,hk,h=>
   have e0:aP [a,b,c] 0=a:=rfl
   have e1:aP [a,b,c] 1=b:=rfl
   have e2:aP [a,b,c] 2=c:=rfl
   apply ai5 S L R d a b c hH.symm
   all_goals
    intros
    first
     |(have ko:=hk
       simp[eI,kw,jn,aV, *]at ko
       subst ko
       exact h)
     |(have ko:=hk
       simp[eI,kw,jn,aV, *]at ko
       obtain⟨_,Je⟩:=ko
       subst Je
       exact h)
     |(cases hb:c.there with
       |true=>rfl
       |false=>
        exfalso
        have ko:=hk
        simp[eI,kw,jn,aV, *]at ko)
def wK(L:List ByteArray)(i:Nat):ByteArray:=L.getD i apj
noncomputable def gV(s:MS):Int×ByteArray×MS:=
 if 0<s.S.rn then match cZ s.S.pop s.R s.H s.d with
  |(f,U,d3)=>if f≠0 then(f,wK s.L s.S.ro,(⟨U,s.L,s.R,s.H,d3⟩:MS).fail f)else(0,wK s.L s.S.ro,⟨U,s.L,s.R,s.H,d3⟩)
 else match eI s.S.aB s.H with
  |none=>(0,apj,s)
  |some k=>match bW (aP s.H k) s.d with
   |(e,y,dd)=>if e≠0 then(e,(aP s.H k).line,(⟨s.S,s.L,s.R,s.H.set k y,dd⟩:MS).fail e)else match cZ s.S s.R (s.H.set k y) dd with
    |(f,U,d3)=>if f≠0 then(f,(aP s.H k).line,(⟨U,s.L,s.R,s.H.set k y,d3⟩:MS).fail f)else(0,(aP s.H k).line,⟨U,s.L,s.R,s.H.set k y,d3⟩)
def CI(x:ByteArray):List ag:=[.cells [.int .i64 0,.slice (some ⟨6,0,none⟩) (x.size+1) (x.size+1)] 122 false,.cells (ai (cd x)) 5 false]
def Sd(x:Int×ByteArray×MS)(r:bx)(q:List ag):Prop:=r=.ret (.tuple #[.slice (some ⟨5,0,none⟩) 1 1,.int .i64 x.1])∧q=aO x.2.2.S x.2.2.L x.2.2.R x.2.2.H x.2.2.d++CI x.2.1
theorem Se(S:ad)(L:List ByteArray)(R:List Int)(H:List au)(d:ay)(x:ByteArray)(e:Int)(hx:x.size≤1000)(hR:R.length=S.sn)(hH:H.length=S.hn)(hl:H.length≤1000000)(hr:R.length≤1000000)(hd:cj d):
 an av9 68 5 (sM.drop 10) ⟨[(0,.pointer (some ⟨0,0,none⟩)),(5,.string x),(6,.int .i64 e)],aO S L R H d⟩
  (aF av9 29 68 5 (Sd (if e≠0 then(e,x,(⟨S,L,R,H,d⟩:MS).fail e)else match cZ S R H d with
   |(f,U,d3)=>if f≠0 then(f,x,(⟨U,L,R,H,d3⟩:MS).fail f)else(0,x,⟨U,L,R,H,d3⟩)))):=by
 have pH:=aU H
 have ix:=RK S L R H d hR hH hl hr hd
 generalize cZ S R H d=o at*
 obtain⟨f,U,d3⟩:=o
 dsimp only at*
 have one:(apS (fun b:UInt8=>apm apA (↑(apT b):Int)) (apE x.size (apO (apH x)))).all aqg=true:=by
  rw[List.take_of_length_le (by exact Nat.le_refl _)];exact F9 _
 apply ajo S L R H d U d3 f x e pH ix hx
 case n0=>intro _;exact fo rfl rfl
 case n1=>intros;exact one
 case n6=>intros;exact one
 case n8=>intros;exact one
 case n10=>intros;exact one
 case n12=>intros;exact one
 case aR=>simp
 case be=>simp
 case bB=>exact pH
 case l5=>
  intro g1 g2 g3
  have g1:e=0:=by simpa using g1
  have g2:f≠0:=by simpa using g2
  have g3:f=25:=by simpa using g3
  rw[if_neg (fun h=>h g1),if_pos g2]
  refine aji S L R H d U d3 f x e (by simp) (by simp) pH ⟨rfl,?_⟩
  unfold MS.fail nu
  rw[join_eq,if_pos g3]
  rfl
 case l7=>
  intro g1 g2 g3
  have g1:e=0:=by simpa using g1
  have g2:f≠0:=by simpa using g2
  have g3:¬f=25:=by simpa using g3
  rw[if_neg (fun h=>h g1),if_pos g2]
  refine ajj S L R H d U d3 f x e (by simp) (by simp) pH ⟨rfl,?_⟩
  unfold MS.fail nu
  rw[join_eq,if_neg g3]
  rfl
 case l9=>
  intro g1 g2
  have g1:e=0:=by simpa using g1
  have g2:f=0:=by simpa using g2
  rw[if_neg (fun h=>h g1),if_neg (fun h=>h g2)]
  refine ajk S L R H d U d3 f x e (by simp) (by simp) pH ⟨by rw[g2],?_⟩
  rw[join_eq]
  rfl
 case iu=>
  intro g1 g3
  have g1:e≠0:=by simpa using g1
  have g3:e=25:=by simpa using g3
  rw[if_pos g1]
  refine ajl S L R H d U d3 f x e (by simp) (by simp) pH ⟨rfl,?_⟩
  unfold MS.fail nu
  rw[join_eq,if_pos g3]
  rfl
 case nt=>
  intro g1 g3
  have g1:e≠0:=by simpa using g1
  have g3:¬e=25:=by simpa using g3
  rw[if_pos g1]
  refine ajm S L R H d U d3 f x e (by simp) (by simp) pH ⟨rfl,?_⟩
  unfold MS.fail nu
  rw[join_eq,if_neg g3]
  rfl
structure q9(s:MS):Prop where
 runs:s.R.length=s.S.sn
 jK:s.H.length=s.S.hn
 cF:cj s.d
 CG:s.R.length≤900000
 bQ:s.H.length≤3
 ok:∀h∈s.H,o5 h
 run:s.S.ro+s.S.rn≤s.L.length
 small:∀x∈s.L,x.size≤64
 some:lx s.S s.H=true
theorem Sf{L:List ByteArray}{i:Nat}(h:i<L.length):aX (ap L) (i+0)=wK L i∧eS (ap L) (i+0)=true∧wK L i∈L:=by
 have h0:i+0=i:=rfl
 rw[h0,MN h,MO h]
 unfold wK
 rw[List.getD_eq_getElem?_getD,apl h]
 exact⟨rfl,rfl,List.getElem_mem h⟩
theorem aju(s:MS)(hs:q9 s)(ho:s.S.bq=false)(hm:s.S.more=true):
 aE av9 29 [.pointer (some ⟨0,0,none⟩)] (aO s.S s.L s.R s.H s.d) (Sd (gV s)):=by
 obtain⟨S,L,R,H,d⟩:=s
 obtain⟨h1,h2,h3,h4,h5,h6,h7,h8,h9⟩:=hs
 dsimp only at*
 have pH:=aU H
 refine aE.cT (n:=cn av9 29) (by kernel_rfl) ?_
 by_cases jH:0<S.rn
 ·apply air S L R H d pH ho hm jH
  case aR=>simp
  case be=>simp
  case bB=>exact pH
  case l3=>
   refine an.vN 9 (c:=22) (b:=decide (((S.rn:Nat):Int)>0)) (by kernel_rfl) (by rfl) (by rfl) ?_
   rw[decide_eq_true (show((S.rn:Nat):Int)>0 by omega)]
   refine an.join ?_
   refine an.less [(0,.pointer (some ⟨0,0,none⟩)),(6,.int .i64 0)] (by kernel_rfl) (by intro p hp;rcases List.mem_cons.1 hp with rfl|hp;exact apC;rw[aqd.1 hp];exact apB _ apC) ?_
   obtain⟨r1,r2,r3⟩:=Sf (L:=L) (i:=S.ro) (by omega)
   apply aiv S L R H d pH jH
   case n0=>exact r2
   case l4=>
    refine QA.normal ?_
    unfold R3
    rw[r1]
    have:=Se S.pop L R H d (wK L S.ro) 0 (by have:=h8 _ r3;omega) h1 h2 (by omega) (by omega) h3
    rw[if_neg (fun h=>h rfl)]at this
    unfold gV
    dsimp only
    rw[if_pos jH]
    exact this
 ·have jH:S.rn=0:=by omega
  obtain⟨k,hk⟩:∃k,eI S.aB H=some k:=by
   unfold lx at h9
   rw[decide_eq_false (by omega)]at h9
   cases hk:eI S.aB H with
   |none=>rw[hk]at h9;cases h9
   |some k=>exact⟨k,rfl⟩
  obtain⟨k1,k2⟩:=wz hk
  have hok:=h6 _ (wA k1)
  have gd:=afl S L R H d k k1 hok h3
  have fm:=h3.bW (aP H k)
  have dh:=yY (h:=aP H k) h3
  unfold gV
  dsimp only
  rw[if_neg (by omega),hk]
  dsimp only
  generalize bW (aP H k) d=o at*
  obtain⟨e,y,dd⟩:=o
  dsimp only at*
  apply ait S L R H d pH ho hm jH
  case aR=>simp
  case be=>simp
  case bB=>exact pH
  case l3=>
   refine an.vN 9 (c:=22) (b:=decide (((S.rn:Nat):Int)>0)) (by kernel_rfl) (by rfl) (by rfl) ?_
   rw[decide_eq_false (show¬((S.rn:Nat):Int)>0 by omega)]
   refine an.join ?_
   refine an.less [(0,.pointer (some ⟨0,0,none⟩))] (by kernel_rfl) (by intro p hp;rw[aqd.1 hp];exact apC) ?_
   refine ajt S L R H d h2 h5 k hk rfl rfl ?_
   apply ajh S L R H d k e (H.set k y) dd pH (aU _) gd k1 (by omega)
   case n0=>have:=(rowAt k1).n5;rw[show 0+apd (k:Int)*4+2=k*4+2 by simp]at this;exact this
   case l4=>
    refine QA.normal ?_
    unfold R4
    have ni:=(rowAt k1).s2
    rw[show 0+apd (k:Int)*4+2=k*4+2 by simp]at ni
    rw[ni]
    exact Se S L R (H.set k y) dd (aP H k).line e (by have:=hok.line;omega) h1 (by rw[aqK];exact h2) (by rw[aqK];omega) (by omega) fm
noncomputable section
noncomputable def uM:List apV:=aY (dz av9 30)
open Tree renaming aN→mN,dj→mF,eT→mL,fz→mQ,dB→mR,fH→mE
noncomputable abbrev Jf:List apV:=(aY (inner (aY (inner (uM.drop 7)))))
noncomputable abbrev Jg:List apV:=(aY (inner (aY (inner (uM.drop 5)))))
abbrev ly:=fun S L R H d=>([ab (aJ S 1 2 3 4) 89,.abs d,ab (ap L) 9,ab (aq R) 3,ab (ak H) 114]:List ag)
abbrev ajv:=fun S L R H d=>(⟨[(0,ao 0),(3,aa (ad.n S)),(17,dx 2 (ad.ro S) (ad.rn S) (ad.rn S)),(18,aa (ad.rn S)),(19,aa 0)],ly S L R H d⟩:aj)
abbrev ajw:=fun S L R H d=>(⟨[(0,ao 0)],ly S L R H d⟩:aj)
theorem ajx(S L R H d)(pH:(ak H).all af=true){Q:aQ}(l3:an av9 46 5 (uM.drop 5) (ajv S L R H d) Q):an av9 46 5 uM (ajw S L R H d) Q:=
 aS bo 5 (.leaf [0,3,17,18,19] [0,1,2,3,4] [2,3,4]) (fun u=>by kernel_rfl) (aM L R H (mQ l3))
abbrev ajy:=fun S L R H d (z i:Int)=>(⟨[(0,ao 0),(3,aa z),(17,dx 2 (ad.ro S) (ad.rn S) (ad.rn S)),(18,aa (ad.rn S)),(19,aa i)],ly S L R H d⟩:aj)
abbrev ajz:=fun S L R H d (z i:Int)=>(⟨[(0,ao 0),(3,aa z)],ly S L R H d⟩:aj)
abbrev Sg:=fun(S:ad) L R H d (z i:Int)=>(⟨[(0,ao 0),(3,aa z),(17,dx 2 S.ro S.rn S.rn),(18,aa S.rn),(19,aa i)],ly S L R H d⟩:aj)
theorem ajA(S L R H d)(z i:Int)(pH:(ak H).all af=true){Q:aQ}(l3:(decide (i<(↑(ad.rn S):Int)))=true→an av9 46 5 (Jg.drop 2) (ajy S L R H d z i) Q)(l4:(decide (i<(↑(ad.rn S):Int)))=false→Q (.exit 0) (ajz S L R H d z i)):an av9 46 5 Jg (Sg S L R H d z i) Q:=
 aS bo 2 (.fork 0 (.leaf [0,3,17,18,19] [0,1,2,3,4] [2,3,4]) (.leaf [0,3] [0,1,2,3,4] [2,3,4])) (fun u=>by kernel_rfl) (mF (c:=decide (i<(↑(ad.rn S):Int))) (fun h0=>(aM L R H (mQ (l3 h0)))) (fun h0=>(aM L R H (mE 0 (l4 h0)))))
abbrev Sh:=fun S L R H d (z i:Int)=>(⟨[(0,ao 0),(3,.int .i64 (apc .i64 (z+(↑(apk (aX (ap L) (ad.ro S+apd i*1))):Int)))),(17,dx 2 (ad.ro S) (ad.rn S) (ad.rn S)),(18,aa (ad.rn S)),(19,.int .i64 (apc .i64 (i+1)))],ly S L R H d⟩:aj)
theorem ajB(S:ad)(L R H d)(z i:Int)(pH:(ak H).all af=true)(h0:0≤i)(h1:i<S.rn)(h2:S.rn≤1000000)(h3:apc .i64 (i+1)=i+1){Q:aQ}(n0:(eS (ap L) (ad.ro S+apd i*1))=true)(l4:Q .normal (Sh S L R H d z i)):an av9 46 5 (Jg.drop 2) (Sg S L R H d z i) Q:=
 aS bo 1000 (aA [0,1,1,0,1] (.leaf [0,3,17,18,19] [0,1,2,3,4] [2,3,4])) (fun u=>by kernel_rfl) (mN (decide_eq_true (by omega):(decide (0≤i))=true) (mN (show(apy (apd i) (ad.rn S))=true by simp at pH h0 h1 h2 h3⊢ <;>omega) (mN n0 (aM L R H (mQ (an.done (by kernel_rfl) l4))))))
abbrev ajC:=fun S L R H d (z:Int)=>(⟨[(3,aa z),(31,ah 4 (ad.hn S)),(32,aa (ad.hn S)),(33,aa 0)],ly S L R H d⟩:aj)
abbrev ajD:=fun S L R H d (z:Int)=>(⟨[(0,ao 0),(3,aa z)],ly S L R H d⟩:aj)
theorem ajE(S L R H d)(z:Int)(pH:(ak H).all af=true){Q:aQ}(l3:an av9 46 5 ((uM.drop 6).drop 1) (ajC S L R H d z) Q):an av9 46 5 (uM.drop 6) (ajD S L R H d z) Q:=
 aS bo 1 (.leaf [3,31,32,33] [0,1,2,3,4] [2,3,4]) (fun u=>by kernel_rfl) (aM L R H (mQ l3))
abbrev ajF:=fun S L R H d (z i:Int)=>(⟨[(3,aa z),(31,ah 4 (ad.hn S)),(32,aa (ad.hn S)),(33,aa i)],ly S L R H d⟩:aj)
abbrev ajG:=fun S L R H d (z i:Int)=>(⟨[(3,aa z)],ly S L R H d⟩:aj)
abbrev Si:=fun(S:ad) L R H d (z i:Int)=>(⟨[(3,aa z),(31,ah 4 S.hn),(32,aa S.hn),(33,aa i)],ly S L R H d⟩:aj)
theorem ajH(S L R H d)(z i:Int)(pH:(ak H).all af=true){Q:aQ}(l3:(decide (i<(↑(ad.hn S):Int)))=true→an av9 46 5 (Jf.drop 2) (ajF S L R H d z i) Q)(l4:(decide (i<(↑(ad.hn S):Int)))=false→Q (.exit 2) (ajG S L R H d z i)):an av9 46 5 Jf (Si S L R H d z i) Q:=
 aS bo 2 (.fork 0 (.leaf [3,31,32,33] [0,1,2,3,4] [2,3,4]) (.leaf [3] [0,1,2,3,4] [2,3,4])) (fun u=>by kernel_rfl) (mF (c:=decide (i<(↑(ad.hn S):Int))) (fun h0=>(aM L R H (mQ (l3 h0)))) (fun h0=>(aM L R H (mE 2 (l4 h0)))))
abbrev Sj:=fun S L R H d (z i:Int)=>(⟨[(3,.int .i64 (apc .i64 (z+(↑(apk (aX (ak H) (0+apd i*4+1+1))):Int)))),(31,ah 4 (ad.hn S)),(32,aa (ad.hn S)),(33,.int .i64 (apc .i64 (i+1)))],ly S L R H d⟩:aj)
abbrev Sk:=fun S L R H d (z i:Int)=>(⟨[(3,aa z),(31,ah 4 (ad.hn S)),(32,aa (ad.hn S)),(33,.int .i64 (apc .i64 (i+1)))],ly S L R H d⟩:aj)
theorem ajI(S:ad)(L R H d)(z i:Int)(pH:(ak H).all af=true)(hH:(apb H)=S.hn)(h0:0≤i)(h1:i<S.hn)(h2:S.hn≤1000000)(h3:apc .i64 (i+1)=i+1){Q:aQ}(n0:(apG (0+apd i*4+4) (apb (ak H)))=true)(n1:(cA apr (ak H) (0+apd i*4))=true)(n2:(cA apr (ak H) (0+apd i*4+1))=true)(n3:(eS (ak H) (0+apd i*4+1+1))=true)(n4:(oJ (ak H) (0+apd i*4+1+1+1))=true)(l8:(gR (ak H) (0+apd i*4+1+1+1))=true→Q .normal (Sj S L R H d z i))(l9:(gR (ak H) (0+apd i*4+1+1+1))=false→Q .normal (Sk S L R H d z i)):an av9 46 5 (Jf.drop 2) (Si S L R H d z i) Q:=
 aS bo 1000 (aA [0,1,1,0,1,1,1,1,1] (.fork 2 (.leaf [3,31,32,33] [0,1,2,3,4] [2,3,4]) (.leaf [3,31,32,33] [0,1,2,3,4] [2,3,4]))) (fun u=>by kernel_rfl) (mN (decide_eq_true (by omega):(decide (0≤i))=true) (mN (show(apy (apd i) (ad.hn S))=true by simp at pH hH h0 h1 h2 h3⊢ <;>omega) (mN n0 (mN n1 (mN n2 (mN n3 (mN n4 (mF (c:=gR (ak H) (0+apd i*4+1+1+1)) (fun h0=>(aM L R H (mQ (an.done (by kernel_rfl) (l8 h0))))) (fun h0=>(aM L R H (mQ (an.done (by kernel_rfl) (l9 h0)))))))))))))
abbrev Sl:=fun S L R H d (z:Int)=>(⟨[(2,aa z)],ly S L R H d⟩:aj)
theorem ajJ(S L R H d)(z:Int){Q:bg}(hq:Q (.ret (aa z)) (ly S L R H d)):aF av9 30 46 5 Q .ret (Sl S L R H d z):=aF.ret (vs:=[aa z]) (l:=[]) (bs:=[0,1,2,3,4]) (pl:=[2,3,4]) (q:=[ap L,aq R,ak H]) (fun u=>by kernel_rfl) (by kernel_rfl) (gL L R H bc) hq
abbrev ajK:=fun S L R H d (z:Int)=>(⟨[(3,aa z)],ly S L R H d⟩:aj)
theorem ajL(S L R H d)(z:Int)(pH:(ak H).all af=true){Q:aQ}(l3:Q .ret (Sl S L R H d z)):an av9 46 5 (uM.drop 8) (ajK S L R H d z) Q:=
 aS bo 1000 (.leaf [2] [0,1,2,3,4] [2,3,4]) (fun u=>by kernel_rfl) (aM L R H (mR l3))
end
def kS:List ByteArray→Nat
 | []=>0
 |x::l=>x.size+kS l
def o7:List au→Nat
 | []=>0
 |h::l=>(if h.there then h.line.size else 0)+o7 l
def MS.run(s:MS):List ByteArray:=(s.L.drop s.S.ro).take s.S.rn
def jw(s:MS):Nat:=s.S.n.toNat+kS s.run+o7 s.H
theorem ajM{l:List ByteArray}{m:Nat}(h:∀x∈l,x.size≤m):kS l≤m*l.length:=by
 induction l with
 |nil=>exact ap7 _
 |cons x l ih=>
  have h1:=h x apC
  have h2:=ih fun y hy=>h y (apB _ hy)
  show x.size+kS l≤m*(l.length+1)
  rw[Nat.mul_add]
  omega
theorem Sm{l:List au}(h:∀x∈l,o5 x):o7 l≤64*l.length:=by
 induction l with
 |nil=>exact ap7 _
 |cons x l ih=>
  have h1:=(h x apC).line
  have h2:=ih fun y hy=>h y (apB _ hy)
  show(if x.there then x.line.size else 0)+o7 l≤64*(l.length+1)
  split<;>omega
structure Sn(s:MS):Prop where
 cut:jJ s.S
 jK:s.H.length=s.S.hn
 bQ:s.H.length≤3
 ok:∀h∈s.H,o5 h
 run:s.S.ro+s.S.rn≤s.L.length
 aoC:s.S.rn≤1000
 small:∀x∈s.L,x.size≤64
def Sp(s:MS)(t:Nat×Int):aj:=⟨[(0,.pointer (some ⟨0,0,none⟩)),(3,.int .i64 t.2),(17,.slice (some ⟨2,s.S.ro,none⟩) s.S.rn s.S.rn),(18,.int .i64 s.S.rn),(19,iZ t.1)],aO s.S s.L s.R s.H s.d⟩
def Jh(s:MS)(t:Nat×Int):aj:=⟨[(3,.int .i64 t.2),(31,.slice (some ⟨4,0,none⟩) s.S.hn s.S.hn),(32,.int .i64 s.S.hn),(33,iZ t.1)],aO s.S s.L s.R s.H s.d⟩
theorem Ji(s:MS)(hs:Sn s):aE av9 30 [.pointer (some ⟨0,0,none⟩)] (aO s.S s.L s.R s.H s.d) fun r q=>r=.ret (.int .i64 (jw s))∧q=aO s.S s.L s.R s.H s.d:=by
 obtain⟨S,L,R,H,d⟩:=s
 obtain⟨hc,hH,h3,hok,jH,fP,eo⟩:=hs
 dsimp only at*
 have pH:=aU H
 have pK:=hc.n0
 have kn:=hc.n1
 obtain⟨l,hl⟩:∃l,l=(L.drop S.ro).take S.rn:=⟨_,rfl⟩
 have nG:l.length=S.rn:=by rw[hl,List.length_take,List.length_drop];omega
 have ajN:∀x∈l,x.size≤64:=fun x hx=>eo x (List.mem_of_mem_drop (List.mem_of_mem_take (hl▸hx)))
 have tH:=ajM ajN
 have jd:=Sm hok
 have hv:jw ⟨S,L,R,H,d⟩=S.n.toNat+kS l+o7 H:=by rw[hl];rfl
 rw[hv]
 refine aE.cT (n:=cn av9 30) (by kernel_rfl) ?_
 apply ajx S L R H d pH
 ·
  refine an.eU 5 0 (by kernel_rfl) ?_
  refine an.fS (Sp ⟨S,L,R,H,d⟩) (fun t=>S.rn-t.1) (fun t=>t.1≤S.rn∧0≤t.2∧t.2+kS (l.drop t.1)=S.n+kS l) (0,S.n) (by kernel_rfl) ⟨ap7 _,pK,by simp⟩ ?_
  rintro⟨i,z⟩ ⟨h1,h2,h4⟩
  dsimp only at h1 h2 h4
  apply ajA S L R H d z i pH
  case l3=>
   intro g
   have g:=of_decide_eq_true g
   have hi:i<S.rn:=by omega
   have qt:i<l.length:=by omega
   have hd:l.drop i=l[i]::l.drop (i+1):=List.drop_eq_getElem_cons qt
   have hx:L[S.ro+i]?=some l[i]:=by
    have:l[i]?=some l[i]:=apl qt
    rw[←this,hl,List.getElem?_take,if_pos hi,List.getElem?_drop]
   have Jj:S.ro+i<L.length:=by omega
   have he:aX (ap L) (S.ro+apd (i:Int)*1)=l[i]:=by
    rw[show S.ro+apd (i:Int)*1=S.ro+i by simp,MN Jj]
    rw[apl Jj]at hx
    exact asC hx
   rw[hd]at h4
   have h4:z+((l[i].size+kS (l.drop (i+1)):Nat):Int)=S.n+kS l:=h4
   apply ajB S L R H d z i pH (by omega) g (by omega) (bI (by omega) (by omega))
   case n0=>rw[show S.ro+apd (i:Int)*1=S.ro+i by simp];exact MO Jj
   case l4=>
    refine QL.to (i+1,z+l[i].size) ⟨hi,by dsimp only;omega,by dsimp only;omega⟩ (by dsimp only;omega) ?_
    unfold Sh Sp
    rw[he,bI (z:=z+(l[i].size:Int)) (by omega) (by omega),fA (by omega)]
    rfl
  case l4=>
   intro g
   have g:=of_decide_eq_false g
   rw[aqU (by omega)]at h4
   have h4:z+((0:Nat):Int)=S.n+kS l:=h4
   with_reducible (repeat first|refine QL.ret ?_|refine QL.exit ?_|refine QB.ret ?_|refine QB.cp ?_|refine QB.normal ?_|refine QB.cy (by rfl) ?_)
   apply ajE S L R H d z pH
   ·
    rw[List.drop_drop]
    refine an.eU 7 2 (by kernel_rfl) ?_
    refine an.fS (Jh ⟨S,L,R,H,d⟩) (fun t=>S.hn-t.1) (fun t=>t.1≤S.hn∧0≤t.2∧t.2+o7 (H.drop t.1)=S.n+kS l+o7 H) (0,z) (by kernel_rfl) ⟨ap7 _,h2,by simp;omega⟩ ?_
    clear h4 h2 g h1
    rintro⟨j,y⟩ ⟨h1,h2,h4⟩
    dsimp only at h1 h2 h4
    apply ajH S L R H d y j pH
    case l4=>
     intro g
     have g:=of_decide_eq_false g
     rw[aqU (by omega)]at h4
     have h4:y+((0:Nat):Int)=S.n+kS l+o7 H:=h4
     with_reducible (repeat first|refine QL.ret ?_|refine QL.exit ?_|refine QB.ret ?_|refine QB.cp ?_|refine QB.normal ?_|refine QB.cy (by rfl) ?_)
     apply ajL S L R H d y pH
     ·exact ajJ S L R H d y ⟨by rw[show y=((S.n.toNat+kS l+o7 H:Nat):Int)by omega],rfl⟩
    case l3=>
     intro g
     have g:=of_decide_eq_true g
     have hj:j<H.length:=by omega
     obtain⟨n0,n1,n2,n3,n4,xb,xs,QW,n5⟩:=rowAt hj
     rw[Iq hj]at h4
     have h4:y+(((if(aP H j).there then(aP H j).line.size else 0)+o7 (H.drop (j+1)):Nat):Int)=S.n+kS l+o7 H:=h4
     apply ajI S L R H d y j pH hH (by omega) g (by omega) (bI (by omega) (by omega)) n0 n1 n2 n3 n4
     case l8=>
      intro gb
      rw[xb]at gb
      rw[if_pos gb]at h4
      refine QL.to (j+1,y+(aP H j).line.size) ⟨by dsimp only;omega,by dsimp only;omega,by dsimp only;omega⟩ (by dsimp only;omega) ?_
      unfold Sj Jh
      rw[xs,bI (z:=y+((aP H j).line.size:Int)) (by omega) (by omega),fA (by omega)]
      rfl
     case l9=>
      intro gb
      rw[xb]at gb
      rw[if_neg (by rw[gb];simp)]at h4
      refine QL.to (j+1,y) ⟨by dsimp only;omega,h2,by dsimp only;omega⟩ (by dsimp only;omega) ?_
      unfold Sk Jh
      rw[fA (by omega)]
      rfl
structure ba where
 bytes:ByteArray
 ended:Bool
 code:Int
 ajO:Int
 id:Int
def zb(s:ba):List SV:=[.cells s.bytes.size (ai s.bytes) 5,.val (.bool s.ended),.val (.int .i64 s.code),.val (.int .i64 s.ajO),.val (.int .i64 s.id)]
def dD:ba:=⟨apj,false,0,0,0⟩
def dv(l:List ba):ag:=.rows l.length 5 fun i=>zb (l[i]?.getD dD)
def nY(o:ByteArray)(nd er hd t:Int):List Value:=[.string o,.string apj,.string apj,.string apj,.int .i64 nd,.int .i64 er,.int .i64 hd,.int .i64 t,.int .i64 0,.int .i64 0,.int .i64 0,.bool false]
def lz(w:Bool):List Value:=[.bool w,.bool false,.bool false,.bool false]
def jx:List Value:=nY apj 0 0 0 0
def fW(S:ad):Int:=if S.bq then -1 else if S.more then -2 else S.at_
end Go.Proofs.YtnlkkgpcikkpoaaGreat
