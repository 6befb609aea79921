/- Part of the proof: Zpv, Zpx, Zpy, Zqa, Zqb, Zqc, Zqd. -/
import Derived.Test.YtnlkkgpcikkpoaaJAk
import Derived.KernelRfl
open Array renaming toList→amV
open ByteArray renaming data→amP,empty→amw,size→ams
open Decidable renaming not_not→aoa
open Go renaming Code→am3,FuncId→amY
open Go.Addr renaming mk→apP
open Go.IntKind renaming i64→amA,u8→amJ,wrap→aml
open Go.Proofs.Try renaming prog→asz
open Go.Value renaming int→amu,oneCell'→ano,pointer→anx
open Int renaming toNat→amm
open List renaming all→amq,drop_of_length_le→an3,getElem?_eq_getElem→amt,length→mM,length_cons→am9,length_set→anU,map→am0,mem_cons_of_mem→amK,mem_cons_self→amN,mem_singleton→ank,take→amM
open Nat renaming beq→amE,ble→amO,blt→amG,zero_le→ann
open Option.some renaming inj→apE
open UInt8 renaming toNat→amZ
set_option linter.unusedVariables false
set_option linter.unusedSimpArgs false
namespace Go.Proofs.Ytnlkkgpcikkpoaa
noncomputable section
open Go Vm Go.RowKit
set_option maxRecDepth 100000
def af6(S:ad)(L:List ByteArray)(R:List Int)(H:List ap)(d:ay)(b:ByteArray)(S1:ad)(M:List ByteArray)(e:Int)(T:ad)(K:List ByteArray)(Rr:List Int)(dd:ay)(f:Int):List (amY×Sum):=[(80,Sum.one (fun _ _=>some [0,1,6,7,8,5]) [.pointer (some ⟨0,3,none⟩),ah 5 b.size] (aR S.z L R H d++[ab (ag b) 5]) (.ret (.tuple #[ah 6 M.length,aa e])) (aR S1.z L R H d++[ab (ag b) 5,ab (ao M) 9])),(81,Sum.one (fun _ _=>some [0,1,6,7,8,9]) [an 0,ah 5 M.length] (aR S1.z L R H d++[ab (ao M) 9]) (.ret (aa f)) (nl (ab (ao M) 9) T.z K Rr H dd)),(94,Sum.du asz xR)]
theorem af7(S:ad)(L:List ByteArray)(R:List Int)(H:List ap)(d:ay)(b:ByteArray)(S1:ad)(M:List ByteArray)(e:Int)(T:ad)(K:List ByteArray)(Rr:List Int)(dd:ay)(f:Int)(rO:aG asz 80 [.pointer (some ⟨0,3,none⟩),ah 5 b.size] (aR S.z L R H d++[ab (ag b) 5]) fun r q=>r=.ret (.tuple #[ah 6 (mM M),aa e])∧q=aR S1.z L R H d++[ab (ag b) 5,ab (ao M) 9])(nn:aG asz 81 [an 0,ah 5 (mM M)] (aR S1.z L R H d++[ab (ao M) 9]) fun r q=>r=.ret (aa f)∧q=nl (ab (ao M) 9) T.z K Rr H dd):dg asz (dE asz (dF (af6 S L R H d b S1 M e T K Rr dd f)) 50 40):=dJ cZ mixed (dQ (.cons (bp.one rO) (.cons (bp.one nn) (.cons Gs .nil)))) 50 40
def af8(S:ad)(L:List ByteArray)(R:List Int)(H:List ap)(d:ay)(T:ad)(K:List ByteArray)(Rr:List Int)(G:List ap)(dd:ay)(e:Int)(U:ad)(d3:ay)(f:Int):List (amY×Sum):=[(76,Sum.one (fun _ _=>some [0,1,2,3,4]) [an 0] (aR S.z L R H d) (.ret (aa e)) (iM T.z K Rr G dd)),(78,Sum.one (fun _ _=>some [0,1,5,6,7]) [an 0] (aR T.z K Rr G dd) (.ret (aa f)) (aR U.z K Rr G d3)),(94,Sum.du asz xR)]
theorem af9(S:ad)(L:List ByteArray)(R:List Int)(H:List ap)(d:ay)(T:ad)(K:List ByteArray)(Rr:List Int)(G:List ap)(dd:ay)(e:Int)(U:ad)(d3:ay)(f:Int)(kZ:aG asz 76 [an 0] (aR S.z L R H d) fun r q=>r=.ret (aa e)∧q=iM T.z K Rr G dd)(gV:aG asz 78 [an 0] (aR T.z K Rr G dd) fun r q=>r=.ret (aa f)∧q=aR U.z K Rr G d3):dg asz (dE asz (dF (af8 S L R H d T K Rr G dd e U d3 f)) 50 40):=dJ cZ mixed (dQ (.cons (bp.one kZ) (.cons (bp.one gV) (.cons Gs .nil)))) 50 40
def aga(S:ad)(L:List ByteArray)(R:List Int)(H:List ap)(d:ay)(k:Nat)(e:Int)(G:List ap)(dd:ay):List (amY×Sum):=[(85,Sum.one (fun _ _=>some [0,1,2,3,4]) [an 0,.pointer (some ⟨4,k*4,none⟩)] (aR S L R H d) (.ret (aa e)) (aR S L R G dd))]
theorem agb(S:ad)(L:List ByteArray)(R:List Int)(H:List ap)(d:ay)(k:Nat)(e:Int)(G:List ap)(dd:ay)(gv:aG asz 85 [an 0,.pointer (some ⟨4,k*4,none⟩)] (aR S L R H d) fun r q=>r=.ret (aa e)∧q=aR S L R G dd):dg asz (dE asz (dF (aga S L R H d k e G dd)) 50 40):=dJ cZ mixed (dQ (.cons (bp.one gv) .nil)) 50 40
def agc(S:ad)(L:List ByteArray)(R:List Int)(H:List ap)(d:ay)(U:ad)(d3:ay)(f:Int):List (amY×Sum):=[(78,Sum.one (fun _ _=>some [0,1,2,3,4]) [an 0] (aR S L R H d) (.ret (aa f)) (aR U L R H d3)),(94,Sum.du asz xR)]
theorem agd(S:ad)(L:List ByteArray)(R:List Int)(H:List ap)(d:ay)(U:ad)(d3:ay)(f:Int)(gV:aG asz 78 [an 0] (aR S L R H d) fun r q=>r=.ret (aa f)∧q=aR U L R H d3):dg asz (dE asz (dF (agc S L R H d U d3 f)) 50 40):=dJ cZ mixed (dQ (.cons (bp.one gV) (.cons Gs .nil))) 50 40
noncomputable def age:List am3:=ba (dy asz 70)
noncomputable def agf:List am3:=ba (dy asz 69)
noncomputable def rP:List am3:=ba (dy asz 72)
open Tree renaming aU→mN,dh→mF,eQ→mL,fw→mQ,dz→mR,fI→mE
noncomputable abbrev eZ:List am3:=(ba (o6 false (rP.drop 9)))
noncomputable abbrev agh:List am3:=(ba (o6 true (rP.drop 9)))
def Qh:Nat→Bool→Bool→Tree→Tree
 |0,_,_,t=>t
 |n+1,d,b,t=>.cD d b (Qh n d b t)
theorem eG{R:bf→aj→Prop}{c v:Bool}{t:Tree}(n:Nat)(h1:c=v)(h2:t.ok R):(Qh n c v t).ok R:=by
 induction n with
 |zero=>exact h2
 |succ n ih=>exact⟨h1,ih⟩
abbrev Bp:=fun H b T K Rr dd=>([ab (aQ (ad.mk (ad.at_ T) (ad.more T) true (ad.B (ad.z T)) (ad.n T) (ad.failed T) (ad.aC T) 0 (ad.rn T) (ad.bM T) (ad.sn T) (ad.hn T) (ad.dR T) (ay.raw dd) (ad.closed T)) 1 6 7 8) 64,.abs dd,.dead,.dead,.dead,ab (ag b) 5,ab (ao K) 9,ab (aq Rr) 3,ab (ak H) 144]:List ai)
abbrev Qi:=fun(S:ad) (L:List ByteArray) (R:List Int) H (d:ay) b (S1:ad) (M:List ByteArray) (e:Int) T K Rr dd (f:Int)=>(⟨[(6,cd),(7,aa f)],Bp H b T K Rr dd⟩:aj)
theorem agi(S L R H d b S1 M)(e:Int)(T K Rr dd)(f:Int){Q:bk}(aW:amq (ag b) af=true)(be:amq (ak H) af=true)(hq:Q (.ret (.tuple #[cd,aa f])) (Bp H b T K Rr dd)):aH asz 70 44 6 Q .ret (Qi S L R H d b S1 M e T K Rr dd f):=aH.ret (vs:=[cd,aa f]) (l:=[]) (bs:=[0,1,2,3,4,5,6,7,8]) (pl:=[5,6,7,8]) (q:=[ag b,ao K,aq Rr,ak H]) (fun u=>by kernel_rfl) (by kernel_rfl) (aE aW (aE (by first|exact aP _|assumption|exact aD (by assumption) rfl _|exact aD (aD (aD (by assumption) rfl _) rfl _) rfl _|exact aD (aP _) (cg (by rfl) _) _|exact aA (aO (aN _) _) _|(simp;done)|exact aB (by assumption) rfl|exact aB (aP _) rfl|exact aB rfl (aA (by assumption) _)|exact aB (by assumption) (aA (by assumption) _)|exact aB rfl (aA (aO (by assumption) _) _)|exact aA (aO (by assumption) _) _) (aE (by first|exact aP _|assumption|exact aD (by assumption) rfl _|exact aD (aD (aD (by assumption) rfl _) rfl _) rfl _|exact aD (aP _) (cg (by rfl) _) _|exact aA (aO (aN _) _) _|(simp;done)|exact aB (by assumption) rfl|exact aB (aP _) rfl|exact aB rfl (aA (by assumption) _)|exact aB (by assumption) (aA (by assumption) _)|exact aB rfl (aA (aO (by assumption) _) _)|exact aA (aO (by assumption) _) _) (aE be bd)))) hq
abbrev Bq:=fun H b T K Rr dd=>([ab (aQ (ad.mk (ad.at_ T) (ad.more T) true (ad.B (ad.z T)) (ad.n T) (ad.failed T) (ad.aC T) 0 (ad.rn T) (ad.bM T) (ad.sn T) (ad.hn T) (ad.dR T) (ad.raw T) (ad.closed T)) 1 6 7 8) 64,.abs dd,.dead,.dead,.dead,ab (ag b) 5,ab (ao K) 9,ab (aq Rr) 3,ab (ak H) 144]:List ai)
abbrev Qj:=fun(S:ad) (L:List ByteArray) (R:List Int) H (d:ay) b (S1:ad) (M:List ByteArray) (e:Int) T K Rr dd (f:Int)=>(⟨[(6,cd),(7,aa f)],Bq H b T K Rr dd⟩:aj)
theorem agj(S L R H d b S1 M)(e:Int)(T K Rr dd)(f:Int){Q:bk}(aW:amq (ag b) af=true)(be:amq (ak H) af=true)(hq:Q (.ret (.tuple #[cd,aa f])) (Bq H b T K Rr dd)):aH asz 70 44 6 Q .ret (Qj S L R H d b S1 M e T K Rr dd f):=aH.ret (vs:=[cd,aa f]) (l:=[]) (bs:=[0,1,2,3,4,5,6,7,8]) (pl:=[5,6,7,8]) (q:=[ag b,ao K,aq Rr,ak H]) (fun u=>by kernel_rfl) (by kernel_rfl) (aE aW (aE (by first|exact aP _|assumption|exact aD (by assumption) rfl _|exact aD (aD (aD (by assumption) rfl _) rfl _) rfl _|exact aD (aP _) (cg (by rfl) _) _|exact aA (aO (aN _) _) _|(simp;done)|exact aB (by assumption) rfl|exact aB (aP _) rfl|exact aB rfl (aA (by assumption) _)|exact aB (by assumption) (aA (by assumption) _)|exact aB rfl (aA (aO (by assumption) _) _)|exact aA (aO (by assumption) _) _) (aE (by first|exact aP _|assumption|exact aD (by assumption) rfl _|exact aD (aD (aD (by assumption) rfl _) rfl _) rfl _|exact aD (aP _) (cg (by rfl) _) _|exact aA (aO (aN _) _) _|(simp;done)|exact aB (by assumption) rfl|exact aB (aP _) rfl|exact aB rfl (aA (by assumption) _)|exact aB (by assumption) (aA (by assumption) _)|exact aB rfl (aA (aO (by assumption) _) _)|exact aA (aO (by assumption) _) _) (aE be bd)))) hq
abbrev Qk:=fun(S:ad) (L:List ByteArray) (R:List Int) H (d:ay) b (S1:ad) (M:List ByteArray) (e:Int) T K Rr dd (f:Int)=>(⟨[(6,cd),(7,aa e)],Bp H b T K Rr dd⟩:aj)
theorem agk(S L R H d b S1 M)(e:Int)(T K Rr dd)(f:Int){Q:bk}(aW:amq (ag b) af=true)(be:amq (ak H) af=true)(hq:Q (.ret (.tuple #[cd,aa e])) (Bp H b T K Rr dd)):aH asz 70 44 6 Q .ret (Qk S L R H d b S1 M e T K Rr dd f):=aH.ret (vs:=[cd,aa e]) (l:=[]) (bs:=[0,1,2,3,4,5,6,7,8]) (pl:=[5,6,7,8]) (q:=[ag b,ao K,aq Rr,ak H]) (fun u=>by kernel_rfl) (by kernel_rfl) (aE aW (aE (by first|exact aP _|assumption|exact aD (by assumption) rfl _|exact aD (aD (aD (by assumption) rfl _) rfl _) rfl _|exact aD (aP _) (cg (by rfl) _) _|exact aA (aO (aN _) _) _|(simp;done)|exact aB (by assumption) rfl|exact aB (aP _) rfl|exact aB rfl (aA (by assumption) _)|exact aB (by assumption) (aA (by assumption) _)|exact aB rfl (aA (aO (by assumption) _) _)|exact aA (aO (by assumption) _) _) (aE (by first|exact aP _|assumption|exact aD (by assumption) rfl _|exact aD (aD (aD (by assumption) rfl _) rfl _) rfl _|exact aD (aP _) (cg (by rfl) _) _|exact aA (aO (aN _) _) _|(simp;done)|exact aB (by assumption) rfl|exact aB (aP _) rfl|exact aB rfl (aA (by assumption) _)|exact aB (by assumption) (aA (by assumption) _)|exact aB rfl (aA (aO (by assumption) _) _)|exact aA (aO (by assumption) _) _) (aE be bd)))) hq
abbrev Ql:=fun(S:ad) (L:List ByteArray) (R:List Int) H (d:ay) b (S1:ad) (M:List ByteArray) (e:Int) T K Rr dd (f:Int)=>(⟨[(6,cd),(7,aa e)],Bq H b T K Rr dd⟩:aj)
theorem agl(S L R H d b S1 M)(e:Int)(T K Rr dd)(f:Int){Q:bk}(aW:amq (ag b) af=true)(be:amq (ak H) af=true)(hq:Q (.ret (.tuple #[cd,aa e])) (Bq H b T K Rr dd)):aH asz 70 44 6 Q .ret (Ql S L R H d b S1 M e T K Rr dd f):=aH.ret (vs:=[cd,aa e]) (l:=[]) (bs:=[0,1,2,3,4,5,6,7,8]) (pl:=[5,6,7,8]) (q:=[ag b,ao K,aq Rr,ak H]) (fun u=>by kernel_rfl) (by kernel_rfl) (aE aW (aE (by first|exact aP _|assumption|exact aD (by assumption) rfl _|exact aD (aD (aD (by assumption) rfl _) rfl _) rfl _|exact aD (aP _) (cg (by rfl) _) _|exact aA (aO (aN _) _) _|(simp;done)|exact aB (by assumption) rfl|exact aB (aP _) rfl|exact aB rfl (aA (by assumption) _)|exact aB (by assumption) (aA (by assumption) _)|exact aB rfl (aA (aO (by assumption) _) _)|exact aA (aO (by assumption) _) _) (aE (by first|exact aP _|assumption|exact aD (by assumption) rfl _|exact aD (aD (aD (by assumption) rfl _) rfl _) rfl _|exact aD (aP _) (cg (by rfl) _) _|exact aA (aO (aN _) _) _|(simp;done)|exact aB (by assumption) rfl|exact aB (aP _) rfl|exact aB rfl (aA (by assumption) _)|exact aB (by assumption) (aA (by assumption) _)|exact aB rfl (aA (aO (by assumption) _) _)|exact aA (aO (by assumption) _) _) (aE be bd)))) hq
abbrev HG:=fun(S:ad) (L:List ByteArray) (R:List Int) H (d:ay) b (S1:ad) (M:List ByteArray) (e:Int) T K Rr dd (f:Int)=>(⟨[(6,cd),(7,aa 0)],[ab (aQ (ad.z T) 1 6 7 8) 64,.abs dd,.dead,.dead,.dead,ab (ag b) 5,ab (ao K) 9,ab (aq Rr) 3,ab (ak H) 144]⟩:aj)
theorem agm(S L R H d b S1 M)(e:Int)(T K Rr dd)(f:Int){Q:bk}(aW:amq (ag b) af=true)(be:amq (ak H) af=true)(hq:Q (.ret (.tuple #[cd,aa 0])) (HG S L R H d b S1 M e T K Rr dd f).objs):aH asz 70 44 6 Q .ret (HG S L R H d b S1 M e T K Rr dd f):=aH.ret (vs:=[cd,aa 0]) (l:=[]) (bs:=[0,1,2,3,4,5,6,7,8]) (pl:=[5,6,7,8]) (q:=[ag b,ao K,aq Rr,ak H]) (fun u=>by kernel_rfl) (by kernel_rfl) (aE aW (aE (by first|exact aP _|assumption|exact aD (by assumption) rfl _|exact aD (aD (aD (by assumption) rfl _) rfl _) rfl _|exact aD (aP _) (cg (by rfl) _) _|exact aA (aO (aN _) _) _|(simp;done)|exact aB (by assumption) rfl|exact aB (aP _) rfl|exact aB rfl (aA (by assumption) _)|exact aB (by assumption) (aA (by assumption) _)|exact aB rfl (aA (aO (by assumption) _) _)|exact aA (aO (by assumption) _) _) (aE (by first|exact aP _|assumption|exact aD (by assumption) rfl _|exact aD (aD (aD (by assumption) rfl _) rfl _) rfl _|exact aD (aP _) (cg (by rfl) _) _|exact aA (aO (aN _) _) _|(simp;done)|exact aB (by assumption) rfl|exact aB (aP _) rfl|exact aB rfl (aA (by assumption) _)|exact aB (by assumption) (aA (by assumption) _)|exact aB rfl (aA (aO (by assumption) _) _)|exact aA (aO (by assumption) _) _) (aE be bd)))) hq
abbrev agn:=fun(S:ad) L R H d (b:ByteArray) (S1:ad) (M:List ByteArray) (e:Int) (T:ad) (K:List ByteArray) (Rr:List Int) (dd:ay) (f:Int)=>(⟨[(0,an 0),(1,aa 0),(2,ah 5 b.size)],[ab (aQ S.z 1 6 7 8) 64,.abs d,.dead,.dead,.dead,ab (ag b) 5,ab (ao L) 9,ab (aq R) 3,ab (ak H) 144]⟩:aj)
theorem ago(S:ad)(L R H d)(b:ByteArray)(S1:ad)(M)(e:Int)(T:ad)(K Rr dd)(f:Int)(pH:(ak H).all af=true)(rO:aG asz 80 [.pointer (some ⟨0,3,none⟩),ah 5 b.size] (aR S.z L R H d++[ab (ag b) 5]) fun r q=>r=.ret (.tuple #[ah 6 (mM M),aa e])∧q=aR S1.z L R H d++[ab (ag b) 5,ab (ao M) 9])(nn:aG asz 81 [an 0,ah 5 (mM M)] (aR S1.z L R H d++[ab (ao M) 9]) fun r q=>r=.ret (aa f)∧q=nl (ab (ao M) 9) T.z K Rr H dd)(h0:S.over=false)(h1:S.more=false)(h2:S.at_=0)(h3:0<b.size)(h4:b.size≤32){Q:aV}(n0:(dX [anx (some (apP 0 3 none)),ah 5 b.size] [anx (some (apP 0 3 none)),ah 5 b.size] [ab (aQ (ad.z S) 1 2 3 4) 64,ai.abs d,ab (ao L) 9,ab (aq R) 3,ab (ak H) 144,ab (ag b) 5] (aR (ad.z S) L R H d++[ab (ag b) 5]))=true)(n1:(dX [an 0,ah 5 (mM M)] [an 0,ah 5 (mM M)] [ab (aQ (ad.z S1) 1 2 3 4) 64,ai.abs d,ab (ao L) 9,ab (aq R) 3,ab (ak H) 144,ab (ao M) 9] (aR (ad.z S1) L R H d++[ab (ao M) 9]))=true)(aW:amq (ag b) af=true)(be:amq (ak H) af=true)(l4:(f != 0)=true→(f==25)=true→Q .ret (Qi S L R H d b S1 M e T K Rr dd f))(l5:(f != 0)=true→(f==25)=false→Q .ret (Qj S L R H d b S1 M e T K Rr dd f))(l6:(f != 0)=false→(e != 0)=true→(e==25)=true→Q .ret (Qk S L R H d b S1 M e T K Rr dd f))(l7:(f != 0)=false→(e != 0)=true→(e==25)=false→Q .ret (Ql S L R H d b S1 M e T K Rr dd f))(l8:(f != 0)=false→(e != 0)=false→Q .ret (HG S L R H d b S1 M e T K Rr dd f)):al asz 44 6 age (agn S L R H d b S1 M e T K Rr dd f) Q:=
 aZ (af7 S L R H d b S1 M e T K Rr dd f rO nn) 1000 (av [8,2,0,0,0,0,2,0,0,4,0,2,0,0,5,1,1,1,1,1,1,1,1,1,3,1,1,1,1,1,1,1,1] (.fork 0 (.fork 1 (.leaf [6,7] [0,1,2,3,4,5,10,11,12] [5,10,11,12]) (.leaf [6,7] [0,1,2,3,4,5,10,11,12] [5,10,11,12])) (.fork 0 (.fork 1 (.leaf [6,7] [0,1,2,3,4,5,10,11,12] [5,10,11,12]) (.leaf [6,7] [0,1,2,3,4,5,10,11,12] [5,10,11,12])) (.leaf [6,7] [0,1,2,3,4,5,10,11,12] [5,10,11,12])))) (fun u=>by kernel_rfl) (mN (show(ad.over S)=false by assumption) (eG 7 (show(ad.more S)=false by assumption) (mN (show(0 != ad.at_ S)=false by simp at pH rO nn h0 h1 h2 h3 h4⊢ <;>omega) (eG 4 (decide_eq_false (by omega):((b.size:Int)==0)=false) (mN (decide_eq_false (by omega):(decide ((b.size:Int)>32))=false) (aM L R H (mN (aI b) (mN n0 (aM L R H (mN (aI b) (mN (aN M) (aM L R H (mN (aN M) (mN n1 (mN (aN M) (mN (aN K) (mN (aS Rr) (mN (aY H) (mF (c:=f != 0) (fun h0=>(mF (c:=f==25) (fun h1=>(mN (aI b) (mN (aN K) (mN (aS Rr) (mN (aY H) (mR (l4 h0 h1))))))) (fun h1=>(mN (aI b) (mN (aN K) (mN (aS Rr) (mN (aY H) (mR (l5 h0 h1))))))))) (fun h0=>(mF (c:=e != 0) (fun h1=>(mF (c:=e==25) (fun h2=>(mN (aI b) (mN (aN K) (mN (aS Rr) (mN (aY H) (mR (l6 h0 h1 h2))))))) (fun h2=>(mN (aI b) (mN (aN K) (mN (aS Rr) (mN (aY H) (mR (l7 h0 h1 h2))))))))) (fun h1=>(mN (aI b) (mN (aN K) (mN (aS Rr) (mN (aY H) (mR (l8 h0 h1))))))))))))))))))))))))))))
abbrev Qm:=fun T K Rr G dd=>([ab (aQ (ad.mk (ad.at_ T) (ad.more T) true (ad.B (ad.z T)) (ad.n T) (ad.failed T) (ad.aC T) 0 (ad.rn T) (ad.bM T) (ad.sn T) (ad.hn T) (ad.dR T) (ay.raw dd) (ad.closed T)) 1 5 6 7) 64,.abs dd,.dead,.dead,.dead,ab (ao K) 9,ab (aq Rr) 3,ab (ak G) 144]:List ai)
abbrev Qn:=fun(S:ad) (L:List ByteArray) (R:List Int) (H:List ap) (d:ay) T K Rr G dd (e:Int) (U:ad) (d3:ay) (f:Int)=>(⟨[(4,cd),(5,aa e)],Qm T K Rr G dd⟩:aj)
theorem agp(S L R H d T K Rr G dd)(e:Int)(U d3)(f:Int){Q:bk}(hq:Q (.ret (.tuple #[cd,aa e])) (Qm T K Rr G dd)):aH asz 69 33 5 Q .ret (Qn S L R H d T K Rr G dd e U d3 f):=aH.ret (vs:=[cd,aa e]) (l:=[]) (bs:=[0,1,2,3,4,5,6,7]) (pl:=[5,6,7]) (q:=[ao K,aq Rr,ak G]) (fun u=>by kernel_rfl) (by kernel_rfl) (aE (by first|exact aP _|assumption|exact aD (by assumption) rfl _|exact aD (aD (aD (by assumption) rfl _) rfl _) rfl _|exact aD (aP _) (cg (by rfl) _) _|exact aA (aO (aN _) _) _|(simp;done)|exact aB (by assumption) rfl|exact aB (aP _) rfl|exact aB rfl (aA (by assumption) _)|exact aB (by assumption) (aA (by assumption) _)|exact aB rfl (aA (aO (by assumption) _) _)|exact aA (aO (by assumption) _) _) (aE (by first|exact aP _|assumption|exact aD (by assumption) rfl _|exact aD (aD (aD (by assumption) rfl _) rfl _) rfl _|exact aD (aP _) (cg (by rfl) _) _|exact aA (aO (aN _) _) _|(simp;done)|exact aB (by assumption) rfl|exact aB (aP _) rfl|exact aB rfl (aA (by assumption) _)|exact aB (by assumption) (aA (by assumption) _)|exact aB rfl (aA (aO (by assumption) _) _)|exact aA (aO (by assumption) _) _) (aE (by first|exact aP _|assumption|exact aD (by assumption) rfl _|exact aD (aD (aD (by assumption) rfl _) rfl _) rfl _|exact aD (aP _) (cg (by rfl) _) _|exact aA (aO (aN _) _) _|(simp;done)|exact aB (by assumption) rfl|exact aB (aP _) rfl|exact aB rfl (aA (by assumption) _)|exact aB (by assumption) (aA (by assumption) _)|exact aB rfl (aA (aO (by assumption) _) _)|exact aA (aO (by assumption) _) _) bd))) hq
abbrev Qo:=fun T K Rr G dd=>([ab (aQ (ad.mk (ad.at_ T) (ad.more T) true (ad.B (ad.z T)) (ad.n T) (ad.failed T) (ad.aC T) 0 (ad.rn T) (ad.bM T) (ad.sn T) (ad.hn T) (ad.dR T) (ad.raw T) (ad.closed T)) 1 5 6 7) 64,.abs dd,.dead,.dead,.dead,ab (ao K) 9,ab (aq Rr) 3,ab (ak G) 144]:List ai)
abbrev Qp:=fun(S:ad) (L:List ByteArray) (R:List Int) (H:List ap) (d:ay) T K Rr G dd (e:Int) (U:ad) (d3:ay) (f:Int)=>(⟨[(4,cd),(5,aa e)],Qo T K Rr G dd⟩:aj)
theorem agq(S L R H d T K Rr G dd)(e:Int)(U d3)(f:Int){Q:bk}(hq:Q (.ret (.tuple #[cd,aa e])) (Qo T K Rr G dd)):aH asz 69 33 5 Q .ret (Qp S L R H d T K Rr G dd e U d3 f):=aH.ret (vs:=[cd,aa e]) (l:=[]) (bs:=[0,1,2,3,4,5,6,7]) (pl:=[5,6,7]) (q:=[ao K,aq Rr,ak G]) (fun u=>by kernel_rfl) (by kernel_rfl) (aE (by first|exact aP _|assumption|exact aD (by assumption) rfl _|exact aD (aD (aD (by assumption) rfl _) rfl _) rfl _|exact aD (aP _) (cg (by rfl) _) _|exact aA (aO (aN _) _) _|(simp;done)|exact aB (by assumption) rfl|exact aB (aP _) rfl|exact aB rfl (aA (by assumption) _)|exact aB (by assumption) (aA (by assumption) _)|exact aB rfl (aA (aO (by assumption) _) _)|exact aA (aO (by assumption) _) _) (aE (by first|exact aP _|assumption|exact aD (by assumption) rfl _|exact aD (aD (aD (by assumption) rfl _) rfl _) rfl _|exact aD (aP _) (cg (by rfl) _) _|exact aA (aO (aN _) _) _|(simp;done)|exact aB (by assumption) rfl|exact aB (aP _) rfl|exact aB rfl (aA (by assumption) _)|exact aB (by assumption) (aA (by assumption) _)|exact aB rfl (aA (aO (by assumption) _) _)|exact aA (aO (by assumption) _) _) (aE (by first|exact aP _|assumption|exact aD (by assumption) rfl _|exact aD (aD (aD (by assumption) rfl _) rfl _) rfl _|exact aD (aP _) (cg (by rfl) _) _|exact aA (aO (aN _) _) _|(simp;done)|exact aB (by assumption) rfl|exact aB (aP _) rfl|exact aB rfl (aA (by assumption) _)|exact aB (by assumption) (aA (by assumption) _)|exact aB rfl (aA (aO (by assumption) _) _)|exact aA (aO (by assumption) _) _) bd))) hq
abbrev Qq:=fun K Rr G U d3=>([ab (aQ (ad.mk (ad.at_ U) (ad.more U) true (ad.B (ad.z U)) (ad.n U) (ad.failed U) (ad.aC U) 0 (ad.rn U) (ad.bM U) (ad.sn U) (ad.hn U) (ad.dR U) (ay.raw d3) (ad.closed U)) 1 5 6 7) 64,.abs d3,.dead,.dead,.dead,ab (ao K) 9,ab (aq Rr) 3,ab (ak G) 144]:List ai)
abbrev Qr:=fun(S:ad) (L:List ByteArray) (R:List Int) (H:List ap) (d:ay) (T:ad) K Rr G (dd:ay) (e:Int) U d3 (f:Int)=>(⟨[(4,cd),(5,aa f)],Qq K Rr G U d3⟩:aj)
theorem agr(S L R H d T K Rr G dd)(e:Int)(U d3)(f:Int){Q:bk}(hq:Q (.ret (.tuple #[cd,aa f])) (Qq K Rr G U d3)):aH asz 69 33 5 Q .ret (Qr S L R H d T K Rr G dd e U d3 f):=aH.ret (vs:=[cd,aa f]) (l:=[]) (bs:=[0,1,2,3,4,5,6,7]) (pl:=[5,6,7]) (q:=[ao K,aq Rr,ak G]) (fun u=>by kernel_rfl) (by kernel_rfl) (aE (by first|exact aP _|assumption|exact aD (by assumption) rfl _|exact aD (aD (aD (by assumption) rfl _) rfl _) rfl _|exact aD (aP _) (cg (by rfl) _) _|exact aA (aO (aN _) _) _|(simp;done)|exact aB (by assumption) rfl|exact aB (aP _) rfl|exact aB rfl (aA (by assumption) _)|exact aB (by assumption) (aA (by assumption) _)|exact aB rfl (aA (aO (by assumption) _) _)|exact aA (aO (by assumption) _) _) (aE (by first|exact aP _|assumption|exact aD (by assumption) rfl _|exact aD (aD (aD (by assumption) rfl _) rfl _) rfl _|exact aD (aP _) (cg (by rfl) _) _|exact aA (aO (aN _) _) _|(simp;done)|exact aB (by assumption) rfl|exact aB (aP _) rfl|exact aB rfl (aA (by assumption) _)|exact aB (by assumption) (aA (by assumption) _)|exact aB rfl (aA (aO (by assumption) _) _)|exact aA (aO (by assumption) _) _) (aE (by first|exact aP _|assumption|exact aD (by assumption) rfl _|exact aD (aD (aD (by assumption) rfl _) rfl _) rfl _|exact aD (aP _) (cg (by rfl) _) _|exact aA (aO (aN _) _) _|(simp;done)|exact aB (by assumption) rfl|exact aB (aP _) rfl|exact aB rfl (aA (by assumption) _)|exact aB (by assumption) (aA (by assumption) _)|exact aB rfl (aA (aO (by assumption) _) _)|exact aA (aO (by assumption) _) _) bd))) hq
abbrev Qs:=fun K Rr G U d3=>([ab (aQ (ad.mk (ad.at_ U) (ad.more U) true (ad.B (ad.z U)) (ad.n U) (ad.failed U) (ad.aC U) 0 (ad.rn U) (ad.bM U) (ad.sn U) (ad.hn U) (ad.dR U) (ad.raw U) (ad.closed U)) 1 5 6 7) 64,.abs d3,.dead,.dead,.dead,ab (ao K) 9,ab (aq Rr) 3,ab (ak G) 144]:List ai)
abbrev Qt:=fun(S:ad) (L:List ByteArray) (R:List Int) (H:List ap) (d:ay) (T:ad) K Rr G (dd:ay) (e:Int) U d3 (f:Int)=>(⟨[(4,cd),(5,aa f)],Qs K Rr G U d3⟩:aj)
theorem ags(S L R H d T K Rr G dd)(e:Int)(U d3)(f:Int){Q:bk}(hq:Q (.ret (.tuple #[cd,aa f])) (Qs K Rr G U d3)):aH asz 69 33 5 Q .ret (Qt S L R H d T K Rr G dd e U d3 f):=aH.ret (vs:=[cd,aa f]) (l:=[]) (bs:=[0,1,2,3,4,5,6,7]) (pl:=[5,6,7]) (q:=[ao K,aq Rr,ak G]) (fun u=>by kernel_rfl) (by kernel_rfl) (aE (by first|exact aP _|assumption|exact aD (by assumption) rfl _|exact aD (aD (aD (by assumption) rfl _) rfl _) rfl _|exact aD (aP _) (cg (by rfl) _) _|exact aA (aO (aN _) _) _|(simp;done)|exact aB (by assumption) rfl|exact aB (aP _) rfl|exact aB rfl (aA (by assumption) _)|exact aB (by assumption) (aA (by assumption) _)|exact aB rfl (aA (aO (by assumption) _) _)|exact aA (aO (by assumption) _) _) (aE (by first|exact aP _|assumption|exact aD (by assumption) rfl _|exact aD (aD (aD (by assumption) rfl _) rfl _) rfl _|exact aD (aP _) (cg (by rfl) _) _|exact aA (aO (aN _) _) _|(simp;done)|exact aB (by assumption) rfl|exact aB (aP _) rfl|exact aB rfl (aA (by assumption) _)|exact aB (by assumption) (aA (by assumption) _)|exact aB rfl (aA (aO (by assumption) _) _)|exact aA (aO (by assumption) _) _) (aE (by first|exact aP _|assumption|exact aD (by assumption) rfl _|exact aD (aD (aD (by assumption) rfl _) rfl _) rfl _|exact aD (aP _) (cg (by rfl) _) _|exact aA (aO (aN _) _) _|(simp;done)|exact aB (by assumption) rfl|exact aB (aP _) rfl|exact aB rfl (aA (by assumption) _)|exact aB (by assumption) (aA (by assumption) _)|exact aB rfl (aA (aO (by assumption) _) _)|exact aA (aO (by assumption) _) _) bd))) hq
abbrev HH:=fun(S:ad) (L:List ByteArray) (R:List Int) (H:List ap) (d:ay) (T:ad) K Rr G (dd:ay) (e:Int) U d3 (f:Int)=>(⟨[(4,cd),(5,aa 0)],[ab (aQ (ad.z U) 1 5 6 7) 64,.abs d3,.dead,.dead,.dead,ab (ao K) 9,ab (aq Rr) 3,ab (ak G) 144]⟩:aj)
theorem agt(S L R H d T K Rr G dd)(e:Int)(U d3)(f:Int){Q:bk}(hq:Q (.ret (.tuple #[cd,aa 0])) (HH S L R H d T K Rr G dd e U d3 f).objs):aH asz 69 33 5 Q .ret (HH S L R H d T K Rr G dd e U d3 f):=aH.ret (vs:=[cd,aa 0]) (l:=[]) (bs:=[0,1,2,3,4,5,6,7]) (pl:=[5,6,7]) (q:=[ao K,aq Rr,ak G]) (fun u=>by kernel_rfl) (by kernel_rfl) (aE (by first|exact aP _|assumption|exact aD (by assumption) rfl _|exact aD (aD (aD (by assumption) rfl _) rfl _) rfl _|exact aD (aP _) (cg (by rfl) _) _|exact aA (aO (aN _) _) _|(simp;done)|exact aB (by assumption) rfl|exact aB (aP _) rfl|exact aB rfl (aA (by assumption) _)|exact aB (by assumption) (aA (by assumption) _)|exact aB rfl (aA (aO (by assumption) _) _)|exact aA (aO (by assumption) _) _) (aE (by first|exact aP _|assumption|exact aD (by assumption) rfl _|exact aD (aD (aD (by assumption) rfl _) rfl _) rfl _|exact aD (aP _) (cg (by rfl) _) _|exact aA (aO (aN _) _) _|(simp;done)|exact aB (by assumption) rfl|exact aB (aP _) rfl|exact aB rfl (aA (by assumption) _)|exact aB (by assumption) (aA (by assumption) _)|exact aB rfl (aA (aO (by assumption) _) _)|exact aA (aO (by assumption) _) _) (aE (by first|exact aP _|assumption|exact aD (by assumption) rfl _|exact aD (aD (aD (by assumption) rfl _) rfl _) rfl _|exact aD (aP _) (cg (by rfl) _) _|exact aA (aO (aN _) _) _|(simp;done)|exact aB (by assumption) rfl|exact aB (aP _) rfl|exact aB rfl (aA (by assumption) _)|exact aB (by assumption) (aA (by assumption) _)|exact aB rfl (aA (aO (by assumption) _) _)|exact aA (aO (by assumption) _) _) bd))) hq
abbrev agu:=fun(S:ad) L R H d (T:ad) (K:List ByteArray) (Rr:List Int) (G:List ap) (dd:ay) (e:Int) (U:ad) (d3:ay) (f:Int)=>(⟨[(0,an 0),(1,aa 0)],[ab (aQ S.z 1 2 3 4) 64,.abs d,ab (ao L) 9,ab (aq R) 3,ab (ak H) 144]⟩:aj)
theorem agv(S:ad)(L R H d)(T:ad)(K Rr G dd)(e:Int)(U:ad)(d3)(f:Int)(pH:(ak H).all af=true)(pG:(ak G).all af=true)(kZ:aG asz 76 [an 0] (aR S.z L R H d) fun r q=>r=.ret (aa e)∧q=iM T.z K Rr G dd)(gV:aG asz 78 [an 0] (aR T.z K Rr G dd) fun r q=>r=.ret (aa f)∧q=aR U.z K Rr G d3)(h0:S.over=false)(h1:S.more=false)(h2:S.at_=0){Q:aV}(n0:(dX [an 0] [an 0] [ab (aQ (ad.z S) 1 2 3 4) 64,ai.abs d,ab (ao L) 9,ab (aq R) 3,ab (ak H) 144] (aR (ad.z S) L R H d))=true)(l1:(e != 0)=true→(e==25)=true→Q .ret (Qn S L R H d T K Rr G dd e U d3 f))(l2:(e != 0)=true→(e==25)=false→Q .ret (Qp S L R H d T K Rr G dd e U d3 f))(n3:(e != 0)=false→(dX [an 0] [an 0] [ab (aQ (ad.z T) 1 2 3 4) 64,ai.abs dd,ab (ao K) 9,ab (aq Rr) 3,ab (ak G) 144] (aR (ad.z T) K Rr G dd))=true)(l4:(e != 0)=false→(f != 0)=true→(f==25)=true→Q .ret (Qr S L R H d T K Rr G dd e U d3 f))(l5:(e != 0)=false→(f != 0)=true→(f==25)=false→Q .ret (Qt S L R H d T K Rr G dd e U d3 f))(l6:(e != 0)=false→(f != 0)=false→Q .ret (HH S L R H d T K Rr G dd e U d3 f)):al asz 33 5 agf (agu S L R H d T K Rr G dd e U d3 f) Q:=
 aZ (af9 S L R H d T K Rr G dd e U d3 f kZ gV) 1000 (av [6,2,0,0,0,0,2,0,0,5,1,1,1,1,1,1] (.fork 0 (.fork 1 (.leaf [4,5] [0,1,2,3,4,5,6,7] [5,6,7]) (.leaf [4,5] [0,1,2,3,4,5,6,7] [5,6,7])) (av [3,1,1,1,1,1,1] (.fork 0 (.fork 1 (.leaf [4,5] [0,1,2,3,4,5,6,7] [5,6,7]) (.leaf [4,5] [0,1,2,3,4,5,6,7] [5,6,7])) (.leaf [4,5] [0,1,2,3,4,5,6,7] [5,6,7]))))) (fun u=>by kernel_rfl) (mN (show(ad.over S)=false by assumption) (eG 7 (show(ad.more S)=false by assumption) (mN (show(0 != ad.at_ S)=false by simp at pH pG kZ gV h0 h1 h2⊢ <;>omega) (aM L R H (mN n0 (mN (aN K) (mN (aS Rr) (mN (aY G) (mF (c:=e != 0) (fun h0=>(mF (c:=e==25) (fun h1=>(mN (aN K) (mN (aS Rr) (mN (aY G) (mR (l1 h0 h1)))))) (fun h1=>(mN (aN K) (mN (aS Rr) (mN (aY G) (mR (l2 h0 h1)))))))) (fun h0=>(mN (aN K) (mN (aS Rr) (mN (aY G) (mN (n3 h0) (mN (aN K) (mN (aS Rr) (mN (aY G) (mF (c:=f != 0) (fun h1=>(mF (c:=f==25) (fun h2=>(mN (aN K) (mN (aS Rr) (mN (aY G) (mR (l4 h0 h1 h2)))))) (fun h2=>(mN (aN K) (mN (aS Rr) (mN (aY G) (mR (l5 h0 h1 h2)))))))) (fun h1=>(mN (aN K) (mN (aS Rr) (mN (aY G) (mR (l6 h0 h1))))))))))))))))))))))))
abbrev vD:=fun S L R H d=>([ab (aQ S 1 2 3 4) 64,.abs d,ab (ao L) 9,ab (aq R) 3,ab (ak H) 144]:List ai)
abbrev agw:=fun S L R H d=>(⟨[(0,an 0),(6,aa 0),(22,.bool (decide ((↑(ad.rn S):Int)>0)))],vD S L R H d⟩:aj)
abbrev Qu:=fun S L R H d=>(⟨[(0,an 0)],vD S L R H d⟩:aj)
theorem agx(S:ad)(L R H d)(pH:(ak H).all af=true)(h0:S.over=false)(h1:S.more=true)(h2:0<S.rn){Q:aV}(aW:amq (ao L) af=true)(be:amq (aq R) af=true)(bB:amq (ak H) af=true)(l3:al asz 68 5 (rP.drop 9) (agw S L R H d) Q):al asz 68 5 rP (Qu S L R H d) Q:=
 aZ bo 9 (av [6,2] (.leaf [0,6,22] [0,1,2,3,4] [2,3,4])) (fun u=>by kernel_rfl) (mN (show(ad.over S)=false by assumption) (mN (show(!ad.more S)=false by simp at pH h0 h1 h2⊢ <;>omega) (aM L R H (mQ l3))))
abbrev agy:=fun S L R H d=>(⟨[(0,an 0),(6,aa 0),(22,.bool (decide ((↑(ad.rn S):Int)>0)))],vD S L R H d⟩:aj)
theorem agz(S:ad)(L R H d)(pH:(ak H).all af=true)(h0:S.over=false)(h1:S.more=true)(h2:S.rn=0){Q:aV}(aW:amq (ao L) af=true)(be:amq (aq R) af=true)(bB:amq (ak H) af=true)(l3:al asz 68 5 (rP.drop 9) (agy S L R H d) Q):al asz 68 5 rP (Qu S L R H d) Q:=
 aZ bo 9 (av [6,2] (.leaf [0,6,22] [0,1,2,3,4] [2,3,4])) (fun u=>by kernel_rfl) (mN (show(ad.over S)=false by assumption) (mN (show(!ad.more S)=false by simp at pH h0 h1 h2⊢ <;>omega) (aM L R H (mQ l3))))
abbrev Qv:=fun S L R H d=>(⟨[(0,an 0),(5,.string (a8 (ao L) (ad.ro S+0))),(6,aa 0)],[ab (aQ (ad.mk (ad.at_ S) (ad.more S) (ad.over S) (ad.B S) (ad.n S) (ad.failed S) (ad.aC S) (ad.ro S+1) (ad.rn S-1) (ad.bM S) (ad.sn S) (ad.hn S) (ad.dR S) (ad.raw S) (ad.closed S)) 1 2 3 4) 64,.abs d,ab (ao L) 9,ab (aq R) 3,ab (ak H) 144]⟩:aj)
abbrev agA:=fun S L R H d=>(⟨[(0,an 0),(6,aa 0)],vD S L R H d⟩:aj)
theorem agB(S:ad)(L R H d)(pH:(ak H).all af=true)(h0:0<S.rn){Q:aV}(n0:(eB (ao L) (ad.ro S+0))=true)(l4:Q .normal (Qv S L R H d)):al asz 68 5 agh (agA S L R H d) Q:=
 aZ bo 1000 (av [2,3,0,1,2,3,1] (.leaf [0,5,6] [0,1,2,3,4] [2,3,4])) (fun u=>by kernel_rfl) (mN (show(amG 0 (ad.rn S))=true by simp at pH h0⊢ <;>omega) (mN n0 (mN (show(amO 1 (ad.rn S))=true by simp at pH h0⊢ <;>omega) (mN (show(amO (ad.rn S) (ad.rn S))=true by simp) (aM L R H (mQ (al.done (by kernel_rfl) l4)))))))
abbrev agC:=fun S L R d a=>(⟨[(0,an 0),(7,an 4)],[ab (aQ S 1 2 3 4) 64,.abs d,ab (ao L) 9,ab (aq R) 3,ab (ak [a]) 144]⟩:aj)
abbrev agD:=fun S L R d a=>(⟨[(0,an 0)],[ab (aQ S 1 2 3 4) 64,.abs d,ab (ao L) 9,ab (aq R) 3,ab (ak [a]) 144]⟩:aj)
theorem agE(S:ad)(L R d a)(h0:S.hn=1){Q:aV}(n0:(ap.there a)=true)(aW:amq (ao L) af=true)(be:amq (aq R) af=true)(l3:al asz 68 5 (eZ.drop 1) (agC S L R d a) Q):al asz 68 5 eZ (agD S L R d a) Q:=
 aZ Am 1 (av [9,0,3,7,1,1,21,3,2,0,3] (.leaf [0,7] [0,1,2,3,4] [2,3])) (fun u=>by kernel_rfl) (mN (decide_eq_true (by omega):(decide (0<(↑(ad.hn S):Int)))=true) (mN (show(amG 0 (ad.hn S))=true by simp at h0⊢ <;>omega) (eG 5 n0 (mN (decide_eq_false (by omega):(decide (1<(↑(ad.hn S):Int)))=false) (mN (show(amG 0 (ad.hn S))=true by simp at h0⊢ <;>omega) (mN (aN L) (mN (aS R) (mQ l3))))))))
abbrev tI:=fun S L R d a b=>([ab (aQ S 1 2 3 4) 64,.abs d,ab (ao L) 9,ab (aq R) 3,ab (ak [a,b]) 144]:List ai)
abbrev agF:=fun S L R d a b=>(⟨[(0,an 0),(7,.pointer (some ⟨4,4,none⟩))],tI S L R d a b⟩:aj)
abbrev agG:=fun S L R d a b=>(⟨[(0,an 0),(7,an 4)],tI S L R d a b⟩:aj)
abbrev agH:=fun S L R d a b=>(⟨[(0,an 0),(7,.pointer (some ⟨4,4,none⟩))],tI S L R d a b⟩:aj)
abbrev agI:=fun S L R d a b=>(⟨[(0,an 0),(7,an 4)],tI S L R d a b⟩:aj)
abbrev agJ:=fun S L R d a b=>(⟨[(0,an 0),(7,an 4)],tI S L R d a b⟩:aj)
abbrev agK:=fun S L R d a b=>(⟨[(0,an 0),(7,.pointer (some ⟨4,4,none⟩))],tI S L R d a b⟩:aj)
abbrev agL:=fun S L R d a b=>(⟨[(0,an 0)],tI S L R d a b⟩:aj)
theorem agM(S:ad)(L R d a b)(h0:S.hn=2){Q:aV}(l2:(ap.there a)=true→(ap.there b)=true→(ad.aC S)=true→(decide (bW (ap.line a) (ap.line b)<0))=true→al asz 68 5 (eZ.drop 1) (agF S L R d a b) Q)(l3:(ap.there a)=true→(ap.there b)=true→(ad.aC S)=true→(decide (bW (ap.line a) (ap.line b)<0))=false→al asz 68 5 (eZ.drop 1) (agG S L R d a b) Q)(l4:(ap.there a)=true→(ap.there b)=true→(ad.aC S)=false→(decide (bW (ap.line b) (ap.line a)<0))=true→al asz 68 5 (eZ.drop 1) (agH S L R d a b) Q)(l5:(ap.there a)=true→(ap.there b)=true→(ad.aC S)=false→(decide (bW (ap.line b) (ap.line a)<0))=false→al asz 68 5 (eZ.drop 1) (agI S L R d a b) Q)(l6:(ap.there a)=true→(ap.there b)=false→al asz 68 5 (eZ.drop 1) (agJ S L R d a b) Q)(n7:(ap.there a)=false→(ap.there b)=true)(l8:(ap.there a)=false→al asz 68 5 (eZ.drop 1) (agK S L R d a b) Q):al asz 68 5 eZ (agL S L R d a b) Q:=
 aZ Am 1 (av [9,0,3] (.fork 3 (av [1,1,21,3,3,0,3] (.fork 3 (av [1,1,14,3] (.fork 6 (av [7,3] (.fork 0 (av [0,0,3] (.leaf [0,7] [0,1,2,3,4] [2,3])) (av [0,0,3] (.leaf [0,7] [0,1,2,3,4] [2,3])))) (av [7,3] (.fork 0 (av [0,0,3] (.leaf [0,7] [0,1,2,3,4] [2,3])) (av [0,0,3] (.leaf [0,7] [0,1,2,3,4] [2,3])))))) (av [0,0,0,0,2,0,3] (.leaf [0,7] [0,1,2,3,4] [2,3])))) (av [0,0,0,0,3,0,3,7,1,1,21,3,2,0,3] (.leaf [0,7] [0,1,2,3,4] [2,3])))) (fun u=>by kernel_rfl) (mN (decide_eq_true (by omega):(decide (0<(↑(ad.hn S):Int)))=true) (mN (show(amG 0 (ad.hn S))=true by simp at h0⊢ <;>omega) (mF (c:=ap.there a) (fun h0=>(eG 4 h0 (mN (decide_eq_true (by omega):(decide (1<(↑(ad.hn S):Int)))=true) (mN (show(amG 1 (ad.hn S))=true by simp at h0 h0⊢ <;>omega) (mF (c:=ap.there b) (fun h1=>(eG 2 h1 (mN (show(amG 0 (ad.hn S))=true by simp at h0 h0 h1⊢ <;>omega) (mF (c:=ad.aC S) (fun h2=>(eG 2 h1 (mF (c:=decide (bW (ap.line a) (ap.line b)<0)) (fun h3=>(mN (decide_eq_false (by omega):(decide (2<(↑(ad.hn S):Int)))=false) (mN (show(amG 1 (ad.hn S))=true by simp at h0 h0 h1 h2 h3⊢ <;>omega) (mN (aN L) (mN (aS R) (mQ (l2 h0 h1 h2 h3))))))) (fun h3=>(mN (decide_eq_false (by omega):(decide (2<(↑(ad.hn S):Int)))=false) (mN (show(amG 0 (ad.hn S))=true by simp at h0 h0 h1 h2 h3⊢ <;>omega) (mN (aN L) (mN (aS R) (mQ (l3 h0 h1 h2 h3)))))))))) (fun h2=>(eG 2 h1 (mF (c:=decide (bW (ap.line b) (ap.line a)<0)) (fun h3=>(mN (decide_eq_false (by omega):(decide (2<(↑(ad.hn S):Int)))=false) (mN (show(amG 1 (ad.hn S))=true by simp at h0 h0 h1 h2 h3⊢ <;>omega) (mN (aN L) (mN (aS R) (mQ (l4 h0 h1 h2 h3))))))) (fun h3=>(mN (decide_eq_false (by omega):(decide (2<(↑(ad.hn S):Int)))=false) (mN (show(amG 0 (ad.hn S))=true by simp at h0 h0 h1 h2 h3⊢ <;>omega) (mN (aN L) (mN (aS R) (mQ (l5 h0 h1 h2 h3)))))))))))))) (fun h1=>(eG 4 h1 (mN (decide_eq_false (by omega):(decide (2<(↑(ad.hn S):Int)))=false) (mN (show(amG 0 (ad.hn S))=true by simp at h0 h0 h1⊢ <;>omega) (mN (aN L) (mN (aS R) (mQ (l6 h0 h1))))))))))))) (fun h0=>(eG 4 h0 (mN (decide_eq_true (by omega):(decide (1<(↑(ad.hn S):Int)))=true) (mN (show(amG 1 (ad.hn S))=true by simp at h0 h0⊢ <;>omega) (eG 5 (n7 h0) (mN (decide_eq_false (by omega):(decide (2<(↑(ad.hn S):Int)))=false) (mN (show(amG 1 (ad.hn S))=true by simp at h0 h0⊢ <;>omega) (mN (aN L) (mN (aS R) (mQ (l8 h0))))))))))))))
abbrev ij:=fun S L R d a b c=>([ab (aQ S 1 2 3 4) 64,.abs d,ab (ao L) 9,ab (aq R) 3,ab (ak [a,b,c]) 144]:List ai)
abbrev agN:=fun S L R d a b c=>(⟨[(0,an 0),(7,.pointer (some ⟨4,8,none⟩))],ij S L R d a b c⟩:aj)
abbrev agO:=fun S L R d a b c=>(⟨[(0,an 0),(7,.pointer (some ⟨4,4,none⟩))],ij S L R d a b c⟩:aj)
abbrev agP:=fun S L R d a b c=>(⟨[(0,an 0),(7,.pointer (some ⟨4,4,none⟩))],ij S L R d a b c⟩:aj)
abbrev agQ:=fun S L R d a b c=>(⟨[(0,an 0),(7,.pointer (some ⟨4,8,none⟩))],ij S L R d a b c⟩:aj)
abbrev agR:=fun S L R d a b c=>(⟨[(0,an 0),(7,an 4)],ij S L R d a b c⟩:aj)
abbrev agS:=fun S L R d a b c=>(⟨[(0,an 0),(7,an 4)],ij S L R d a b c⟩:aj)
abbrev agT:=fun S L R d a b c=>(⟨[(0,an 0),(7,.pointer (some ⟨4,8,none⟩))],ij S L R d a b c⟩:aj)
abbrev agU:=fun S L R d a b c=>(⟨[(0,an 0),(7,.pointer (some ⟨4,4,none⟩))],ij S L R d a b c⟩:aj)
abbrev agV:=fun S L R d a b c=>(⟨[(0,an 0),(7,.pointer (some ⟨4,4,none⟩))],ij S L R d a b c⟩:aj)
abbrev agW:=fun S L R d a b c=>(⟨[(0,an 0),(7,.pointer (some ⟨4,8,none⟩))],ij S L R d a b c⟩:aj)
abbrev agX:=fun S L R d a b c=>(⟨[(0,an 0),(7,an 4)],ij S L R d a b c⟩:aj)
abbrev agY:=fun S L R d a b c=>(⟨[(0,an 0),(7,an 4)],ij S L R d a b c⟩:aj)
abbrev agZ:=fun S L R d a b c=>(⟨[(0,an 0),(7,.pointer (some ⟨4,8,none⟩))],ij S L R d a b c⟩:aj)
abbrev ag0:=fun S L R d a b c=>(⟨[(0,an 0),(7,an 4)],ij S L R d a b c⟩:aj)
abbrev ag1:=fun S L R d a b c=>(⟨[(0,an 0),(7,.pointer (some ⟨4,8,none⟩))],ij S L R d a b c⟩:aj)
abbrev ag2:=fun S L R d a b c=>(⟨[(0,an 0),(7,an 4)],ij S L R d a b c⟩:aj)
abbrev ag3:=fun S L R d a b c=>(⟨[(0,an 0),(7,an 4)],ij S L R d a b c⟩:aj)
abbrev ag4:=fun S L R d a b c=>(⟨[(0,an 0),(7,.pointer (some ⟨4,8,none⟩))],ij S L R d a b c⟩:aj)
abbrev ag5:=fun S L R d a b c=>(⟨[(0,an 0),(7,.pointer (some ⟨4,4,none⟩))],ij S L R d a b c⟩:aj)
abbrev ag6:=fun S L R d a b c=>(⟨[(0,an 0),(7,.pointer (some ⟨4,8,none⟩))],ij S L R d a b c⟩:aj)
abbrev ag7:=fun S L R d a b c=>(⟨[(0,an 0),(7,.pointer (some ⟨4,4,none⟩))],ij S L R d a b c⟩:aj)
abbrev ag8:=fun S L R d a b c=>(⟨[(0,an 0),(7,.pointer (some ⟨4,4,none⟩))],ij S L R d a b c⟩:aj)
abbrev ag9:=fun S L R d a b c=>(⟨[(0,an 0),(7,.pointer (some ⟨4,8,none⟩))],ij S L R d a b c⟩:aj)
abbrev aha:=fun S L R d a b c=>(⟨[(0,an 0)],ij S L R d a b c⟩:aj)
theorem ahb(S:ad)(L R d a b c)(h0:S.hn=3){Q:aV}(l2:(ap.there a)=true→(ap.there b)=true→(ad.aC S)=true→(decide (bW (ap.line a) (ap.line b)<0))=true→(ap.there c)=true→(decide (bW (ap.line b) (ap.line c)<0))=true→al asz 68 5 (eZ.drop 1) (agN S L R d a b c) Q)(l3:(ap.there a)=true→(ap.there b)=true→(ad.aC S)=true→(decide (bW (ap.line a) (ap.line b)<0))=true→(ap.there c)=true→(decide (bW (ap.line b) (ap.line c)<0))=false→al asz 68 5 (eZ.drop 1) (agO S L R d a b c) Q)(l4:(ap.there a)=true→(ap.there b)=true→(ad.aC S)=true→(decide (bW (ap.line a) (ap.line b)<0))=true→(ap.there c)=false→al asz 68 5 (eZ.drop 1) (agP S L R d a b c) Q)(l5:(ap.there a)=true→(ap.there b)=true→(ad.aC S)=true→(decide (bW (ap.line a) (ap.line b)<0))=false→(ap.there c)=true→(decide (bW (ap.line a) (ap.line c)<0))=true→al asz 68 5 (eZ.drop 1) (agQ S L R d a b c) Q)(l6:(ap.there a)=true→(ap.there b)=true→(ad.aC S)=true→(decide (bW (ap.line a) (ap.line b)<0))=false→(ap.there c)=true→(decide (bW (ap.line a) (ap.line c)<0))=false→al asz 68 5 (eZ.drop 1) (agR S L R d a b c) Q)(l7:(ap.there a)=true→(ap.there b)=true→(ad.aC S)=true→(decide (bW (ap.line a) (ap.line b)<0))=false→(ap.there c)=false→al asz 68 5 (eZ.drop 1) (agS S L R d a b c) Q)(l8:(ap.there a)=true→(ap.there b)=true→(ad.aC S)=false→(decide (bW (ap.line b) (ap.line a)<0))=true→(ap.there c)=true→(decide (bW (ap.line c) (ap.line b)<0))=true→al asz 68 5 (eZ.drop 1) (agT S L R d a b c) Q)(l9:(ap.there a)=true→(ap.there b)=true→(ad.aC S)=false→(decide (bW (ap.line b) (ap.line a)<0))=true→(ap.there c)=true→(decide (bW (ap.line c) (ap.line b)<0))=false→al asz 68 5 (eZ.drop 1) (agU S L R d a b c) Q)(kP:(ap.there a)=true→(ap.there b)=true→(ad.aC S)=false→(decide (bW (ap.line b) (ap.line a)<0))=true→(ap.there c)=false→al asz 68 5 (eZ.drop 1) (agV S L R d a b c) Q)(gR:(ap.there a)=true→(ap.there b)=true→(ad.aC S)=false→(decide (bW (ap.line b) (ap.line a)<0))=false→(ap.there c)=true→(decide (bW (ap.line c) (ap.line a)<0))=true→al asz 68 5 (eZ.drop 1) (agW S L R d a b c) Q)(kL:(ap.there a)=true→(ap.there b)=true→(ad.aC S)=false→(decide (bW (ap.line b) (ap.line a)<0))=false→(ap.there c)=true→(decide (bW (ap.line c) (ap.line a)<0))=false→al asz 68 5 (eZ.drop 1) (agX S L R d a b c) Q)(pt:(ap.there a)=true→(ap.there b)=true→(ad.aC S)=false→(decide (bW (ap.line b) (ap.line a)<0))=false→(ap.there c)=false→al asz 68 5 (eZ.drop 1) (agY S L R d a b c) Q)(ahc:(ap.there a)=true→(ap.there b)=false→(ap.there c)=true→(ad.aC S)=true→(decide (bW (ap.line a) (ap.line c)<0))=true→al asz 68 5 (eZ.drop 1) (agZ S L R d a b c) Q)(ahd:(ap.there a)=true→(ap.there b)=false→(ap.there c)=true→(ad.aC S)=true→(decide (bW (ap.line a) (ap.line c)<0))=false→al asz 68 5 (eZ.drop 1) (ag0 S L R d a b c) Q)(ahe:(ap.there a)=true→(ap.there b)=false→(ap.there c)=true→(ad.aC S)=false→(decide (bW (ap.line c) (ap.line a)<0))=true→al asz 68 5 (eZ.drop 1) (ag1 S L R d a b c) Q)(ahf:(ap.there a)=true→(ap.there b)=false→(ap.there c)=true→(ad.aC S)=false→(decide (bW (ap.line c) (ap.line a)<0))=false→al asz 68 5 (eZ.drop 1) (ag2 S L R d a b c) Q)(ahg:(ap.there a)=true→(ap.there b)=false→(ap.there c)=false→al asz 68 5 (eZ.drop 1) (ag3 S L R d a b c) Q)(ahh:(ap.there a)=false→(ap.there b)=true→(ap.there c)=true→(ad.aC S)=true→(decide (bW (ap.line b) (ap.line c)<0))=true→al asz 68 5 (eZ.drop 1) (ag4 S L R d a b c) Q)(ahi:(ap.there a)=false→(ap.there b)=true→(ap.there c)=true→(ad.aC S)=true→(decide (bW (ap.line b) (ap.line c)<0))=false→al asz 68 5 (eZ.drop 1) (ag5 S L R d a b c) Q)(ahj:(ap.there a)=false→(ap.there b)=true→(ap.there c)=true→(ad.aC S)=false→(decide (bW (ap.line c) (ap.line b)<0))=true→al asz 68 5 (eZ.drop 1) (ag6 S L R d a b c) Q)(ahk:(ap.there a)=false→(ap.there b)=true→(ap.there c)=true→(ad.aC S)=false→(decide (bW (ap.line c) (ap.line b)<0))=false→al asz 68 5 (eZ.drop 1) (ag7 S L R d a b c) Q)(ahl:(ap.there a)=false→(ap.there b)=true→(ap.there c)=false→al asz 68 5 (eZ.drop 1) (ag8 S L R d a b c) Q)(ahm:(ap.there a)=false→(ap.there b)=false→(ap.there c)=true)(ahn:(ap.there a)=false→(ap.there b)=false→al asz 68 5 (eZ.drop 1) (ag9 S L R d a b c) Q):al asz 68 5 eZ (aha S L R d a b c) Q:=
 aZ Am 1 (av [9,0,3] (.fork 3 (av [1,1,21,3,3,0,3] (.fork 3 (av [1,1,14,3] (.fork 6 (av [7,3] (.fork 0 (av [1,0,3] (.fork 3 (av [1,1,14,3,13,7,3] (.fork 0 (av [0,0,3] (.leaf [0,7] [0,1,2,3,4] [2,3])) (av [0,0,3] (.leaf [0,7] [0,1,2,3,4] [2,3])))) (av [0,0,0,0,2,0,3] (.leaf [0,7] [0,1,2,3,4] [2,3])))) (av [1,0,3] (.fork 3 (av [1,1,14,3,13,7,3] (.fork 0 (av [0,0,3] (.leaf [0,7] [0,1,2,3,4] [2,3])) (av [0,0,3] (.leaf [0,7] [0,1,2,3,4] [2,3])))) (av [0,0,0,0,2,0,3] (.leaf [0,7] [0,1,2,3,4] [2,3])))))) (av [7,3] (.fork 0 (av [1,0,3] (.fork 3 (av [1,1,14,3,12,7,3] (.fork 0 (av [0,0,3] (.leaf [0,7] [0,1,2,3,4] [2,3])) (av [0,0,3] (.leaf [0,7] [0,1,2,3,4] [2,3])))) (av [0,0,0,0,2,0,3] (.leaf [0,7] [0,1,2,3,4] [2,3])))) (av [1,0,3] (.fork 3 (av [1,1,14,3,12,7,3] (.fork 0 (av [0,0,3] (.leaf [0,7] [0,1,2,3,4] [2,3])) (av [0,0,3] (.leaf [0,7] [0,1,2,3,4] [2,3])))) (av [0,0,0,0,2,0,3] (.leaf [0,7] [0,1,2,3,4] [2,3])))))))) (av [0,0,0,0,3,0,3] (.fork 3 (av [1,1,14,3] (.fork 6 (av [7,3] (.fork 0 (av [0,0,3] (.leaf [0,7] [0,1,2,3,4] [2,3])) (av [0,0,3] (.leaf [0,7] [0,1,2,3,4] [2,3])))) (av [7,3] (.fork 0 (av [0,0,3] (.leaf [0,7] [0,1,2,3,4] [2,3])) (av [0,0,3] (.leaf [0,7] [0,1,2,3,4] [2,3])))))) (av [0,0,0,0,2,0,3] (.leaf [0,7] [0,1,2,3,4] [2,3])))))) (av [0,0,0,0,3,0,3] (.fork 3 (av [1,1,21,3,3,0,3] (.fork 3 (av [1,1,14,3] (.fork 6 (av [7,3] (.fork 0 (av [0,0,3] (.leaf [0,7] [0,1,2,3,4] [2,3])) (av [0,0,3] (.leaf [0,7] [0,1,2,3,4] [2,3])))) (av [7,3] (.fork 0 (av [0,0,3] (.leaf [0,7] [0,1,2,3,4] [2,3])) (av [0,0,3] (.leaf [0,7] [0,1,2,3,4] [2,3])))))) (av [0,0,0,0,2,0,3] (.leaf [0,7] [0,1,2,3,4] [2,3])))) (av [0,0,0,0,3,0,3,7,1,1,21,3,2,0,3] (.leaf [0,7] [0,1,2,3,4] [2,3])))))) (fun u=>by kernel_rfl) (mN (decide_eq_true (by omega):(decide (0<(↑(ad.hn S):Int)))=true) (mN (show(amG 0 (ad.hn S))=true by simp at h0⊢ <;>omega) (mF (c:=ap.there a) (fun h0=>(eG 4 h0 (mN (decide_eq_true (by omega):(decide (1<(↑(ad.hn S):Int)))=true) (mN (show(amG 1 (ad.hn S))=true by simp at h0 h0⊢ <;>omega) (mF (c:=ap.there b) (fun h1=>(eG 2 h1 (mN (show(amG 0 (ad.hn S))=true by simp at h0 h0 h1⊢ <;>omega) (mF (c:=ad.aC S) (fun h2=>(eG 2 h1 (mF (c:=decide (bW (ap.line a) (ap.line b)<0)) (fun h3=>(mN (decide_eq_true (by omega):(decide (2<(↑(ad.hn S):Int)))=true) (mN (show(amG 2 (ad.hn S))=true by simp at h0 h0 h1 h2 h3⊢ <;>omega) (mF (c:=ap.there c) (fun h4=>(eG 2 h4 (mN (show(amG 1 (ad.hn S))=true by simp at h0 h0 h1 h2 h3 h4⊢ <;>omega) (mN h2 (eG 2 h4 (mF (c:=decide (bW (ap.line b) (ap.line c)<0)) (fun h5=>(mN (decide_eq_false (by omega):(decide (3<(↑(ad.hn S):Int)))=false) (mN (show(amG 2 (ad.hn S))=true by simp at h0 h0 h1 h2 h3 h4 h5⊢ <;>omega) (mN (aN L) (mN (aS R) (mQ (l2 h0 h1 h2 h3 h4 h5))))))) (fun h5=>(mN (decide_eq_false (by omega):(decide (3<(↑(ad.hn S):Int)))=false) (mN (show(amG 1 (ad.hn S))=true by simp at h0 h0 h1 h2 h3 h4 h5⊢ <;>omega) (mN (aN L) (mN (aS R) (mQ (l3 h0 h1 h2 h3 h4 h5))))))))))))) (fun h4=>(eG 4 h4 (mN (decide_eq_false (by omega):(decide (3<(↑(ad.hn S):Int)))=false) (mN (show(amG 1 (ad.hn S))=true by simp at h0 h0 h1 h2 h3 h4⊢ <;>omega) (mN (aN L) (mN (aS R) (mQ (l4 h0 h1 h2 h3 h4)))))))))))) (fun h3=>(mN (decide_eq_true (by omega):(decide (2<(↑(ad.hn S):Int)))=true) (mN (show(amG 2 (ad.hn S))=true by simp at h0 h0 h1 h2 h3⊢ <;>omega) (mF (c:=ap.there c) (fun h4=>(eG 2 h4 (mN (show(amG 0 (ad.hn S))=true by simp at h0 h0 h1 h2 h3 h4⊢ <;>omega) (mN h2 (eG 2 h4 (mF (c:=decide (bW (ap.line a) (ap.line c)<0)) (fun h5=>(mN (decide_eq_false (by omega):(decide (3<(↑(ad.hn S):Int)))=false) (mN (show(amG 2 (ad.hn S))=true by simp at h0 h0 h1 h2 h3 h4 h5⊢ <;>omega) (mN (aN L) (mN (aS R) (mQ (l5 h0 h1 h2 h3 h4 h5))))))) (fun h5=>(mN (decide_eq_false (by omega):(decide (3<(↑(ad.hn S):Int)))=false) (mN (show(amG 0 (ad.hn S))=true by simp at h0 h0 h1 h2 h3 h4 h5⊢ <;>omega) (mN (aN L) (mN (aS R) (mQ (l6 h0 h1 h2 h3 h4 h5))))))))))))) (fun h4=>(eG 4 h4 (mN (decide_eq_false (by omega):(decide (3<(↑(ad.hn S):Int)))=false) (mN (show(amG 0 (ad.hn S))=true by simp at h0 h0 h1 h2 h3 h4⊢ <;>omega) (mN (aN L) (mN (aS R) (mQ (l7 h0 h1 h2 h3 h4))))))))))))))) (fun h2=>(eG 2 h1 (mF (c:=decide (bW (ap.line b) (ap.line a)<0)) (fun h3=>(mN (decide_eq_true (by omega):(decide (2<(↑(ad.hn S):Int)))=true) (mN (show(amG 2 (ad.hn S))=true by simp at h0 h0 h1 h2 h3⊢ <;>omega) (mF (c:=ap.there c) (fun h4=>(eG 2 h4 (mN (show(amG 1 (ad.hn S))=true by simp at h0 h0 h1 h2 h3 h4⊢ <;>omega) (mN h2 (eG 2 h4 (mF (c:=decide (bW (ap.line c) (ap.line b)<0)) (fun h5=>(mN (decide_eq_false (by omega):(decide (3<(↑(ad.hn S):Int)))=false) (mN (show(amG 2 (ad.hn S))=true by simp at h0 h0 h1 h2 h3 h4 h5⊢ <;>omega) (mN (aN L) (mN (aS R) (mQ (l8 h0 h1 h2 h3 h4 h5))))))) (fun h5=>(mN (decide_eq_false (by omega):(decide (3<(↑(ad.hn S):Int)))=false) (mN (show(amG 1 (ad.hn S))=true by simp at h0 h0 h1 h2 h3 h4 h5⊢ <;>omega) (mN (aN L) (mN (aS R) (mQ (l9 h0 h1 h2 h3 h4 h5))))))))))))) (fun h4=>(eG 4 h4 (mN (decide_eq_false (by omega):(decide (3<(↑(ad.hn S):Int)))=false) (mN (show(amG 1 (ad.hn S))=true by simp at h0 h0 h1 h2 h3 h4⊢ <;>omega) (mN (aN L) (mN (aS R) (mQ (kP h0 h1 h2 h3 h4)))))))))))) (fun h3=>(mN (decide_eq_true (by omega):(decide (2<(↑(ad.hn S):Int)))=true) (mN (show(amG 2 (ad.hn S))=true by simp at h0 h0 h1 h2 h3⊢ <;>omega) (mF (c:=ap.there c) (fun h4=>(eG 2 h4 (mN (show(amG 0 (ad.hn S))=true by simp at h0 h0 h1 h2 h3 h4⊢ <;>omega) (mN h2 (eG 2 h4 (mF (c:=decide (bW (ap.line c) (ap.line a)<0)) (fun h5=>(mN (decide_eq_false (by omega):(decide (3<(↑(ad.hn S):Int)))=false) (mN (show(amG 2 (ad.hn S))=true by simp at h0 h0 h1 h2 h3 h4 h5⊢ <;>omega) (mN (aN L) (mN (aS R) (mQ (gR h0 h1 h2 h3 h4 h5))))))) (fun h5=>(mN (decide_eq_false (by omega):(decide (3<(↑(ad.hn S):Int)))=false) (mN (show(amG 0 (ad.hn S))=true by simp at h0 h0 h1 h2 h3 h4 h5⊢ <;>omega) (mN (aN L) (mN (aS R) (mQ (kL h0 h1 h2 h3 h4 h5))))))))))))) (fun h4=>(eG 4 h4 (mN (decide_eq_false (by omega):(decide (3<(↑(ad.hn S):Int)))=false) (mN (show(amG 0 (ad.hn S))=true by simp at h0 h0 h1 h2 h3 h4⊢ <;>omega) (mN (aN L) (mN (aS R) (mQ (pt h0 h1 h2 h3 h4))))))))))))))))))) (fun h1=>(eG 4 h1 (mN (decide_eq_true (by omega):(decide (2<(↑(ad.hn S):Int)))=true) (mN (show(amG 2 (ad.hn S))=true by simp at h0 h0 h1⊢ <;>omega) (mF (c:=ap.there c) (fun h2=>(eG 2 h2 (mN (show(amG 0 (ad.hn S))=true by simp at h0 h0 h1 h2⊢ <;>omega) (mF (c:=ad.aC S) (fun h3=>(eG 2 h2 (mF (c:=decide (bW (ap.line a) (ap.line c)<0)) (fun h4=>(mN (decide_eq_false (by omega):(decide (3<(↑(ad.hn S):Int)))=false) (mN (show(amG 2 (ad.hn S))=true by simp at h0 h0 h1 h2 h3 h4⊢ <;>omega) (mN (aN L) (mN (aS R) (mQ (ahc h0 h1 h2 h3 h4))))))) (fun h4=>(mN (decide_eq_false (by omega):(decide (3<(↑(ad.hn S):Int)))=false) (mN (show(amG 0 (ad.hn S))=true by simp at h0 h0 h1 h2 h3 h4⊢ <;>omega) (mN (aN L) (mN (aS R) (mQ (ahd h0 h1 h2 h3 h4)))))))))) (fun h3=>(eG 2 h2 (mF (c:=decide (bW (ap.line c) (ap.line a)<0)) (fun h4=>(mN (decide_eq_false (by omega):(decide (3<(↑(ad.hn S):Int)))=false) (mN (show(amG 2 (ad.hn S))=true by simp at h0 h0 h1 h2 h3 h4⊢ <;>omega) (mN (aN L) (mN (aS R) (mQ (ahe h0 h1 h2 h3 h4))))))) (fun h4=>(mN (decide_eq_false (by omega):(decide (3<(↑(ad.hn S):Int)))=false) (mN (show(amG 0 (ad.hn S))=true by simp at h0 h0 h1 h2 h3 h4⊢ <;>omega) (mN (aN L) (mN (aS R) (mQ (ahf h0 h1 h2 h3 h4)))))))))))))) (fun h2=>(eG 4 h2 (mN (decide_eq_false (by omega):(decide (3<(↑(ad.hn S):Int)))=false) (mN (show(amG 0 (ad.hn S))=true by simp at h0 h0 h1 h2⊢ <;>omega) (mN (aN L) (mN (aS R) (mQ (ahg h0 h1 h2)))))))))))))))))) (fun h0=>(eG 4 h0 (mN (decide_eq_true (by omega):(decide (1<(↑(ad.hn S):Int)))=true) (mN (show(amG 1 (ad.hn S))=true by simp at h0 h0⊢ <;>omega) (mF (c:=ap.there b) (fun h1=>(eG 4 h1 (mN (decide_eq_true (by omega):(decide (2<(↑(ad.hn S):Int)))=true) (mN (show(amG 2 (ad.hn S))=true by simp at h0 h0 h1⊢ <;>omega) (mF (c:=ap.there c) (fun h2=>(eG 2 h2 (mN (show(amG 1 (ad.hn S))=true by simp at h0 h0 h1 h2⊢ <;>omega) (mF (c:=ad.aC S) (fun h3=>(eG 2 h2 (mF (c:=decide (bW (ap.line b) (ap.line c)<0)) (fun h4=>(mN (decide_eq_false (by omega):(decide (3<(↑(ad.hn S):Int)))=false) (mN (show(amG 2 (ad.hn S))=true by simp at h0 h0 h1 h2 h3 h4⊢ <;>omega) (mN (aN L) (mN (aS R) (mQ (ahh h0 h1 h2 h3 h4))))))) (fun h4=>(mN (decide_eq_false (by omega):(decide (3<(↑(ad.hn S):Int)))=false) (mN (show(amG 1 (ad.hn S))=true by simp at h0 h0 h1 h2 h3 h4⊢ <;>omega) (mN (aN L) (mN (aS R) (mQ (ahi h0 h1 h2 h3 h4)))))))))) (fun h3=>(eG 2 h2 (mF (c:=decide (bW (ap.line c) (ap.line b)<0)) (fun h4=>(mN (decide_eq_false (by omega):(decide (3<(↑(ad.hn S):Int)))=false) (mN (show(amG 2 (ad.hn S))=true by simp at h0 h0 h1 h2 h3 h4⊢ <;>omega) (mN (aN L) (mN (aS R) (mQ (ahj h0 h1 h2 h3 h4))))))) (fun h4=>(mN (decide_eq_false (by omega):(decide (3<(↑(ad.hn S):Int)))=false) (mN (show(amG 1 (ad.hn S))=true by simp at h0 h0 h1 h2 h3 h4⊢ <;>omega) (mN (aN L) (mN (aS R) (mQ (ahk h0 h1 h2 h3 h4)))))))))))))) (fun h2=>(eG 4 h2 (mN (decide_eq_false (by omega):(decide (3<(↑(ad.hn S):Int)))=false) (mN (show(amG 1 (ad.hn S))=true by simp at h0 h0 h1 h2⊢ <;>omega) (mN (aN L) (mN (aS R) (mQ (ahl h0 h1 h2))))))))))))) (fun h1=>(eG 4 h1 (mN (decide_eq_true (by omega):(decide (2<(↑(ad.hn S):Int)))=true) (mN (show(amG 2 (ad.hn S))=true by simp at h0 h0 h1⊢ <;>omega) (eG 5 (ahm h0 h1) (mN (decide_eq_false (by omega):(decide (3<(↑(ad.hn S):Int)))=false) (mN (show(amG 2 (ad.hn S))=true by simp at h0 h0 h1⊢ <;>omega) (mN (aN L) (mN (aS R) (mQ (ahn h0 h1)))))))))))))))))))
abbrev Qw:=fun S L R H (d:ay) (k:Nat) (e:Int) G dd=>(⟨[(0,an 0),(5,.string (a8 (ak H) (k*4+2))),(6,aa e)],[ab (aQ S 1 2 3 4) 64,.abs dd,ab (ao L) 9,ab (aq R) 3,ab (ak G) 144]⟩:aj)
abbrev aho:=fun S L R H d (k:Nat) (e:Int) (G:List ap) (dd:ay)=>(⟨[(0,an 0),(7,.pointer (some ⟨4,k*4,none⟩))],vD S L R H d⟩:aj)
theorem ahp(S L R H d)(k:Nat)(e:Int)(G dd)(pH:(ak H).all af=true)(pG:(ak G).all af=true)(gv:aG asz 85 [an 0,.pointer (some ⟨4,k*4,none⟩)] (aR S L R H d) fun r q=>r=.ret (aa e)∧q=aR S L R G dd)(h0:k<(mM H))(h1:(mM H)≤1000){Q:aV}(n0:(eB (ak H) (k*4+2))=true)(l4:Q .normal (Qw S L R H d k e G dd)):al asz 68 5 (eZ.drop 1) (aho S L R H d k e G dd) Q:=
 aZ (agb S L R H d k e G dd gv) 1000 (av [0,1,3,1,1,1,1,1,1] (.leaf [0,5,6] [0,1,2,3,4] [2,3,4])) (fun u=>by kernel_rfl) (mN n0 (aM L R H (mN (kh [an 0,anx (some (apP 4 (k*4) none))] (aR S L R H d)) (mN (aN L) (mN (aS R) (mN (aY G) (mN (aN L) (mN (aS R) (mN (aY G) (mQ (al.done (by kernel_rfl) l4)))))))))))
abbrev Qx:=fun(S:ad) L R H (d:ay) U d3 (f:Int) (x:ByteArray) (e:Int)=>(⟨[(2,ah 5 1),(3,aa f)],[ab (aQ (ad.mk (ad.at_ U) (ad.more U) true (ad.B U) (ad.n U) (ad.failed U) (ad.aC U) (ad.ro U) (ad.rn U) (ad.bM U) (ad.sn U) (ad.hn U) (ad.dR U) (ay.raw d3) (ad.closed U)) 1 2 3 4) 64,.abs d3,ab (ao L) 9,ab (aq R) 3,ab (ak H) 144,ab ([aa 0,ah 6 (x.size+1)]) 86,ab (am0 (fun b=>amu amJ (↑(amZ b):Int)) (amM x.size (amV (amP x)))++[amu amJ 10]) 5]⟩:aj)
theorem ahq(S L R H d U d3)(f:Int)(x:ByteArray)(e:Int){Q:bk}(aW:amq (ao L) af=true)(be:amq (aq R) af=true)(bB:amq (ak H) af=true)(hq:Q (.ret (.tuple #[ah 5 1,aa f])) [ab (aQ (ad.mk (ad.at_ U) (ad.more U) true (ad.B U) (ad.n U) (ad.failed U) (ad.aC U) (ad.ro U) (ad.rn U) (ad.bM U) (ad.sn U) (ad.hn U) (ad.dR U) (ay.raw d3) (ad.closed U)) 1 2 3 4) 64,.abs d3,ab (ao L) 9,ab (aq R) 3,ab (ak H) 144,ab ([aa 0,ah 6 (x.size+1)]) 86,ab (am0 (fun b=>amu amJ (↑(amZ b):Int)) (amM x.size (amV (amP x)))++[amu amJ 10]) 5]):aH asz 72 68 5 Q .ret (Qx S L R H d U d3 f x e):=aH.ret (vs:=[ah 5 1,aa f]) (l:=[]) (bs:=[0,1,2,3,4,5,6]) (pl:=[2,3,4,6]) (q:=[ao L,aq R,ak H,am0 (fun b=>amu amJ (↑(amZ b):Int)) (amM x.size (amV (amP x)))++[amu amJ 10]]) (fun u=>by kernel_rfl) (by kernel_rfl) (aE aW (aE be (aE bB (aE (by first|exact aP _|assumption|exact aD (by assumption) rfl _|exact aD (aD (aD (by assumption) rfl _) rfl _) rfl _|exact aD (aP _) (cg (by rfl) _) _|exact aA (aO (aN _) _) _|(simp;done)|exact aB (by assumption) rfl|exact aB (aP _) rfl|exact aB rfl (aA (by assumption) _)|exact aB (by assumption) (aA (by assumption) _)|exact aB rfl (aA (aO (by assumption) _) _)|exact aA (aO (by assumption) _) _) bd)))) hq
abbrev Qy:=fun(S:ad) L R H (d:ay) U d3 (f:Int) (x:ByteArray) (e:Int)=>(⟨[(2,ah 5 1),(3,aa f)],[ab (aQ (ad.mk (ad.at_ U) (ad.more U) true (ad.B U) (ad.n U) (ad.failed U) (ad.aC U) (ad.ro U) (ad.rn U) (ad.bM U) (ad.sn U) (ad.hn U) (ad.dR U) (ad.raw U) (ad.closed U)) 1 2 3 4) 64,.abs d3,ab (ao L) 9,ab (aq R) 3,ab (ak H) 144,ab ([aa 0,ah 6 (x.size+1)]) 86,ab (am0 (fun b=>amu amJ (↑(amZ b):Int)) (amM x.size (amV (amP x)))++[amu amJ 10]) 5]⟩:aj)
theorem ahr(S L R H d U d3)(f:Int)(x:ByteArray)(e:Int){Q:bk}(aW:amq (ao L) af=true)(be:amq (aq R) af=true)(bB:amq (ak H) af=true)(hq:Q (.ret (.tuple #[ah 5 1,aa f])) [ab (aQ (ad.mk (ad.at_ U) (ad.more U) true (ad.B U) (ad.n U) (ad.failed U) (ad.aC U) (ad.ro U) (ad.rn U) (ad.bM U) (ad.sn U) (ad.hn U) (ad.dR U) (ad.raw U) (ad.closed U)) 1 2 3 4) 64,.abs d3,ab (ao L) 9,ab (aq R) 3,ab (ak H) 144,ab ([aa 0,ah 6 (x.size+1)]) 86,ab (am0 (fun b=>amu amJ (↑(amZ b):Int)) (amM x.size (amV (amP x)))++[amu amJ 10]) 5]):aH asz 72 68 5 Q .ret (Qy S L R H d U d3 f x e):=aH.ret (vs:=[ah 5 1,aa f]) (l:=[]) (bs:=[0,1,2,3,4,5,6]) (pl:=[2,3,4,6]) (q:=[ao L,aq R,ak H,am0 (fun b=>amu amJ (↑(amZ b):Int)) (amM x.size (amV (amP x)))++[amu amJ 10]]) (fun u=>by kernel_rfl) (by kernel_rfl) (aE aW (aE be (aE bB (aE (by first|exact aP _|assumption|exact aD (by assumption) rfl _|exact aD (aD (aD (by assumption) rfl _) rfl _) rfl _|exact aD (aP _) (cg (by rfl) _) _|exact aA (aO (aN _) _) _|(simp;done)|exact aB (by assumption) rfl|exact aB (aP _) rfl|exact aB rfl (aA (by assumption) _)|exact aB (by assumption) (aA (by assumption) _)|exact aB rfl (aA (aO (by assumption) _) _)|exact aA (aO (by assumption) _) _) bd)))) hq
abbrev Qz:=fun(S:ad) L R H (d:ay) U d3 (f:Int) (x:ByteArray) (e:Int)=>(⟨[(2,ah 5 1),(3,aa f)],[ab (aQ U 1 2 3 4) 64,.abs d3,ab (ao L) 9,ab (aq R) 3,ab (ak H) 144,ab ([aa 0,ah 6 (x.size+1)]) 86,ab (am0 (fun b=>amu amJ (↑(amZ b):Int)) (amM x.size (amV (amP x)))++[amu amJ 10]) 5]⟩:aj)
theorem ahs(S L R H d U d3)(f:Int)(x:ByteArray)(e:Int){Q:bk}(aW:amq (ao L) af=true)(be:amq (aq R) af=true)(bB:amq (ak H) af=true)(hq:Q (.ret (.tuple #[ah 5 1,aa f])) [ab (aQ U 1 2 3 4) 64,.abs d3,ab (ao L) 9,ab (aq R) 3,ab (ak H) 144,ab ([aa 0,ah 6 (x.size+1)]) 86,ab (am0 (fun b=>amu amJ (↑(amZ b):Int)) (amM x.size (amV (amP x)))++[amu amJ 10]) 5]):aH asz 72 68 5 Q .ret (Qz S L R H d U d3 f x e):=aH.ret (vs:=[ah 5 1,aa f]) (l:=[]) (bs:=[0,1,2,3,4,5,6]) (pl:=[2,3,4,6]) (q:=[ao L,aq R,ak H,am0 (fun b=>amu amJ (↑(amZ b):Int)) (amM x.size (amV (amP x)))++[amu amJ 10]]) (fun u=>by kernel_rfl) (by kernel_rfl) (aE aW (aE be (aE bB (aE (by first|exact aP _|assumption|exact aD (by assumption) rfl _|exact aD (aD (aD (by assumption) rfl _) rfl _) rfl _|exact aD (aP _) (cg (by rfl) _) _|exact aA (aO (aN _) _) _|(simp;done)|exact aB (by assumption) rfl|exact aB (aP _) rfl|exact aB rfl (aA (by assumption) _)|exact aB (by assumption) (aA (by assumption) _)|exact aB rfl (aA (aO (by assumption) _) _)|exact aA (aO (by assumption) _) _) bd)))) hq
abbrev QC:=fun S L R H d (U:ad) (d3:ay) (f:Int) (x:ByteArray) (e:Int)=>(⟨[(2,ah 5 1),(3,aa e)],[ab (aQ (ad.mk (ad.at_ S) (ad.more S) true (ad.B S) (ad.n S) (ad.failed S) (ad.aC S) (ad.ro S) (ad.rn S) (ad.bM S) (ad.sn S) (ad.hn S) (ad.dR S) (ay.raw d) (ad.closed S)) 1 2 3 4) 64,.abs d,ab (ao L) 9,ab (aq R) 3,ab (ak H) 144,ab ([aa 0,ah 6 (x.size+1)]) 86,ab (am0 (fun b=>amu amJ (↑(amZ b):Int)) (amM x.size (amV (amP x)))++[amu amJ 10]) 5]⟩:aj)
theorem aht(S L R H d U d3)(f:Int)(x:ByteArray)(e:Int){Q:bk}(aW:amq (ao L) af=true)(be:amq (aq R) af=true)(bB:amq (ak H) af=true)(hq:Q (.ret (.tuple #[ah 5 1,aa e])) [ab (aQ (ad.mk (ad.at_ S) (ad.more S) true (ad.B S) (ad.n S) (ad.failed S) (ad.aC S) (ad.ro S) (ad.rn S) (ad.bM S) (ad.sn S) (ad.hn S) (ad.dR S) (ay.raw d) (ad.closed S)) 1 2 3 4) 64,.abs d,ab (ao L) 9,ab (aq R) 3,ab (ak H) 144,ab ([aa 0,ah 6 (x.size+1)]) 86,ab (am0 (fun b=>amu amJ (↑(amZ b):Int)) (amM x.size (amV (amP x)))++[amu amJ 10]) 5]):aH asz 72 68 5 Q .ret (QC S L R H d U d3 f x e):=aH.ret (vs:=[ah 5 1,aa e]) (l:=[]) (bs:=[0,1,2,3,4,5,6]) (pl:=[2,3,4,6]) (q:=[ao L,aq R,ak H,am0 (fun b=>amu amJ (↑(amZ b):Int)) (amM x.size (amV (amP x)))++[amu amJ 10]]) (fun u=>by kernel_rfl) (by kernel_rfl) (aE aW (aE be (aE bB (aE (by first|exact aP _|assumption|exact aD (by assumption) rfl _|exact aD (aD (aD (by assumption) rfl _) rfl _) rfl _|exact aD (aP _) (cg (by rfl) _) _|exact aA (aO (aN _) _) _|(simp;done)|exact aB (by assumption) rfl|exact aB (aP _) rfl|exact aB rfl (aA (by assumption) _)|exact aB (by assumption) (aA (by assumption) _)|exact aB rfl (aA (aO (by assumption) _) _)|exact aA (aO (by assumption) _) _) bd)))) hq
abbrev QD:=fun S L R H d (U:ad) (d3:ay) (f:Int) (x:ByteArray) (e:Int)=>(⟨[(2,ah 5 1),(3,aa e)],[ab (aQ (ad.mk (ad.at_ S) (ad.more S) true (ad.B S) (ad.n S) (ad.failed S) (ad.aC S) (ad.ro S) (ad.rn S) (ad.bM S) (ad.sn S) (ad.hn S) (ad.dR S) (ad.raw S) (ad.closed S)) 1 2 3 4) 64,.abs d,ab (ao L) 9,ab (aq R) 3,ab (ak H) 144,ab ([aa 0,ah 6 (x.size+1)]) 86,ab (am0 (fun b=>amu amJ (↑(amZ b):Int)) (amM x.size (amV (amP x)))++[amu amJ 10]) 5]⟩:aj)
theorem ahu(S L R H d U d3)(f:Int)(x:ByteArray)(e:Int){Q:bk}(aW:amq (ao L) af=true)(be:amq (aq R) af=true)(bB:amq (ak H) af=true)(hq:Q (.ret (.tuple #[ah 5 1,aa e])) [ab (aQ (ad.mk (ad.at_ S) (ad.more S) true (ad.B S) (ad.n S) (ad.failed S) (ad.aC S) (ad.ro S) (ad.rn S) (ad.bM S) (ad.sn S) (ad.hn S) (ad.dR S) (ad.raw S) (ad.closed S)) 1 2 3 4) 64,.abs d,ab (ao L) 9,ab (aq R) 3,ab (ak H) 144,ab ([aa 0,ah 6 (x.size+1)]) 86,ab (am0 (fun b=>amu amJ (↑(amZ b):Int)) (amM x.size (amV (amP x)))++[amu amJ 10]) 5]):aH asz 72 68 5 Q .ret (QD S L R H d U d3 f x e):=aH.ret (vs:=[ah 5 1,aa e]) (l:=[]) (bs:=[0,1,2,3,4,5,6]) (pl:=[2,3,4,6]) (q:=[ao L,aq R,ak H,am0 (fun b=>amu amJ (↑(amZ b):Int)) (amM x.size (amV (amP x)))++[amu amJ 10]]) (fun u=>by kernel_rfl) (by kernel_rfl) (aE aW (aE be (aE bB (aE (by first|exact aP _|assumption|exact aD (by assumption) rfl _|exact aD (aD (aD (by assumption) rfl _) rfl _) rfl _|exact aD (aP _) (cg (by rfl) _) _|exact aA (aO (aN _) _) _|(simp;done)|exact aB (by assumption) rfl|exact aB (aP _) rfl|exact aB rfl (aA (by assumption) _)|exact aB (by assumption) (aA (by assumption) _)|exact aB rfl (aA (aO (by assumption) _) _)|exact aA (aO (by assumption) _) _) bd)))) hq
abbrev ahv:=fun S L R H d (U:ad) (d3:ay) (f:Int) x (e:Int)=>(⟨[(0,an 0),(5,.string x),(6,aa e)],vD S L R H d⟩:aj)
theorem ahw(S L R H d U d3)(f:Int)(x:ByteArray)(e:Int)(pH:(ak H).all af=true)(gV:aG asz 78 [an 0] (aR S L R H d) fun r q=>r=.ret (aa f)∧q=aR U L R H d3)(h0:x.size≤1000){Q:aV}(n0:(e==0)=true→(dX [an 0] [an 0] [ab (aQ S 1 2 3 4) 64,ai.abs d,ab (ao L) 9,ab (aq R) 3,ab (ak H) 144] (aR S L R H d))=true)(n1:(e==0)=true→(f != 0)=true→(f==25)=true→(amq (am0 (fun b=>amu amJ (↑(amZ b):Int)) (amM x.size (amV (amP x)))) ano)=true)(aW:amq (ao L) af=true)(be:amq (aq R) af=true)(bB:amq (ak H) af=true)(l5:(e==0)=true→(f != 0)=true→(f==25)=true→Q .ret (Qx S L R H d U d3 f x e))(n6:(e==0)=true→(f != 0)=true→(f==25)=false→(amq (am0 (fun b=>amu amJ (↑(amZ b):Int)) (amM x.size (amV (amP x)))) ano)=true)(l7:(e==0)=true→(f != 0)=true→(f==25)=false→Q .ret (Qy S L R H d U d3 f x e))(n8:(e==0)=true→(f != 0)=false→(amq (am0 (fun b=>amu amJ (↑(amZ b):Int)) (amM x.size (amV (amP x)))) ano)=true)(l9:(e==0)=true→(f != 0)=false→Q .ret (Qz S L R H d U d3 f x e))(QF:(e==0)=false→(e==25)=true→(amq (am0 (fun b=>amu amJ (↑(amZ b):Int)) (amM x.size (amV (amP x)))) ano)=true)(gR:(e==0)=false→(e==25)=true→Q .ret (QC S L R H d U d3 f x e))(QG:(e==0)=false→(e==25)=false→(amq (am0 (fun b=>amu amJ (↑(amZ b):Int)) (amM x.size (amV (amP x)))) ano)=true)(pt:(e==0)=false→(e==25)=false→Q .ret (QD S L R H d U d3 f x e)):al asz 68 5 (rP.drop 10) (ahv S L R H d U d3 f x e) Q:=
 aZ (agd S L R H d U d3 f gV) 1000 (.fork 0 (av [3,1,1,1,1,1,1] (.fork 0 (.fork 1 (av [28,1,1,1,2,3,5,1] (.leaf [2,3] [0,1,2,3,4,9,8] [2,3,4,8])) (av [20,1,1,1,2,3,5,1] (.leaf [2,3] [0,1,2,3,4,9,8] [2,3,4,8]))) (av [16,1,1,1,2,3,5,1] (.leaf [2,3] [0,1,2,3,4,9,8] [2,3,4,8])))) (av [1] (.fork 1 (av [28,1,1,1,2,3,5,1] (.leaf [2,3] [0,1,2,3,4,9,8] [2,3,4,8])) (av [20,1,1,1,2,3,5,1] (.leaf [2,3] [0,1,2,3,4,9,8] [2,3,4,8]))))) (fun u=>by kernel_rfl) (mF (c:=e==0) (fun h0=>(aM L R H (mN (n0 h0) (aM L R H (mF (c:=f != 0) (fun h1=>(mF (c:=f==25) (fun h2=>(mN (show(amO (0+x.size) 1000000)=true by simp at pH gV h0 h0 h1 h2⊢ <;>omega) (mN (n1 h0 h1 h2) (mN (show(amE (mM (am0 (fun b=>amu amJ (↑(amZ b):Int)) (amM x.size (amV (amP x))))) (x.size*1))=true by simp) (mN (show(amO (x.size+1) 1000000)=true by simp at pH gV h0 h0 h1 h2⊢ <;>omega) (mN (kJ _:(full x.size x.size)=true) (mN (show(amE (0+x.size*1) (mM (am0 (fun b=>amu amJ (↑(amZ b):Int)) (amM x.size (amV (amP x))))))=true by simp) (aM L R H (mN (show(amq (am0 (fun b=>amu amJ (↑(amZ b):Int)) (amM x.size (amV (amP x)))++[amu amJ 10]) af)=true by first|exact aP _|assumption|exact aD (by assumption) rfl _|exact aD (aD (aD (by assumption) rfl _) rfl _) rfl _|exact aD (aP _) (cg (by rfl) _) _|exact aA (aO (aN _) _) _|(simp;done)|exact aB (by assumption) rfl|exact aB (aP _) rfl|exact aB rfl (aA (by assumption) _)|exact aB (by assumption) (aA (by assumption) _)|exact aB rfl (aA (aO (by assumption) _) _)|exact aA (aO (by assumption) _) _) (mR (l5 h0 h1 h2))))))))))) (fun h2=>(mN (show(amO (0+x.size) 1000000)=true by simp at pH gV h0 h0 h1 h2⊢ <;>omega) (mN (n6 h0 h1 h2) (mN (show(amE (mM (am0 (fun b=>amu amJ (↑(amZ b):Int)) (amM x.size (amV (amP x))))) (x.size*1))=true by simp) (mN (show(amO (x.size+1) 1000000)=true by simp at pH gV h0 h0 h1 h2⊢ <;>omega) (mN (kJ _:(full x.size x.size)=true) (mN (show(amE (0+x.size*1) (mM (am0 (fun b=>amu amJ (↑(amZ b):Int)) (amM x.size (amV (amP x))))))=true by simp) (aM L R H (mN (show(amq (am0 (fun b=>amu amJ (↑(amZ b):Int)) (amM x.size (amV (amP x)))++[amu amJ 10]) af)=true by first|exact aP _|assumption|exact aD (by assumption) rfl _|exact aD (aD (aD (by assumption) rfl _) rfl _) rfl _|exact aD (aP _) (cg (by rfl) _) _|exact aA (aO (aN _) _) _|(simp;done)|exact aB (by assumption) rfl|exact aB (aP _) rfl|exact aB rfl (aA (by assumption) _)|exact aB (by assumption) (aA (by assumption) _)|exact aB rfl (aA (aO (by assumption) _) _)|exact aA (aO (by assumption) _) _) (mR (l7 h0 h1 h2))))))))))))) (fun h1=>(mN (show(amO (0+x.size) 1000000)=true by simp at pH gV h0 h0 h1⊢ <;>omega) (mN (n8 h0 h1) (mN (show(amE (mM (am0 (fun b=>amu amJ (↑(amZ b):Int)) (amM x.size (amV (amP x))))) (x.size*1))=true by simp) (mN (show(amO (x.size+1) 1000000)=true by simp at pH gV h0 h0 h1⊢ <;>omega) (mN (kJ _:(full x.size x.size)=true) (mN (show(amE (0+x.size*1) (mM (am0 (fun b=>amu amJ (↑(amZ b):Int)) (amM x.size (amV (amP x))))))=true by simp) (aM L R H (mN (show(amq (am0 (fun b=>amu amJ (↑(amZ b):Int)) (amM x.size (amV (amP x)))++[amu amJ 10]) af)=true by first|exact aP _|assumption|exact aD (by assumption) rfl _|exact aD (aD (aD (by assumption) rfl _) rfl _) rfl _|exact aD (aP _) (cg (by rfl) _) _|exact aA (aO (aN _) _) _|(simp;done)|exact aB (by assumption) rfl|exact aB (aP _) rfl|exact aB rfl (aA (by assumption) _)|exact aB (by assumption) (aA (by assumption) _)|exact aB rfl (aA (aO (by assumption) _) _)|exact aA (aO (by assumption) _) _) (mR (l9 h0 h1)))))))))))))))) (fun h0=>(mN (show(e != 0)=true by simp at pH gV h0 h0⊢ <;>omega) (mF (c:=e==25) (fun h1=>(mN (show(amO (0+x.size) 1000000)=true by simp at pH gV h0 h0 h1⊢ <;>omega) (mN (QF h0 h1) (mN (show(amE (mM (am0 (fun b=>amu amJ (↑(amZ b):Int)) (amM x.size (amV (amP x))))) (x.size*1))=true by simp) (mN (show(amO (x.size+1) 1000000)=true by simp at pH gV h0 h0 h1⊢ <;>omega) (mN (kJ _:(full x.size x.size)=true) (mN (show(amE (0+x.size*1) (mM (am0 (fun b=>amu amJ (↑(amZ b):Int)) (amM x.size (amV (amP x))))))=true by simp) (aM L R H (mN (show(amq (am0 (fun b=>amu amJ (↑(amZ b):Int)) (amM x.size (amV (amP x)))++[amu amJ 10]) af)=true by first|exact aP _|assumption|exact aD (by assumption) rfl _|exact aD (aD (aD (by assumption) rfl _) rfl _) rfl _|exact aD (aP _) (cg (by rfl) _) _|exact aA (aO (aN _) _) _|(simp;done)|exact aB (by assumption) rfl|exact aB (aP _) rfl|exact aB rfl (aA (by assumption) _)|exact aB (by assumption) (aA (by assumption) _)|exact aB rfl (aA (aO (by assumption) _) _)|exact aA (aO (by assumption) _) _) (mR (gR h0 h1))))))))))) (fun h1=>(mN (show(amO (0+x.size) 1000000)=true by simp at pH gV h0 h0 h1⊢ <;>omega) (mN (QG h0 h1) (mN (show(amE (mM (am0 (fun b=>amu amJ (↑(amZ b):Int)) (amM x.size (amV (amP x))))) (x.size*1))=true by simp) (mN (show(amO (x.size+1) 1000000)=true by simp at pH gV h0 h0 h1⊢ <;>omega) (mN (kJ _:(full x.size x.size)=true) (mN (show(amE (0+x.size*1) (mM (am0 (fun b=>amu amJ (↑(amZ b):Int)) (amM x.size (amV (amP x))))))=true by simp) (aM L R H (mN (show(amq (am0 (fun b=>amu amJ (↑(amZ b):Int)) (amM x.size (amV (amP x)))++[amu amJ 10]) af)=true by first|exact aP _|assumption|exact aD (by assumption) rfl _|exact aD (aD (aD (by assumption) rfl _) rfl _) rfl _|exact aD (aP _) (cg (by rfl) _) _|exact aA (aO (aN _) _) _|(simp;done)|exact aB (by assumption) rfl|exact aB (aP _) rfl|exact aB rfl (aA (by assumption) _)|exact aB (by assumption) (aA (by assumption) _)|exact aB rfl (aA (aO (by assumption) _) _)|exact aA (aO (by assumption) _) _) (mR (pt h0 h1)))))))))))))))
end
end Go.Proofs.Ytnlkkgpcikkpoaa
namespace Go.Proofs.Ytnlkkgpcikkpoaa
open Go Vm Go.RowKit
set_option maxRecDepth 100000
structure MS where
 S:ad
 L:List ByteArray
 R:List Int
 H:List ap
 d:ay
def MS.z(s:MS):cN:=(s.S,s.L,s.R,s.d)
def kn(s:cN)(H:List ap):MS:=⟨s.1,s.2.1,s.2.2.1,H,s.2.2.2⟩
def mT(S:ad)(d:ay)(e:Int):ad:={S with raw:=if e=25 then d.raw else S.raw,over:=true}
def MS.fail(s:MS)(e:Int):MS:={s with S:=mT s.S s.d e}
def ja(s:MS)(b:ByteArray):Int×MS:=
 match dL b.data.toList s.S []with
 |(e,S1,M)=>match eX M (S1,s.L,s.R,s.d)with
  |(f,t)=>if f≠0 then(f,(kn t s.H).fail f)else if e≠0 then(e,(kn t s.H).fail e)else(0,kn t s.H)
noncomputable def iQ(s:MS):Int×MS:=
 match km s.z s.H with
 |(e,t,G)=>if e≠0 then(e,(kn t G).fail e)else match eN t.1 t.2.2.1 G t.2.2.2 with
  |(f,U,d3)=>if f≠0 then(f,(⟨U,t.2.1,t.2.2.1,G,d3⟩:MS).fail f)else(0,⟨U,t.2.1,t.2.2.1,G,d3⟩)
theorem Br:∀(l:List UInt8) (S:ad) (M:List ByteArray),jn S→(∀x∈M,x.size≤64)→jn (dL l S M).2.1∧(∀x∈(dL l S M).2.2,x.size≤64)∧((dL l S M).1=0→bO (dL l S M).2.2+(dL l S M).2.1.n.toNat=bO M+S.n.toNat+l.length)∧(dL l S M).2.2.length≤M.length+l.length
 | [],S,M,h,hM=>⟨h,hM,fun _=>rfl,by show M.length≤_;omega⟩
 |x::l,S,M,h,hM=>by
  have h0:=h.n0
  have h1:=h.n1
  unfold dL
  by_cases hx:x=10
  ·rw[if_pos hx]
   obtain⟨a,b,c,e⟩:=Br l {S with n:=0} (M++[ix S]) (jn.zero S) fun y hy=>by
    rcases List.mem_append.1 hy with hy|hy
    ·exact hM y hy
    ·rw[ank.1 hy,vC];omega
   refine⟨a,b,fun he=>?_,by rw[List.length_append]at e;rw[am9];simp at e;omega⟩
   have:=c he
   rw[xW,show bO [ix S]=S.n.toNat+1 by show(ix S).size+1+0=_;rw[vC]]at this
   rw[am9,this]
   show bO M+(S.n.toNat+1)+0+l.length=_
   omega
  rw[if_neg hx]
  by_cases HI:S.n=64
  ·simp only[if_pos HI]
   exact⟨⟨by show(0:Int)≤0;omega,by show(0:Int)≤64;omega⟩,hM,(fun he=>by cases he),by omega⟩
  ·rw[if_neg HI]
   obtain⟨a,b,c,e⟩:=Br l (rM S x) M (h.add HI x) hM
   refine⟨a,b,fun he=>?_,by rw[am9];omega⟩
   rw[c he,am9]
   show bO M+(S.n+1).toNat+l.length=_
   omega
theorem yd:∀(l:List UInt8) (S:ad) (M:List ByteArray),(dL l S M).2.1.at_=S.at_∧(dL l S M).2.1.more=S.more∧(dL l S M).2.1.over=S.over∧(dL l S M).2.1.aC=S.aC∧(dL l S M).2.1.ro=S.ro∧(dL l S M).2.1.rn=S.rn∧(dL l S M).2.1.bM=S.bM∧(dL l S M).2.1.sn=S.sn∧(dL l S M).2.1.hn=S.hn∧(dL l S M).2.1.dR=S.dR∧(dL l S M).2.1.raw=S.raw∧(dL l S M).2.1.closed=S.closed∧((dL l S M).1=0→(dL l S M).2.1.failed=S.failed)
 | [],S,M=>⟨rfl,rfl,rfl,rfl,rfl,rfl,rfl,rfl,rfl,rfl,rfl,rfl,fun _=>rfl⟩
 |x::l,S,M=>by
  unfold dL
  split
  ·exact yd l _ _
  split
  ·exact⟨rfl,rfl,rfl,rfl,rfl,rfl,rfl,rfl,rfl,rfl,rfl,rfl,fun h=>by cases h⟩
  ·exact yd l _ _
structure HJ(F:Nat)(s:MS):Prop where
 Bs:Good F s.z
 cut:jn s.S
 jW:s.H.length=s.S.hn
 fail:s.S.failed=false
 jl:s.S.at_=0
theorem ahx(F:Nat)(s:MS)(b:ByteArray)(hs:HJ F s)(ho:s.S.over=false)(hm:s.S.more=false)(ahy:0<b.size)(hb:b.size≤32):
 aG asz 70 [.pointer (some ⟨0,0,none⟩),.int .i64 0,.slice (some ⟨5,0,none⟩) b.size b.size] (aR s.S.z s.L s.R s.H s.d++[.cells (ag b) 5 false]) fun r q=>
  r=.ret (.tuple #[.slice none 0 0,.int .i64 (ja s b).1])∧q=nl (.cells (ag b) 5 false) (ja s b).2.S.z (ja s b).2.L (ja s b).2.R (ja s b).2.H (ja s b).2.d:=by
 obtain⟨S,L,R,H,d⟩:=s
 obtain⟨hg,hc,hH,hf,b9⟩:=hs
 dsimp only[MS.z]at*
 have pH:=aY H
 have rO:=afh S.z L R H d b ⟨hc.n0,hc.n1⟩ hf (by omega)
 obtain⟨c1,c2,c3,c4⟩:=Br b.data.toList S [] hc fun x hx=>by cases hx
 have cz:∀(l:List UInt8) (S:ad) (M:List ByteArray),dL l S.z M=((dL l S M).1,(dL l S M).2.1.z,(dL l S M).2.2):=by
  intro l
  induction l with
  |nil=>intro S M;rfl
  |cons x l ih=>
   intro S M
   unfold dL
   split
   ·exact ih {S with n:=0} _
   split
   ·rw[if_pos (by assumption)];rfl
   ·rw[if_neg (by assumption)];exact ih (rM S x) M
 rw[cz]at rO
 dsimp only at rO
 have dw:=yd b.data.toList S []
 unfold ja
 generalize dL b.data.toList S []=o at*
 obtain⟨e,S1,M⟩:=o
 dsimp only at*
 obtain⟨s1,s2,s3,s4,s5,s6,s7,s8,s9,ahz,ahA,ahB,QH⟩:=dw
 have fM:M.length≤32:=by
  have:b.data.toList.length=b.size:=by simp
  have h0:([]:List ByteArray).length=0:=rfl
  omega
 have qZ:Good F (S1,L,R,d):=⟨⟨by rw[show((S1,L,R,d):cN).1.rn=S1.rn from rfl,s6];exact hg.ok.len,by rw[show((S1,L,R,d):cN).1.sn=S1.sn from rfl,s8];exact hg.ok.runs,hg.ok.dv,hg.ok.made,by rw[show((S1,L,R,d):cN).1.bM=S1.bM from rfl,s7];exact hg.ok.bM,hg.ok.bS⟩,hg.old,hg.bS⟩
 have nn:=On M false M.length rfl (by omega) c2 H (S1,L,R,d) qZ.ok
 generalize eX M (S1,L,R,d)=o at*
 obtain⟨f,T,K,Rr,dd⟩:=o
 dsimp only at*
 refine aG.cM (n:=ct asz 70) (by kernel_rfl) ?_
 refine al.move (d':=⟨[(0,.pointer (some ⟨0,0,none⟩)),(1,.int .i64 0),(2,.slice (some ⟨5,0,none⟩) b.size b.size)],nl (.cells (ag b) 5 false) S.z L R H d⟩) [some 0,some 1,none,none,none,some 5,some 2,some 3,some 4] [2,3,4,5] (q:=[ag b,ao L,aq R,ak H]) (by kernel_rfl) (aE (by simp) (aE (by simp) (aE (by simp) (aE pH bd)))) (by kernel_rfl) (by kernel_rfl) ?_
 apply ago S L R H d b S1 M e T K Rr dd f pH rO nn ho hm b9 ahy hb
 case n0=>exact fe rfl rfl
 case n1=>exact fe rfl rfl
 case aW=>simp
 case be=>exact pH
 case l4=>
  intro g1 g2
  have g1:f≠0:=by simpa using g1
  have g2:f=25:=by simpa using g2
  rw[if_pos g1]
  refine agi S L R H d b S1 M e T K Rr dd f (by simp) pH ⟨rfl,?_⟩
  unfold MS.fail mT kn
  rw[if_pos g2]
  rfl
 case l5=>
  intro g1 g2
  have g1:f≠0:=by simpa using g1
  have g2:¬f=25:=by simpa using g2
  rw[if_pos g1]
  refine agj S L R H d b S1 M e T K Rr dd f (by simp) pH ⟨rfl,?_⟩
  unfold MS.fail mT kn
  rw[if_neg g2]
  rfl
 case l6=>
  intro g1 g2 g3
  have g1:¬f≠0:=by simpa using g1
  have g2:e≠0:=by simpa using g2
  have g3:e=25:=by simpa using g3
  rw[if_neg g1,if_pos g2]
  refine agk S L R H d b S1 M e T K Rr dd f (by simp) pH ⟨rfl,?_⟩
  unfold MS.fail mT kn
  rw[if_pos g3]
  rfl
 case l7=>
  intro g1 g2 g3
  have g1:¬f≠0:=by simpa using g1
  have g2:e≠0:=by simpa using g2
  have g3:¬e=25:=by simpa using g3
  rw[if_neg g1,if_pos g2]
  refine agl S L R H d b S1 M e T K Rr dd f (by simp) pH ⟨rfl,?_⟩
  unfold MS.fail mT kn
  rw[if_neg g3]
  rfl
 case l8=>
  intro g1 g2
  have g1:¬f≠0:=by simpa using g1
  have g2:¬e≠0:=by simpa using g2
  rw[if_neg g1,if_neg g2]
  exact agm S L R H d b S1 M e T K Rr dd f (by simp) pH ⟨rfl,rfl⟩
structure Bt(x:MS):Prop where
 run:x.L.length=x.S.rn
 runs:x.R.length=x.S.sn
 jW:x.H.length=x.S.hn
 dv:cw x.d
 Bu:x.R.length≤900000
theorem iX.lens{s:cN}{H:List ap}(h:iX s)(hH:H.length=s.1.hn):Bt (kn s H):=
 ⟨h.len,h.runs,hH,h.dv,by have:=h.made;have:=h.dv.made;show s.2.2.1.length≤_;omega⟩
theorem HK(S:ad)(L:List ByteArray)(R:List Int)(d:ay):(dS S L R d).2.1.hn=S.hn:=by unfold dS;split;rfl;split;rfl;rfl
theorem HL:∀(l:List ByteArray) (s:cN),(eX l s).2.1.hn=s.1.hn
 | [],s=>rfl
 |x::l,s=>by
  unfold eX
  split
  ·split
   ·exact HK _ _ _ _
   ·rw[HL];exact HK _ _ _ _
  ·rw[HL];rfl
theorem QI(s:cN):(gU s).2.1.hn=s.1.hn:=by
 unfold gU
 split
 ·rfl
 ·rw[HL]
theorem ahC(s:cN)(H:List ap)(hL:s.2.1.length=s.1.rn)(hH:H.length=s.1.hn)(hR:s.2.2.1.length≤900000)(hr:jm s.2.2.2 s.2.2.1):Bt (kn (np s H).2.1 (np s H).2.2):=by
 obtain⟨S,L,R,d⟩:=s
 dsimp only at*
 obtain⟨p1,p2,p3⟩:=HC S.aC R.length R d hr
 have hv:np (S,L,R,d) H=if(eT S.aC R.length R d).1≠0 then((eT S.aC R.length R d).1,({S with sn:=(eT S.aC R.length R d).2.1.length},L,(eT S.aC R.length R d).2),H)
  else match eT S.aC R.length R d with
   |(_,R,d)=>match dY R [] d with
    |(e,l,dd)=>if e=0 then(0,({S with sn:=R.length,hn:=l.length},L,R,dd),l)else(e,({S with sn:=R.length,hn:=0},L,R,dd),[]):=rfl
 rw[hv]
 clear hv
 generalize eT S.aC R.length R d=o at*
 obtain⟨e,R2,d2⟩:=o
 dsimp only at*
 by_cases he:e=0
 ·rw[if_neg (fun h=>h he)]
  obtain⟨o1,o2,o3,o4⟩:=xZ R2 [] d2 p1
  generalize dY R2 [] d2=o at*
  obtain⟨e2,l,d3⟩:=o
  dsimp only at*
  split
  ·exact⟨hL,rfl,rfl,o1,by show R2.length≤_;omega⟩
  ·exact⟨hL,rfl,rfl,o1,by show R2.length≤_;omega⟩
 ·rw[if_pos he]
  exact⟨hL,rfl,hH,p1,by show R2.length≤_;omega⟩
theorem QJ{F:Nat}{s:cN}{H:List ap}(h:Good F s)(hc:jn s.1)(hF:F≤800000)(hH:H.length=s.1.hn):Bt (kn (km s H).2.1 (km s H).2.2):=by
 obtain⟨r1,r2⟩:=HA h hc
 have r3:=QI s
 have ka:=hc.n1
 unfold km
 split
 ·exact r1.lens (hH.trans r3.symm)
 rename_i he
 have g:=HB (r2 (aoa.1 he))
 have HM:H.length=(mS (gU s).2).1.hn:=hH.trans r3.symm
 generalize mS (gU s).2=t at*
 unfold vB
 split
 ·refine⟨?_,g.ok.runs,HM,g.ok.dv,?_⟩
  ·show(bE _ _).length=_;rw[nh];exact g.ok.len
  ·have:=g.ok.made;have:=g.ok.dv.made;show t.2.2.1.length≤_;omega
 unfold tH
 have cW:iX (iy t).2:=by unfold iy;split;exact g.ok.mO.1;exact g.ok
 have jf:(iy t).2.1.hn=t.1.hn:=by unfold iy;split;exact HK _ _ _ _;rfl
 split
 ·exact cW.lens (HM.trans jf.symm)
 rename_i eD
 have g2:Good (F+(s.1.n.toNat+1)) (iy t).2:=by
  have eD:=aoa.1 eD
  unfold iy at eD⊢
  split
  ·rename_i h1;rw[if_pos h1]at eD;exact g.mO eD
  ·exact g
 exact ahC _ H cW.len (HM.trans jf.symm) (by have:=cW.made;have:=cW.dv.made;omega) (g2.runs (by omega))
theorem ahD(F:Nat)(s:MS)(hF:F≤800000)(hs:HJ F s)(hh:s.H.length≤900000)(ho:s.S.over=false)(hm:s.S.more=false)(alP:(km s.z s.H).2.2.length≤900000):
 aG asz 69 [.pointer (some ⟨0,0,none⟩),.int .i64 0] (aR s.S.z s.L s.R s.H s.d) fun r q=>
  r=.ret (.tuple #[.slice none 0 0,.int .i64 (iQ s).1])∧q=iM (iQ s).2.S.z (iQ s).2.L (iQ s).2.R (iQ s).2.H (iQ s).2.d:=by
 obtain⟨S,L,R,H,d⟩:=s
 obtain⟨hg,hc,hH,hf,b9⟩:=hs
 dsimp only[MS.z]at*
 have pH:=aY H
 have kZ:=af4 F S L R H d hF hg hc hH
 have wA:=QJ hg hc hF hH
 unfold iQ
 dsimp only[MS.z]
 generalize km (S,L,R,d) H=o at*
 obtain⟨e,⟨T,K,Rr,dd⟩,G⟩:=o
 dsimp only[kn]at*
 obtain⟨l1,l2,l3,l4,l5⟩:=wA
 dsimp only at*
 have gV:=Qg T.z K Rr G dd l2 l3 (by omega) (by omega) l4
 have gX:eN T.z Rr G dd=((eN T Rr G dd).1,(eN T Rr G dd).2.1.z,(eN T Rr G dd).2.2):=by
  unfold eN
  rw[show mb T.z G=mb T G from rfl]
  split<;>rfl
 rw[gX]at gV
 dsimp only at gV
 generalize eN T Rr G dd=o at*
 obtain⟨f,U,d3⟩:=o
 dsimp only at*
 refine aG.cM (n:=ct asz 69) (by kernel_rfl) ?_
 apply agv S L R H d T K Rr G dd e U d3 f pH (aY G) kZ gV ho hm b9
 case n0=>exact fe rfl rfl
 case n3=>intro _;exact fe rfl rfl
 case l1=>
  intro g1 g2
  have g1:e≠0:=by simpa using g1
  have g2:e=25:=by simpa using g2
  rw[if_pos g1]
  refine agp S L R H d T K Rr G dd e U d3 f ⟨rfl,?_⟩
  unfold MS.fail mT
  rw[if_pos g2]
  rfl
 case l2=>
  intro g1 g2
  have g1:e≠0:=by simpa using g1
  have g2:¬e=25:=by simpa using g2
  rw[if_pos g1]
  refine agq S L R H d T K Rr G dd e U d3 f ⟨rfl,?_⟩
  unfold MS.fail mT
  rw[if_neg g2]
  rfl
 case l4=>
  intro g1 g2 g3
  have g1:¬e≠0:=by simpa using g1
  have g2:f≠0:=by simpa using g2
  have g3:f=25:=by simpa using g3
  rw[if_neg g1,if_pos g2]
  refine agr S L R H d T K Rr G dd e U d3 f ⟨rfl,?_⟩
  unfold MS.fail mT
  rw[if_pos g3]
  rfl
 case l5=>
  intro g1 g2 g3
  have g1:¬e≠0:=by simpa using g1
  have g2:f≠0:=by simpa using g2
  have g3:¬f=25:=by simpa using g3
  rw[if_neg g1,if_pos g2]
  refine ags S L R H d T K Rr G dd e U d3 f ⟨rfl,?_⟩
  unfold MS.fail mT
  rw[if_neg g3]
  rfl
 case l6=>
  intro g1 g2
  have g1:¬e≠0:=by simpa using g1
  have g2:¬f≠0:=by simpa using g2
  rw[if_neg g1,if_neg g2]
  exact agt S L R H d T K Rr G dd e U d3 f ⟨rfl,rfl⟩
theorem ahE(S:ad)(L:List ByteArray)(R:List Int)(H:List ap)(d:ay)(hH:H.length=S.hn)(h3:H.length≤3)(k:Nat)(hk:eE S.aC H=some k){n kk:Nat}{Q:bf→aj→Prop}(hn:n=68)(dH:kk=5)
 (h:al asz n kk (eZ.drop 1) ⟨[(0,.pointer (some ⟨0,0,none⟩)),(7,.pointer (some ⟨4,k*4,none⟩))],aR S L R H d⟩ Q):al asz n kk eZ ⟨[(0,.pointer (some ⟨0,0,none⟩))],aR S L R H d⟩ Q:=by
 subst hn dH
 match H,hH,h3,hk,h with
 | [],_,_,hk,_=>cases hk
 | [a],hH,_,hk,h=>
   have h1:a.there=true:=by
    unfold eE jU jU iP at hk
    cases ht:a.there with
    |true=>rfl
    |false=>rw[ht]at hk;cases hk
   have h2:eE S.aC [a]=some 0:=by simp[eE,jU,iP,h1]
   rw[h2]at hk
   cases hk
   exact agE S L R d a hH.symm h1 (by simp) (by simp) h
 | [a,b],hH,_,hk,h=>
   have e0:aX [a,b] 0=a:=rfl
   have e1:aX [a,b] 1=b:=rfl
   apply agM S L R d a b hH.symm
   all_goals
    intros
    first
     |(have jO:=hk
       simp[eE,jU,iP,a7, *]at jO
       subst jO
       exact h)
     |(have jO:=hk
       simp[eE,jU,iP,a7, *]at jO
       obtain⟨_,HN⟩:=jO
       subst HN
       exact h)
     |(cases hb:b.there with
       |true=>rfl
       |false=>
        exfalso
        have jO:=hk
        simp[eE,jU,iP,a7, *]at jO)
 | [a,b,c],hH,_,hk,h=>
   have e0:aX [a,b,c] 0=a:=rfl
   have e1:aX [a,b,c] 1=b:=rfl
   have e2:aX [a,b,c] 2=c:=rfl
   apply ahb S L R d a b c hH.symm
   all_goals
    intros
    first
     |(have jO:=hk
       simp[eE,jU,iP,a7, *]at jO
       subst jO
       exact h)
     |(have jO:=hk
       simp[eE,jU,iP,a7, *]at jO
       obtain⟨_,HN⟩:=jO
       subst HN
       exact h)
     |(cases hb:c.there with
       |true=>rfl
       |false=>
        exfalso
        have jO:=hk
        simp[eE,jU,iP,a7, *]at jO)
def vE(L:List ByteArray)(i:Nat):ByteArray:=L.getD i amw
noncomputable def jC(s:MS):Int×ByteArray×MS:=
 if 0<s.S.rn then match eN s.S.pop s.R s.H s.d with
  |(f,U,d3)=>if f≠0 then(f,vE s.L s.S.ro,(⟨U,s.L,s.R,s.H,d3⟩:MS).fail f)else(0,vE s.L s.S.ro,⟨U,s.L,s.R,s.H,d3⟩)
 else match eE s.S.aC s.H with
  |none=>(0,amw,s)
  |some k=>match bX (aX s.H k) s.d with
   |(e,y,dd)=>if e≠0 then(e,(aX s.H k).line,(⟨s.S,s.L,s.R,s.H.set k y,dd⟩:MS).fail e)else match eN s.S s.R (s.H.set k y) dd with
    |(f,U,d3)=>if f≠0 then(f,(aX s.H k).line,(⟨U,s.L,s.R,s.H.set k y,d3⟩:MS).fail f)else(0,(aX s.H k).line,⟨U,s.L,s.R,s.H.set k y,d3⟩)
def Bv(x:ByteArray):List ai:=[.cells [.int .i64 0,.slice (some ⟨6,0,none⟩) (x.size+1) (x.size+1)] 86 false,.cells (ag (b7 x)) 5 false]
def QK(x:Int×ByteArray×MS)(r:bL)(q:List ai):Prop:=r=.ret (.tuple #[.slice (some ⟨5,0,none⟩) 1 1,.int .i64 x.1])∧q=aR x.2.2.S x.2.2.L x.2.2.R x.2.2.H x.2.2.d++Bv x.2.1
theorem QM(S:ad)(L:List ByteArray)(R:List Int)(H:List ap)(d:ay)(x:ByteArray)(e:Int)(hx:x.size≤1000)(hR:R.length=S.sn)(hH:H.length=S.hn)(hl:H.length≤1000000)(hr:R.length≤1000000)(hd:cw d):
 al asz 68 5 (rP.drop 10) ⟨[(0,.pointer (some ⟨0,0,none⟩)),(5,.string x),(6,.int .i64 e)],aR S L R H d⟩
  (aH asz 72 68 5 (QK (if e≠0 then(e,x,(⟨S,L,R,H,d⟩:MS).fail e)else match eN S R H d with
   |(f,U,d3)=>if f≠0 then(f,x,(⟨U,L,R,H,d3⟩:MS).fail f)else(0,x,⟨U,L,R,H,d3⟩)))):=by
 have pH:=aY H
 have gV:=Qg S L R H d hR hH hl hr hd
 generalize eN S R H d=o at*
 obtain⟨f,U,d3⟩:=o
 dsimp only at*
 have one:(am0 (fun b:UInt8=>amu amJ (↑(amZ b):Int)) (amM x.size (amV (amP x)))).all ano=true:=by
  rw[List.take_of_length_le (by exact Nat.le_refl _)];exact EJ _
 apply ahw S L R H d U d3 f x e pH gV hx
 case n0=>intro _;exact fe rfl rfl
 case n1=>intros;exact one
 case n6=>intros;exact one
 case n8=>intros;exact one
 case QF=>intros;exact one
 case QG=>intros;exact one
 case aW=>simp
 case be=>simp
 case bB=>exact pH
 case l5=>
  intro g1 g2 g3
  have g1:e=0:=by simpa using g1
  have g2:f≠0:=by simpa using g2
  have g3:f=25:=by simpa using g3
  rw[if_neg (fun h=>h g1),if_pos g2]
  refine ahq S L R H d U d3 f x e (by simp) (by simp) pH ⟨rfl,?_⟩
  unfold MS.fail mT
  rw[join_eq,if_pos g3]
  rfl
 case l7=>
  intro g1 g2 g3
  have g1:e=0:=by simpa using g1
  have g2:f≠0:=by simpa using g2
  have g3:¬f=25:=by simpa using g3
  rw[if_neg (fun h=>h g1),if_pos g2]
  refine ahr S L R H d U d3 f x e (by simp) (by simp) pH ⟨rfl,?_⟩
  unfold MS.fail mT
  rw[join_eq,if_neg g3]
  rfl
 case l9=>
  intro g1 g2
  have g1:e=0:=by simpa using g1
  have g2:f=0:=by simpa using g2
  rw[if_neg (fun h=>h g1),if_neg (fun h=>h g2)]
  refine ahs S L R H d U d3 f x e (by simp) (by simp) pH ⟨by rw[g2],?_⟩
  rw[join_eq]
  rfl
 case gR=>
  intro g1 g3
  have g1:e≠0:=by simpa using g1
  have g3:e=25:=by simpa using g3
  rw[if_pos g1]
  refine aht S L R H d U d3 f x e (by simp) (by simp) pH ⟨rfl,?_⟩
  unfold MS.fail mT
  rw[join_eq,if_pos g3]
  rfl
 case pt=>
  intro g1 g3
  have g1:e≠0:=by simpa using g1
  have g3:¬e=25:=by simpa using g3
  rw[if_pos g1]
  refine ahu S L R H d U d3 f x e (by simp) (by simp) pH ⟨rfl,?_⟩
  unfold MS.fail mT
  rw[join_eq,if_neg g3]
  rfl
structure rQ(s:MS):Prop where
 runs:s.R.length=s.S.sn
 jW:s.H.length=s.S.hn
 dv:cw s.d
 Bu:s.R.length≤900000
 bS:s.H.length≤3
 ok:∀h∈s.H,ow h
 run:s.S.ro+s.S.rn≤s.L.length
 small:∀x∈s.L,x.size≤64
 some:mb s.S s.H=true
theorem QN{L:List ByteArray}{i:Nat}(h:i<L.length):a8 (ao L) (i+0)=vE L i∧eB (ao L) (i+0)=true∧vE L i∈L:=by
 have h0:i+0=i:=rfl
 rw[h0,K5 h,K6 h]
 unfold vE
 rw[List.getD_eq_getElem?_getD,amt h]
 exact⟨rfl,rfl,List.getElem_mem h⟩
theorem ahF(s:MS)(hs:rQ s)(ho:s.S.over=false)(hm:s.S.more=true):
 aG asz 72 [.pointer (some ⟨0,0,none⟩)] (aR s.S s.L s.R s.H s.d) (QK (jC s)):=by
 obtain⟨S,L,R,H,d⟩:=s
 obtain⟨h1,h2,h3,h4,h5,h6,h7,h8,h9⟩:=hs
 dsimp only at*
 have pH:=aY H
 refine aG.cM (n:=ct asz 72) (by kernel_rfl) ?_
 by_cases kN:0<S.rn
 ·apply agx S L R H d pH ho hm kN
  case aW=>simp
  case be=>simp
  case bB=>exact pH
  case l3=>
   refine al.uP 9 (c:=22) (b:=decide (((S.rn:Nat):Int)>0)) (by kernel_rfl) (by rfl) (by rfl) ?_
   rw[decide_eq_true (show((S.rn:Nat):Int)>0 by omega)]
   refine al.join ?_
   refine al.less [(0,.pointer (some ⟨0,0,none⟩)),(6,.int .i64 0)] (by kernel_rfl) (by intro p hp;rcases List.mem_cons.1 hp with rfl|hp;exact amN;rw[ank.1 hp];exact amK _ amN) ?_
   obtain⟨r1,r2,r3⟩:=QN (L:=L) (i:=S.ro) (by omega)
   apply agB S L R H d pH kN
   case n0=>exact r2
   case l4=>
    refine QA.normal ?_
    unfold Qv
    rw[r1]
    have:=QM S.pop L R H d (vE L S.ro) 0 (by have:=h8 _ r3;omega) h1 h2 (by omega) (by omega) h3
    rw[if_neg (fun h=>h rfl)]at this
    unfold jC
    dsimp only
    rw[if_pos kN]
    exact this
 ·have kN:S.rn=0:=by omega
  obtain⟨k,hk⟩:∃k,eE S.aC H=some k:=by
   unfold mb at h9
   rw[decide_eq_false (by omega)]at h9
   cases hk:eE S.aC H with
   |none=>rw[hk]at h9;cases h9
   |some k=>exact⟨k,rfl⟩
  obtain⟨k1,k2⟩:=A4 hk
  have hok:=h6 _ (x5 k1)
  have gv:=adq S L R H d k k1 hok h3
  have gg:=h3.bX (aX H k)
  have db:=A1 (h:=aX H k) h3
  unfold jC
  dsimp only
  rw[if_neg (by omega),hk]
  dsimp only
  generalize bX (aX H k) d=o at*
  obtain⟨e,y,dd⟩:=o
  dsimp only at*
  apply agz S L R H d pH ho hm kN
  case aW=>simp
  case be=>simp
  case bB=>exact pH
  case l3=>
   refine al.uP 9 (c:=22) (b:=decide (((S.rn:Nat):Int)>0)) (by kernel_rfl) (by rfl) (by rfl) ?_
   rw[decide_eq_false (show¬((S.rn:Nat):Int)>0 by omega)]
   refine al.join ?_
   refine al.less [(0,.pointer (some ⟨0,0,none⟩))] (by kernel_rfl) (by intro p hp;rw[ank.1 hp];exact amN) ?_
   refine ahE S L R H d h2 h5 k hk rfl rfl ?_
   apply ahp S L R H d k e (H.set k y) dd pH (aY _) gv k1 (by omega)
   case n0=>have:=(rowAt k1).n5;rw[show 0+amm (k:Int)*4+2=k*4+2 by simp]at this;exact this
   case l4=>
    refine QA.normal ?_
    unfold Qw
    have q9:=(rowAt k1).s2
    rw[show 0+amm (k:Int)*4+2=k*4+2 by simp]at q9
    rw[q9]
    exact QM S L R (H.set k y) dd (aX H k).line e (by have:=hok.line;omega) h1 (by rw[anU];exact h2) (by rw[anU];omega) (by omega) gg
end Go.Proofs.Ytnlkkgpcikkpoaa
namespace Go.Proofs.Ytnlkkgpcikkpoaa
noncomputable section
open Go Vm Go.RowKit
set_option maxRecDepth 100000
noncomputable def tJ:List am3:=ba (dy asz 71)
open Tree renaming aU→mN,dh→mF,eQ→mL,fw→mQ,dz→mR,fI→mE
noncomputable abbrev HO:List am3:=(ba (inner (ba (inner (tJ.drop 7)))))
noncomputable abbrev HP:List am3:=(ba (inner (ba (inner (tJ.drop 5)))))
abbrev kR:=fun S L R H d=>([ab (aQ S 1 2 3 4) 64,.abs d,ab (ao L) 9,ab (aq R) 3,ab (ak H) 144]:List ai)
abbrev ahG:=fun S L R H d=>(⟨[(0,an 0),(3,aa (ad.n S)),(17,di 2 (ad.ro S) (ad.rn S) (ad.rn S)),(18,aa (ad.rn S)),(19,aa 0)],kR S L R H d⟩:aj)
abbrev ahH:=fun S L R H d=>(⟨[(0,an 0)],kR S L R H d⟩:aj)
theorem ahI(S L R H d)(pH:(ak H).all af=true){Q:aV}(l3:al asz 46 5 (tJ.drop 5) (ahG S L R H d) Q):al asz 46 5 tJ (ahH S L R H d) Q:=
 aZ bo 5 (.leaf [0,3,17,18,19] [0,1,2,3,4] [2,3,4]) (fun u=>by kernel_rfl) (aM L R H (mQ l3))
abbrev ahJ:=fun S L R H d (z i:Int)=>(⟨[(0,an 0),(3,aa z),(17,di 2 (ad.ro S) (ad.rn S) (ad.rn S)),(18,aa (ad.rn S)),(19,aa i)],kR S L R H d⟩:aj)
abbrev ahK:=fun S L R H d (z i:Int)=>(⟨[(0,an 0),(3,aa z)],kR S L R H d⟩:aj)
abbrev QO:=fun(S:ad) L R H d (z i:Int)=>(⟨[(0,an 0),(3,aa z),(17,di 2 S.ro S.rn S.rn),(18,aa S.rn),(19,aa i)],kR S L R H d⟩:aj)
theorem ahL(S L R H d)(z i:Int)(pH:(ak H).all af=true){Q:aV}(l3:(decide (i<(↑(ad.rn S):Int)))=true→al asz 46 5 (HP.drop 2) (ahJ S L R H d z i) Q)(l4:(decide (i<(↑(ad.rn S):Int)))=false→Q (.exit 0) (ahK S L R H d z i)):al asz 46 5 HP (QO S L R H d z i) Q:=
 aZ bo 2 (.fork 0 (.leaf [0,3,17,18,19] [0,1,2,3,4] [2,3,4]) (.leaf [0,3] [0,1,2,3,4] [2,3,4])) (fun u=>by kernel_rfl) (mF (c:=decide (i<(↑(ad.rn S):Int))) (fun h0=>(aM L R H (mQ (l3 h0)))) (fun h0=>(aM L R H (mE 0 (l4 h0)))))
abbrev QP:=fun S L R H d (z i:Int)=>(⟨[(0,an 0),(3,.int .i64 (aml .i64 (z+(↑(ams (a8 (ao L) (ad.ro S+amm i*1))):Int)))),(17,di 2 (ad.ro S) (ad.rn S) (ad.rn S)),(18,aa (ad.rn S)),(19,.int .i64 (aml .i64 (i+1)))],kR S L R H d⟩:aj)
theorem ahM(S:ad)(L R H d)(z i:Int)(pH:(ak H).all af=true)(h0:0≤i)(h1:i<S.rn)(h2:S.rn≤1000000)(h3:aml .i64 (i+1)=i+1){Q:aV}(n0:(eB (ao L) (ad.ro S+amm i*1))=true)(l4:Q .normal (QP S L R H d z i)):al asz 46 5 (HP.drop 2) (QO S L R H d z i) Q:=
 aZ bo 1000 (av [0,1,1,0,1] (.leaf [0,3,17,18,19] [0,1,2,3,4] [2,3,4])) (fun u=>by kernel_rfl) (mN (decide_eq_true (by omega):(decide (0≤i))=true) (mN (show(amG (amm i) (ad.rn S))=true by simp at pH h0 h1 h2 h3⊢ <;>omega) (mN n0 (aM L R H (mQ (al.done (by kernel_rfl) l4))))))
abbrev ahN:=fun S L R H d (z:Int)=>(⟨[(3,aa z),(31,ah 4 (ad.hn S)),(32,aa (ad.hn S)),(33,aa 0)],kR S L R H d⟩:aj)
abbrev ahO:=fun S L R H d (z:Int)=>(⟨[(0,an 0),(3,aa z)],kR S L R H d⟩:aj)
theorem ahP(S L R H d)(z:Int)(pH:(ak H).all af=true){Q:aV}(l3:al asz 46 5 ((tJ.drop 6).drop 1) (ahN S L R H d z) Q):al asz 46 5 (tJ.drop 6) (ahO S L R H d z) Q:=
 aZ bo 1 (.leaf [3,31,32,33] [0,1,2,3,4] [2,3,4]) (fun u=>by kernel_rfl) (aM L R H (mQ l3))
abbrev ahQ:=fun S L R H d (z i:Int)=>(⟨[(3,aa z),(31,ah 4 (ad.hn S)),(32,aa (ad.hn S)),(33,aa i)],kR S L R H d⟩:aj)
abbrev ahR:=fun S L R H d (z i:Int)=>(⟨[(3,aa z)],kR S L R H d⟩:aj)
abbrev QQ:=fun(S:ad) L R H d (z i:Int)=>(⟨[(3,aa z),(31,ah 4 S.hn),(32,aa S.hn),(33,aa i)],kR S L R H d⟩:aj)
theorem ahS(S L R H d)(z i:Int)(pH:(ak H).all af=true){Q:aV}(l3:(decide (i<(↑(ad.hn S):Int)))=true→al asz 46 5 (HO.drop 2) (ahQ S L R H d z i) Q)(l4:(decide (i<(↑(ad.hn S):Int)))=false→Q (.exit 2) (ahR S L R H d z i)):al asz 46 5 HO (QQ S L R H d z i) Q:=
 aZ bo 2 (.fork 0 (.leaf [3,31,32,33] [0,1,2,3,4] [2,3,4]) (.leaf [3] [0,1,2,3,4] [2,3,4])) (fun u=>by kernel_rfl) (mF (c:=decide (i<(↑(ad.hn S):Int))) (fun h0=>(aM L R H (mQ (l3 h0)))) (fun h0=>(aM L R H (mE 2 (l4 h0)))))
abbrev QR:=fun S L R H d (z i:Int)=>(⟨[(3,.int .i64 (aml .i64 (z+(↑(ams (a8 (ak H) (0+amm i*4+1+1))):Int)))),(31,ah 4 (ad.hn S)),(32,aa (ad.hn S)),(33,.int .i64 (aml .i64 (i+1)))],kR S L R H d⟩:aj)
abbrev QS:=fun S L R H d (z i:Int)=>(⟨[(3,aa z),(31,ah 4 (ad.hn S)),(32,aa (ad.hn S)),(33,.int .i64 (aml .i64 (i+1)))],kR S L R H d⟩:aj)
theorem ahT(S:ad)(L R H d)(z i:Int)(pH:(ak H).all af=true)(hH:(mM H)=S.hn)(h0:0≤i)(h1:i<S.hn)(h2:S.hn≤1000000)(h3:aml .i64 (i+1)=i+1){Q:aV}(n0:(amO (0+amm i*4+4) (mM (ak H)))=true)(n1:(cy amA (ak H) (0+amm i*4))=true)(n2:(cy amA (ak H) (0+amm i*4+1))=true)(n3:(eB (ak H) (0+amm i*4+1+1))=true)(n4:(nT (ak H) (0+amm i*4+1+1+1))=true)(l8:(gz (ak H) (0+amm i*4+1+1+1))=true→Q .normal (QR S L R H d z i))(l9:(gz (ak H) (0+amm i*4+1+1+1))=false→Q .normal (QS S L R H d z i)):al asz 46 5 (HO.drop 2) (QQ S L R H d z i) Q:=
 aZ bo 1000 (av [0,1,1,0,1,1,1,1,1] (.fork 2 (.leaf [3,31,32,33] [0,1,2,3,4] [2,3,4]) (.leaf [3,31,32,33] [0,1,2,3,4] [2,3,4]))) (fun u=>by kernel_rfl) (mN (decide_eq_true (by omega):(decide (0≤i))=true) (mN (show(amG (amm i) (ad.hn S))=true by simp at pH hH h0 h1 h2 h3⊢ <;>omega) (mN n0 (mN n1 (mN n2 (mN n3 (mN n4 (mF (c:=gz (ak H) (0+amm i*4+1+1+1)) (fun h0=>(aM L R H (mQ (al.done (by kernel_rfl) (l8 h0))))) (fun h0=>(aM L R H (mQ (al.done (by kernel_rfl) (l9 h0)))))))))))))
abbrev QU:=fun S L R H d (z:Int)=>(⟨[(2,aa z)],kR S L R H d⟩:aj)
theorem ahU(S L R H d)(z:Int){Q:bk}(hq:Q (.ret (aa z)) (kR S L R H d)):aH asz 71 46 5 Q .ret (QU S L R H d z):=aH.ret (vs:=[aa z]) (l:=[]) (bs:=[0,1,2,3,4]) (pl:=[2,3,4]) (q:=[ao L,aq R,ak H]) (fun u=>by kernel_rfl) (by kernel_rfl) (gi L R H bd) hq
abbrev ahV:=fun S L R H d (z:Int)=>(⟨[(3,aa z)],kR S L R H d⟩:aj)
theorem ahW(S L R H d)(z:Int)(pH:(ak H).all af=true){Q:aV}(l3:Q .ret (QU S L R H d z)):al asz 46 5 (tJ.drop 8) (ahV S L R H d z) Q:=
 aZ bo 1000 (.leaf [2] [0,1,2,3,4] [2,3,4]) (fun u=>by kernel_rfl) (aM L R H (mR l3))
end
end Go.Proofs.Ytnlkkgpcikkpoaa
namespace Go.Proofs.Ytnlkkgpcikkpoaa
open Go Vm Go.RowKit
set_option maxRecDepth 100000
def ko:List ByteArray→Nat
 | []=>0
 |x::l=>x.size+ko l
def oA:List ap→Nat
 | []=>0
 |h::l=>(if h.there then h.line.size else 0)+oA l
def MS.run(s:MS):List ByteArray:=(s.L.drop s.S.ro).take s.S.rn
def jD(s:MS):Nat:=s.S.n.toNat+ko s.run+oA s.H
theorem ahX{l:List ByteArray}{m:Nat}(h:∀x∈l,x.size≤m):ko l≤m*l.length:=by
 induction l with
 |nil=>exact ann _
 |cons x l ih=>
  have h1:=h x amN
  have h2:=ih fun y hy=>h y (amK _ hy)
  show x.size+ko l≤m*(l.length+1)
  rw[Nat.mul_add]
  omega
theorem QV{l:List ap}(h:∀x∈l,ow x):oA l≤64*l.length:=by
 induction l with
 |nil=>exact ann _
 |cons x l ih=>
  have h1:=(h x amN).line
  have h2:=ih fun y hy=>h y (amK _ hy)
  show(if x.there then x.line.size else 0)+oA l≤64*(l.length+1)
  split<;>omega
structure QW(s:MS):Prop where
 cut:jn s.S
 jW:s.H.length=s.S.hn
 bS:s.H.length≤3
 ok:∀h∈s.H,ow h
 run:s.S.ro+s.S.rn≤s.L.length
 alQ:s.S.rn≤1000
 small:∀x∈s.L,x.size≤64
def QX(s:MS)(t:Nat×Int):aj:=⟨[(0,.pointer (some ⟨0,0,none⟩)),(3,.int .i64 t.2),(17,.slice (some ⟨2,s.S.ro,none⟩) s.S.rn s.S.rn),(18,.int .i64 s.S.rn),(19,iZ t.1)],aR s.S s.L s.R s.H s.d⟩
def HQ(s:MS)(t:Nat×Int):aj:=⟨[(3,.int .i64 t.2),(31,.slice (some ⟨4,0,none⟩) s.S.hn s.S.hn),(32,.int .i64 s.S.hn),(33,iZ t.1)],aR s.S s.L s.R s.H s.d⟩
theorem HR(s:MS)(hs:QW s):aG asz 71 [.pointer (some ⟨0,0,none⟩)] (aR s.S s.L s.R s.H s.d) fun r q=>r=.ret (.int .i64 (jD s))∧q=aR s.S s.L s.R s.H s.d:=by
 obtain⟨S,L,R,H,d⟩:=s
 obtain⟨hc,hH,h3,hok,kN,fC,ec⟩:=hs
 dsimp only at*
 have pH:=aY H
 have o9:=hc.n0
 have ka:=hc.n1
 obtain⟨l,hl⟩:∃l,l=(L.drop S.ro).take S.rn:=⟨_,rfl⟩
 have mZ:l.length=S.rn:=by rw[hl,List.length_take,List.length_drop];omega
 have ahY:∀x∈l,x.size≤64:=fun x hx=>ec x (List.mem_of_mem_drop (List.mem_of_mem_take (hl▸hx)))
 have sE:=ahX ahY
 have jf:=QV hok
 have hv:jD ⟨S,L,R,H,d⟩=S.n.toNat+ko l+oA H:=by rw[hl];rfl
 rw[hv]
 refine aG.cM (n:=ct asz 71) (by kernel_rfl) ?_
 apply ahI S L R H d pH
 ·
  refine al.eJ 5 0 (by kernel_rfl) ?_
  refine al.fJ (QX ⟨S,L,R,H,d⟩) (fun t=>S.rn-t.1) (fun t=>t.1≤S.rn∧0≤t.2∧t.2+ko (l.drop t.1)=S.n+ko l) (0,S.n) (by kernel_rfl) ⟨ann _,o9,by simp⟩ ?_
  rintro⟨i,z⟩ ⟨h1,h2,h4⟩
  dsimp only at h1 h2 h4
  apply ahL S L R H d z i pH
  case l3=>
   intro g
   have g:=of_decide_eq_true g
   have hi:i<S.rn:=by omega
   have pP:i<l.length:=by omega
   have hd:l.drop i=l[i]::l.drop (i+1):=List.drop_eq_getElem_cons pP
   have hx:L[S.ro+i]?=some l[i]:=by
    have:l[i]?=some l[i]:=amt pP
    rw[←this,hl,List.getElem?_take,if_pos hi,List.getElem?_drop]
   have HS:S.ro+i<L.length:=by omega
   have he:a8 (ao L) (S.ro+amm (i:Int)*1)=l[i]:=by
    rw[show S.ro+amm (i:Int)*1=S.ro+i by simp,K5 HS]
    rw[amt HS]at hx
    exact apE hx
   rw[hd]at h4
   have h4:z+((l[i].size+ko (l.drop (i+1)):Nat):Int)=S.n+ko l:=h4
   apply ahM S L R H d z i pH (by omega) g (by omega) (bG (by omega) (by omega))
   case n0=>rw[show S.ro+amm (i:Int)*1=S.ro+i by simp];exact K6 HS
   case l4=>
    refine QL.to (i+1,z+l[i].size) ⟨hi,by dsimp only;omega,by dsimp only;omega⟩ (by dsimp only;omega) ?_
    unfold QP QX
    rw[he,bG (z:=z+(l[i].size:Int)) (by omega) (by omega),fj (by omega)]
    rfl
  case l4=>
   intro g
   have g:=of_decide_eq_false g
   rw[an3 (by omega)]at h4
   have h4:z+((0:Nat):Int)=S.n+ko l:=h4
   with_reducible (repeat first|refine QL.ret ?_|refine QL.exit ?_|refine QB.ret ?_|refine QB.ci ?_|refine QB.normal ?_|refine QB.cu (by rfl) ?_)
   apply ahP S L R H d z pH
   ·
    rw[List.drop_drop]
    refine al.eJ 7 2 (by kernel_rfl) ?_
    refine al.fJ (HQ ⟨S,L,R,H,d⟩) (fun t=>S.hn-t.1) (fun t=>t.1≤S.hn∧0≤t.2∧t.2+oA (H.drop t.1)=S.n+ko l+oA H) (0,z) (by kernel_rfl) ⟨ann _,h2,by simp;omega⟩ ?_
    clear h4 h2 g h1
    rintro⟨j,y⟩ ⟨h1,h2,h4⟩
    dsimp only at h1 h2 h4
    apply ahS S L R H d y j pH
    case l4=>
     intro g
     have g:=of_decide_eq_false g
     rw[an3 (by omega)]at h4
     have h4:y+((0:Nat):Int)=S.n+ko l+oA H:=h4
     with_reducible (repeat first|refine QL.ret ?_|refine QL.exit ?_|refine QB.ret ?_|refine QB.ci ?_|refine QB.normal ?_|refine QB.cu (by rfl) ?_)
     apply ahW S L R H d y pH
     ·exact ahU S L R H d y ⟨by rw[show y=((S.n.toNat+ko l+oA H:Nat):Int)by omega],rfl⟩
    case l3=>
     intro g
     have g:=of_decide_eq_true g
     have hj:j<H.length:=by omega
     obtain⟨n0,n1,n2,n3,n4,xb,xs,Ps,n5⟩:=rowAt hj
     rw[G2 hj]at h4
     have h4:y+(((if(aX H j).there then(aX H j).line.size else 0)+oA (H.drop (j+1)):Nat):Int)=S.n+ko l+oA H:=h4
     apply ahT S L R H d y j pH hH (by omega) g (by omega) (bG (by omega) (by omega)) n0 n1 n2 n3 n4
     case l8=>
      intro gb
      rw[xb]at gb
      rw[if_pos gb]at h4
      refine QL.to (j+1,y+(aX H j).line.size) ⟨by dsimp only;omega,by dsimp only;omega,by dsimp only;omega⟩ (by dsimp only;omega) ?_
      unfold QR HQ
      rw[xs,bG (z:=y+((aX H j).line.size:Int)) (by omega) (by omega),fj (by omega)]
      rfl
     case l9=>
      intro gb
      rw[xb]at gb
      rw[if_neg (by rw[gb];simp)]at h4
      refine QL.to (j+1,y) ⟨by dsimp only;omega,h2,by dsimp only;omega⟩ (by dsimp only;omega) ?_
      unfold QS HQ
      rw[fj (by omega)]
      rfl
structure bD where
 bytes:ByteArray
 ended:Bool
 code:Int
 ahZ:Int
 id:Int
def ye(s:bD):List SV:=[.cells s.bytes.size (ag s.bytes) 5,.val (.bool s.ended),.val (.int .i64 s.code),.val (.int .i64 s.ahZ),.val (.int .i64 s.id)]
def dk:bD:=⟨amw,false,0,0,0⟩
def cL(l:List bD):ai:=.rows l.length 5 fun i=>ye (l[i]?.getD dk)
def kp(o:ByteArray)(nd er hd t:Int):List Value:=[.string o,.string amw,.string amw,.string amw,.int .i64 nd,.int .i64 er,.int .i64 hd,.int .i64 t,.int .i64 0,.int .i64 0,.int .i64 0,.bool false]
def kS(w:Bool):List Value:=[.bool w,.bool false,.bool false,.bool false]
def jb:List Value:=kp amw 0 0 0 0
def iR(S:ad):Int:=if S.over then -1 else if S.more then -2 else S.at_
end Go.Proofs.Ytnlkkgpcikkpoaa
