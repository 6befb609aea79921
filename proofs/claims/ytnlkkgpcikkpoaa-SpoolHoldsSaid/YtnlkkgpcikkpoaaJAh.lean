/- Part of the proof: So4, So5, StU, So6, So7, So8, StV, So9, Sma, App, Smb, Smc, Smd. -/
import Derived.Test.YtnlkkgpcikkpoaaJAg
import Derived.KernelRfl
import Derived.Test.YtnlkkgpcikkpoaaJAe
open Array renaming toArray_toList→anB
open Bool renaming and_eq_true→amB,and_self→aoe,true_and→aoZ
open Classical renaming propDecidable→amR
open Go renaming Code→am3,Value→amn
open Go.IntKind renaming i64→amA,u64→anc,wrap→aml
open Go.Proofs.Try renaming prog→asz
open Go.Value renaming int→amu,string→amT
open Int renaming eq_ofNat_of_zero_le→anW,fdiv→anS,toNat→amm
open List renaming all→amq,append_assoc→amQ,cons_append→aop,drop_drop→anE,drop_length→ap3,getElem?_append_right→am5,getElem?_drop→anK,getElem?_eq_getElem→amt,getElem?_eq_some_iff→amy,length→mM,length_append→amD,length_cons→am9,length_drop→anA,length_set→anU,length_take→anf,mem_append→amU,nil_append→an6,pairwise_append→apx,perm_append_comm→ap7,take_append_drop→anF,take_length→ap2,take_zero→aps
open Nat renaming beq→amE,beq_refl→anw,ble→amO,ble_eq_true_of_le→am2,blt→amG,blt_eq→asr,eq_of_beq_eq_true→amI,le_refl→amX,sub_self→aoU,zero_le→ann
open Option.some renaming injEq→amr
open Prod.mk renaming injEq→amv
set_option linter.unusedVariables false
set_option linter.unusedSimpArgs false
namespace Go.Proofs.Ytnlkkgpcikkpoaa
open Go Vm Go.RowKit
set_option maxRecDepth 100000
def fu(n:Nat):amn:=.slice (some ⟨0,0,none⟩) n n
def fK:amn:=.func (.func 90) #[.pointer (some ⟨1,0,none⟩)] #[]
def iZ(k:Nat):amn:=.int .i64 k
def cF(S:ad)(R:List Int)(H:List ap)(d:ay)(L:List ByteArray):List ai:=[.cells (ao L) 9 false,.cells (aQ S 2 0 3 4) 64 false,.abs d,.cells (aq R) 3 false,.cells (ak H) 144 false]
theorem fj{k:Nat}(h:k<1000000000):(.int .i64 (aml amA ((k:Int)+1)):amn)=iZ (k+1):=by
 rw[mC (by omega) (by omega)];rfl
theorem bG{z:Int}(h: -1000000000≤z)(h2:z<1000000000):aml amA z=z:=mC (by omega) (by omega)
theorem dK{L:List ByteArray}{k:Nat}{x:ByteArray}(h:L[k]?=some x):a8 (ao L) k=x∧eB (ao L) k=true:=by
 have:(ao L)[k]?=some (.string x):=by unfold ao;rw[List.getElem?_map,h];rfl
 exact⟨by unfold a8;rw[this],by unfold eB;rw[this]⟩
theorem nj{L:List ByteArray}{k:Nat}{x:ByteArray}(h:k<L.length):amk (ao L) k [amT x]=ao (L.set k x):=by
 unfold amk ao
 rw[List.map_set,List.set_eq_take_append_cons_drop,if_pos (by rw[List.length_map];exact h)]
 simp
theorem fL{x:Nat}:0+amm (x:Int)*1=x:=by simp
section
variable (S:ad) (R:List Int) (H:List ap) (d:ay)
def xH(n a z:Nat)(L:List ByteArray)(i:Nat):aj:=⟨[(0,fu n),(1,iZ a),(2,iZ z),(3,fK),(8,iZ i)],cF S R H d (bV (a7 S.aC) L a i)⟩
def Aq(n a z i:Nat)(T X D:List ByteArray)(x:ByteArray)(j:Nat):aj:=⟨[(0,fu n),(1,iZ a),(2,iZ z),(3,fK),(8,iZ i),(9,iZ (a+j))],cF S R H d (cX T X D x j)⟩
structure Zo(c:ByteArray→ByteArray→Int)(X:List ByteArray)(x:ByteArray)(j:Nat):Prop where
 h1:j≤X.length
 h2:∀k y,j≤k→X[k]?=some y→fy c x y=true
theorem Zp(L:List ByteArray)(n a z:Nat)(hn:L.length=n)(hL:n≤1000000)(alu:a≤z)(hz:z≤n):
 aG asz 110 [fu n,iZ a,iZ z,fK] (cF S R H d L) fun r o=>r=.ret (.tuple #[])∧o=cF S R H d (bV (a7 S.aC) L a z):=by
 have pH:=aY H
 have fF:=vh S.aC
 have hlen:∀i,a≤i→i≤n→(bV (a7 S.aC) L a i).length=n:=fun i h1 h2=>by rw[M7 h1 (by omega),hn]
 have h1:bV (a7 S.aC) L a (a+1)=L:=by
  have:bE (a7 S.aC) (aL L a (a+1))=aL L a (a+1):=Fz fF (by
   unfold aL
   rw[show a+1-a=1 by omega]
   cases L.drop a with
   |nil=>exact .nil
   |cons y l=>exact List.pairwise_singleton _ _)
  unfold bV
  rw[this]
  exact(rB L (Nat.le_succ a)).symm
 have h0:bV (a7 S.aC) L a a=L:=by
  unfold bV
  have:aL L a a=[]:=by unfold aL;rw[aoU,aps]
  rw[this]
  show L.take a++(bE _ []++L.drop a)=L
  rw[Fz fF .nil,an6,anF]
 refine aG.cM (n:=ct asz 110) (by kernel_rfl) ?_
 apply Ze S R H d n L a z pH hn (bG (by omega) (by omega))
 ·
  have e:FI S R H d n L a z=xH S R H d n a z L (a+1):=by unfold FI xH;rw[h1,fj (by omega)];rfl
  rw[e]
  refine al.eJ 1 0 (by kernel_rfl) ?_
  refine al.fJ (xH S R H d n a z L) (fun i=>z-i) (fun i=>a+1≤i∧(i≤z∨i=a+1)) (a+1) (by kernel_rfl) ⟨amX _,.inr rfl⟩ ?_
  rintro i ⟨hi,uM⟩
  have fM:(bV (a7 S.aC) L a i).length=n:=by
   rcases uM with h|rfl
   ·exact hlen i (by omega) (by omega)
   ·rw[h1];exact hn
  apply Zh S R H d n (bV (a7 S.aC) L a i) a z i pH fM
  case l4=>
   intro g
   have g:=of_decide_eq_false g
   have he:bV (a7 S.aC) L a i=bV (a7 S.aC) L a z:=by
    rcases uM with h|h
    ·rw[show i=z by omega]
    ·by_cases ez:z=a
     ·subst ez;rw[h,h1,h0]
     ·rw[show i=z by omega]
   with_reducible (repeat first|refine QL.ret ?_|refine QL.exit ?_|refine QB.ret ?_|refine QB.ci ?_|refine QB.normal ?_|refine QB.cu (by rfl) ?_)
   refine al.done (by kernel_rfl) ?_
   refine aH.normal (vs:=[]) (l:=[]) (bs:=[0,1,2,3,4]) (pl:=[0,3,4]) (q:=[ao (bV (a7 S.aC) L a i),aq R,ak H]) (fun u=>by kernel_rfl) (by kernel_rfl) (aE (by simp) (aE (by simp) (aE pH bd))) ⟨rfl,by rw[←he]⟩
  case l3=>
   intro g
   have g:=of_decide_eq_true g
   have e9:i<L.length:=by omega
   obtain⟨x,hx⟩:∃x,L[i]?=some x:=⟨_,amt e9⟩
   have hT:(L.take a).length=a:=by rw[anf];omega
   have hX:(bE (a7 S.aC) (aL L a i)).length=i-a:=by rw[nh,iW (by omega) (by omega)]
   have hM:bV (a7 S.aC) L a i=cX (L.take a) (bE (a7 S.aC) (aL L a i)) (L.drop (i+1)) x (i-a):=by
    unfold bV cX
    rw[←hX,ap2,ap3,(po hx).2,an6]
   refine al.eJ 2 1 (by kernel_rfl) ?_
   apply Zi S R H d n (bV (a7 S.aC) L a i) a z i pH fM
   ·
    have e:FK S R H d n (bV (a7 S.aC) L a i) a z i=Aq S R H d n a z i (L.take a) (bE (a7 S.aC) (aL L a i)) (L.drop (i+1)) x (i-a):=by
     unfold FK Aq;rw[hM,show a+(i-a)=i by omega];rfl
    rw[e]
    refine al.eJ 1 2 (by kernel_rfl) ?_
    refine al.fJ (Aq S R H d n a z i (L.take a) (bE (a7 S.aC) (aL L a i)) (L.drop (i+1)) x) (fun j=>j) (Zo (a7 S.aC) (bE (a7 S.aC) (aL L a i)) x) (i-a) (by kernel_rfl) ⟨by omega,fun k y hk hy=>by have:=(amy.1 hy).1;omega⟩ ?_
    intro j hj
    have FL:=hj.h1
    have mZ:(cX (L.take a) (bE (a7 S.aC) (aL L a i)) (L.drop (i+1)) x j).length=n:=by rw[FD FL,hT,hX,anA];omega
    have oU:(∀k y,k<j→(bE (a7 S.aC) (aL L a i))[k]?=some y→fy (a7 S.aC) y x=true)→cX (L.take a) (bE (a7 S.aC) (aL L a i)) (L.drop (i+1)) x j=bV (a7 S.aC) L a (i+1):=fun hb=>by
     have:=Na fF (pk fF (aL L a i)) FL hb hj.h2
     unfold bV cX
     have e2:bE (a7 S.aC) (aL L a (i+1))=bE (a7 S.aC) (bE (a7 S.aC) (aL L a i)++[x]):=by
      refine FA fF ?_
      rw[mJ L (m:=i) (by omega) (by omega)]
      have:aL L i (i+1)=[x]:=by unfold aL;rw[show i+1-i=1 by omega,(po hx).2];rfl
      rw[this]
      exact(kl _).symm.append_right _
     rw[e2,←this]
     simp only[amQ,aop]
    have zn:∀M,M.length=n→M=bV (a7 S.aC) L a (i+1)→al asz 53 5 ((ba (inner (ba (inner (xG.drop 1))))).drop 3) ⟨[(0,fu n),(1,iZ a),(2,iZ z),(3,fK),(8,iZ i)],cF S R H d M⟩ (QL (xH S R H d n a z L) (fun i=>z-i) (fun i=>a+1≤i∧(i≤z∨i=a+1)) i fun x d'=>QB 0 (fun d'=>al asz 53 5 (xG.drop 2) d' (aH asz 110 (ct asz 110) (cF S R H d L).length fun r o=>r=.ret (.tuple #[])∧o=cF S R H d (bV (a7 S.aC) L a z))) (aH asz 110 (ct asz 110) (cF S R H d L).length fun r o=>r=.ret (.tuple #[])∧o=cF S R H d (bV (a7 S.aC) L a z)) x d'):=fun M Zq Zr=>by
     apply Zn S R H d n M a z i pH Zq (bG (by omega) (by omega))
     ·exact QL.to (i+1) ⟨by omega,.inl (by omega)⟩ (by omega) (by unfold Nh xH;rw[fj (by omega),Zr];rfl)
    have fD:(cX (L.take a) (bE (a7 S.aC) (aL L a i)) (L.drop (i+1)) x j)[a+j]?=some x:=by have:=FE (T:=L.take a) (D:=L.drop (i+1)) (x:=x) FL;rw[hT]at this;exact this
    apply Zm S R H d n (cX (L.take a) (bE (a7 S.aC) (aL L a i)) (L.drop (i+1)) x j) a z i ((a+j:Nat):Int) pH mZ (by omega) (by omega) (by omega) hL (bG (by omega) (by omega))
    case aW=>simp
    case be=>exact pH
    case bB=>simp
    case n0=>intro g;rw[fL];exact(dK fD).2
    case n2=>intro g;exact vg rfl
    case l9=>
     intro g
     have g:=of_decide_eq_false g
     have sq:j=0:=by omega
     with_reducible (repeat first|refine QL.ret ?_|refine QL.exit ?_|refine QB.ret ?_|refine QB.ci ?_|refine QB.normal ?_|refine QB.cu (by rfl) ?_)
     refine al.done (by kernel_rfl) ?_
     with_reducible (repeat first|refine QL.ret ?_|refine QL.exit ?_|refine QB.ret ?_|refine QB.ci ?_|refine QB.normal ?_|refine QB.cu (by rfl) ?_)
     exact zn _ mZ (oU fun k y hk _=>by omega)
    all_goals
     intro g
     have g:=of_decide_eq_true g
     obtain⟨j',rfl⟩:∃j',j=j'+1:=⟨j-1,by omega⟩
     obtain⟨y,hy⟩:∃y,(bE (a7 S.aC) (aL L a i))[j']?=some y:=⟨_,amt (by omega)⟩
     have gT:(cX (L.take a) (bE (a7 S.aC) (aL L a i)) (L.drop (i+1)) x (j'+1))[a+j']?=some y:=by have:=M8 (T:=L.take a) (D:=L.drop (i+1)) (x:=x) (S:=bE (a7 S.aC) (aL L a i)) (j:=j') (by omega);rw[hT,hy]at this;exact this
     have e1:0+amm (aml amA (((a+(j'+1):Nat):Int)-1))*1=a+j':=by rw[bG (by omega) (by omega)];omega
    case n1=>rw[e1];exact(dK gT).2
    case n3=>
     intro g1
     rw[e1,fL,(dK gT).1,nj (by omega),xj,anU]
     exact am2 (by omega)
    case l6=>
     intro g1
     rw[e1,fL,(dK gT).1,(dK fD).1]at g1
     have g1:=of_decide_eq_true g1
     refine QL.to j' ⟨by omega,fun k u hk hu=>?_⟩ (by omega) ?_
     ·by_cases e:k=j'
      ·subst e;rw[hy]at hu;cases hu;rw[pj];exact fF.asym _ _ g1
      ·exact hj.h2 k u (by omega) hu
     ·unfold Ng Aq
      rw[e1,fL,(dK gT).1,(dK fD).1,nj (by omega),nj (by rw[anU];omega)]
      have:=M9 (T:=L.take a) (D:=L.drop (i+1)) (x:=x) (S:=bE (a7 S.aC) (aL L a i)) (j:=j') (by omega) hy
      rw[hT]at this
      rw[this,bG (by omega) (by omega)]
      have:(((a+(j'+1):Nat):Int)-1)=((a+j':Nat):Int):=by omega
      rw[this]
      rfl
    case l8=>
     intro g1
     rw[e1,fL,(dK gT).1,(dK fD).1]at g1
     have g1:=of_decide_eq_false g1
     with_reducible (repeat first|refine QL.ret ?_|refine QL.exit ?_|refine QB.ret ?_|refine QB.ci ?_|refine QB.normal ?_|refine QB.cu (by rfl) ?_)
     refine al.done (by kernel_rfl) ?_
     with_reducible (repeat first|refine QL.ret ?_|refine QL.exit ?_|refine QB.ret ?_|refine QB.ci ?_|refine QB.normal ?_|refine QB.cu (by rfl) ?_)
     refine zn _ mZ (oU fun k u hk hu=>?_)
     refine fF.le_trans (An (pk fF _) fF (show k≤j' by omega) hu hy) ?_
     rw[pj];exact g1
end
end Go.Proofs.Ytnlkkgpcikkpoaa
namespace Go.Proofs.Ytnlkkgpcikkpoaa
noncomputable section
open Go Vm Go.RowKit
set_option maxRecDepth 100000
noncomputable def FM:List am3:=ba (dy asz 118)
open Tree renaming aU→mN,dh→mF,eQ→mL,fw→mQ,dz→mR,fI→mE
noncomputable abbrev Zs:List am3:=(ba (inner (ba (inner (FM.drop 1)))))
abbrev Ar:=fun S R H d L=>([ab (ao L) 9,ab (aQ S 2 0 3 4) 64,.abs d,ab (aq R) 3,ab (ak H) 144]:List ai)
abbrev FN:=fun S R H d (n:Nat) L (a b k:Int)=>(⟨[(0,ah 0 n),(1,aa a),(2,aa b),(3,aa k),(10,aa 0)],Ar S R H d L⟩:aj)
abbrev Zt:=fun S R H d (n:Nat) L (a b k:Int)=>(⟨[(0,ah 0 n),(1,aa a),(2,aa b),(3,aa k),(4,.func (.func 90) #[an 1] #[])],Ar S R H d L⟩:aj)
theorem Zu(S R H d)(n:Nat)(L)(a b k:Int)(pH:(ak H).all af=true)(hn:(mM L)=n){Q:aV}(l3:al asz 38 5 (FM.drop 1) (FN S R H d n L a b k) Q):al asz 38 5 FM (Zt S R H d n L a b k) Q:=
 aZ bo 1 (.leaf [0,1,2,3,10] [0,1,2,3,4] [0,3,4]) (fun u=>by kernel_rfl) (aM L R H (mQ l3))
abbrev Ni:=fun S R H d (n:Nat) L (a b k i:Int)=>(⟨[(0,ah 0 n),(1,aa a),(2,aa b),(3,aa k),(10,.int .i64 (aml .i64 (i+1)))],[ab (amk (amk (ao L) (0+amm (aml .i64 (a+i))*1) [amT (a8 (ao L) (0+amm (aml .i64 (b+i))*1))]) (0+amm (aml .i64 (b+i))*1) [amT (a8 (ao L) (0+amm (aml .i64 (a+i))*1))]) 9,ab (aQ S 2 0 3 4) 64,.abs d,ab (aq R) 3,ab (ak H) 144]⟩:aj)
noncomputable abbrev Zv(S:ad)(R:List Int)(H:List ap)(d:ay)(n:Nat)(L:List ByteArray)(a b k i:Int):aj:=⟨[],Ar S R H d L⟩
abbrev Zw:=fun S R H d (n:Nat) L (a b k i:Int)=>(⟨[(0,ah 0 n),(1,aa a),(2,aa b),(3,aa k),(10,aa i)],Ar S R H d L⟩:aj)
theorem Zx(S R H d)(n:Nat)(L)(a b k i:Int)(pH:(ak H).all af=true)(hn:(mM L)=n)(h0:0≤i)(ha:0≤a)(jg:a+k≤b)(hb:b+k≤n)(hL:n≤1000000)(gy:aml .i64 (a+i)=a+i)(dG:aml .i64 (b+i)=b+i)(mK:aml .i64 (i+1)=i+1){Q:aV}(n0:(decide (i<k))=true→(eB (ao L) (0+amm (aml .i64 (b+i))*1))=true)(n1:(decide (i<k))=true→(eB (ao L) (0+amm (aml .i64 (a+i))*1))=true)(n2:(decide (i<k))=true→(amO (0+amm (aml .i64 (b+i))*1+1) (mM (amk (ao L) (0+amm (aml .i64 (a+i))*1) [amT (a8 (ao L) (0+amm (aml .i64 (b+i))*1))])))=true)(aW:amq (aq R) af=true)(be:amq (ak H) af=true)(l5:(decide (i<k))=true→Q .normal (Ni S R H d n L a b k i))(bB:amq (ao L) af=true)(l7:(decide (i<k))=false→Q (.exit 0) (Zv S R H d n L a b k i)):al asz 38 5 Zs (Zw S R H d n L a b k i) Q:=
 aZ bo 1000 (.fork 0 (av [0,1,1,0,1,0,1,1,0,1,0,1,1,0,1,0,1,1,0,1] (.leaf [0,1,2,3,10] [0,1,2,3,4] [0,3,4])) (.leaf [] [0,1,2,3,4] [0,3,4])) (fun u=>by kernel_rfl) (mF (c:=decide (i<k)) (fun h0=>(mN (show(decide (0≤aml .i64 (b+i)))=true by simp at pH hn h0 ha jg hb hL gy dG mK h0⊢ <;>omega) (mN (show(amG (amm (aml .i64 (b+i))) n)=true by simp at pH hn h0 ha jg hb hL gy dG mK h0⊢ <;>omega) (mN (n0 h0) (mN (decide_eq_true (by omega):(decide (0≤aml .i64 (a+i)))=true) (mN (show(amG (amm (aml .i64 (a+i))) n)=true by simp at pH hn h0 ha jg hb hL gy dG mK h0⊢ <;>omega) (mN (n1 h0) (mN (decide_eq_true (by omega):(decide (0≤aml .i64 (a+i)))=true) (mN (show(amG (amm (aml .i64 (a+i))) n)=true by simp at pH hn h0 ha jg hb hL gy dG mK h0⊢ <;>omega) (mN (show(amO (0+amm (aml .i64 (a+i))*1+1) (mM (ao L)))=true by simp at pH hn h0 ha jg hb hL gy dG mK h0⊢ <;>omega) (mN (show(decide (0≤aml .i64 (b+i)))=true by simp at pH hn h0 ha jg hb hL gy dG mK h0⊢ <;>omega) (mN (show(amG (amm (aml .i64 (b+i))) n)=true by simp at pH hn h0 ha jg hb hL gy dG mK h0⊢ <;>omega) (mN (n2 h0) (mN (show(amq (amk (amk (ao L) (0+amm (aml .i64 (a+i))*1) [amT (a8 (ao L) (0+amm (aml .i64 (b+i))*1))]) (0+amm (aml .i64 (b+i))*1) [amT (a8 (ao L) (0+amm (aml .i64 (a+i))*1))]) af)=true by first|exact aP _|assumption|exact aD (by assumption) rfl _|exact aD (aD (aD (by assumption) rfl _) rfl _) rfl _|exact aD (aP _) (cg (by rfl) _) _|exact aA (aO (aN _) _) _|(simp;done)|exact aB (by assumption) rfl|exact aB (aP _) rfl|exact aB rfl (aA (by assumption) _)|exact aB (by assumption) (aA (by assumption) _)|exact aB rfl (aA (aO (by assumption) _) _)|exact aA (aO (by assumption) _) _) (mN (aS R) (mN (aY H) (mQ (al.done (by kernel_rfl) (l5 h0))))))))))))))))))) (fun h0=>(aM L R H (mE 0 (l7 h0)))))
end
end Go.Proofs.Ytnlkkgpcikkpoaa
namespace Go.Proofs.Ytnlkkgpcikkpoaa
section
variable {α:Type} {c:α→α→Int}
def ff(L:List α)(a b k:Nat):List α:=L.take a++(aL L b (b+k)++(aL L (a+k) b++(aL L a (a+k)++L.drop (b+k))))
def fV(L:List α)(a m b:Nat):List α:=L.take a++(aL L m b++(aL L a m++L.drop b))
theorem FO{T X Z Y D:List α}{a b k:Nat}(h1:T.length=a)(h2:X.length=k)(h3:Z.length=b-(a+k))(h4:Y.length=k)(h5:a+k≤b):ff (T++(X++(Z++(Y++D)))) a b k=T++(Y++(Z++(X++D))):=by
 have e1:aL (T++(X++(Z++(Y++D)))) a (a+k)=X:=ni h1 (by omega)
 have e2:aL (T++(X++(Z++(Y++D)))) (a+k) b=Z:=by
  rw[←amQ];exact ni (by rw[amD];omega) (by omega)
 have e3:aL (T++(X++(Z++(Y++D)))) b (b+k)=Y:=by
  rw[←amQ,←amQ];exact ni (by rw[amD,amD];omega) (by omega)
 have e4:(T++(X++(Z++(Y++D)))).drop (b+k)=D:=by
  rw[←amQ,←amQ,←amQ];exact FC (by simp only[amD];omega)
 unfold ff
 rw[e1,e2,e3,e4,FB h1]
theorem Zy{L:List α}{a b k:Nat}(h1:a+k≤b)(h2:b+k≤L.length):L=L.take a++(aL L a (a+k)++(aL L (a+k) b++(aL L b (b+k)++L.drop (b+k)))):=by
 conv=>lhs;rw[rB L (show a≤b+k by omega),mJ L (m:=a+k) (by omega) (by omega),mJ L (a:=a+k) (m:=b) (by omega) (by omega)]
 simp only[amQ]
theorem Zz{L:List α}{a b k:Nat}(h1:a+k≤b)(h2:b+k≤L.length):(ff L a b k).length=L.length:=by
 unfold ff
 simp only[amD]
 rw[iW (by omega) (by omega),iW (by omega) (by omega),iW (by omega) (by omega),anf,anA]
 omega
theorem ZA(L:List α){a b:Nat}(h:a≤b)(h2:b≤L.length):ff L a b 0=L:=by
 have:=Zy (L:=L) (a:=a) (b:=b) (k:=0) (by omega) (by omega)
 have e0:∀x,aL L x (x+0)=[]:=fun x=>by unfold aL;rw[show x+0-x=0 by omega,aps]
 unfold ff
 rw[e0,e0]at*
 exact this.symm
theorem As{P W:List α}{u v:α}{n:Nat}(h:P.length=n):(P++u::W).set n v=P++v::W:=by
 subst h
 rw[List.set_append_right _ _ (by omega),aoU];rfl
theorem Nj{P W:List α}{u:α}{n:Nat}(h:P.length=n):(P++u::W)[n]?=some u:=by
 subst h
 rw[am5 (by omega),aoU];rfl
theorem Au{L:List α}{a i:Nat}{x:α}(h:a≤i)(hx:L[i]?=some x):aL L a (i+1)=aL L a i++[x]:=by
 rw[mJ L (m:=i) h (by omega)]
 have:aL L i (i+1)=[x]:=by unfold aL;rw[show i+1-i=1 by omega,(po hx).2];rfl
 rw[this]
theorem ZB{L:List α}{a b:Nat}{x:α}(h:a<b)(hx:L[a]?=some x):aL L a b=x::aL L (a+1) b:=by
 unfold aL
 rw[(po hx).2,show b-a=(b-(a+1))+1 by omega,List.take_succ_cons]
theorem ZC{L:List α}{a b i:Nat}{x y:α}(h1:a+(i+1)≤b)(h2:b+(i+1)≤L.length)(hx:L[a+i]?=some x)(hy:L[b+i]?=some y):
 (ff L a b i)[a+i]?=some x∧(ff L a b i)[b+i]?=some y∧((ff L a b i).set (a+i) y).set (b+i) x=ff L a b (i+1):=by
 have lT:(L.take a).length=a:=by rw[anf];omega
 have l1:(aL L b (b+i)).length=i:=by rw[iW (by omega) (by omega)];omega
 have l2:(aL L (a+i+1) b).length=b-(a+i+1):=iW (by omega) (by omega)
 have l3:(aL L a (a+i)).length=i:=by rw[iW (by omega) (by omega)];omega
 have e0:ff L a b i=(L.take a++aL L b (b+i))++x::(aL L (a+i+1) b++(aL L a (a+i)++y::L.drop (b+i+1))):=by
  unfold ff
  rw[ZB (a:=a+i) (by omega) hx,(po hy).2]
  simp only[amQ,aop]
 have ZD:ff L a b i=(L.take a++aL L b (b+i)++x::(aL L (a+i+1) b++aL L a (a+i)))++y::L.drop (b+i+1):=by
  rw[e0];simp only[amQ,aop]
 have e1:ff L a b (i+1)=(L.take a++aL L b (b+i)++y::(aL L (a+i+1) b++aL L a (a+i)))++x::L.drop (b+i+1):=by
  unfold ff
  rw[show b+(i+1)=b+i+1 by omega,show a+(i+1)=a+i+1 by omega,Au (a:=b) (i:=b+i) (by omega) hy,Au (a:=a) (i:=a+i) (by omega) hx]
  simp only[amQ,aop,an6]
 refine⟨by rw[e0];exact Nj (by rw[amD];omega),by rw[ZD];exact Nj (by simp only[amD,am9];omega),?_⟩
 rw[e0,As (by rw[amD];omega),e1]
 have:L.take a++aL L b (b+i)++y::(aL L (a+i+1) b++(aL L a (a+i)++y::L.drop (b+i+1)))=(L.take a++aL L b (b+i)++y::(aL L (a+i+1) b++aL L a (a+i)))++y::L.drop (b+i+1):=by
  simp only[amQ,aop]
 rw[this,As (by simp only[amD,am9];omega)]
structure lZ(L:List α)(a m b i j:Nat)(M:List α):Prop where
 it:∃P U V Q,M=L.take a++(P++(U++(V++(Q++L.drop b))))∧U.length=i∧V.length=j∧a+P.length+i=m∧aL L m b++aL L a m=P++(V++(U++Q))
 i0:0<i
 j0:0<j
theorem lZ.start{L:List α}{a m b:Nat}(h1:a<m)(h2:m<b)(h3:b≤L.length):lZ L a m b (m-a) (b-m) L:=
 ⟨⟨[],aL L a m,aL L m b,[],by
  conv=>lhs;rw[rB L (show a≤b by omega),mJ L (m:=m) (by omega) (by omega)]
  simp only[amQ,an6],iW (by omega) (by omega),iW (by omega) h3,by simp;omega,by simp⟩,by omega,by omega⟩
theorem lZ.left{L M:List α}{a m b i j:Nat}(h:lZ L a m b i j M)(ha:a≤L.length)(ia:j<i):lZ L a m b (i-j) j (ff M (m-i) m j)∧m-i+j≤m∧m+j≤M.length:=by
 obtain⟨⟨P,U,V,Q,rfl,hU,hV,hP,hW⟩,hi,hj⟩:=h
 have lT:(L.take a).length=a:=by rw[anf];omega
 have Nk:(U.take j).length=j:=by rw[anf];omega
 have ZE:(U.drop j).length=i-j:=by rw[anA];omega
 refine⟨⟨⟨P++V,U.drop j,U.take j,Q,?_,ZE,Nk,by rw[amD];omega,?_⟩,by omega,hj⟩,by omega,?_⟩
 ·have:L.take a++(P++(U++(V++(Q++L.drop b))))=(L.take a++P)++(U.take j++(U.drop j++(V++(Q++L.drop b)))):=by
   conv=>lhs;rw[←anF j U]
   simp only[amQ]
  rw[this,FO (by rw[amD];omega) Nk (by omega) hV (by omega)]
  simp only[amQ]
 ·rw[hW]
  conv=>lhs;rw[←anF j U]
  simp only[amQ]
 ·simp only[amD];omega
theorem lZ.right{L M:List α}{a m b i j:Nat}(h:lZ L a m b i j M)(ha:a≤L.length)(ia:i<j):lZ L a m b i (j-i) (ff M (m-i) (m+j-i) i)∧m-i+i≤m+j-i∧m+j-i+i≤M.length:=by
 obtain⟨⟨P,U,V,Q,rfl,hU,hV,hP,hW⟩,hi,hj⟩:=h
 have lT:(L.take a).length=a:=by rw[anf];omega
 have ZF:(V.take (j-i)).length=j-i:=by rw[anf];omega
 have Nl:(V.drop (j-i)).length=i:=by rw[anA];omega
 refine⟨⟨⟨P,V.drop (j-i),V.take (j-i),U++Q,?_,Nl,ZF,by omega,?_⟩,hi,by omega⟩,by omega,?_⟩
 ·have:L.take a++(P++(U++(V++(Q++L.drop b))))=(L.take a++P)++(U++(V.take (j-i)++(V.drop (j-i)++(Q++L.drop b)))):=by
   conv=>lhs;rw[←anF (j-i) V]
   simp only[amQ]
  rw[this,FO (by rw[amD];omega) hU (by omega) Nl (by omega)]
  simp only[amQ]
 ·rw[hW]
  conv=>lhs;rw[←anF (j-i) V]
  simp only[amQ]
 ·simp only[amD];omega
theorem lZ.done{L M:List α}{a m b i:Nat}(h:lZ L a m b i i M)(ha:a≤L.length):ff M (m-i) m i=fV L a m b∧m-i+i≤m∧m+i≤M.length∧i≤m:=by
 obtain⟨⟨P,U,V,Q,rfl,hU,hV,hP,hW⟩,hi,hj⟩:=h
 have lT:(L.take a).length=a:=by rw[anf];omega
 refine⟨?_,by omega,by simp only[amD];omega,by omega⟩
 have:=FO (T:=L.take a++P) (X:=U) (Z:=[]) (Y:=V) (D:=Q++L.drop b) (a:=m-i) (b:=m) (k:=i) (by rw[amD];omega) hU (by simp;omega) hV (by omega)
 rw[an6]at this
 rw[show L.take a++(P++(U++(V++(Q++L.drop b))))=(L.take a++P)++(U++(V++(Q++L.drop b)))by simp only[amQ],this]
 unfold fV
 have e:aL L m b++(aL L a m++L.drop b)=(aL L m b++aL L a m)++L.drop b:=by rw[amQ]
 rw[e,hW]
 simp only[amQ,an6]
theorem lZ.bounds{L M:List α}{a m b i j:Nat}(h:lZ L a m b i j M)(om:a≤m)(oq:m≤b)(hb:b≤L.length):M.length=L.length∧i≤m-a∧j≤b-m:=by
 obtain⟨⟨P,U,V,Q,rfl,hU,hV,hP,hW⟩,hi,hj⟩:=h
 have hl:=congrArg mM hW
 simp only[amD]at hl
 rw[iW oq hb,iW om (by omega)]at hl
 simp only[amD,anf,anA]
 omega
end
end Go.Proofs.Ytnlkkgpcikkpoaa
namespace Go.Proofs.Ytnlkkgpcikkpoaa
open Go Vm Go.RowKit
set_option maxRecDepth 100000
section
variable (S:ad) (R:List Int) (H:List ap) (d:ay)
def Av(n a b k:Nat)(L:List ByteArray)(i:Nat):aj:=⟨[(0,fu n),(1,iZ a),(2,iZ b),(3,iZ k),(10,iZ i)],cF S R H d (ff L a b i)⟩
theorem ZG(L:List ByteArray)(n a b k:Nat)(hn:L.length=n)(hL:n≤1000000)(jg:a+k≤b)(hb:b+k≤n):
 aG asz 118 [fu n,iZ a,iZ b,iZ k,fK] (cF S R H d L) fun r o=>r=.ret (.tuple #[])∧o=cF S R H d (ff L a b k):=by
 have pH:=aY H
 refine aG.cM (n:=ct asz 118) (by kernel_rfl) ?_
 apply Zu S R H d n L a b k pH hn
 ·
  have e:FN S R H d n L a b k=Av S R H d n a b k L 0:=by unfold FN Av;rw[ZA L (by omega) (by omega)];rfl
  rw[e]
  refine al.eJ 1 0 (by kernel_rfl) ?_
  refine al.fJ (Av S R H d n a b k L) (fun i=>k-i) (fun i=>i≤k) 0 (by kernel_rfl) (ann _) ?_
  intro i hi
  have fM:(ff L a b i).length=n:=by rw[Zz (by omega) (by omega),hn]
  apply Zx S R H d n (ff L a b i) a b k i pH fM (by omega) (by omega) (by omega) (by omega) hL (bG (by omega) (by omega)) (bG (by omega) (by omega)) (bG (by omega) (by omega))
  case aW=>simp
  case be=>exact pH
  case bB=>simp
  case l7=>
   intro g
   have g:=of_decide_eq_false g
   have jh:i=k:=by omega
   subst jh
   with_reducible (repeat first|refine QL.ret ?_|refine QL.exit ?_|refine QB.ret ?_|refine QB.ci ?_|refine QB.normal ?_|refine QB.cu (by rfl) ?_)
   refine al.done (by kernel_rfl) ?_
   refine aH.normal (vs:=[]) (l:=[]) (bs:=[0,1,2,3,4]) (pl:=[0,3,4]) (q:=[ao (ff L a b i),aq R,ak H]) (fun u=>by kernel_rfl) (by kernel_rfl) (aE (by simp) (aE (by simp) (aE pH bd))) ⟨rfl,rfl⟩
  all_goals
   intro g
   have g:=of_decide_eq_true g
   obtain⟨x,hx⟩:∃x,L[a+i]?=some x:=⟨_,amt (by omega)⟩
   obtain⟨y,hy⟩:∃y,L[b+i]?=some y:=⟨_,amt (by omega)⟩
   obtain⟨fD,gT,dw⟩:=ZC (L:=L) (a:=a) (b:=b) (i:=i) (by omega) (by omega) hx hy
   have ea:0+amm (aml amA ((a:Int)+(i:Int)))*1=a+i:=by rw[bG (by omega) (by omega)];omega
   have eb:0+amm (aml amA ((b:Int)+(i:Int)))*1=b+i:=by rw[bG (by omega) (by omega)];omega
  case n0=>rw[eb];exact(dK gT).2
  case n1=>rw[ea];exact(dK fD).2
  case n2=>rw[ea,eb,(dK gT).1,nj (by omega),xj,anU];exact am2 (by omega)
  case l5=>
   refine QL.to (i+1) (by omega) (by omega) ?_
   unfold Ni Av
   rw[ea,eb,(dK gT).1,(dK fD).1,nj (by omega),nj (by rw[anU];omega),dw,fj (by omega)]
   rfl
end
def ZH:amn→ByteArray
 | .string s=>s
 |_=>ByteArray.empty
def cU(l:List amn):List ByteArray:=l.map ZH
@[simp] theorem ie(l:List ByteArray):cU (ao l)=l:=by
 unfold cU ao
 rw[List.map_map]
 conv=>rhs;rw[←List.map_id l]
 exact List.map_congr_left fun x _=>rfl
noncomputable def ig(o:List ai)(n:Nat):Bool:=@decide (∃S R H d L,o=cF S R H d L∧L.length=n∧n≤1000000) (amR _)
theorem vi{S:ad}{R:List Int}{H:List ap}{d:ay}{L:List ByteArray}{o:List ai}{n:Nat}(h:o=cF S R H d L)(h2:L.length=n)(h3:n≤1000000):ig o n=true:=by
 unfold ig
 exact(@decide_eq_true_iff _ (amR _)).2 ⟨S,R,H,d,L,h,h2,h3⟩
noncomputable def FP(a:List amn)(o:List ai):Option (Bool×bL×List ai):=match a,o with
 | [.slice (some ⟨0,0,none⟩) n m,.int .i64 x,.int .i64 y,.int .i64 k,.func (.func f) c1 c2],ai.cells c t r::l=>match c1.toList,c2.toList with
  | [.pointer (some ⟨1,0,none⟩)],[]=>some (ig (.cells c t r::l) n&&(amE m n&&(amE f 90&&(decide (0≤x)&&(decide (0≤k)&&(decide (x+k≤y)&&decide (y+k≤n)))))),.ret (.tuple #[]),.cells (ao (ff (cU c) x.toNat y.toNat k.toNat)) t r::l)
  |_,_=>none
 |_,_=>none
theorem ZI:bp asz 118 (Sum.du asz FP):=bp.du fun a o r o' hg=>by
 unfold FP at hg
 split at hg
 ·rename_i n m x y k f c1 c2 c t ro l
  split at hg
  ·rename_i h1 h2
   simp only[amr,amv,amB,decide_eq_true_eq]at hg
   obtain⟨⟨g1,g2,g3,g4,g5,g6,g7⟩,rfl,rfl⟩:=hg
   have g2:=amI g2
   have g3:=amI g3
   obtain⟨S,R,H,d,L,he,hl,hn⟩:=@of_decide_eq_true _ (amR _) g1
   have e1:c1= #[.pointer (some ⟨1,0,none⟩)]:=by rw[←anB (xs:=c1),h1]
   have e2:c2= #[]:=by rw[←anB (xs:=c2),h2]
   subst g2 g3 e1 e2
   obtain⟨x,rfl⟩:=anW g4
   obtain⟨k,rfl⟩:=anW g5
   obtain⟨y,rfl⟩:=anW (show 0≤y by omega)
   unfold cF at he
   injection he with ot eD
   injection ot with hc ht hr
   subst hc ht hr eD
   refine(ZG S R H d L _ x y k hl hn (by omega) (by omega)).mono ?_
   rintro r o ⟨rfl,rfl⟩
   exact⟨rfl,by rw[ie];rfl⟩
  ·cases hg
 ·cases hg
noncomputable def ZJ:List (FuncId×Sum):=[(118,Sum.du asz FP)]
theorem Nm:dg asz (dE asz (dF ZJ) 50 40):=dJ cZ mixed (dQ (.cons ZI .nil)) 50 40
end Go.Proofs.Ytnlkkgpcikkpoaa
namespace Go.Proofs.Ytnlkkgpcikkpoaa
noncomputable section
open Go Vm Go.RowKit
set_option maxRecDepth 100000
noncomputable def Aw:List am3:=ba (dy asz 116)
open Tree renaming aU→mN,dh→mF,eQ→mL,fw→mQ,dz→mR,fI→mE
noncomputable abbrev FQ:List am3:=(ba (inner (ba (inner (Aw.drop 2)))))
abbrev vj:=fun S R H d L=>([ab (ao L) 9,ab (aQ S 2 0 3 4) 64,.abs d,ab (aq R) 3,ab (ak H) 144]:List ai)
abbrev FT:=fun S R H d (n:Nat) L (a m b:Int)=>(⟨[(0,ah 0 n),(2,aa m),(4,.func (.func 90) #[an 1] #[]),(10,.int .i64 (aml .i64 (m-a))),(11,.int .i64 (aml .i64 (b-m)))],vj S R H d L⟩:aj)
abbrev ZK:=fun S R H d (n:Nat) L (a m b:Int)=>(⟨[(0,ah 0 n),(1,aa a),(2,aa m),(3,aa b),(4,.func (.func 90) #[an 1] #[])],vj S R H d L⟩:aj)
theorem ZL(S R H d)(n:Nat)(L)(a m b:Int)(pH:(ak H).all af=true)(hn:(mM L)=n)(gy:aml .i64 (m-a)=m-a)(dG:aml .i64 (b-m)=b-m){Q:aV}(l3:al asz 58 5 (Aw.drop 2) (FT S R H d n L a m b) Q):al asz 58 5 Aw (ZK S R H d n L a m b) Q:=
 aZ bo 2 (.leaf [0,2,4,10,11] [0,1,2,3,4] [0,3,4]) (fun u=>by kernel_rfl) (aM L R H (mQ l3))
abbrev ZM:=fun S R H d (n:Nat) L (m i j:Int)=>(⟨[(0,ah 0 n),(2,aa m),(4,.func (.func 90) #[an 1] #[]),(10,aa i),(11,aa j)],vj S R H d L⟩:aj)
abbrev ZN:=fun S R H d (n:Nat) L (m i j:Int)=>(⟨[(0,ah 0 n),(2,aa m),(4,.func (.func 90) #[an 1] #[]),(10,aa i)],vj S R H d L⟩:aj)
abbrev Nn:=fun S R H d (n:Nat) L (m i j:Int)=>(⟨[(0,ah 0 n),(2,aa m),(4,.func (.func 90) #[an 1] #[]),(10,aa i),(11,aa j)],vj S R H d L⟩:aj)
theorem ZO(S R H d)(n:Nat)(L)(m i j:Int)(pH:(ak H).all af=true)(hn:(mM L)=n){Q:aV}(l3:(i != j)=true→al asz 58 5 (FQ.drop 2) (ZM S R H d n L m i j) Q)(l4:(i != j)=false→Q (.exit 0) (ZN S R H d n L m i j)):al asz 58 5 FQ (Nn S R H d n L m i j) Q:=
 aZ bo 2 (.fork 0 (.leaf [0,2,4,10,11] [0,1,2,3,4] [0,3,4]) (.leaf [0,2,4,10] [0,1,2,3,4] [0,3,4])) (fun u=>by kernel_rfl) (mF (c:=i != j) (fun h0=>(aM L R H (mQ (l3 h0)))) (fun h0=>(aM L R H (mE 0 (l4 h0)))))
abbrev No:=fun S R H d (n:Nat) L (m i j:Int)=>(⟨[(0,ah 0 n),(2,aa m),(4,.func (.func 90) #[an 1] #[]),(10,.int .i64 (aml .i64 (i-j))),(11,aa j)],[ab (ao (ff (cU (ao L)) (amm (aml .i64 (m-i))) (amm m) (amm j))) 9,ab (aQ S 2 0 3 4) 64,.abs d,ab (aq R) 3,ab (ak H) 144]⟩:aj)
abbrev Np:=fun S R H d (n:Nat) L (m i j:Int)=>(⟨[(0,ah 0 n),(2,aa m),(4,.func (.func 90) #[an 1] #[]),(10,aa i),(11,.int .i64 (aml .i64 (j-i)))],[ab (ao (ff (cU (ao L)) (amm (aml .i64 (m-i))) (amm (aml .i64 (aml .i64 (m+j)-i))) (amm i))) 9,ab (aQ S 2 0 3 4) 64,.abs d,ab (aq R) 3,ab (ak H) 144]⟩:aj)
theorem ZP(S R H d)(n:Nat)(L)(m i j:Int)(pH:(ak H).all af=true)(hn:(mM L)=n)(h1:0<i)(h2:0<j)(h3:i≤m)(h4:m+j≤n)(hL:n≤1000000)(gy:aml .i64 (m-i)=m-i)(dG:aml .i64 (m+j)=m+j)(mK:aml .i64 (m+j-i)=m+j-i)(Ax:aml .i64 (i-j)=i-j)(alv:aml .i64 (j-i)=j-i){Q:aV}(n0:(decide (i>j))=true→(ig [ab (ao L) 9,ab (aQ S 2 0 3 4) 64,ai.abs d,ab (aq R) 3,ab (ak H) 144] n&&(amE n n&&(amE 90 90&&(decide (0≤aml .i64 (m-i))&&(decide (0≤j)&&(decide (aml .i64 (m-i)+j≤m)&&decide (m+j≤(↑n:Int))))))))=true)(l3:(decide (i>j))=true→Q .normal (No S R H d n L m i j))(n4:(decide (i>j))=false→(ig [ab (ao L) 9,ab (aQ S 2 0 3 4) 64,ai.abs d,ab (aq R) 3,ab (ak H) 144] n&&(amE n n&&(amE 90 90&&(decide (0≤aml .i64 (m-i))&&(decide (0≤i)&&(decide (aml .i64 (m-i)+i≤aml .i64 (aml .i64 (m+j)-i))&&decide (aml .i64 (aml .i64 (m+j)-i)+i≤(↑n:Int))))))))=true)(l5:(decide (i>j))=false→Q .normal (Np S R H d n L m i j)):al asz 58 5 (ba (inner (FQ.drop 2))) (Nn S R H d n L m i j) Q:=
 aZ Nm 1000 (.fork 0 (av [3,1,1,1,1,1,1] (.leaf [0,2,4,10,11] [0,1,2,3,4] [0,3,4])) (av [3,1,1,1,1,1,1] (.leaf [0,2,4,10,11] [0,1,2,3,4] [0,3,4]))) (fun u=>by kernel_rfl) (mF (c:=decide (i>j)) (fun h0=>(aM L R H (mN (n0 h0) (mN (aN (ff (cU (ao L)) (amm (aml .i64 (m-i))) (amm m) (amm j))) (mN (aS R) (mN (aY H) (mN (aN (ff (cU (ao L)) (amm (aml .i64 (m-i))) (amm m) (amm j))) (mN (aS R) (mN (aY H) (mQ (al.done (by kernel_rfl) (l3 h0)))))))))))) (fun h0=>(aM L R H (mN (n4 h0) (mN (aN (ff (cU (ao L)) (amm (aml .i64 (m-i))) (amm (aml .i64 (aml .i64 (m+j)-i))) (amm i))) (mN (aS R) (mN (aY H) (mN (aN (ff (cU (ao L)) (amm (aml .i64 (m-i))) (amm (aml .i64 (aml .i64 (m+j)-i))) (amm i))) (mN (aS R) (mN (aY H) (mQ (al.done (by kernel_rfl) (l5 h0)))))))))))))
abbrev FU:=fun S R H d (n:Nat) L (m i j:Int)=>(⟨[],[ab (ao (ff (cU (ao L)) (amm (aml .i64 (m-i))) (amm m) (amm i))) 9,ab (aQ S 2 0 3 4) 64,.abs d,ab (aq R) 3,ab (ak H) 144]⟩:aj)
abbrev ZQ:=fun S R H d (n:Nat) L (m i j:Int)=>(⟨[(0,ah 0 n),(2,aa m),(4,.func (.func 90) #[an 1] #[]),(10,aa i)],vj S R H d L⟩:aj)
theorem ZR(S R H d)(n:Nat)(L)(m i j:Int)(pH:(ak H).all af=true)(hn:(mM L)=n)(h1:0<i)(h3:i≤m)(hL:n≤1000000)(gy:aml .i64 (m-i)=m-i){Q:aV}(n0:(ig [ab (ao L) 9,ab (aQ S 2 0 3 4) 64,ai.abs d,ab (aq R) 3,ab (ak H) 144] n&&(amE n n&&(amE 90 90&&(decide (0≤aml .i64 (m-i))&&(decide (0≤i)&&(decide (aml .i64 (m-i)+i≤m)&&decide (m+i≤(↑n:Int))))))))=true)(l3:Q .normal (FU S R H d n L m i j)):al asz 58 5 (Aw.drop 3) (ZQ S R H d n L m i j) Q:=
 aZ Nm 1000 (av [3,1,1,1,1,1,1] (.leaf [] [0,1,2,3,4] [0,3,4])) (fun u=>by kernel_rfl) (aM L R H (mN n0 (mN (aN (ff (cU (ao L)) (amm (aml .i64 (m-i))) (amm m) (amm i))) (mN (aS R) (mN (aY H) (mN (aN (ff (cU (ao L)) (amm (aml .i64 (m-i))) (amm m) (amm i))) (mN (aS R) (mN (aY H) (mQ (al.done (by kernel_rfl) l3))))))))))
end
end Go.Proofs.Ytnlkkgpcikkpoaa
namespace Go.Proofs.Ytnlkkgpcikkpoaa
open Go Vm Go.RowKit
set_option maxRecDepth 100000
section
variable (S:ad) (R:List Int) (H:List ap) (d:ay)
def xI(n m:Nat)(s:Nat×Nat×List ByteArray):aj:=⟨[(0,fu n),(2,iZ m),(4,fK),(10,iZ s.1),(11,iZ s.2.1)],cF S R H d s.2.2⟩
theorem Ay{a b:Nat}(h:b≤a)(h2:a<1000000000):(.int .i64 (aml amA ((a:Int)-(b:Int))):amn)=iZ (a-b):=by
 rw[bG (by omega) (by omega)]
 show amu .i64 _=amu .i64 _
 congr 1
 omega
theorem ZS(L:List ByteArray)(n a m b:Nat)(hn:L.length=n)(hL:n≤1000000)(om:a<m)(oq:m<b)(hb:b≤n):
 aG asz 116 [fu n,iZ a,iZ m,iZ b,fK] (cF S R H d L) fun r o=>r=.ret (.tuple #[])∧o=cF S R H d (fV L a m b):=by
 have pH:=aY H
 refine aG.cM (n:=ct asz 116) (by kernel_rfl) ?_
 apply ZL S R H d n L a m b pH hn (bG (by omega) (by omega)) (bG (by omega) (by omega))
 ·
  have e:FT S R H d n L a m b=xI S R H d n m (m-a,b-m,L):=by unfold FT xI;rw[Ay (by omega) (by omega),Ay (by omega) (by omega)];rfl
  rw[e]
  refine al.eJ 2 0 (by kernel_rfl) ?_
  refine al.fJ (xI S R H d n m) (fun s=>s.1+s.2.1) (fun s=>lZ L a m b s.1 s.2.1 s.2.2) (m-a,b-m,L) (by kernel_rfl) (lZ.start om oq (by omega)) ?_
  rintro⟨i,j,M⟩ hs
  dsimp only at hs
  obtain⟨fM,uM,ZT⟩:=hs.bounds (by omega) (by omega) (by omega)
  rw[hn]at fM
  have hO:=vi (S:=S) (R:=R) (H:=H) (d:=d) (L:=M) rfl fM hL
  unfold cF at hO
  have ui:=hs.i0
  have sq:=hs.j0
  apply ZO S R H d n M m i j pH fM
  case l4=>
   intro g
   have ia:i=j:=by have:(i:Int)=j:=by simpa using g
                   omega
   subst ia
   obtain⟨e1,e2,e3,e4⟩:=hs.done (by omega)
   with_reducible (repeat first|refine QL.ret ?_|refine QL.exit ?_|refine QB.ret ?_|refine QB.ci ?_|refine QB.normal ?_|refine QB.cu (by rfl) ?_)
   apply ZR S R H d n M m i i pH fM (by omega) (by omega) hL (bG (by omega) (by omega))
   case n0=>
    rw[bG (by omega) (by omega),hO]
    simp only[aoZ,anw,amB,decide_eq_true_eq]
    omega
   case l3=>
    have e5:FU S R H d n M m i i=⟨[],cF S R H d (fV L a m b)⟩:=by
     unfold FU
     rw[ie,bG (by omega) (by omega),show((m:Int)-(i:Int)).toNat=m-i by omega,show((m:Int)).toNat=m by omega,show((i:Int)).toNat=i by omega,e1]
     rfl
    rw[e5]
    exact aH.normal (vs:=[]) (l:=[]) (bs:=[0,1,2,3,4]) (pl:=[0,3,4]) (q:=[ao (fV L a m b),aq R,ak H]) (fun u=>by kernel_rfl) (by kernel_rfl) (aE (by simp) (aE (by simp) (aE pH bd))) ⟨rfl,rfl⟩
  case l3=>
   intro g
   have ia:i≠j:=by have:¬(i:Int)=j:=by simpa using g
                   omega
   refine al.eJ 2 1 (by kernel_rfl) ?_
   apply ZP S R H d n M m i j pH fM (by omega) (by omega) (by omega) (by omega) hL (bG (by omega) (by omega)) (bG (by omega) (by omega)) (bG (by omega) (by omega)) (bG (by omega) (by omega)) (bG (by omega) (by omega))
   case n0=>
    intro g1
    have g1:=of_decide_eq_true g1
    rw[bG (by omega) (by omega),hO]
    simp only[aoZ,anw,amB,decide_eq_true_eq]
    omega
   case n4=>
    intro g1
    have g1:=of_decide_eq_false g1
    rw[bG (z:=(m:Int)-i) (by omega) (by omega),bG (z:=(m:Int)+j) (by omega) (by omega),bG (by omega) (by omega),hO]
    simp only[aoZ,anw,amB,decide_eq_true_eq]
    omega
   case l3=>
    intro g1
    have g1:=of_decide_eq_true g1
    obtain⟨q1,q2,q3⟩:=hs.left (by omega) (by omega)
    with_reducible (repeat first|refine QL.ret ?_|refine QL.exit ?_|refine QB.ret ?_|refine QB.ci ?_|refine QB.normal ?_|refine QB.cu (by rfl) ?_)
    refine al.done (by kernel_rfl) ?_
    refine QL.to (i-j,j,ff M (m-i) m j) q1 (by dsimp only;omega) ?_
    unfold No xI
    rw[ie,Ay (by omega) (by omega),bG (by omega) (by omega),show((m:Int)-(i:Int)).toNat=m-i by omega,show((m:Int)).toNat=m by omega,show((j:Int)).toNat=j by omega]
    rfl
   case l5=>
    intro g1
    have g1:=of_decide_eq_false g1
    obtain⟨q1,q2,q3⟩:=hs.right (by omega) (by omega)
    with_reducible (repeat first|refine QL.ret ?_|refine QL.exit ?_|refine QB.ret ?_|refine QB.ci ?_|refine QB.normal ?_|refine QB.cu (by rfl) ?_)
    refine al.done (by kernel_rfl) ?_
    refine QL.to (i,j-i,ff M (m-i) (m+j-i) i) q1 (by dsimp only;omega) ?_
    unfold Np xI
    rw[ie,Ay (by omega) (by omega),bG (z:=(m:Int)-i) (by omega) (by omega),bG (z:=(m:Int)+j) (by omega) (by omega),bG (by omega) (by omega),show((m:Int)-(i:Int)).toNat=m-i by omega,show((m:Int)+(j:Int)-(i:Int)).toNat=m+j-i by omega,show((i:Int)).toNat=i by omega]
    rfl
end
noncomputable def FV(a:List amn)(o:List ai):Option (Bool×bL×List ai):=match a,o with
 | [.slice (some ⟨0,0,none⟩) n m,.int .i64 x,.int .i64 y,.int .i64 z,.func (.func f) c1 c2],ai.cells c t r::l=>match c1.toList,c2.toList with
  | [.pointer (some ⟨1,0,none⟩)],[]=>some (ig (.cells c t r::l) n&&(amE m n&&(amE f 90&&(decide (0≤x)&&(decide (x<y)&&(decide (y<z)&&decide (z≤n)))))),.ret (.tuple #[]),.cells (ao (fV (cU c) x.toNat y.toNat z.toNat)) t r::l)
  |_,_=>none
 |_,_=>none
theorem ZU:bp asz 116 (Sum.du asz FV):=bp.du fun a o r o' hg=>by
 unfold FV at hg
 split at hg
 ·rename_i n m x y z f c1 c2 c t ro l
  split at hg
  ·rename_i h1 h2
   simp only[amr,amv,amB,decide_eq_true_eq]at hg
   obtain⟨⟨g1,g2,g3,g4,g5,g6,g7⟩,rfl,rfl⟩:=hg
   have g2:=amI g2
   have g3:=amI g3
   obtain⟨S,R,H,d,L,he,hl,hn⟩:=@of_decide_eq_true _ (amR _) g1
   have e1:c1= #[.pointer (some ⟨1,0,none⟩)]:=by rw[←anB (xs:=c1),h1]
   have e2:c2= #[]:=by rw[←anB (xs:=c2),h2]
   subst g2 g3 e1 e2
   obtain⟨x,rfl⟩:=anW g4
   obtain⟨y,rfl⟩:=anW (show 0≤y by omega)
   obtain⟨z,rfl⟩:=anW (show 0≤z by omega)
   unfold cF at he
   injection he with ot eD
   injection ot with hc ht hr
   subst hc ht hr eD
   refine(ZS S R H d L _ x y z hl hn (by omega) (by omega) (by omega)).mono ?_
   rintro r o ⟨rfl,rfl⟩
   exact⟨rfl,by rw[ie];rfl⟩
  ·cases hg
 ·cases hg
end Go.Proofs.Ytnlkkgpcikkpoaa
namespace Go.Proofs.Ytnlkkgpcikkpoaa
section
variable {α:Type} {c:α→α→Int}
structure kO(c:α→α→Int)(X:List α)(x:α)(i j:Nat):Prop where
 ia:i≤j
 hj:j≤X.length
 lo:∀k y,k<i→X[k]?=some y→fy c y x=true
 hi:∀k y,j≤k→X[k]?=some y→fy c x y=true
theorem kO.start(c:α→α→Int)(X:List α)(x:α):kO c X x 0 X.length:=
 ⟨ann _,amX _,fun _ _ h=>absurd h (Nat.not_lt_zero _),fun k y h hy=>by have:=(amy.1 hy).1;omega⟩
theorem kO.up{X:List α}{x y:α}{i j h:Nat}(B:kO c X x i j)(t:TO c)(hX:dj c X)(h1:i≤h)(h2:h<j)(hy:X[h]?=some y)(hl:fy c y x=true):kO c X x (h+1) j:=
 ⟨by omega,B.hj,fun k z hk hz=>t.le_trans (An hX t (by omega) hz hy) hl,B.hi⟩
theorem kO.down{X:List α}{x y:α}{i j h:Nat}(B:kO c X x i j)(t:TO c)(hX:dj c X)(h1:i≤h)(h2:h<j)(hy:X[h]?=some y)(hl:fy c x y=true):kO c X x i h:=
 ⟨h1,by have:=B.hj;omega,B.lo,fun k z hk hz=>t.le_trans hl (An hX t hk hy hz)⟩
theorem kO.done{X:List α}{x:α}{i:Nat}(B:kO c X x i i)(t:TO c)(hX:dj c X):X.take i++(x::X.drop i)=bE c (X++[x]):=
 Na t hX B.hj B.lo B.hi
theorem xJ{L:List α}{a b k:Nat}(h:a+k<b):(aL L a b)[k]?=L[a+k]? :=by
 unfold aL
 rw[List.getElem?_take_of_lt (by omega),anK]
theorem Nq{L:List α}{a:Nat}{x:α}(hx:L[a]?=some x):aL L a (a+1)=[x]:=by
 unfold aL;rw[show a+1-a=1 by omega,(po hx).2];rfl
theorem ZV{L:List α}{a b i:Nat}{x:α}(t:TO c)(hb:a+1≤b)(hx:L[a]?=some x)(hX:dj c (aL L (a+1) b))(B:kO c (aL L (a+1) b) x i i):cX (L.take a) (aL L (a+1) b) (L.drop b) x i=bV c L a b:=by
 unfold cX bV
 have e1:bE c (aL L a b)=bE c (aL L (a+1) b++[x]):=by
  refine FA t ?_
  rw[mJ L (m:=a+1) (by omega) hb,Nq hx]
  exact ap7
 rw[e1,←B.done t hX]
 simp only[amQ,aop]
theorem ZW{L:List α}{a b:Nat}{x:α}(hb:a+1≤b)(hx:L[a]?=some x):cX (L.take a) (aL L (a+1) b) (L.drop b) x 0=L:=by
 unfold cX
 conv=>rhs;rw[rB L (show a≤b by omega),mJ L (m:=a+1) (by omega) hb,Nq hx]
 simp only[aps,List.drop_zero,an6,amQ,aop]
theorem ZX{L:List α}{a m i:Nat}{x:α}(t:TO c)(hm:a≤m)(hx:L[m]?=some x)(hX:dj c (aL L a m))(B:kO c (aL L a m) x i i):cX (L.take a) (aL L a m) (L.drop (m+1)) x i=bV c L a (m+1):=by
 unfold cX bV
 have e1:bE c (aL L a (m+1))=bE c (aL L a m++[x]):=by rw[Au hm hx]
 rw[e1,←B.done t hX]
 simp only[amQ,aop]
theorem ZY{L:List α}{a m:Nat}{x:α}(hm:a≤m)(cj:m<L.length)(hx:L[m]?=some x):cX (L.take a) (aL L a m) (L.drop (m+1)) x (m-a)=L:=by
 unfold cX
 have hl:(aL L a m).length=m-a:=iW hm (by omega)
 conv=>rhs;rw[rB L (show a≤m+1 by omega),Au hm hx]
 rw[←hl,ap2,ap3]
 simp only[an6,amQ,aop]
theorem ZZ{T S D:List α}{x:α}{j:Nat}(h:j<S.length):(cX T S D x j)[T.length+j+1]?=S[j]? :=by
 unfold cX
 rw[am5 (by omega),show T.length+j+1-T.length=j+1 by omega,am5 (by simp;omega)]
 simp only[anf]
 rw[show j+1-min j S.length=1 by omega,List.getElem?_cons_succ,List.getElem?_append_left (by rw[anA];omega),anK]
 simp
theorem Z0{T S D:List α}{x y:α}{j:Nat}(h:j<S.length)(hy:S[j]?=some y):((cX T S D x j).set (T.length+j) y).set (T.length+j+1) x=cX T S D x (j+1):=by
 obtain⟨e1,e2⟩:=po hy
 have a1:cX T S D x (j+1)=(T++S.take j)++(y::x::(S.drop (j+1)++D)):=by unfold cX;rw[e1];simp
 have a2:cX T S D x j=(T++S.take j)++(x::y::(S.drop (j+1)++D)):=by unfold cX;rw[e2];simp
 have hl:(T++S.take j).length=T.length+j:=by rw[amD,anf];omega
 rw[a1,a2,As hl]
 have a3:(T++S.take j)++(y::y::(S.drop (j+1)++D))=((T++S.take j)++[y])++(y::(S.drop (j+1)++D)):=by simp
 rw[a3,As (by rw[amD,hl];rfl)]
 simp
structure lq(c:α→α→Int)(L:List α)(a m b s r:Nat):Prop where
 CX:s≤r
 amj:a≤s
 rm:r≤m
 me:m+r≤(a+b)/2+m
 sb:(a+b)/2+m≤s+b
 lo:∀x y,0<s→a<s→(a+b)/2+m-s<b→L[s-1]?=some x→L[(a+b)/2+m-s]?=some y→fy c x y=true
 hi:∀x y,r<m→m<(a+b)/2+m-r→L[r]?=some x→L[(a+b)/2+m-r-1]?=some y→fy c y x=true
theorem lq.start(c:α→α→Int)(L:List α){a m b:Nat}(h1:a<m)(h2:m<b):lq c L a m b (if m>(a+b)/2 then(a+b)/2+m-b else a) (if m>(a+b)/2 then(a+b)/2 else m):=by
 by_cases h:m>(a+b)/2
 ·rw[if_pos h,if_pos h]
  refine⟨by omega,by omega,by omega,by omega,by omega,fun x y _ _ h3=>by omega,fun x y _ h3=>by omega⟩
 ·rw[if_neg h,if_neg h]
  refine⟨by omega,by omega,by omega,by omega,by omega,fun x y _ h3=>by omega,fun x y h3=>by omega⟩
theorem lq.up{L:List α}{a m b s r h:Nat}(S:lq c L a m b s r)(h1:s≤h)(h2:h<r){x y:α}(hx:L[h]?=some x)(hy:L[(a+b)/2+m-1-h]?=some y)(hl:fy c x y=true):lq c L a m b (h+1) r:=by
 have:=S.amj;have:=S.rm;have:=S.me;have:=S.sb
 refine⟨by omega,by omega,S.rm,S.me,by omega,fun x' y' _ _ _ fT j4=>?_,S.hi⟩
 rw[show h+1-1=h by omega,hx]at fT
 rw[show(a+b)/2+m-(h+1)=(a+b)/2+m-1-h by omega,hy]at j4
 cases fT;cases j4;exact hl
theorem lq.down{L:List α}{a m b s r h:Nat}(S:lq c L a m b s r)(h1:s≤h)(h2:h<r){x y:α}(hx:L[h]?=some x)(hy:L[(a+b)/2+m-1-h]?=some y)(hl:fy c y x=true):lq c L a m b s h:=by
 have:=S.amj;have:=S.rm;have:=S.me;have:=S.sb
 refine⟨by omega,S.amj,by omega,by omega,S.sb,S.lo,fun x' y' _ _ fT j4=>?_⟩
 rw[hx]at fT
 rw[show(a+b)/2+m-h-1=(a+b)/2+m-1-h by omega,hy]at j4
 cases fT;cases j4;exact hl
theorem vk(t:TO c){L:List α}{a b i j:Nat}{x y:α}(hS:dj c (aL L a b))(h1:a≤i)(h2:i≤j)(h3:j<b)(hx:L[i]?=some x)(hy:L[j]?=some y):fy c x y=true:=by
 refine An hS t (i:=i-a) (j:=j-a) (by omega) ?_ ?_
 ·rw[xJ (by omega),show a+(i-a)=i by omega];exact hx
 ·rw[xJ (by omega),show a+(j-a)=j by omega];exact hy
theorem Nr{L:List α}{a b:Nat}{x:α}(h:x∈aL L a b):∃i,a≤i∧i<b∧L[i]?=some x:=by
 obtain⟨k,hk⟩:=List.getElem?_of_mem h
 have hl:=(amy.1 hk).1
 unfold aL at hl
 rw[anf]at hl
 rw[xJ (by omega)]at hk
 exact⟨a+k,by omega,by omega,hk⟩
theorem lq.done{L:List α}{a m b s:Nat}(S:lq c L a m b s s)(t:TO c)(hb:b≤L.length)(h1:a<m)(h2:m<b)(hX:dj c (aL L a m))(hY:dj c (aL L m b)):
 ∀x∈aL L a s++aL L m ((a+b)/2+m-s),∀y∈aL L s m++aL L ((a+b)/2+m-s) b,fy c x y=true:=by
 have h3:=S.amj;have h4:=S.rm;have h5:=S.me;have h6:=S.sb
 intro x hx y hy
 rcases amU.1 hx with hx|hx<;>rcases amU.1 hy with hy|hy<;>obtain⟨i,i1,i2,hx⟩:=Nr hx<;>obtain⟨j,j1,j2,hy⟩:=Nr hy
 ·exact vk t hX i1 (by omega) j2 hx hy
 ·obtain⟨u,hu⟩:∃u,L[s-1]?=some u:=⟨_,amt (by omega)⟩
  obtain⟨v,hv⟩:∃v,L[(a+b)/2+m-s]?=some v:=⟨_,amt (by omega)⟩
  refine t.le_trans (vk t hX i1 (show i≤s-1 by omega) (by omega) hx hu) (t.le_trans (S.lo u v (by omega) (by omega) (by omega) hu hv) ?_)
  exact vk t hY (by omega) j1 j2 hv hy
 ·obtain⟨u,hu⟩:∃u,L[s]?=some u:=⟨_,amt (by omega)⟩
  obtain⟨v,hv⟩:∃v,L[(a+b)/2+m-s-1]?=some v:=⟨_,amt (by omega)⟩
  refine t.le_trans (vk t hY i1 (show i≤(a+b)/2+m-s-1 by omega) (by omega) hx hv) (t.le_trans (S.hi u v (by omega) (by omega) hu hv) ?_)
  exact vk t hX (by omega) j1 j2 hu hy
 ·exact vk t hY i1 (by omega) j2 hx hy
theorem Z1{L:List α}{a m b:Nat}(h1:a≤m)(h2:m≤b)(h:a=m∨m=b):fV L a m b=L:=by
 have e0:∀x,aL L x x=[]:=fun x=>by unfold aL;rw[aoU,aps]
 unfold fV
 conv=>rhs;rw[rB L (show a≤b by omega),mJ L h1 h2]
 rcases h with rfl|rfl
 ·rw[e0];simp
 ·rw[e0];simp
theorem Z2{L:List α}{a s m e b:Nat}(h1:a≤s)(h2:s≤m)(h3:m≤e)(h4:e≤b)(hb:b≤L.length):fV L s m e=L.take a++((aL L a s++aL L m e)++((aL L s m++aL L e b)++L.drop b)):=by
 unfold fV
 have e1:L.take s=L.take a++aL L a s:=by
  unfold aL
  conv=>lhs;rw[show s=a+(s-a)by omega,List.take_add]
 have e2:L.drop e=aL L e b++L.drop b:=by
  unfold aL
  have:L.drop b=(L.drop e).drop (b-e):=by rw[anE,show e+(b-e)=b by omega]
  rw[this,anF]
 rw[e1,e2]
 simp only[amQ]
structure Ns(c:α→α→Int)(L:List α)(a m b s d e:Nat):Prop where
 h1:a≤s
 h2:s≤m
 h3:m≤e
 h4:e≤b
 hd:d=s+(e-m)
 x1:dj c (aL (fV L s m e) a s)
 x2:dj c (aL (fV L s m e) s d)
 y1:dj c (aL (bV c (fV L s m e) a d) d e)
 y2:dj c (aL (bV c (fV L s m e) a d) e b)
 fin:bV c (bV c (fV L s m e) a d) d b=bV c L a b
theorem lq.three{L:List α}{a m b s:Nat}(S:lq c L a m b s s)(t:TO c)(hb:b≤L.length)(h1:a<m)(h2:m<b)(hX:dj c (aL L a m))(hY:dj c (aL L m b)):
 Ns c L a m b s ((a+b)/2) ((a+b)/2+m-s):=by
 have Z3:=S.done t hb h1 h2 hX hY
 have h3:=S.amj;have h4:=S.rm;have h5:=S.me;have h6:=S.sb
 generalize he:(a+b)/2+m-s=e at*
 generalize hd:(a+b)/2=d at*
 have hM:=Z2 (L:=L) (a:=a) (s:=s) (m:=m) (e:=e) (b:=b) h3 h4 (by omega) (by omega) hb
 have lT:(L.take a).length=a:=by rw[anf];omega
 have l1:(aL L a s).length=s-a:=iW h3 (by omega)
 have l2:(aL L m e).length=e-m:=iW (by omega) (by omega)
 have l3:(aL L s m).length=m-s:=iW (by omega) (by omega)
 have l4:(aL L e b).length=b-e:=iW (by omega) (by omega)
 have Az:∀{x y z w:Nat},x≤z→z≤w→w≤y→dj c (aL L x y)→dj c (aL L z w):=fun q1 q2 q3 hs=>by
  rw[mJ L (m:=_) q1 (by omega),mJ L (a:=_) q2 q3]at hs
  exact(apx.1 (apx.1 hs).2.1).1
 have lV:dj c (aL L a s):=Az (amX _) h3 h4 hX
 have q9:dj c (aL L m e):=Az (amX _) (by omega) (by omega) hY
 have FW:dj c (aL L s m):=Az h3 h4 (amX _) hX
 have Z4:dj c (aL L e b):=Az (by omega) (by omega) (amX _) hY
 have hA:bV c (fV L s m e) a d=L.take a++(bE c (aL L a s++aL L m e)++((aL L s m++aL L e b)++L.drop b)):=by
  rw[hM];exact ve lT (by omega) (by rw[amD];omega)
 have lS:(bE c (aL L a s++aL L m e)).length=d-a:=by rw[nh,amD];omega
 have Nt:(L.take a++bE c (aL L a s++aL L m e)).length=d:=by rw[amD];omega
 refine⟨h3,h4,by omega,by omega,by omega,?_,?_,?_,?_,?_⟩
 ·rw[hM,amQ]
  have:=ni (T:=L.take a) (X:=aL L a s) (D:=aL L m e++((aL L s m++aL L e b)++L.drop b)) (a:=a) (b:=s) lT l1
  rw[this];exact lV
 ·rw[hM,amQ,←amQ]
  have:=ni (T:=L.take a++aL L a s) (X:=aL L m e) (D:=(aL L s m++aL L e b)++L.drop b) (a:=s) (b:=d) (by rw[amD];omega) (by omega)
  rw[this];exact q9
 ·rw[hA,←amQ,amQ (aL L s m)]
  have:=ni (T:=L.take a++bE c (aL L a s++aL L m e)) (X:=aL L s m) (D:=aL L e b++L.drop b) (a:=d) (b:=e) Nt (by omega)
  rw[this];exact FW
 ·rw[hA,←amQ,amQ (aL L s m),←amQ _ (aL L s m)]
  have:=ni (T:=(L.take a++bE c (aL L a s++aL L m e))++aL L s m) (X:=aL L e b) (D:=L.drop b) (a:=e) (b:=b) (by rw[amD];omega) (by omega)
  rw[this];exact Z4
 ·rw[hA,←amQ,ve Nt (by omega) (by rw[amD];omega)]
  unfold bV
  have e1:bE c (aL L a b)=bE c (aL L a s++aL L m e)++bE c (aL L s m++aL L e b):=by
   rw[←Y7 t Z3]
   refine FA t ?_
   rw[mJ L (m:=m) (by omega) (by omega),mJ L (m:=s) h3 h4,mJ L (a:=m) (m:=e) (by omega) (by omega)]
   simp only[amQ]
   refine List.Perm.append_left _ ?_
   rw[←amQ,←amQ]
   exact List.Perm.append_right _ ap7
  rw[e1]
  simp only[amQ]
theorem Nu(t:TO c){L:List α}{a s b:Nat}(h1:a≤s)(h2:s≤b)(h:a=s∨s=b)(hx:dj c (aL L a s))(hy:dj c (aL L s b)):bV c L a b=L:=by
 have e0:∀x,aL L x x=[]:=fun x=>by unfold aL;rw[aoU,aps]
 have:bE c (aL L a b)=aL L a b:=by
  refine Fz t ?_
  rcases h with rfl|rfl
  ·exact hy
  ·exact hx
 unfold bV
 rw[this]
 exact(rB L (by omega)).symm
theorem Z5{L:List α}{a m b:Nat}(h1:a≤m)(h2:m≤b)(hb:b≤L.length):(fV L a m b).length=L.length:=by
 unfold fV
 simp only[amD]
 rw[iW (by omega) (by omega),iW (by omega) (by omega),anf,anA]
 omega
end
end Go.Proofs.Ytnlkkgpcikkpoaa
namespace Go.Proofs.Ytnlkkgpcikkpoaa
open Go Vm Go.RowKit
def Nv(c:ByteArray→ByteArray→Int)(L:List ByteArray)(n:Nat)(a m b:Int)(N:Nat):Prop:=0≤a∧a<m∧m<b∧b≤n∧b-a≤N∧dj c (aL L a.toNat m.toNat)∧dj c (aL L m.toNat b.toNat)
noncomputable def tp(c:ByteArray→ByteArray→Int)(L:List ByteArray)(n:Nat)(a m b:Int)(N:Nat):Bool:=@decide (Nv c L n a m b N) (amR _)
theorem xK{c:ByteArray→ByteArray→Int}{L:List ByteArray}{n:Nat}{a m b:Int}{N:Nat}:tp c L n a m b N=true↔Nv c L n a m b N:=by
 unfold tp;exact @decide_eq_true_iff _ (amR _)
noncomputable def nk(N:Nat)(a:List amn)(o:List ai):Option (Bool×bL×List ai):=match a,o with
 | [.slice (some ⟨0,0,none⟩) n m,.int .i64 x,.int .i64 y,.int .i64 z,.func (.func f) c1 c2],ai.cells c t r::ai.cells e t2 r2::l=>match c1.toList,c2.toList with
  | [.pointer (some ⟨1,0,none⟩)],[]=>match(e[70]?:Option amn)with
   |some (.bool fl)=>some (ig (.cells c t r:: .cells e t2 r2::l) n&&(amE m n&&(amE f 90&&tp (a7 fl) (cU c) n x y z N)),.ret (.tuple #[]),.cells (ao (bV (a7 fl) (cU c) x.toNat z.toNat)) t r:: .cells e t2 r2::l)
   |_=>none
  |_,_=>none
 |_,_=>none
theorem Nw(N:Nat)(hf:∀(S:ad) (R:List Int) (H:List ap) (d:ay) (L:List ByteArray) (n a m b:Nat),L.length=n→n≤1000000→a<m→m<b→b≤n→b-a≤N→dj (a7 S.aC) (aL L a m)→dj (a7 S.aC) (aL L m b)→
 aG asz 111 [fu n,iZ a,iZ m,iZ b,fK] (cF S R H d L) fun r o=>r=.ret (.tuple #[])∧o=cF S R H d (bV (a7 S.aC) L a b)):
 bp asz 111 (Sum.du asz (nk N)):=bp.du fun a o r o' hg=>by
 unfold nk at hg
 split at hg
 ·rename_i n m x y z f c1 c2 c t ro e t2 r2 l
  split at hg
  ·rename_i h1 h2
   split at hg
   ·rename_i fl fC
    simp only[amr,amv,amB,xK]at hg
    obtain⟨⟨g1,g2,g3,g4⟩,rfl,rfl⟩:=hg
    have g2:=amI g2
    have g3:=amI g3
    obtain⟨S,R,H,d,L,he,hl,hn⟩:=@of_decide_eq_true _ (amR _) g1
    have e1:c1= #[.pointer (some ⟨1,0,none⟩)]:=by rw[←anB (xs:=c1),h1]
    have e2:c2= #[]:=by rw[←anB (xs:=c2),h2]
    subst g2 g3 e1 e2
    obtain⟨p1,p2,p3,p4,p5,p6,p7⟩:=g4
    obtain⟨x,rfl⟩:=anW p1
    obtain⟨y,rfl⟩:=anW (show 0≤y by omega)
    obtain⟨z,rfl⟩:=anW (show 0≤z by omega)
    unfold cF at he
    injection he with ot eD
    injection eD with eD qo
    injection ot with hc ht hr
    injection eD with il lO eo
    subst hc ht hr il lO eo qo
    have:(aQ S 2 0 3 4)[70]?=some (.bool S.aC):=rfl
    rw[this]at fC
    cases fC
    rw[ie]at p6 p7
    refine(hf S R H d L _ x y z hl hn (by omega) (by omega) (by omega) (by omega) p6 p7).mono ?_
    rintro r o ⟨rfl,rfl⟩
    exact⟨rfl,by rw[ie];rfl⟩
   ·cases hg
  ·cases hg
 ·cases hg
noncomputable def Z6(N:Nat):List (FuncId×Sum):=[(116,Sum.du asz FV),(111,Sum.du asz (nk N))]
theorem FX(N:Nat)(h:bp asz 111 (Sum.du asz (nk N))):dg asz (dE asz (dF (Z6 N)) 50 40):=dJ cZ mixed (dQ (.cons ZU (.cons h .nil))) 50 40
end Go.Proofs.Ytnlkkgpcikkpoaa
namespace Go.Proofs.Ytnlkkgpcikkpoaa
noncomputable section
open Go Vm Go.RowKit
set_option maxRecDepth 100000
noncomputable def ma:List am3:=ba (dy asz 111)
open Tree renaming aU→mN,dh→mF,eQ→mL,fw→mQ,dz→mR,fI→mE
noncomputable abbrev AA:List am3:=(ma.drop 3)
noncomputable abbrev tq:List am3:=(ba (o6 true AA))
noncomputable abbrev AB:List am3:=(ma.drop 1)
noncomputable abbrev tt:List am3:=(ba (o6 true AB))
noncomputable abbrev FY:List am3:=(ba (inner (ba (inner (ma.drop 10)))))
noncomputable abbrev FZ:List am3:=(ba (inner (ba (inner (tt.drop 4)))))
noncomputable abbrev F0:List am3:=(ba (inner (ba (inner (tt.drop 2)))))
noncomputable abbrev F1:List am3:=(ba (inner (ba (inner (tq.drop 4)))))
noncomputable abbrev F3:List am3:=(ba (inner (ba (inner (tq.drop 2)))))
noncomputable abbrev AC:List am3:=(ma.drop 14)
noncomputable abbrev AD:List am3:=(ma.drop 11)
noncomputable abbrev F4:List am3:=(ba (inner (FY.drop 2)))
noncomputable abbrev Z7:List am3:=(ma.drop 16)
def Nx:Nat→Bool→Bool→Tree→Tree
 |0,_,_,t=>t
 |n+1,d,b,t=>.cD d b (Nx n d b t)
theorem vn{R:bf→aj→Prop}{c v:Bool}{t:Tree}(n:Nat)(h1:c=v)(h2:t.ok R):(Nx n c v t).ok R:=by
 induction n with
 |zero=>exact h2
 |succ n ih=>exact⟨h1,ih⟩
abbrev cY:=fun S R H d L=>([ab (ao L) 9,ab (aQ S 2 0 3 4) 64,.abs d,ab (aq R) 3,ab (ak H) 144]:List ai)
abbrev xL:=fun S R H d (n:Nat) L (a m b:Int)=>(⟨[(0,ah 0 n),(1,aa a),(2,aa m),(3,aa b),(4,.func (.func 90) #[an 1] #[]),(28,.bool (aml .i64 (m-a)==1))],cY S R H d L⟩:aj)
abbrev Z8:=fun S R H d (n:Nat) L (a m b:Int)=>(⟨[(0,ah 0 n),(1,aa a),(2,aa m),(3,aa b),(4,.func (.func 90) #[an 1] #[])],cY S R H d L⟩:aj)
theorem Z9(S R H d)(n:Nat)(L)(a m b:Int)(pH:(ak H).all af=true)(hn:(mM L)=n)(h0:aml .i64 (m-a)=m-a){Q:aV}(l3:al asz 220 5 AB (xL S R H d n L a m b) Q):al asz 220 5 ma (Z8 S R H d n L a m b) Q:=
 aZ bo 1 (.leaf [0,1,2,3,4,28] [0,1,2,3,4] [0,3,4]) (fun u=>by kernel_rfl) (aM L R H (mQ l3))
abbrev F5:=fun S R H d (n:Nat) L (a m b:Int)=>(⟨[(0,ah 0 n),(1,aa a),(4,.func (.func 90) #[an 1] #[]),(10,aa m),(11,aa b)],cY S R H d L⟩:aj)
abbrev aaa:=fun S R H d (n:Nat) L (a m b:Int)=>(⟨[(0,ah 0 n),(1,aa a),(2,aa m),(3,aa b),(4,.func (.func 90) #[an 1] #[]),(28,.bool true)],cY S R H d L⟩:aj)
theorem aab(S R H d)(n:Nat)(L)(a m b:Int)(pH:(ak H).all af=true)(hn:(mM L)=n){Q:aV}(l3:al asz 220 5 (tt.drop 2) (F5 S R H d n L a m b) Q):al asz 220 5 tt (aaa S R H d n L a m b) Q:=
 aZ bo 2 (.leaf [0,1,4,10,11] [0,1,2,3,4] [0,3,4]) (fun u=>by kernel_rfl) (aM L R H (mQ l3))
abbrev aac:=fun S R H d (n:Nat) L (a i j:Int)=>(⟨[(0,ah 0 n),(1,aa a),(4,.func (.func 90) #[an 1] #[]),(10,aa i),(11,aa j)],cY S R H d L⟩:aj)
abbrev aad:=fun S R H d (n:Nat) L (a i j:Int)=>(⟨[(0,ah 0 n),(1,aa a),(10,aa i)],cY S R H d L⟩:aj)
abbrev Ny:=fun S R H d (n:Nat) L (a i j:Int)=>(⟨[(0,ah 0 n),(1,aa a),(4,.func (.func 90) #[an 1] #[]),(10,aa i),(11,aa j)],cY S R H d L⟩:aj)
theorem aae(S R H d)(n:Nat)(L)(a i j:Int)(pH:(ak H).all af=true)(hn:(mM L)=n){Q:aV}(l3:(decide (i<j))=true→al asz 220 5 (F0.drop 2) (aac S R H d n L a i j) Q)(l4:(decide (i<j))=false→Q (.exit 0) (aad S R H d n L a i j)):al asz 220 5 F0 (Ny S R H d n L a i j) Q:=
 aZ bo 2 (.fork 0 (.leaf [0,1,4,10,11] [0,1,2,3,4] [0,3,4]) (.leaf [0,1,10] [0,1,2,3,4] [0,3,4])) (fun u=>by kernel_rfl) (mF (c:=decide (i<j)) (fun h0=>(aM L R H (mQ (l3 h0)))) (fun h0=>(aM L R H (mE 0 (l4 h0)))))
abbrev Nz:=fun S R H d (n:Nat) L (a i j:Int)=>(⟨[(0,ah 0 n),(1,aa a),(4,.func (.func 90) #[an 1] #[]),(10,.int .i64 (aml .i64 (aml .i64 (anS (aml anc (aml .i64 (i+j))) 2)+1))),(11,aa j)],cY S R H d L⟩:aj)
abbrev NA:=fun S R H d (n:Nat) L (a i j:Int)=>(⟨[(0,ah 0 n),(1,aa a),(4,.func (.func 90) #[an 1] #[]),(10,aa i),(11,.int .i64 (aml .i64 (anS (aml anc (aml .i64 (i+j))) 2)))],cY S R H d L⟩:aj)
theorem aaf(S R H d)(n:Nat)(L)(a i j:Int)(pH:(ak H).all af=true)(hn:(mM L)=n)(h0:0≤i)(h1:0≤j)(h2:i<2000000)(h3:j<2000000)(h4:aml .i64 (i+j)=i+j)(h5:i<j)(h6:j≤n)(h7:0≤a)(h8:a<n)(h9:n≤1000000){Q:aV}(n0:(decide (0≤aml .i64 (anS (aml anc (aml .i64 (i+j))) 2)))=true)(n1:(amG (amm (aml .i64 (anS (aml anc (aml .i64 (i+j))) 2))) n)=true)(n2:(eB (ao L) (0+amm (aml .i64 (anS (aml anc (aml .i64 (i+j))) 2))*1))=true)(n3:(eB (ao L) (0+amm a*1))=true)(n4:(qn [ab (aQ S 1 2 3 4) 64,ai.abs d,ab (ao L) 9,ab (aq R) 3,ab (ak H) 144])=true)(l8:(decide (a7 (ad.aC S) (a8 (ao L) (0+amm (aml .i64 (anS (aml anc (aml .i64 (i+j))) 2))*1)) (a8 (ao L) (0+amm a*1))<0))=true→Q .normal (Nz S R H d n L a i j))(l9:(decide (a7 (ad.aC S) (a8 (ao L) (0+amm (aml .i64 (anS (aml anc (aml .i64 (i+j))) 2))*1)) (a8 (ao L) (0+amm a*1))<0))=false→Q .normal (NA S R H d n L a i j)):al asz 220 5 (ba (inner (F0.drop 2))) (Ny S R H d n L a i j) Q:=
 aZ rC 1000 (av [4,1,1,0,1,0,1,1,0,1,3,1,1,1,1,1,1] (.fork 0 (.leaf [0,1,4,10,11] [0,1,2,3,4] [0,3,4]) (.leaf [0,1,4,10,11] [0,1,2,3,4] [0,3,4]))) (fun u=>by kernel_rfl) (mN n0 (mN n1 (mN n2 (mN (decide_eq_true (by omega):(decide (0≤a))=true) (mN (show(amG (amm a) n)=true by simp at pH hn h0 h1 h2 h3 h4 h5 h6 h7 h8 h9⊢ <;>omega) (mN n3 (aM L R H (mN n4 (aM L R H (mF (c:=decide (a7 (ad.aC S) (a8 (ao L) (0+amm (aml .i64 (anS (aml anc (aml .i64 (i+j))) 2))*1)) (a8 (ao L) (0+amm a*1))<0)) (fun h0=>(aM L R H (mQ (al.done (by kernel_rfl) (l8 h0))))) (fun h0=>(aM L R H (mQ (al.done (by kernel_rfl) (l9 h0)))))))))))))))
abbrev F6:=fun S R H d (n:Nat) L (a i:Int)=>(⟨[(0,ah 0 n),(10,aa i),(13,aa a)],cY S R H d L⟩:aj)
abbrev aag:=fun S R H d (n:Nat) L (a i:Int)=>(⟨[(0,ah 0 n),(1,aa a),(10,aa i)],cY S R H d L⟩:aj)
theorem aah(S R H d)(n:Nat)(L)(a i:Int)(pH:(ak H).all af=true)(hn:(mM L)=n){Q:aV}(l3:al asz 220 5 ((tt.drop 3).drop 1) (F6 S R H d n L a i) Q):al asz 220 5 (tt.drop 3) (aag S R H d n L a i) Q:=
 aZ bo 1 (.leaf [0,10,13] [0,1,2,3,4] [0,3,4]) (fun u=>by kernel_rfl) (aM L R H (mQ l3))
abbrev aai:=fun S R H d (n:Nat) L (i k:Int)=>(⟨[(0,ah 0 n),(10,aa i),(13,aa k)],cY S R H d L⟩:aj)
noncomputable abbrev aaj(S:ad)(R:List Int)(H:List ap)(d:ay)(n:Nat)(L:List ByteArray)(i k:Int):aj:=⟨[],cY S R H d L⟩
abbrev NB:=fun S R H d (n:Nat) L (i k:Int)=>(⟨[(0,ah 0 n),(10,aa i),(13,aa k)],cY S R H d L⟩:aj)
theorem aak(S R H d)(n:Nat)(L)(i k:Int)(pH:(ak H).all af=true)(hn:(mM L)=n)(h0:aml .i64 (i-1)=i-1){Q:aV}(l3:(decide (k<aml .i64 (i-1)))=true→al asz 220 5 (FZ.drop 2) (aai S R H d n L i k) Q)(l4:(decide (k<aml .i64 (i-1)))=false→Q (.exit 2) (aaj S R H d n L i k)):al asz 220 5 FZ (NB S R H d n L i k) Q:=
 aZ bo 2 (.fork 0 (.leaf [0,10,13] [0,1,2,3,4] [0,3,4]) (.leaf [] [0,1,2,3,4] [0,3,4])) (fun u=>by kernel_rfl) (mF (c:=decide (k<aml .i64 (i-1))) (fun h0=>(aM L R H (mQ (l3 h0)))) (fun h0=>(aM L R H (mE 2 (l4 h0)))))
abbrev NC:=fun S R H d (n:Nat) L (i k:Int)=>(⟨[(0,ah 0 n),(10,aa i),(13,.int .i64 (aml .i64 (k+1)))],[ab (amk (amk (ao L) (0+amm k*1) [amT (a8 (ao L) (0+amm (aml .i64 (k+1))*1))]) (0+amm (aml .i64 (k+1))*1) [amT (a8 (ao L) (0+amm k*1))]) 9,ab (aQ S 2 0 3 4) 64,.abs d,ab (aq R) 3,ab (ak H) 144]⟩:aj)
theorem aal(S R H d)(n:Nat)(L)(i k:Int)(pH:(ak H).all af=true)(hn:(mM L)=n)(h0:0≤k)(h1:k+1<n)(h2:n≤1000000)(h3:aml .i64 (k+1)=k+1){Q:aV}(n0:(eB (ao L) (0+amm (aml .i64 (k+1))*1))=true)(n1:(eB (ao L) (0+amm k*1))=true)(n2:(amO (0+amm (aml .i64 (k+1))*1+1) (mM (amk (ao L) (0+amm k*1) [amT (a8 (ao L) (0+amm (aml .i64 (k+1))*1))])))=true)(aW:amq (aq R) af=true)(be:amq (ak H) af=true)(l5:Q .normal (NC S R H d n L i k)):al asz 220 5 (FZ.drop 2) (NB S R H d n L i k) Q:=
 aZ bo 1000 (av [0,1,1,0,1,0,1,1,0,1,0,1,1,0,1,0,1,1,0,1] (.leaf [0,10,13] [0,1,2,3,4] [0,3,4])) (fun u=>by kernel_rfl) (mN (decide_eq_true (by omega):(decide (0≤aml .i64 (k+1)))=true) (mN (show(amG (amm (aml .i64 (k+1))) n)=true by simp at pH hn h0 h1 h2 h3⊢ <;>omega) (mN n0 (mN (decide_eq_true (by omega):(decide (0≤k))=true) (mN (show(amG (amm k) n)=true by simp at pH hn h0 h1 h2 h3⊢ <;>omega) (mN n1 (mN (decide_eq_true (by omega):(decide (0≤k))=true) (mN (show(amG (amm k) n)=true by simp at pH hn h0 h1 h2 h3⊢ <;>omega) (mN (show(amO (0+amm k*1+1) (mM (ao L)))=true by simp at pH hn h0 h1 h2 h3⊢ <;>omega) (mN (decide_eq_true (by omega):(decide (0≤aml .i64 (k+1)))=true) (mN (show(amG (amm (aml .i64 (k+1))) n)=true by simp at pH hn h0 h1 h2 h3⊢ <;>omega) (mN n2 (mN (show(amq (amk (amk (ao L) (0+amm k*1) [amT (a8 (ao L) (0+amm (aml .i64 (k+1))*1))]) (0+amm (aml .i64 (k+1))*1) [amT (a8 (ao L) (0+amm k*1))]) af)=true by first|exact aP _|assumption|exact aD (by assumption) rfl _|exact aD (aD (aD (by assumption) rfl _) rfl _) rfl _|exact aD (aP _) (cg (by rfl) _) _|exact aA (aO (aN _) _) _|(simp;done)|exact aB (by assumption) rfl|exact aB (aP _) rfl|exact aB rfl (aA (by assumption) _)|exact aB (by assumption) (aA (by assumption) _)|exact aB rfl (aA (aO (by assumption) _) _)|exact aA (aO (by assumption) _) _) (mN (aS R) (mN (aY H) (mQ (al.done (by kernel_rfl) l5)))))))))))))))))
noncomputable abbrev ND(S:ad)(R:List Int)(H:List ap)(d:ay)(n:Nat)(L:List ByteArray):aj:=⟨[],cY S R H d L⟩
theorem aam(S R H d)(n:Nat)(L){Q:bk}(hq:Q (.ret (.tuple #[])) (cY S R H d L)):aH asz 111 220 5 Q .ret (ND S R H d n L):=aH.ret (vs:=[]) (l:=[]) (bs:=[0,1,2,3,4]) (pl:=[0,3,4]) (q:=[ao L,aq R,ak H]) (fun u=>by kernel_rfl) (by kernel_rfl) (gi L R H bd) hq
noncomputable abbrev NE(S:ad)(R:List Int)(H:List ap)(d:ay)(n:Nat)(L:List ByteArray):aj:=⟨[],cY S R H d L⟩
theorem aan(S R H d)(n:Nat)(L)(pH:(ak H).all af=true)(hn:(mM L)=n){Q:aV}(l3:Q .ret (ND S R H d n L)):al asz 220 5 (tt.drop 5) (NE S R H d n L) Q:=
 aZ bo 1 (.leaf [] [0,1,2,3,4] [0,3,4]) (fun u=>by kernel_rfl) (aM L R H (mR l3))
noncomputable abbrev NF(S:ad)(R:List Int)(H:List ap)(d:ay)(n:Nat)(L:List ByteArray):aj:=⟨[],cY S R H d L⟩
theorem aao(S R H d)(n:Nat)(L){Q:bk}(hq:Q (.ret (.tuple #[])) (cY S R H d L)):aH asz 111 220 5 Q .ret (NF S R H d n L):=aH.ret (vs:=[]) (l:=[]) (bs:=[0,1,2,3,4]) (pl:=[0,3,4]) (q:=[ao L,aq R,ak H]) (fun u=>by kernel_rfl) (by kernel_rfl) (gi L R H bd) hq
theorem aap(S R H d)(n:Nat)(L)(pH:(ak H).all af=true)(hn:(mM L)=n){Q:aV}(l3:Q .ret (NF S R H d n L)):al asz 220 5 (tq.drop 5) (NE S R H d n L) Q:=
 aZ bo 1 (.leaf [] [0,1,2,3,4] [0,3,4]) (fun u=>by kernel_rfl) (aM L R H (mR l3))
abbrev xM:=fun S R H d (n:Nat) L (a m b:Int)=>(⟨[(0,ah 0 n),(1,aa a),(2,aa m),(3,aa b),(4,.func (.func 90) #[an 1] #[]),(80,.bool (aml .i64 (b-m)==1))],cY S R H d L⟩:aj)
abbrev aaq:=fun S R H d (n:Nat) L (a m b:Int)=>(⟨[(0,ah 0 n),(1,aa a),(2,aa m),(3,aa b),(4,.func (.func 90) #[an 1] #[]),(28,.bool false)],cY S R H d L⟩:aj)
theorem aar(S R H d)(n:Nat)(L)(a m b:Int)(pH:(ak H).all af=true)(hn:(mM L)=n)(h0:aml .i64 (b-m)=b-m){Q:aV}(l3:al asz 220 5 (AB.drop 2) (xM S R H d n L a m b) Q):al asz 220 5 AB (aaq S R H d n L a m b) Q:=
 aZ bo 2 (.leaf [0,1,2,3,4,80] [0,1,2,3,4] [0,3,4]) (fun u=>by kernel_rfl) (aM L R H (mQ l3))
abbrev F7:=fun S R H d (n:Nat) L (a m b:Int)=>(⟨[(0,ah 0 n),(2,aa m),(4,.func (.func 90) #[an 1] #[]),(14,aa a),(15,aa m)],cY S R H d L⟩:aj)
abbrev aas:=fun S R H d (n:Nat) L (a m b:Int)=>(⟨[(0,ah 0 n),(1,aa a),(2,aa m),(3,aa b),(4,.func (.func 90) #[an 1] #[]),(80,.bool true)],cY S R H d L⟩:aj)
theorem aat(S R H d)(n:Nat)(L)(a m b:Int)(pH:(ak H).all af=true)(hn:(mM L)=n){Q:aV}(l3:al asz 220 5 (tq.drop 2) (F7 S R H d n L a m b) Q):al asz 220 5 tq (aas S R H d n L a m b) Q:=
 aZ bo 2 (.leaf [0,2,4,14,15] [0,1,2,3,4] [0,3,4]) (fun u=>by kernel_rfl) (aM L R H (mQ l3))
abbrev aau:=fun S R H d (n:Nat) L (m i j:Int)=>(⟨[(0,ah 0 n),(2,aa m),(4,.func (.func 90) #[an 1] #[]),(14,aa i),(15,aa j)],cY S R H d L⟩:aj)
abbrev aav:=fun S R H d (n:Nat) L (m i j:Int)=>(⟨[(0,ah 0 n),(2,aa m),(14,aa i)],cY S R H d L⟩:aj)
abbrev NG:=fun S R H d (n:Nat) L (m i j:Int)=>(⟨[(0,ah 0 n),(2,aa m),(4,.func (.func 90) #[an 1] #[]),(14,aa i),(15,aa j)],cY S R H d L⟩:aj)
theorem aaw(S R H d)(n:Nat)(L)(m i j:Int)(pH:(ak H).all af=true)(hn:(mM L)=n){Q:aV}(l3:(decide (i<j))=true→al asz 220 5 (F3.drop 2) (aau S R H d n L m i j) Q)(l4:(decide (i<j))=false→Q (.exit 4) (aav S R H d n L m i j)):al asz 220 5 F3 (NG S R H d n L m i j) Q:=
 aZ bo 2 (.fork 0 (.leaf [0,2,4,14,15] [0,1,2,3,4] [0,3,4]) (.leaf [0,2,14] [0,1,2,3,4] [0,3,4])) (fun u=>by kernel_rfl) (mF (c:=decide (i<j)) (fun h0=>(aM L R H (mQ (l3 h0)))) (fun h0=>(aM L R H (mE 4 (l4 h0)))))
abbrev NH:=fun S R H d (n:Nat) L (m i j:Int)=>(⟨[(0,ah 0 n),(2,aa m),(4,.func (.func 90) #[an 1] #[]),(14,.int .i64 (aml .i64 (aml .i64 (anS (aml anc (aml .i64 (i+j))) 2)+1))),(15,aa j)],cY S R H d L⟩:aj)
abbrev NI:=fun S R H d (n:Nat) L (m i j:Int)=>(⟨[(0,ah 0 n),(2,aa m),(4,.func (.func 90) #[an 1] #[]),(14,aa i),(15,.int .i64 (aml .i64 (anS (aml anc (aml .i64 (i+j))) 2)))],cY S R H d L⟩:aj)
theorem aax(S R H d)(n:Nat)(L)(m i j:Int)(pH:(ak H).all af=true)(hn:(mM L)=n)(h0:0≤i)(h1:0≤j)(h2:i<2000000)(h3:j<2000000)(h4:aml .i64 (i+j)=i+j)(h5:i<j)(h6:j≤n)(h7:0≤m)(h8:m<n)(h9:n≤1000000){Q:aV}(n0:(eB (ao L) (0+amm m*1))=true)(n1:(decide (0≤aml .i64 (anS (aml anc (aml .i64 (i+j))) 2)))=true)(n2:(amG (amm (aml .i64 (anS (aml anc (aml .i64 (i+j))) 2))) n)=true)(n3:(eB (ao L) (0+amm (aml .i64 (anS (aml anc (aml .i64 (i+j))) 2))*1))=true)(n4:(qn [ab (aQ S 1 2 3 4) 64,ai.abs d,ab (ao L) 9,ab (aq R) 3,ab (ak H) 144])=true)(l8:(!decide (a7 (ad.aC S) (a8 (ao L) (0+amm m*1)) (a8 (ao L) (0+amm (aml .i64 (anS (aml anc (aml .i64 (i+j))) 2))*1))<0))=true→Q .normal (NH S R H d n L m i j))(l9:(!decide (a7 (ad.aC S) (a8 (ao L) (0+amm m*1)) (a8 (ao L) (0+amm (aml .i64 (anS (aml anc (aml .i64 (i+j))) 2))*1))<0))=false→Q .normal (NI S R H d n L m i j)):al asz 220 5 (ba (inner (F3.drop 2))) (NG S R H d n L m i j) Q:=
 aZ rC 1000 (av [4,1,1,0,1,0,1,1,0,1,3,1,1,1,1,1,1] (.fork 0 (.leaf [0,2,4,14,15] [0,1,2,3,4] [0,3,4]) (.leaf [0,2,4,14,15] [0,1,2,3,4] [0,3,4]))) (fun u=>by kernel_rfl) (mN (decide_eq_true (by omega):(decide (0≤m))=true) (mN (show(amG (amm m) n)=true by simp at pH hn h0 h1 h2 h3 h4 h5 h6 h7 h8 h9⊢ <;>omega) (mN n0 (mN n1 (mN n2 (mN n3 (aM L R H (mN n4 (aM L R H (mF (c:= !decide (a7 (ad.aC S) (a8 (ao L) (0+amm m*1)) (a8 (ao L) (0+amm (aml .i64 (anS (aml anc (aml .i64 (i+j))) 2))*1))<0)) (fun h0=>(aM L R H (mQ (al.done (by kernel_rfl) (l8 h0))))) (fun h0=>(aM L R H (mQ (al.done (by kernel_rfl) (l9 h0)))))))))))))))
abbrev F8:=fun S R H d (n:Nat) L (m i:Int)=>(⟨[(0,ah 0 n),(14,aa i),(17,aa m)],cY S R H d L⟩:aj)
abbrev aay:=fun S R H d (n:Nat) L (m i:Int)=>(⟨[(0,ah 0 n),(2,aa m),(14,aa i)],cY S R H d L⟩:aj)
theorem aaz(S R H d)(n:Nat)(L)(m i:Int)(pH:(ak H).all af=true)(hn:(mM L)=n){Q:aV}(l3:al asz 220 5 ((tq.drop 3).drop 1) (F8 S R H d n L m i) Q):al asz 220 5 (tq.drop 3) (aay S R H d n L m i) Q:=
 aZ bo 1 (.leaf [0,14,17] [0,1,2,3,4] [0,3,4]) (fun u=>by kernel_rfl) (aM L R H (mQ l3))
abbrev aaA:=fun S R H d (n:Nat) L (i k:Int)=>(⟨[(0,ah 0 n),(14,aa i),(17,aa k)],cY S R H d L⟩:aj)
noncomputable abbrev aaB(S:ad)(R:List Int)(H:List ap)(d:ay)(n:Nat)(L:List ByteArray)(i k:Int):aj:=⟨[],cY S R H d L⟩
abbrev NJ:=fun S R H d (n:Nat) L (i k:Int)=>(⟨[(0,ah 0 n),(14,aa i),(17,aa k)],cY S R H d L⟩:aj)
theorem aaC(S R H d)(n:Nat)(L)(i k:Int)(pH:(ak H).all af=true)(hn:(mM L)=n){Q:aV}(l3:(decide (k>i))=true→al asz 220 5 (F1.drop 2) (aaA S R H d n L i k) Q)(l4:(decide (k>i))=false→Q (.exit 6) (aaB S R H d n L i k)):al asz 220 5 F1 (NJ S R H d n L i k) Q:=
 aZ bo 2 (.fork 0 (.leaf [0,14,17] [0,1,2,3,4] [0,3,4]) (.leaf [] [0,1,2,3,4] [0,3,4])) (fun u=>by kernel_rfl) (mF (c:=decide (k>i)) (fun h0=>(aM L R H (mQ (l3 h0)))) (fun h0=>(aM L R H (mE 6 (l4 h0)))))
abbrev NK:=fun S R H d (n:Nat) L (i k:Int)=>(⟨[(0,ah 0 n),(14,aa i),(17,.int .i64 (aml .i64 (k-1)))],[ab (amk (amk (ao L) (0+amm k*1) [amT (a8 (ao L) (0+amm (aml .i64 (k-1))*1))]) (0+amm (aml .i64 (k-1))*1) [amT (a8 (ao L) (0+amm k*1))]) 9,ab (aQ S 2 0 3 4) 64,.abs d,ab (aq R) 3,ab (ak H) 144]⟩:aj)
theorem aaD(S R H d)(n:Nat)(L)(i k:Int)(pH:(ak H).all af=true)(hn:(mM L)=n)(h0:0<k)(h1:k<n)(h2:n≤1000000)(h3:aml .i64 (k-1)=k-1){Q:aV}(n0:(eB (ao L) (0+amm (aml .i64 (k-1))*1))=true)(n1:(eB (ao L) (0+amm k*1))=true)(n2:(amO (0+amm (aml .i64 (k-1))*1+1) (mM (amk (ao L) (0+amm k*1) [amT (a8 (ao L) (0+amm (aml .i64 (k-1))*1))])))=true)(aW:amq (aq R) af=true)(be:amq (ak H) af=true)(l5:Q .normal (NK S R H d n L i k)):al asz 220 5 (F1.drop 2) (NJ S R H d n L i k) Q:=
 aZ bo 1000 (av [0,1,1,0,1,0,1,1,0,1,0,1,1,0,1,0,1,1,0,1] (.leaf [0,14,17] [0,1,2,3,4] [0,3,4])) (fun u=>by kernel_rfl) (mN (decide_eq_true (by omega):(decide (0≤aml .i64 (k-1)))=true) (mN (show(amG (amm (aml .i64 (k-1))) n)=true by simp at pH hn h0 h1 h2 h3⊢ <;>omega) (mN n0 (mN (decide_eq_true (by omega):(decide (0≤k))=true) (mN (show(amG (amm k) n)=true by simp at pH hn h0 h1 h2 h3⊢ <;>omega) (mN n1 (mN (decide_eq_true (by omega):(decide (0≤k))=true) (mN (show(amG (amm k) n)=true by simp at pH hn h0 h1 h2 h3⊢ <;>omega) (mN (show(amO (0+amm k*1+1) (mM (ao L)))=true by simp at pH hn h0 h1 h2 h3⊢ <;>omega) (mN (decide_eq_true (by omega):(decide (0≤aml .i64 (k-1)))=true) (mN (show(amG (amm (aml .i64 (k-1))) n)=true by simp at pH hn h0 h1 h2 h3⊢ <;>omega) (mN n2 (mN (show(amq (amk (amk (ao L) (0+amm k*1) [amT (a8 (ao L) (0+amm (aml .i64 (k-1))*1))]) (0+amm (aml .i64 (k-1))*1) [amT (a8 (ao L) (0+amm k*1))]) af)=true by first|exact aP _|assumption|exact aD (by assumption) rfl _|exact aD (aD (aD (by assumption) rfl _) rfl _) rfl _|exact aD (aP _) (cg (by rfl) _) _|exact aA (aO (aN _) _) _|(simp;done)|exact aB (by assumption) rfl|exact aB (aP _) rfl|exact aB rfl (aA (by assumption) _)|exact aB (by assumption) (aA (by assumption) _)|exact aB rfl (aA (aO (by assumption) _) _)|exact aA (aO (by assumption) _) _) (mN (aS R) (mN (aY H) (mQ (al.done (by kernel_rfl) l5)))))))))))))))))
abbrev F9:=fun S R H d (n:Nat) L (a m b:Int)=>(⟨[(0,ah 0 n),(1,aa a),(2,aa m),(3,aa b),(4,.func (.func 90) #[an 1] #[]),(18,.int .i64 (aml .i64 (anS (aml anc (aml .i64 (a+b))) 2))),(19,.int .i64 (aml .i64 (aml .i64 (anS (aml anc (aml .i64 (a+b))) 2)+m))),(20,.int .i64 (aml .i64 (aml .i64 (aml .i64 (anS (aml anc (aml .i64 (a+b))) 2)+m)-b))),(21,.int .i64 (aml .i64 (anS (aml anc (aml .i64 (a+b))) 2))),(22,.int .i64 (aml .i64 (aml .i64 (aml .i64 (anS (aml anc (aml .i64 (a+b))) 2)+m)-1)))],cY S R H d L⟩:aj)
abbrev Ga:=fun S R H d (n:Nat) L (a m b:Int)=>(⟨[(0,ah 0 n),(1,aa a),(2,aa m),(3,aa b),(4,.func (.func 90) #[an 1] #[]),(18,.int .i64 (aml .i64 (anS (aml anc (aml .i64 (a+b))) 2))),(19,.int .i64 (aml .i64 (aml .i64 (anS (aml anc (aml .i64 (a+b))) 2)+m))),(20,aa a),(21,aa m),(22,.int .i64 (aml .i64 (aml .i64 (aml .i64 (anS (aml anc (aml .i64 (a+b))) 2)+m)-1)))],cY S R H d L⟩:aj)
abbrev aaE:=fun S R H d (n:Nat) L (a m b:Int)=>(⟨[(0,ah 0 n),(1,aa a),(2,aa m),(3,aa b),(4,.func (.func 90) #[an 1] #[]),(80,.bool false)],cY S R H d L⟩:aj)
theorem aaF(S R H d)(n:Nat)(L)(a m b:Int)(pH:(ak H).all af=true)(hn:(mM L)=n)(h0:0≤a)(h1:0≤b)(h2:a<2000000)(h3:b<2000000)(h4:aml .i64 (a+b)=a+b){Q:aV}(l3:(decide (m>aml .i64 (anS (aml anc (aml .i64 (a+b))) 2)))=true→al asz 220 5 (AA.drop 7) (F9 S R H d n L a m b) Q)(l4:(decide (m>aml .i64 (anS (aml anc (aml .i64 (a+b))) 2)))=false→al asz 220 5 (AA.drop 7) (Ga S R H d n L a m b) Q):al asz 220 5 AA (aaE S R H d n L a m b) Q:=
 aZ bo 7 (.fork 3 (.leaf [0,1,2,3,4,18,19,20,21,22] [0,1,2,3,4] [0,3,4]) (.leaf [0,1,2,3,4,18,19,20,21,22] [0,1,2,3,4] [0,3,4])) (fun u=>by kernel_rfl) (mF (c:=decide (m>aml .i64 (anS (aml anc (aml .i64 (a+b))) 2))) (fun h0=>(aM L R H (mQ (l3 h0)))) (fun h0=>(aM L R H (mQ (l4 h0)))))
abbrev aaG:=fun S R H d (n:Nat) L (a m b w q s r p:Int)=>(⟨[(0,ah 0 n),(1,aa a),(2,aa m),(3,aa b),(4,.func (.func 90) #[an 1] #[]),(18,aa w),(19,aa q),(20,aa s),(21,aa r),(22,aa p)],cY S R H d L⟩:aj)
abbrev aaH:=fun S R H d (n:Nat) L (a m b w q s r p:Int)=>(⟨[(0,ah 0 n),(1,aa a),(2,aa m),(3,aa b),(4,.func (.func 90) #[an 1] #[]),(18,aa w),(19,aa q),(20,aa s)],cY S R H d L⟩:aj)
abbrev aaI:=fun S R H d (n:Nat) L (a m b w q s r p:Int)=>(⟨[(0,ah 0 n),(1,aa a),(2,aa m),(3,aa b),(4,.func (.func 90) #[an 1] #[]),(18,aa w),(19,aa q),(20,aa s),(21,aa r),(22,aa p)],cY S R H d L⟩:aj)
theorem aaJ(S R H d)(n:Nat)(L)(a m b w q s r p:Int)(pH:(ak H).all af=true)(hn:(mM L)=n){Q:aV}(l3:(decide (s<r))=true→al asz 220 5 (FY.drop 2) (aaG S R H d n L a m b w q s r p) Q)(l4:(decide (s<r))=false→Q (.exit 8) (aaH S R H d n L a m b w q s r p)):al asz 220 5 FY (aaI S R H d n L a m b w q s r p) Q:=
 aZ bo 2 (.fork 0 (.leaf [0,1,2,3,4,18,19,20,21,22] [0,1,2,3,4] [0,3,4]) (.leaf [0,1,2,3,4,18,19,20] [0,1,2,3,4] [0,3,4])) (fun u=>by kernel_rfl) (mF (c:=decide (s<r)) (fun h0=>(aM L R H (mQ (l3 h0)))) (fun h0=>(aM L R H (mE 8 (l4 h0)))))
abbrev NL:=fun S R H d (n:Nat) L (a m b w q i j p:Int)=>(⟨[(0,ah 0 n),(1,aa a),(2,aa m),(3,aa b),(4,.func (.func 90) #[an 1] #[]),(18,aa w),(19,aa q),(20,aa i),(21,aa j),(22,aa p),(23,.int .i64 (aml .i64 (anS (aml anc (aml .i64 (i+j))) 2)))],cY S R H d L⟩:aj)
abbrev aaK:=fun S R H d (n:Nat) L (a m b w q i j p:Int)=>(⟨[(0,ah 0 n),(1,aa a),(2,aa m),(3,aa b),(4,.func (.func 90) #[an 1] #[]),(18,aa w),(19,aa q),(20,aa i),(21,aa j),(22,aa p)],cY S R H d L⟩:aj)
theorem aaL(S R H d)(n:Nat)(L)(a m b w q i j p:Int)(pH:(ak H).all af=true)(hn:(mM L)=n)(h0:0≤i)(h1:0≤j)(h2:i<2000000)(h3:j<2000000)(h4:aml .i64 (i+j)=i+j){Q:aV}(l3:al asz 220 5 (F4.drop 1) (NL S R H d n L a m b w q i j p) Q):al asz 220 5 F4 (aaK S R H d n L a m b w q i j p) Q:=
 aZ bo 1 (.leaf [0,1,2,3,4,18,19,20,21,22,23] [0,1,2,3,4] [0,3,4]) (fun u=>by kernel_rfl) (aM L R H (mQ l3))
abbrev NM:=fun S R H d (n:Nat) L (a m b w q i j p x:Int)=>(⟨[(0,ah 0 n),(1,aa a),(2,aa m),(3,aa b),(4,.func (.func 90) #[an 1] #[]),(18,aa w),(19,aa q),(20,.int .i64 (aml .i64 (x+1))),(21,aa j),(22,aa p)],cY S R H d L⟩:aj)
abbrev aaM:=fun S R H d (n:Nat) L (a m b w q i j p x:Int)=>(⟨[(0,ah 0 n),(1,aa a),(2,aa m),(3,aa b),(4,.func (.func 90) #[an 1] #[]),(18,aa w),(19,aa q),(20,aa i),(21,aa x),(22,aa p)],cY S R H d L⟩:aj)
abbrev aaN:=fun S R H d (n:Nat) L (a m b w q i j p x:Int)=>(⟨[(0,ah 0 n),(1,aa a),(2,aa m),(3,aa b),(4,.func (.func 90) #[an 1] #[]),(18,aa w),(19,aa q),(20,aa i),(21,aa j),(22,aa p),(23,aa x)],cY S R H d L⟩:aj)
theorem aaO(S R H d)(n:Nat)(L)(a m b w q i j p x:Int)(pH:(ak H).all af=true)(hn:(mM L)=n)(h0:0≤x)(h1:x<n)(h2:0≤p-x)(h3:p-x<n)(h4:n≤1000000)(h5:aml .i64 (p-x)=p-x)(h6:aml .i64 (x+1)=x+1){Q:aV}(n0:(eB (ao L) (0+amm (aml .i64 (p-x))*1))=true)(n1:(eB (ao L) (0+amm x*1))=true)(n2:(qn [ab (aQ S 1 2 3 4) 64,ai.abs d,ab (ao L) 9,ab (aq R) 3,ab (ak H) 144])=true)(l6:(!decide (a7 (ad.aC S) (a8 (ao L) (0+amm (aml .i64 (p-x))*1)) (a8 (ao L) (0+amm x*1))<0))=true→Q .normal (NM S R H d n L a m b w q i j p x))(l7:(!decide (a7 (ad.aC S) (a8 (ao L) (0+amm (aml .i64 (p-x))*1)) (a8 (ao L) (0+amm x*1))<0))=false→Q .normal (aaM S R H d n L a m b w q i j p x)):al asz 220 5 (F4.drop 1) (aaN S R H d n L a m b w q i j p x) Q:=
 aZ rC 1000 (av [0,1,1,0,1,0,1,1,0,1,3,1,1,1,1,1,1] (.fork 0 (.leaf [0,1,2,3,4,18,19,20,21,22] [0,1,2,3,4] [0,3,4]) (.leaf [0,1,2,3,4,18,19,20,21,22] [0,1,2,3,4] [0,3,4]))) (fun u=>by kernel_rfl) (mN (decide_eq_true (by omega):(decide (0≤aml .i64 (p-x)))=true) (mN (show(amG (amm (aml .i64 (p-x))) n)=true by simp at pH hn h0 h1 h2 h3 h4 h5 h6⊢ <;>omega) (mN n0 (mN (decide_eq_true (by omega):(decide (0≤x))=true) (mN (show(amG (amm x) n)=true by simp at pH hn h0 h1 h2 h3 h4 h5 h6⊢ <;>omega) (mN n1 (aM L R H (mN n2 (aM L R H (mF (c:= !decide (a7 (ad.aC S) (a8 (ao L) (0+amm (aml .i64 (p-x))*1)) (a8 (ao L) (0+amm x*1))<0)) (fun h0=>(aM L R H (mQ (al.done (by kernel_rfl) (l6 h0))))) (fun h0=>(aM L R H (mQ (al.done (by kernel_rfl) (l7 h0)))))))))))))))
abbrev Gb:=fun(N:Nat) S R H d (n:Nat) L (a m b w q s:Int)=>(⟨[(0,ah 0 n),(1,aa a),(3,aa b),(4,.func (.func 90) #[an 1] #[]),(18,aa w),(20,aa s),(24,.int .i64 (aml .i64 (q-s)))],[ab (ao (fV (cU (ao L)) (amm s) (amm m) (amm (aml .i64 (q-s))))) 9,ab (aQ S 2 0 3 4) 64,.abs d,ab (aq R) 3,ab (ak H) 144]⟩:aj)
abbrev Gc:=fun(N:Nat) S R H d (n:Nat) L (a m b w q s:Int)=>(⟨[(0,ah 0 n),(1,aa a),(3,aa b),(4,.func (.func 90) #[an 1] #[]),(18,aa w),(20,aa s),(24,.int .i64 (aml .i64 (q-s)))],cY S R H d L⟩:aj)
abbrev Gd:=fun(N:Nat) S R H d (n:Nat) L (a m b w q s:Int)=>(⟨[(0,ah 0 n),(1,aa a),(3,aa b),(4,.func (.func 90) #[an 1] #[]),(18,aa w),(20,aa s),(24,.int .i64 (aml .i64 (q-s)))],cY S R H d L⟩:aj)
abbrev aaP:=fun(N:Nat) S R H d (n:Nat) L (a m b w q s:Int)=>(⟨[(0,ah 0 n),(1,aa a),(2,aa m),(3,aa b),(4,.func (.func 90) #[an 1] #[]),(18,aa w),(19,aa q),(20,aa s)],cY S R H d L⟩:aj)
theorem aaQ(N:Nat)(S R H d)(n:Nat)(L)(a m b w q s:Int)(hN:bp asz 111 (Sum.du asz (nk N)))(pH:(ak H).all af=true)(hn:(mM L)=n)(h0:0≤s)(h1:0≤m)(h2:q≤2000000)(h3:0≤q)(h4:aml .i64 (q-s)=q-s){Q:aV}(n0:(decide (s<m))=true→(decide (m<aml .i64 (q-s)))=true→(ig [ab (ao L) 9,ab (aQ S 2 0 3 4) 64,ai.abs d,ab (aq R) 3,ab (ak H) 144] n&&(amE n n&&(amE 90 90&&(decide (0≤s)&&(decide (s<m)&&(decide (m<aml .i64 (q-s))&&decide (aml .i64 (q-s)≤(↑n:Int))))))))=true)(l3:(decide (s<m))=true→(decide (m<aml .i64 (q-s)))=true→al asz 220 5 (AD.drop 3) (Gb N S R H d n L a m b w q s) Q)(l5:(decide (s<m))=true→(decide (m<aml .i64 (q-s)))=false→al asz 220 5 (AD.drop 3) (Gc N S R H d n L a m b w q s) Q)(l6:(decide (s<m))=false→al asz 220 5 (AD.drop 3) (Gd N S R H d n L a m b w q s) Q):al asz 220 5 AD (aaP N S R H d n L a m b w q s) Q:=
 aZ (FX N hN) 3 (.fork 0 (av [1,1,1] (.fork 0 (av [3,1,1,1,1,1,1] (.leaf [0,1,3,4,18,20,24] [0,1,2,3,4] [0,3,4])) (.leaf [0,1,3,4,18,20,24] [0,1,2,3,4] [0,3,4]))) (av [0,0,0] (.leaf [0,1,3,4,18,20,24] [0,1,2,3,4] [0,3,4]))) (fun u=>by kernel_rfl) (mF (c:=decide (s<m)) (fun h0=>(vn 3 h0 (mF (c:=decide (m<aml .i64 (q-s))) (fun h1=>(aM L R H (mN (n0 h0 h1) (mN (aN (fV (cU (ao L)) (amm s) (amm m) (amm (aml .i64 (q-s))))) (mN (aS R) (mN (aY H) (mN (aN (fV (cU (ao L)) (amm s) (amm m) (amm (aml .i64 (q-s))))) (mN (aS R) (mN (aY H) (mQ (l3 h0 h1))))))))))) (fun h1=>(aM L R H (mQ (l5 h0 h1))))))) (fun h0=>(vn 3 h0 (aM L R H (mQ (l6 h0))))))
abbrev Ge:=fun(N:Nat) S R H d (n:Nat) L (a b w s e:Int)=>(⟨[(0,ah 0 n),(3,aa b),(4,.func (.func 90) #[an 1] #[]),(18,aa w),(24,aa e)],[ab (ao (bV (a7 (ad.aC S)) (cU (ao L)) (amm a) (amm w))) 9,ab (aQ S 2 0 3 4) 64,.abs d,ab (aq R) 3,ab (ak H) 144]⟩:aj)
abbrev aaR:=fun(N:Nat) S R H d (n:Nat) L (a b w s e:Int)=>(⟨[(0,ah 0 n),(3,aa b),(4,.func (.func 90) #[an 1] #[]),(18,aa w),(24,aa e)],cY S R H d L⟩:aj)
abbrev aaS:=fun(N:Nat) S R H d (n:Nat) L (a b w s e:Int)=>(⟨[(0,ah 0 n),(3,aa b),(4,.func (.func 90) #[an 1] #[]),(18,aa w),(24,aa e)],cY S R H d L⟩:aj)
abbrev aaT:=fun(N:Nat) S R H d (n:Nat) L (a b w s e:Int)=>(⟨[(0,ah 0 n),(1,aa a),(3,aa b),(4,.func (.func 90) #[an 1] #[]),(18,aa w),(20,aa s),(24,aa e)],cY S R H d L⟩:aj)
theorem aaU(N:Nat)(S R H d)(n:Nat)(L)(a b w s e:Int)(hN:bp asz 111 (Sum.du asz (nk N)))(pH:(ak H).all af=true)(hn:(mM L)=n){Q:aV}(n0:(decide (a<s))=true→(decide (s<w))=true→(ig [ab (ao L) 9,ab (aQ S 2 0 3 4) 64,ai.abs d,ab (aq R) 3,ab (ak H) 144] n&&(amE n n&&(amE 90 90&&tp (a7 (ad.aC S)) (cU (ao L)) n a s w N)))=true)(l3:(decide (a<s))=true→(decide (s<w))=true→al asz 220 5 (AC.drop 2) (Ge N S R H d n L a b w s e) Q)(l5:(decide (a<s))=true→(decide (s<w))=false→al asz 220 5 (AC.drop 2) (aaR N S R H d n L a b w s e) Q)(l6:(decide (a<s))=false→al asz 220 5 (AC.drop 2) (aaS N S R H d n L a b w s e) Q):al asz 220 5 AC (aaT N S R H d n L a b w s e) Q:=
 aZ (FX N hN) 2 (.fork 0 (av [1,1,1] (.fork 0 (av [3,1,1,1,1,1,1] (.leaf [0,3,4,18,24] [0,1,2,3,4] [0,3,4])) (.leaf [0,3,4,18,24] [0,1,2,3,4] [0,3,4]))) (av [0,0,0] (.leaf [0,3,4,18,24] [0,1,2,3,4] [0,3,4]))) (fun u=>by kernel_rfl) (mF (c:=decide (a<s)) (fun h0=>(vn 3 h0 (mF (c:=decide (s<w)) (fun h1=>(aM L R H (mN (n0 h0 h1) (mN (aN (bV (a7 (ad.aC S)) (cU (ao L)) (amm a) (amm w))) (mN (aS R) (mN (aY H) (mN (aN (bV (a7 (ad.aC S)) (cU (ao L)) (amm a) (amm w))) (mN (aS R) (mN (aY H) (mQ (l3 h0 h1))))))))))) (fun h1=>(aM L R H (mQ (l5 h0 h1))))))) (fun h0=>(vn 3 h0 (aM L R H (mQ (l6 h0))))))
abbrev Gf:=fun(N:Nat) S R H d (n:Nat) L (b w e:Int)=>(⟨[],[ab (ao (bV (a7 (ad.aC S)) (cU (ao L)) (amm w) (amm b))) 9,ab (aQ S 2 0 3 4) 64,.abs d,ab (aq R) 3,ab (ak H) 144]⟩:aj)
noncomputable abbrev aaV(N:Nat)(S:ad)(R:List Int)(H:List ap)(d:ay)(n:Nat)(L:List ByteArray)(b w e:Int):aj:=⟨[],cY S R H d L⟩
noncomputable abbrev aaW(N:Nat)(S:ad)(R:List Int)(H:List ap)(d:ay)(n:Nat)(L:List ByteArray)(b w e:Int):aj:=⟨[],cY S R H d L⟩
abbrev aaX:=fun(N:Nat) S R H d (n:Nat) L (b w e:Int)=>(⟨[(0,ah 0 n),(3,aa b),(4,.func (.func 90) #[an 1] #[]),(18,aa w),(24,aa e)],cY S R H d L⟩:aj)
theorem aaY(N:Nat)(S R H d)(n:Nat)(L)(b w e:Int)(hN:bp asz 111 (Sum.du asz (nk N)))(pH:(ak H).all af=true)(hn:(mM L)=n){Q:aV}(n0:(decide (w<e))=true→(decide (e<b))=true→(ig [ab (ao L) 9,ab (aQ S 2 0 3 4) 64,ai.abs d,ab (aq R) 3,ab (ak H) 144] n&&(amE n n&&(amE 90 90&&tp (a7 (ad.aC S)) (cU (ao L)) n w e b N)))=true)(l3:(decide (w<e))=true→(decide (e<b))=true→Q .normal (Gf N S R H d n L b w e))(l5:(decide (w<e))=true→(decide (e<b))=false→Q .normal (aaV N S R H d n L b w e))(l6:(decide (w<e))=false→Q .normal (aaW N S R H d n L b w e)):al asz 220 5 Z7 (aaX N S R H d n L b w e) Q:=
 aZ (FX N hN) 1000 (.fork 0 (av [1,1,1] (.fork 0 (av [3,1,1,1,1,1,1] (.leaf [] [0,1,2,3,4] [0,3,4])) (.leaf [] [0,1,2,3,4] [0,3,4]))) (av [0,0,0] (.leaf [] [0,1,2,3,4] [0,3,4]))) (fun u=>by kernel_rfl) (mF (c:=decide (w<e)) (fun h0=>(vn 3 h0 (mF (c:=decide (e<b)) (fun h1=>(aM L R H (mN (n0 h0 h1) (mN (aN (bV (a7 (ad.aC S)) (cU (ao L)) (amm w) (amm b))) (mN (aS R) (mN (aY H) (mN (aN (bV (a7 (ad.aC S)) (cU (ao L)) (amm w) (amm b))) (mN (aS R) (mN (aY H) (mQ (al.done (by kernel_rfl) (l3 h0 h1)))))))))))) (fun h1=>(aM L R H (mQ (al.done (by kernel_rfl) (l5 h0 h1)))))))) (fun h0=>(vn 3 h0 (aM L R H (mQ (al.done (by kernel_rfl) (l6 h0)))))))
end
end Go.Proofs.Ytnlkkgpcikkpoaa
namespace Go.Proofs.Ytnlkkgpcikkpoaa.Vm
open Go.RowKit
def QA(N:aj→Prop)(Q:bf→aj→Prop):bf→aj→Prop
 | .normal,d=>N d
 |x,d=>Q x d
theorem al.join{P:Program}{n k:Nat}{l l':List am3}{d:aj}{Q:bf→aj→Prop}(h:al P n k l d (QA (fun d'=>al P n k l' d' Q) Q)):al P n k (l++l') d Q:=by
 intro X hn hk a w hd
 refine Eh (w9 (h X hn hk a w hd) fun e a' w' he=>?_)
 obtain⟨x,d',h1,h2,h3⟩:=he
 cases h2 with
 |normal=>exact h1 X hn hk a' w' h3
 |exit j=>exact⟨_,d',h1,.exit j,h3⟩
 |ret=>exact⟨_,d',h1,.ret,h3⟩
 |panic v v' hv=>exact⟨_,d',h1,.panic v v' hv,h3⟩
theorem al.pass{P:Program}{n k:Nat}{l:List am3}{d:aj}{Q:bf→aj→Prop}(h:al P n k l d Q):al P n k (Code.skip::l) d Q:=fun X hn hk a w hd=>wp_skip (Q:=Exit.then (iH P l _) _) (h X hn hk a w hd)
theorem QA.ret{N:aj→Prop}{Q:bf→aj→Prop}{d:aj}(h:Q .ret d):QA N Q .ret d:=h
theorem QA.normal{N:aj→Prop}{Q:bf→aj→Prop}{d:aj}(h:N d):QA N Q .normal d:=h
theorem al.aaZ{P:Program}{n k:Nat}{L:List am3}{d:aj}{Q:bf→aj→Prop}(i:Nat){c:Nat}(hl:zK (L.drop i)=some c)(hi:amG c n=true)(hv:ji d.sl c=some (.bool false))
 (hs:ba (o6 false (L.drop i))=[Code.skip])(h:al P n k (L.drop (i+1)) d Q):al P n k (L.drop i) d Q:=
 al.uP i hl hi hv (by rw[hs];exact al.pass h)
end Go.Proofs.Ytnlkkgpcikkpoaa.Vm
namespace Go.Proofs.Ytnlkkgpcikkpoaa
open Go Vm Go.RowKit
set_option maxRecDepth 100000
theorem jS{x y:Nat}(h:x<1000000000)(h2:y<1000000000):aml amA (anS (aml anc (aml amA ((x:Int)+(y:Int)))) 2)=(((x+y)/2:Nat):Int):=by
 have h1:aml amA ((x:Int)+(y:Int))=((x+y:Nat):Int):=by rw[mC (by omega) (by omega)];omega
 have h2:aml anc ((x+y:Nat):Int)=((x+y:Nat):Int):=by
  unfold aml
  simp only[anc,IntKind.bits,IntKind.signed,Bool.false_and,Bool.false_eq_true,if_false]
  omega
 have h3:anS ((x+y:Nat):Int) 2=(((x+y)/2:Nat):Int):=by
  rw[Int.fdiv_eq_ediv_of_nonneg _ (by omega)];omega
 rw[h1,h2,h3]
 exact mC (by omega) (by omega)
theorem NN{x y:Nat}(h:x<1000000000)(h2:y<1000000000):aml amA (aml amA (anS (aml anc (aml amA ((x:Int)+(y:Int)))) 2)+1)=(((x+y)/2+1:Nat):Int):=by
 rw[jS h h2,mC (by omega) (by omega)];omega
section
variable (S:ad) (R:List Int) (H:List ap) (d:ay)
abbrev rD(a b:Nat)(L:List ByteArray):bf→aj→Prop:=aH asz 111 220 5 fun r o=>r=.ret (.tuple #[])∧o=cF S R H d (bV (a7 S.aC) L a b)
def xN(n a:Nat)(L:List ByteArray)(s:Nat×Nat):aj:=⟨[(0,fu n),(1,iZ a),(4,fK),(10,iZ (a+1+s.1)),(11,iZ (a+1+s.2))],cF S R H d L⟩
def AE(n a b i:Nat)(L:List ByteArray)(x:ByteArray)(k:Nat):aj:=⟨[(0,fu n),(10,iZ (a+1+i)),(13,iZ (a+k))],cF S R H d (cX (L.take a) (aL L (a+1) b) (L.drop b) x k)⟩
theorem aa0{N:aj→Prop}(L:List ByteArray)(n a b:Nat)(hn:L.length=n)(hL:n≤1000000)(hb:b≤n)(jg:a+1<b)(hX:dj (a7 S.aC) (aL L (a+1) b)):
 al asz 220 5 (ba (o6 true (ma.drop 1))) ⟨[(0,fu n),(1,iZ a),(2,iZ (a+1)),(3,iZ b),(4,fK),(28,.bool true)],cF S R H d L⟩ (QA N (rD S R H d a b L)):=by
 have pH:=aY H
 have fF:=vh S.aC
 obtain⟨x,hx⟩:∃x,L[a]?=some x:=⟨_,amt (by omega)⟩
 have lT:(L.take a).length=a:=by rw[anf];omega
 have lX:(aL L (a+1) b).length=b-(a+1):=iW (by omega) (by omega)
 apply aab S R H d n L a ((a+1:Nat):Int) b pH hn
 ·
  have e:F5 S R H d n L a ((a+1:Nat):Int) b=xN S R H d n a L (0,(aL L (a+1) b).length):=by
   unfold F5 xN;dsimp only;rw[lX,show a+1+0=a+1 by omega,show a+1+(b-(a+1))=b by omega];rfl
  rw[e]
  refine al.eJ 2 0 (by kernel_rfl) ?_
  refine al.fJ (xN S R H d n a L) (fun s=>s.2-s.1) (fun s=>kO (a7 S.aC) (aL L (a+1) b) x s.1 s.2) (0,(aL L (a+1) b).length) (by kernel_rfl) (kO.start _ _ _) ?_
  rintro⟨i,j⟩ hs
  dsimp only at hs
  have ia:=hs.ia
  have hj:=hs.hj
  rw[lX]at hj
  apply aae S R H d n L a ((a+1+i:Nat):Int) ((a+1+j:Nat):Int) pH hn
  case l4=>
   intro g
   have g:=of_decide_eq_false g
   have e:j=i:=by omega
   subst e
   with_reducible (repeat first|refine QL.ret ?_|refine QL.exit ?_|refine QB.ret ?_|refine QB.ci ?_|refine QB.normal ?_|refine QB.cu (by rfl) ?_)
   apply aah S R H d n L a ((a+1+j:Nat):Int) pH hn
   ·
    have e:F6 S R H d n L a ((a+1+j:Nat):Int)=AE S R H d n a b j L x 0:=by
     unfold F6 AE;rw[ZW (by omega) hx];rfl
    rw[e,anE]
    refine al.eJ 4 2 (by kernel_rfl) ?_
    refine al.fJ (AE S R H d n a b j L x) (fun k=>j-k) (fun k=>k≤j) 0 (by kernel_rfl) (ann _) ?_
    intro k hk
    have fM:(cX (L.take a) (aL L (a+1) b) (L.drop b) x k).length=n:=by rw[FD (by omega),lT,lX,anA];omega
    apply aak S R H d n (cX (L.take a) (aL L (a+1) b) (L.drop b) x k) ((a+1+j:Nat):Int) ((a+k:Nat):Int) pH fM (bG (by omega) (by omega))
    case l4=>
     intro g
     rw[bG (by omega) (by omega)]at g
     have g:=of_decide_eq_false g
     have e:k=j:=by omega
     subst e
     with_reducible (repeat first|refine QL.ret ?_|refine QL.exit ?_|refine QB.ret ?_|refine QB.ci ?_|refine QB.normal ?_|refine QB.cu (by rfl) ?_)
     apply aan S R H d n (cX (L.take a) (aL L (a+1) b) (L.drop b) x k) pH fM
     ·
      refine QA.ret ?_
      refine aam S R H d n (cX (L.take a) (aL L (a+1) b) (L.drop b) x k) ⟨rfl,?_⟩
      rw[ZV fF (by omega) hx hX hs]
      rfl
    case l3=>
     intro g
     rw[bG (by omega) (by omega)]at g
     have g:=of_decide_eq_true g
     obtain⟨y,hy⟩:∃y,(aL L (a+1) b)[k]?=some y:=⟨_,amt (by omega)⟩
     have fD:(cX (L.take a) (aL L (a+1) b) (L.drop b) x k)[a+k]?=some x:=by have:=FE (T:=L.take a) (D:=L.drop b) (x:=x) (S:=aL L (a+1) b) (j:=k) (by omega);rw[lT]at this;exact this
     have gT:(cX (L.take a) (aL L (a+1) b) (L.drop b) x k)[a+k+1]?=some y:=by have:=ZZ (T:=L.take a) (D:=L.drop b) (x:=x) (S:=aL L (a+1) b) (j:=k) (by omega);rw[lT,hy]at this;exact this
     have e1:0+amm (aml amA (((a+k:Nat):Int)+1))*1=a+k+1:=by rw[bG (by omega) (by omega)];omega
     apply aal S R H d n (cX (L.take a) (aL L (a+1) b) (L.drop b) x k) ((a+1+j:Nat):Int) ((a+k:Nat):Int) pH fM (by omega) (by omega) hL (bG (by omega) (by omega))
     case aW=>simp
     case be=>exact pH
     case n0=>rw[e1];exact(dK gT).2
     case n1=>rw[fL];exact(dK fD).2
     case n2=>
      rw[e1,fL,(dK gT).1,nj (by omega),xj,anU]
      exact am2 (by omega)
     case l5=>
      refine QL.to (k+1) (by omega) (by omega) ?_
      unfold NC AE
      rw[e1,fL,(dK gT).1,(dK fD).1,nj (by omega),nj (by rw[anU];omega)]
      have:=Z0 (T:=L.take a) (D:=L.drop b) (x:=x) (S:=aL L (a+1) b) (j:=k) (by omega) hy
      rw[lT]at this
      rw[this,bG (by omega) (by omega)]
      have:(((a+k:Nat):Int)+1)=((a+(k+1):Nat):Int):=by omega
      rw[this]
      rfl
  case l3=>
   intro g
   have g:=of_decide_eq_true g
   have hm:(a+1+i+(a+1+j))/2=a+1+(i+j)/2:=by omega
   obtain⟨y,hy⟩:∃y,(aL L (a+1) b)[(i+j)/2]?=some y:=⟨_,amt (by omega)⟩
   have gT:L[a+1+(i+j)/2]?=some y:=by rw[xJ (by omega)]at hy;exact hy
   refine al.eJ 2 1 (by kernel_rfl) ?_
   apply aaf S R H d n L a ((a+1+i:Nat):Int) ((a+1+j:Nat):Int) pH hn (by omega) (by omega) (by omega) (by omega) (bG (by omega) (by omega)) (by omega) (by omega) (by omega) (by omega) hL
   case n0=>rw[jS (by omega) (by omega)];exact decide_eq_true (by omega)
   case n1=>rw[jS (by omega) (by omega)];rw[asr];omega
   case n2=>rw[jS (by omega) (by omega),fL,hm];exact(dK gT).2
   case n3=>rw[fL];exact(dK hx).2
   case n4=>exact vg rfl
   case l8=>
    intro g1
    rw[jS (by omega) (by omega),fL,fL,hm,(dK gT).1,(dK hx).1]at g1
    have g1:=of_decide_eq_true g1
    with_reducible (repeat first|refine QL.ret ?_|refine QL.exit ?_|refine QB.ret ?_|refine QB.ci ?_|refine QB.normal ?_|refine QB.cu (by rfl) ?_)
    refine al.done (by kernel_rfl) ?_
    refine QL.to ((i+j)/2+1,j) (hs.up fF hX (by omega) (by omega) hy (pj.2 (fF.asym _ _ g1))) (by dsimp only;omega) ?_
    unfold Nz xN
    rw[NN (by omega) (by omega),hm]
    rfl
   case l9=>
    intro g1
    rw[jS (by omega) (by omega),fL,fL,hm,(dK gT).1,(dK hx).1]at g1
    have g1:=of_decide_eq_false g1
    with_reducible (repeat first|refine QL.ret ?_|refine QL.exit ?_|refine QB.ret ?_|refine QB.ci ?_|refine QB.normal ?_|refine QB.cu (by rfl) ?_)
    refine al.done (by kernel_rfl) ?_
    refine QL.to (i,(i+j)/2) (hs.down fF hX (by omega) (by omega) hy (pj.2 g1)) (by dsimp only;omega) ?_
    unfold NA xN
    rw[jS (by omega) (by omega),hm]
    rfl
end
end Go.Proofs.Ytnlkkgpcikkpoaa
namespace Go.Proofs.Ytnlkkgpcikkpoaa
open Go Vm Go.RowKit
set_option maxRecDepth 100000
section
variable (S:ad) (R:List Int) (H:List ap) (d:ay)
def xO(n a m:Nat)(L:List ByteArray)(s:Nat×Nat):aj:=⟨[(0,fu n),(2,iZ m),(4,fK),(14,iZ (a+s.1)),(15,iZ (a+s.2))],cF S R H d L⟩
def AF(n a m i:Nat)(L:List ByteArray)(x:ByteArray)(k:Nat):aj:=⟨[(0,fu n),(14,iZ (a+i)),(17,iZ (a+k))],cF S R H d (cX (L.take a) (aL L a m) (L.drop (m+1)) x k)⟩
theorem aa1{N:aj→Prop}(L:List ByteArray)(n a m:Nat)(hn:L.length=n)(hL:n≤1000000)(hb:m+1≤n)(jg:a<m)(hX:dj (a7 S.aC) (aL L a m)):
 al asz 220 5 (ba (o6 true (ma.drop 3))) ⟨[(0,fu n),(1,iZ a),(2,iZ m),(3,iZ (m+1)),(4,fK),(80,.bool true)],cF S R H d L⟩ (QA N (rD S R H d a (m+1) L)):=by
 have pH:=aY H
 have fF:=vh S.aC
 obtain⟨x,hx⟩:∃x,L[m]?=some x:=⟨_,amt (by omega)⟩
 have lT:(L.take a).length=a:=by rw[anf];omega
 have lX:(aL L a m).length=m-a:=iW (by omega) (by omega)
 apply aat S R H d n L a m ((m+1:Nat):Int) pH hn
 ·
  have e:F7 S R H d n L a m ((m+1:Nat):Int)=xO S R H d n a m L (0,(aL L a m).length):=by
   unfold F7 xO;dsimp only;rw[lX,show a+0=a by omega,show a+(m-a)=m by omega];rfl
  rw[e]
  refine al.eJ 2 4 (by kernel_rfl) ?_
  refine al.fJ (xO S R H d n a m L) (fun s=>s.2-s.1) (fun s=>kO (a7 S.aC) (aL L a m) x s.1 s.2) (0,(aL L a m).length) (by kernel_rfl) (kO.start _ _ _) ?_
  rintro⟨i,j⟩ hs
  dsimp only at hs
  have ia:=hs.ia
  have hj:=hs.hj
  rw[lX]at hj
  apply aaw S R H d n L m ((a+i:Nat):Int) ((a+j:Nat):Int) pH hn
  case l4=>
   intro g
   have g:=of_decide_eq_false g
   have e:j=i:=by omega
   subst e
   with_reducible (repeat first|refine QL.ret ?_|refine QL.exit ?_|refine QB.ret ?_|refine QB.ci ?_|refine QB.normal ?_|refine QB.cu (by rfl) ?_)
   apply aaz S R H d n L m ((a+j:Nat):Int) pH hn
   ·
    have e:F8 S R H d n L m ((a+j:Nat):Int)=AF S R H d n a m j L x (m-a):=by
     unfold F8 AF;rw[ZY (by omega) (by omega) hx,show a+(m-a)=m by omega];rfl
    rw[e,anE]
    refine al.eJ 4 6 (by kernel_rfl) ?_
    refine al.fJ (AF S R H d n a m j L x) (fun k=>k) (fun k=>j≤k∧k≤m-a) (m-a) (by kernel_rfl) ⟨hj,amX _⟩ ?_
    rintro k ⟨hk,jO⟩
    have fM:(cX (L.take a) (aL L a m) (L.drop (m+1)) x k).length=n:=by rw[FD (by omega),lT,lX,anA];omega
    apply aaC S R H d n (cX (L.take a) (aL L a m) (L.drop (m+1)) x k) ((a+j:Nat):Int) ((a+k:Nat):Int) pH fM
    case l4=>
     intro g
     have g:=of_decide_eq_false g
     have e:k=j:=by omega
     subst e
     with_reducible (repeat first|refine QL.ret ?_|refine QL.exit ?_|refine QB.ret ?_|refine QB.ci ?_|refine QB.normal ?_|refine QB.cu (by rfl) ?_)
     apply aap S R H d n (cX (L.take a) (aL L a m) (L.drop (m+1)) x k) pH fM
     ·
      refine QA.ret ?_
      refine aao S R H d n (cX (L.take a) (aL L a m) (L.drop (m+1)) x k) ⟨rfl,?_⟩
      rw[ZX fF (by omega) hx hX hs]
      rfl
    case l3=>
     intro g
     have g:=of_decide_eq_true g
     obtain⟨k',rfl⟩:∃k',k=k'+1:=⟨k-1,by omega⟩
     obtain⟨y,hy⟩:∃y,(aL L a m)[k']?=some y:=⟨_,amt (by omega)⟩
     have fD:(cX (L.take a) (aL L a m) (L.drop (m+1)) x (k'+1))[a+(k'+1)]?=some x:=by have:=FE (T:=L.take a) (D:=L.drop (m+1)) (x:=x) (S:=aL L a m) (j:=k'+1) (by omega);rw[lT]at this;exact this
     have gT:(cX (L.take a) (aL L a m) (L.drop (m+1)) x (k'+1))[a+k']?=some y:=by have:=M8 (T:=L.take a) (D:=L.drop (m+1)) (x:=x) (S:=aL L a m) (j:=k') (by omega);rw[lT,hy]at this;exact this
     have e1:0+amm (aml amA (((a+(k'+1):Nat):Int)-1))*1=a+k':=by rw[bG (by omega) (by omega)];omega
     apply aaD S R H d n (cX (L.take a) (aL L a m) (L.drop (m+1)) x (k'+1)) ((a+j:Nat):Int) ((a+(k'+1):Nat):Int) pH fM (by omega) (by omega) hL (bG (by omega) (by omega))
     case aW=>simp
     case be=>exact pH
     case n0=>rw[e1];exact(dK gT).2
     case n1=>rw[fL];exact(dK fD).2
     case n2=>
      rw[e1,fL,(dK gT).1,nj (by omega),xj,anU]
      exact am2 (by omega)
     case l5=>
      refine QL.to k' (by omega) (by omega) ?_
      unfold NK AF
      rw[e1,fL,(dK gT).1,(dK fD).1,nj (by omega),nj (by rw[anU];omega)]
      have:=M9 (T:=L.take a) (D:=L.drop (m+1)) (x:=x) (S:=aL L a m) (j:=k') (by omega) hy
      rw[lT]at this
      rw[this,bG (by omega) (by omega)]
      have:(((a+(k'+1):Nat):Int)-1)=((a+k':Nat):Int):=by omega
      rw[this]
      rfl
  case l3=>
   intro g
   have g:=of_decide_eq_true g
   have hm:(a+i+(a+j))/2=a+(i+j)/2:=by omega
   obtain⟨y,hy⟩:∃y,(aL L a m)[(i+j)/2]?=some y:=⟨_,amt (by omega)⟩
   have gT:L[a+(i+j)/2]?=some y:=by rw[xJ (by omega)]at hy;exact hy
   refine al.eJ 2 5 (by kernel_rfl) ?_
   apply aax S R H d n L m ((a+i:Nat):Int) ((a+j:Nat):Int) pH hn (by omega) (by omega) (by omega) (by omega) (bG (by omega) (by omega)) (by omega) (by omega) (by omega) (by omega) hL
   case n0=>rw[fL];exact(dK hx).2
   case n1=>rw[jS (by omega) (by omega)];exact decide_eq_true (by omega)
   case n2=>rw[jS (by omega) (by omega),asr];omega
   case n3=>rw[jS (by omega) (by omega),fL,hm];exact(dK gT).2
   case n4=>exact vg rfl
   case l8=>
    intro g1
    rw[jS (by omega) (by omega),fL,fL,hm,(dK gT).1,(dK hx).1]at g1
    have g1:fy (a7 S.aC) y x=true:=g1
    with_reducible (repeat first|refine QL.ret ?_|refine QL.exit ?_|refine QB.ret ?_|refine QB.ci ?_|refine QB.normal ?_|refine QB.cu (by rfl) ?_)
    refine al.done (by kernel_rfl) ?_
    refine QL.to ((i+j)/2+1,j) (hs.up fF hX (by omega) (by omega) hy g1) (by dsimp only;omega) ?_
    unfold NH xO
    rw[NN (by omega) (by omega),hm]
    rfl
   case l9=>
    intro g1
    rw[jS (by omega) (by omega),fL,fL,hm,(dK gT).1,(dK hx).1]at g1
    have g1:=of_decide_eq_true (show decide (a7 S.aC x y<0)=true by cases h:decide (a7 S.aC x y<0)with|true=>rfl|false=>rw[h]at g1;cases g1)
    with_reducible (repeat first|refine QL.ret ?_|refine QL.exit ?_|refine QB.ret ?_|refine QB.ci ?_|refine QB.normal ?_|refine QB.cu (by rfl) ?_)
    refine al.done (by kernel_rfl) ?_
    refine QL.to (i,(i+j)/2) (hs.down fF hX (by omega) (by omega) hy (pj.2 (fF.asym _ _ g1))) (by dsimp only;omega) ?_
    unfold NI xO
    rw[jS (by omega) (by omega),hm]
    rfl
end
end Go.Proofs.Ytnlkkgpcikkpoaa
namespace Go.Proofs.Ytnlkkgpcikkpoaa
open Go Vm Go.RowKit
set_option maxRecDepth 100000
section
variable (S:ad) (R:List Int) (H:List ap) (d:ay)
def tu(n a m b w q s r p:Nat)(L:List ByteArray):aj:=⟨[(0,fu n),(1,iZ a),(2,iZ m),(3,iZ b),(4,fK),(18,iZ w),(19,iZ q),(20,iZ s),(21,iZ r),(22,iZ p)],cF S R H d L⟩
theorem aa2(N:Nat)(hN:bp asz 111 (Sum.du asz (nk N)))(L:List ByteArray)(n a m b s:Nat)(hn:L.length=n)(hL:n≤1000000)(om:a<m)(oq:m<b)(hb:b≤n)(AG:b-a≤N+1)(alw:a+2≤b)
 (T:Ns (a7 S.aC) L a m b s ((a+b)/2) ((a+b)/2+m-s)):
 al asz 220 5 (ma.drop 11) ⟨[(0,fu n),(1,iZ a),(2,iZ m),(3,iZ b),(4,fK),(18,iZ ((a+b)/2)),(19,iZ ((a+b)/2+m)),(20,iZ s)],cF S R H d L⟩ (rD S R H d a b L):=by
 have pH:=aY H
 have fF:=vh S.aC
 obtain⟨h1,h2,h3,h4,hd,x1,x2,y1,y2,fin⟩:=T
 have he:(((a+b)/2+m:Nat):Int)-(s:Int)=(((a+b)/2+m-s:Nat):Int):=by omega
 generalize hE:(a+b)/2+m-s=e at*
 generalize hW:(a+b)/2=w at*
 have lR:(fV L s m e).length=n:=by rw[Z5 h2 h3 (by omega),hn]
 have lA:(bV (a7 S.aC) (fV L s m e) a w).length=n:=by rw[M7 (by omega) (by omega),lR]
 have hO:∀M:List ByteArray,M.length=n→ig [ai.cells (ao M) 9 false,ai.cells (aQ S 2 0 3 4) 64 false,ai.abs d,ai.cells (aq R) 3 false,ai.cells (ak H) 144 false] n=true:=fun M hM=>vi (S:=S) (R:=R) (H:=H) (d:=d) (L:=M) rfl hM hL
 have last:∀M:List ByteArray,M=bV (a7 S.aC) L a b→rD S R H d a b L .normal ⟨[],cF S R H d M⟩:=fun M hM=>by
  rw[hM]
  exact aH.normal (vs:=[]) (l:=[]) (bs:=[0,1,2,3,4]) (pl:=[0,3,4]) (q:=[ao (bV (a7 S.aC) L a b),aq R,ak H]) (fun u=>by kernel_rfl) (by kernel_rfl) (aE (by simp) (aE (by simp) (aE pH bd))) ⟨rfl,rfl⟩
 have t3:al asz 220 5 (ma.drop 16) ⟨[(0,fu n),(3,iZ b),(4,fK),(18,iZ w),(24,iZ e)],cF S R H d (bV (a7 S.aC) (fV L s m e) a w)⟩ (rD S R H d a b L):=by
  generalize bV (a7 S.aC) (fV L s m e) a w=M at*
  have fW:(w=e∨e=b)→M=bV (a7 S.aC) L a b:=fun h=>by rw[←fin,Nu fF (by omega) (by omega) h y1 y2]
  apply aaY N S R H d n M b w e hN pH lA
  case n0=>
   intro g1 g2
   have g1:=of_decide_eq_true g1
   have g2:=of_decide_eq_true g2
   rw[hO M lA,ie,xK.2 ⟨by omega,g1,g2,by omega,by omega,y1,y2⟩]
   simp only[anw,aoe]
  case l3=>
   intro g1 g2
   have e5:Gf N S R H d n M b w e=⟨[],cF S R H d (bV (a7 S.aC) M w b)⟩:=by
    unfold Gf;rw[ie];rfl
   rw[e5]
   exact last _ fin
  case l5=>
   intro g1 g2
   have g2:=of_decide_eq_false g2
   exact last M (fW (.inr (by omega)))
  case l6=>
   intro g1
   have g1:=of_decide_eq_false g1
   exact last M (fW (.inl (by omega)))
 have t2:al asz 220 5 (ma.drop 14) ⟨[(0,fu n),(1,iZ a),(3,iZ b),(4,fK),(18,iZ w),(20,iZ s),(24,iZ e)],cF S R H d (fV L s m e)⟩ (rD S R H d a b L):=by
  generalize fV L s m e=M at*
  have fW:(a=s∨s=w)→bV (a7 S.aC) M a w=M:=fun h=>Nu fF (by omega) (by omega) h x1 x2
  apply aaU N S R H d n M a b w s e hN pH lR
  case n0=>
   intro g1 g2
   have g1:=of_decide_eq_true g1
   have g2:=of_decide_eq_true g2
   rw[hO M lR,ie,xK.2 ⟨by omega,g1,g2,by omega,by omega,x1,x2⟩]
   simp only[anw,aoe]
  case l3=>
   intro g1 g2
   have e5:Ge N S R H d n M a b w s e=⟨[(0,fu n),(3,iZ b),(4,fK),(18,iZ w),(24,iZ e)],cF S R H d (bV (a7 S.aC) M a w)⟩:=by
    unfold Ge;rw[ie];rfl
   rw[e5,anE]
   exact t3
  case l5=>
   intro g1 g2
   have g2:=of_decide_eq_false g2
   rw[fW (.inr (by omega))]at t3
   rw[anE]
   exact t3
  case l6=>
   intro g1
   have g1:=of_decide_eq_false g1
   rw[fW (.inl (by omega))]at t3
   rw[anE]
   exact t3
 have fW:(s=m∨m=e)→fV L s m e=L:=fun h=>Z1 h2 h3 h
 have Gg:(.int .i64 (aml amA (((w+m:Nat):Int)-(s:Int))):amn)=iZ e:=by rw[he,mC (by omega) (by omega)];rfl
 apply aaQ N S R H d n L a m b w ((w+m:Nat):Int) s hN pH hn (by omega) (by omega) (by omega) (by omega) (bG (by omega) (by omega))
 case n0=>
  intro g1 g2
  have g1:=of_decide_eq_true g1
  rw[bG (by omega) (by omega),he]at g2⊢
  have g2:=of_decide_eq_true g2
  rw[hO L hn]
  simp only[anw,aoZ,amB,decide_eq_true_eq]
  omega
 case l3=>
  intro g1 g2
  have e5:Gb N S R H d n L a m b w ((w+m:Nat):Int) s=⟨[(0,fu n),(1,iZ a),(3,iZ b),(4,fK),(18,iZ w),(20,iZ s),(24,iZ e)],cF S R H d (fV L s m e)⟩:=by
   unfold Gb;rw[ie,Gg,he,mC (by omega) (by omega)];rfl
  rw[e5,anE]
  exact t2
 case l5=>
  intro g1 g2
  rw[bG (by omega) (by omega),he]at g2
  have g2:=of_decide_eq_false g2
  have e5:Gc N S R H d n L a m b w ((w+m:Nat):Int) s=⟨[(0,fu n),(1,iZ a),(3,iZ b),(4,fK),(18,iZ w),(20,iZ s),(24,iZ e)],cF S R H d L⟩:=by
   unfold Gc;rw[Gg];rfl
  rw[fW (.inr (by omega))]at t2
  rw[e5,anE]
  exact t2
 case l6=>
  intro g1
  have g1:=of_decide_eq_false g1
  have e5:Gd N S R H d n L a m b w ((w+m:Nat):Int) s=⟨[(0,fu n),(1,iZ a),(3,iZ b),(4,fK),(18,iZ w),(20,iZ s),(24,iZ e)],cF S R H d L⟩:=by
   unfold Gd;rw[Gg];rfl
  rw[fW (.inl (by omega))]at t2
  rw[e5,anE]
  exact t2
end
end Go.Proofs.Ytnlkkgpcikkpoaa
