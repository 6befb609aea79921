/- Part of the proof: So4, So5, StU, So6, So7, So8, StV, So9, Sma, App, Smb, Smc, Smd, Sme. -/
import Derived.Test.YtnlkkgpcikkpoaaGreatJAg
import Derived.KernelRfl
import Derived.Test.YtnlkkgpcikkpoaaGreatJAe
open Array renaming toArray_toList->asB
open Bool renaming and_eq_true->BV,and_self->atn,true_and->at2
open Classical renaming propDecidable->arT
open Go renaming Code->ar3,Value->Dy
open Go.IntKind renaming i64->Ul,u64->ar9,wrap->m6
open Go.Proofs.Tryz renaming prog->fK
open Go.Value renaming int->KJ,string->arS
open Int renaming eq_ofNat_of_zero_le->asV,fdiv->asJ,toNat->m5
open List renaming all->DC,append_assoc->arI,cons_append->as5,drop_drop->asI,drop_length->avu,getElem?_append_right->asd,getElem?_drop->asH,getElem?_eq_getElem->KH,getElem?_eq_some_iff->KP,length->nG,length_append->KO,length_cons->ar4,length_drop->ass,length_set->asU,length_take->asj,mem_append->arL,nil_append->asK,pairwise_append->auM,perm_append_comm->avz,take_append_drop->asD,take_length->avt,take_zero->aum
open Nat renaming beq->arE,beq_refl->asx,ble->arM,ble_eq_true_of_le->arZ,blt->arF,blt_eq->awT,eq_of_beq_eq_true->arJ,le_refl->arO,sub_self->atY,zero_le->asb
open Option.some renaming injEq->DE
open Prod.mk renaming injEq->KN
set_option linter.unusedVariables false
set_option linter.unusedSimpArgs false
set_option maxRecDepth 100000
namespace Go.Proofs.YtnlkkgpcikkpoaaGreat
open Go Vm Go.RowKit
def gh(n:Nat):Dy:=.slice (some ⟨0,0,none⟩) n n
def gN:Dy:=.func (.func 74) #[.pointer (some ⟨1,0,none⟩)] #[]
def iZ(k:Nat):Dy:=.int .i64 k
def da(S:ad)(R:List Int)(H:List au)(d:aA)(L:List ByteArray):List ak:=[.cells (ah L) 9 false,.cells (aL S 2 0 3 4) 89 false,.abs d,.cells (ay R) 3 false,.cells (an H) 114 false]
theorem fP{k:Nat}(h:k<1000000000):(.int .i64 (m6 Ul ((k:Int)+1)):Dy)=iZ (k+1):=by
 rw[nX (by omega) (by omega)];rfl
theorem bK{z:Int}(h: -1000000000<=z)(h2:z<1000000000):m6 Ul z=z:=nX (by omega) (by omega)
theorem eh{L:List ByteArray}{k:Nat}{x:ByteArray}(h:L[k]?=some x):aR (ah L) k=x/\dY (ah L) k=true:=by
 have:(ah L)[k]?=some (.string x):=by unfold ah;rw[List.getElem?_map,h];rfl
 exact⟨by unfold aR;rw[this],by unfold dY;rw[this]⟩
theorem oV{L:List ByteArray}{k:Nat}{x:ByteArray}(h:k<L.length):bc (ah L) k [arS x]=ah (L.set k x):=by
 unfold bc ah
 rw[List.map_set,List.set_eq_take_append_cons_drop,if_pos (by rw[List.length_map];exact h)]
 simp
theorem gO{x:Nat}:0+m5 (x:Int)*1=x:=by simp
section
variable (S:ad) (R:List Int) (H:List au) (d:aA)
def zg(n a z:Nat)(L:List ByteArray)(i:Nat):ai:=⟨[(0,gh n),(1,iZ a),(2,iZ z),(3,gN),(8,iZ i)],da S R H d (b9 (aN S.aC) L a i)⟩
def Cg(n a z i:Nat)(T X D:List ByteArray)(x:ByteArray)(j:Nat):ai:=⟨[(0,gh n),(1,iZ a),(2,iZ z),(3,gN),(8,iZ i),(9,iZ (a+j))],da S R H d (dF T X D x j)⟩
structure ac4(c:ByteArray->ByteArray->Int)(X:List ByteArray)(x:ByteArray)(j:Nat):Prop where
 h1:j<=X.length
 h2:∀k y,j<=k->X[k]?=some y->gg c x y=true
theorem ac5(L:List ByteArray)(n a z:Nat)(hn:L.length=n)(hL:n<=1000000)(aqq:a<=z)(hz:z<=n):
 aF fK 121 [gh n,iZ a,iZ z,gN] (da S R H d L) λr o=>r=.ret (.tuple #[])/\o=da S R H d (b9 (aN S.aC) L a z):=by
 have pH:=aZ H
 have fQ:=og S.aC
 have hlen:∀i,a<=i->i<=n->(b9 (aN S.aC) L a i).length=n:=λi h1 h2=>by rw[PT h1 (by omega),hn]
 have h1:b9 (aN S.aC) L a (a+1)=L:=by
  have:bb (aN S.aC) (aM L a (a+1))=aM L a (a+1):=H0 fQ (by
   unfold aM
   rw[show a+1-a=1 by omega]
   cases L.drop a with
   |nil=>exact .nil
   |cons y l=>exact List.pairwise_singleton _ _)
  unfold b9
  rw[this]
  exact(th L (Nat.le_succ a)).symm
 have h0:b9 (aN S.aC) L a a=L:=by
  unfold b9
  have:aM L a a=[]:=by unfold aM;rw[atY,aum]
  rw[this]
  show L.take a++(bb _ []++L.drop a)=L
  rw[H0 fQ .nil,asK,asD]
 refine aF.dv (n:=cp fK 121) (by kernel_rfl) ?_
 apply acU S R H d n L a z pH hn (bK (by omega) (by omega))
 ·
  have e:H8 S R H d n L a z=zg S R H d n a z L (a+1):=by unfold H8 zg;rw[h1,fP (by omega)];rfl
  rw[e]
  refine ao.eX 1 0 (by kernel_rfl) ?_
  refine ao.gu (zg S R H d n a z L) (λi=>z-i) (λi=>a+1<=i/\(i<=z\/i=a+1)) (a+1) (by kernel_rfl) ⟨arO _,.inr rfl⟩ ?_
  rintro i ⟨hi,wB⟩
  have gP:(b9 (aN S.aC) L a i).length=n:=by
   rcases wB with h|rfl
   ·exact hlen i (by omega) (by omega)
   ·rw[h1];exact hn
  apply acX S R H d n (b9 (aN S.aC) L a i) a z i pH gP
  case l4=>
   intro g
   have g:=of_decide_eq_false g
   have he:b9 (aN S.aC) L a i=b9 (aN S.aC) L a z:=by
    rcases wB with h|h
    ·rw[show i=z by omega]
    ·by_cases ez:z=a
     ·subst ez;rw[h,h1,h0]
     ·rw[show i=z by omega]
   with_reducible (repeat first|refine QL.ret ?_|refine QL.exit ?_|refine QB.ret ?_|refine QB.cw ?_|refine QB.normal ?_|refine QB.cJ (by rfl) ?_)
   refine ao.done (by kernel_rfl) ?_
   refine aG.normal (vs:=[]) (l:=[]) (bs:=[0,1,2,3,4]) (pl:=[0,3,4]) (q:=[ah (b9 (aN S.aC) L a i),ay R,an H]) (λu=>by kernel_rfl) (by kernel_rfl) (aD (by simp) (aD (by simp) (aD pH be))) ⟨rfl,by rw[<-he]⟩
  case l3=>
   intro g
   have g:=of_decide_eq_true g
   have gl:i<L.length:=by omega
   obtain⟨x,hx⟩:∃x,L[i]?=some x:=⟨_,KH gl⟩
   have hT:(L.take a).length=a:=by rw[asj];omega
   have hX:(bb (aN S.aC) (aM L a i)).length=i-a:=by rw[lG,jS (by omega) (by omega)]
   have hM:b9 (aN S.aC) L a i=dF (L.take a) (bb (aN S.aC) (aM L a i)) (L.drop (i+1)) x (i-a):=by
    unfold b9 dF
    rw[<-hX,avt,avu,(qA hx).2,asK]
   refine ao.eX 2 1 (by kernel_rfl) ?_
   apply acY S R H d n (b9 (aN S.aC) L a i) a z i pH gP
   ·
    have e:Ia S R H d n (b9 (aN S.aC) L a i) a z i=Cg S R H d n a z i (L.take a) (bb (aN S.aC) (aM L a i)) (L.drop (i+1)) x (i-a):=by
     unfold Ia Cg;rw[hM,show a+(i-a)=i by omega];rfl
    rw[e]
    refine ao.eX 1 2 (by kernel_rfl) ?_
    refine ao.gu (Cg S R H d n a z i (L.take a) (bb (aN S.aC) (aM L a i)) (L.drop (i+1)) x) (λj=>j) (ac4 (aN S.aC) (bb (aN S.aC) (aM L a i)) x) (i-a) (by kernel_rfl) ⟨by omega,λk y hk hy=>by have:=(KP.1 hy).1;omega⟩ ?_
    intro j hj
    have Ib:=hj.h1
    have oF:(dF (L.take a) (bb (aN S.aC) (aM L a i)) (L.drop (i+1)) x j).length=n:=by rw[H4 Ib,hT,hX,ass];omega
    have nT:(∀k y,k<j->(bb (aN S.aC) (aM L a i))[k]?=some y->gg (aN S.aC) y x=true)->dF (L.take a) (bb (aN S.aC) (aM L a i)) (L.drop (i+1)) x j=b9 (aN S.aC) L a (i+1):=λhb=>by
     have:=PW fQ (ny fQ (aM L a i)) Ib hb hj.h2
     unfold b9 dF
     have e2:bb (aN S.aC) (aM L a (i+1))=bb (aN S.aC) (bb (aN S.aC) (aM L a i)++[x]):=by
      refine ze fQ ?_
      rw[oe L (m:=i) (by omega) (by omega)]
      have:aM L i (i+1)=[x]:=by unfold aM;rw[show i+1-i=1 by omega,(qA hx).2];rfl
      rw[this]
      exact(ib _).symm.append_right _
     rw[e2,<-this]
     simp only[arI,as5]
    have A6:∀M,M.length=n->M=b9 (aN S.aC) L a (i+1)->ao fK 53 5 ((a7 (inner (a7 (inner (zf.drop 1))))).drop 3) ⟨[(0,gh n),(1,iZ a),(2,iZ z),(3,gN),(8,iZ i)],da S R H d M⟩ (QL (zg S R H d n a z L) (λi=>z-i) (λi=>a+1<=i/\(i<=z\/i=a+1)) i λx d'=>QB 0 (λd'=>ao fK 53 5 (zf.drop 2) d' (aG fK 121 (cp fK 121) (da S R H d L).length λr o=>r=.ret (.tuple #[])/\o=da S R H d (b9 (aN S.aC) L a z))) (aG fK 121 (cp fK 121) (da S R H d L).length λr o=>r=.ret (.tuple #[])/\o=da S R H d (b9 (aN S.aC) L a z)) x d'):=λM ac6 ac7=>by
     apply ac3 S R H d n M a z i pH ac6 (bK (by omega) (by omega))
     ·exact QL.to (i+1) ⟨by omega,.inl (by omega)⟩ (by omega) (by unfold P2 zg;rw[fP (by omega),ac7];rfl)
    have gq:(dF (L.take a) (bb (aN S.aC) (aM L a i)) (L.drop (i+1)) x j)[a+j]?=some x:=by have:=H5 (T:=L.take a) (D:=L.drop (i+1)) (x:=x) Ib;rw[hT]at this;exact this
    apply ac2 S R H d n (dF (L.take a) (bb (aN S.aC) (aM L a i)) (L.drop (i+1)) x j) a z i ((a+j:Nat):Int) pH oF (by omega) (by omega) (by omega) hL (bK (by omega) (by omega))
    case aY=>simp
    case bh=>exact pH
    case bT=>simp
    case n0=>intro g;rw[gO];exact(eh gq).2
    case n2=>intro g;exact wZ rfl
    case l9=>
     intro g
     have g:=of_decide_eq_false g
     have uc:j=0:=by omega
     with_reducible (repeat first|refine QL.ret ?_|refine QL.exit ?_|refine QB.ret ?_|refine QB.cw ?_|refine QB.normal ?_|refine QB.cJ (by rfl) ?_)
     refine ao.done (by kernel_rfl) ?_
     with_reducible (repeat first|refine QL.ret ?_|refine QL.exit ?_|refine QB.ret ?_|refine QB.cw ?_|refine QB.normal ?_|refine QB.cJ (by rfl) ?_)
     exact A6 _ oF (nT λk y hk _=>by omega)
    all_goals
     intro g
     have g:=of_decide_eq_true g
     obtain⟨j',rfl⟩:∃j',j=j'+1:=⟨j-1,by omega⟩
     obtain⟨y,hy⟩:∃y,(bb (aN S.aC) (aM L a i))[j']?=some y:=⟨_,KH (by omega)⟩
     have iK:(dF (L.take a) (bb (aN S.aC) (aM L a i)) (L.drop (i+1)) x (j'+1))[a+j']?=some y:=by have:=PU (T:=L.take a) (D:=L.drop (i+1)) (x:=x) (S:=bb (aN S.aC) (aM L a i)) (j:=j') (by omega);rw[hT,hy]at this;exact this
     have e1:0+m5 (m6 Ul (((a+(j'+1):Nat):Int)-1))*1=a+j':=by rw[bK (by omega) (by omega)];omega
    case n1=>rw[e1];exact(eh iK).2
    case n3=>
     intro g1
     rw[e1,gO,(eh iK).1,oV (by omega),yS,asU]
     exact arZ (by omega)
    case l6=>
     intro g1
     rw[e1,gO,(eh iK).1,(eh gq).1]at g1
     have g1:=of_decide_eq_true g1
     refine QL.to j' ⟨by omega,λk u hk hu=>?_⟩ (by omega) ?_
     ·by_cases e:k=j'
      ·subst e;rw[hy]at hu;cases hu;rw[oT];exact fQ.asym _ _ g1
      ·exact hj.h2 k u (by omega) hu
     ·unfold P1 Cg
      rw[e1,gO,(eh iK).1,(eh gq).1,oV (by omega),oV (by rw[asU];omega)]
      have:=PV (T:=L.take a) (D:=L.drop (i+1)) (x:=x) (S:=bb (aN S.aC) (aM L a i)) (j:=j') (by omega) hy
      rw[hT]at this
      rw[this,bK (by omega) (by omega)]
      have:(((a+(j'+1):Nat):Int)-1)=((a+j':Nat):Int):=by omega
      rw[this]
      rfl
    case l8=>
     intro g1
     rw[e1,gO,(eh iK).1,(eh gq).1]at g1
     have g1:=of_decide_eq_false g1
     with_reducible (repeat first|refine QL.ret ?_|refine QL.exit ?_|refine QB.ret ?_|refine QB.cw ?_|refine QB.normal ?_|refine QB.cJ (by rfl) ?_)
     refine ao.done (by kernel_rfl) ?_
     with_reducible (repeat first|refine QL.ret ?_|refine QL.exit ?_|refine QB.ret ?_|refine QB.cw ?_|refine QB.normal ?_|refine QB.cJ (by rfl) ?_)
     refine A6 _ oF (nT λk u hk hu=>?_)
     refine fQ.le_trans (Cd (ny fQ _) fQ (show k<=j' by omega) hu hy) ?_
     rw[oT];exact g1
end
end Go.Proofs.YtnlkkgpcikkpoaaGreat
namespace Go.Proofs.YtnlkkgpcikkpoaaGreat
open Go Vm Go.RowKit
noncomputable section
def Ic:List ar3:=a7 (dI fK 139)
open Tree renaming aQ->mN,dE->mF,fj->mL,fY->mQ,dN->mR,gH->mE
abbrev ac8:List ar3:=(a7 (inner (a7 (inner (Ic.drop 1)))))
abbrev Ch:=λS R H d L=>([ab (ah L) 9,ab (aL S 2 0 3 4) 89,.abs d,ab (ay R) 3,ab (an H) 114]:List ak)
abbrev Ie:=λS R H d (n:Nat) L (a b k:Int)=>(⟨[(0,aq 0 n),(1,aa a),(2,aa b),(3,aa k),(10,aa 0)],Ch S R H d L⟩:ai)
abbrev ac9:=λS R H d (n:Nat) L (a b k:Int)=>(⟨[(0,aq 0 n),(1,aa a),(2,aa b),(3,aa k),(4,.func (.func 74) #[ap 1] #[])],Ch S R H d L⟩:ai)
theorem ada(S R H d)(n:Nat)(L)(a b k:Int)(pH:(an H).all ag=true)(hn:(nG L)=n){Q:aU}(l3:ao fK 38 5 (Ic.drop 1) (Ie S R H d n L a b k) Q):ao fK 38 5 Ic (ac9 S R H d n L a b k) Q:=
 aV bp 1 (.leaf [0,1,2,3,10] [0,1,2,3,4] [0,3,4]) (λu=>by kernel_rfl) (aO L R H (mQ l3))
abbrev P3:=λS R H d (n:Nat) L (a b k i:Int)=>(⟨[(0,aq 0 n),(1,aa a),(2,aa b),(3,aa k),(10,.int .i64 (m6 .i64 (i+1)))],[ab (bc (bc (ah L) (0+m5 (m6 .i64 (a+i))*1) [arS (aR (ah L) (0+m5 (m6 .i64 (b+i))*1))]) (0+m5 (m6 .i64 (b+i))*1) [arS (aR (ah L) (0+m5 (m6 .i64 (a+i))*1))]) 9,ab (aL S 2 0 3 4) 89,.abs d,ab (ay R) 3,ab (an H) 114]⟩:ai)
abbrev adb(S:ad)(R:List Int)(H:List au)(d:aA)(n:Nat)(L:List ByteArray)(a b k i:Int):ai:=⟨[],Ch S R H d L⟩
abbrev ade:=λS R H d (n:Nat) L (a b k i:Int)=>(⟨[(0,aq 0 n),(1,aa a),(2,aa b),(3,aa k),(10,aa i)],Ch S R H d L⟩:ai)
theorem adf(S R H d)(n:Nat)(L)(a b k i:Int)(pH:(an H).all ag=true)(hn:(nG L)=n)(h0:0<=i)(ha:0<=a)(j5:a+k<=b)(hb:b+k<=n)(hL:n<=1000000)(fV:m6 .i64 (a+i)=a+i)(dg:m6 .i64 (b+i)=b+i)(oh:m6 .i64 (i+1)=i+1){Q:aU}(n0:(decide (i<k))->(dY (ah L) (0+m5 (m6 .i64 (b+i))*1)))(n1:(decide (i<k))->(dY (ah L) (0+m5 (m6 .i64 (a+i))*1)))(n2:(decide (i<k))->(arM (0+m5 (m6 .i64 (b+i))*1+1) (nG (bc (ah L) (0+m5 (m6 .i64 (a+i))*1) [arS (aR (ah L) (0+m5 (m6 .i64 (b+i))*1))]))))(aY:DC (ay R) ag)(bh:DC (an H) ag)(l5:(decide (i<k))->Q .normal (P3 S R H d n L a b k i))(bT:DC (ah L) ag)(l7:(decide (i<k))=false->Q (.exit 0) (adb S R H d n L a b k i)):ao fK 38 5 ac8 (ade S R H d n L a b k i) Q:=
 aV bp 1000 (.fork 0 (aB [0,1,1,0,1,0,1,1,0,1,0,1,1,0,1,0,1,1,0,1] (.leaf [0,1,2,3,10] [0,1,2,3,4] [0,3,4])) (.leaf [] [0,1,2,3,4] [0,3,4])) (λu=>by kernel_rfl) (mF (c:=decide (i<k)) (λh0=>(mN (show(decide (0<=m6 .i64 (b+i)))=true by simp at pH hn h0 ha j5 hb hL fV dg oh h0⊢ <;>omega) (mN (show(arF (m5 (m6 .i64 (b+i))) n)=true by simp at pH hn h0 ha j5 hb hL fV dg oh h0⊢ <;>omega) (mN (n0 h0) (mN (decide_eq_true (by omega):(decide (0<=m6 .i64 (a+i)))=true) (mN (show(arF (m5 (m6 .i64 (a+i))) n)=true by simp at pH hn h0 ha j5 hb hL fV dg oh h0⊢ <;>omega) (mN (n1 h0) (mN (decide_eq_true (by omega):(decide (0<=m6 .i64 (a+i)))=true) (mN (show(arF (m5 (m6 .i64 (a+i))) n)=true by simp at pH hn h0 ha j5 hb hL fV dg oh h0⊢ <;>omega) (mN (show(arM (0+m5 (m6 .i64 (a+i))*1+1) (nG (ah L)))=true by simp at pH hn h0 ha j5 hb hL fV dg oh h0⊢ <;>omega) (mN (show(decide (0<=m6 .i64 (b+i)))=true by simp at pH hn h0 ha j5 hb hL fV dg oh h0⊢ <;>omega) (mN (show(arF (m5 (m6 .i64 (b+i))) n)=true by simp at pH hn h0 ha j5 hb hL fV dg oh h0⊢ <;>omega) (mN (n2 h0) (mN (show(DC (bc (bc (ah L) (0+m5 (m6 .i64 (a+i))*1) [arS (aR (ah L) (0+m5 (m6 .i64 (b+i))*1))]) (0+m5 (m6 .i64 (b+i))*1) [arS (aR (ah L) (0+m5 (m6 .i64 (a+i))*1))]) ag)=true by simp) (mN (aS R) (mN (aZ H) (mQ (ao.done (by kernel_rfl) (l5 h0))))))))))))))))))) (λh0=>(aO L R H (mE 0 (l7 h0)))))
end
end Go.Proofs.YtnlkkgpcikkpoaaGreat
namespace Go.Proofs.YtnlkkgpcikkpoaaGreat
section
variable {α:Type} {c:α->α->Int}
def fI(L:List α)(a b k:Nat):List α:=L.take a++(aM L b (b+k)++(aM L (a+k) b++(aM L a (a+k)++L.drop (b+k))))
def gZ(L:List α)(a m b:Nat):List α:=L.take a++(aM L m b++(aM L a m++L.drop b))
theorem Ig{T X Z Y D:List α}{a b k:Nat}(h1:T.length=a)(h2:X.length=k)(h3:Z.length=b-(a+k))(h4:Y.length=k)(h5:a+k<=b):fI (T++(X++(Z++(Y++D)))) a b k=T++(Y++(Z++(X++D))):=by
 have e1:aM (T++(X++(Z++(Y++D)))) a (a+k)=X:=oU h1 (by omega)
 have e2:aM (T++(X++(Z++(Y++D)))) (a+k) b=Z:=by
  rw[<-arI];exact oU (by rw[KO];omega) (by omega)
 have e3:aM (T++(X++(Z++(Y++D)))) b (b+k)=Y:=by
  rw[<-arI,<-arI];exact oU (by rw[KO,KO];omega) (by omega)
 have e4:(T++(X++(Z++(Y++D)))).drop (b+k)=D:=by
  rw[<-arI,<-arI,<-arI];exact H3 (by simp only[KO];omega)
 unfold fI
 rw[e1,e2,e3,e4,H2 h1]
theorem adg{L:List α}{a b k:Nat}(h1:a+k<=b)(h2:b+k<=L.length):L=L.take a++(aM L a (a+k)++(aM L (a+k) b++(aM L b (b+k)++L.drop (b+k)))):=by
 conv=>lhs;rw[th L (show a<=b+k by omega),oe L (m:=a+k) (by omega) (by omega),oe L (a:=a+k) (m:=b) (by omega) (by omega)]
 simp only[arI]
theorem adh{L:List α}{a b k:Nat}(h1:a+k<=b)(h2:b+k<=L.length):(fI L a b k).length=L.length:=by
 unfold fI
 simp only[KO]
 rw[jS (by omega) (by omega),jS (by omega) (by omega),jS (by omega) (by omega),asj,ass]
 omega
theorem adi(L:List α){a b:Nat}(h:a<=b)(h2:b<=L.length):fI L a b 0=L:=by
 have:=adg (L:=L) (a:=a) (b:=b) (k:=0) (by omega) (by omega)
 have e0:∀x,aM L x (x+0)=[]:=λx=>by unfold aM;rw[show x+0-x=0 by omega,aum]
 unfold fI
 rw[e0,e0]at*
 exact this.symm
theorem Ci{P W:List α}{u v:α}{n:Nat}(h:P.length=n):(P++u::W).set n v=P++v::W:=by
 subst h
 rw[List.set_append_right _ _ (by omega),atY];rfl
theorem P4{P W:List α}{u:α}{n:Nat}(h:P.length=n):(P++u::W)[n]?=some u:=by
 subst h
 rw[asd (by omega),atY];rfl
theorem Cj{L:List α}{a i:Nat}{x:α}(h:a<=i)(hx:L[i]?=some x):aM L a (i+1)=aM L a i++[x]:=by
 rw[oe L (m:=i) h (by omega)]
 have:aM L i (i+1)=[x]:=by unfold aM;rw[show i+1-i=1 by omega,(qA hx).2];rfl
 rw[this]
theorem adj{L:List α}{a b:Nat}{x:α}(h:a<b)(hx:L[a]?=some x):aM L a b=x::aM L (a+1) b:=by
 unfold aM
 rw[(qA hx).2,show b-a=(b-(a+1))+1 by omega,List.take_succ_cons]
theorem adk{L:List α}{a b i:Nat}{x y:α}(h1:a+(i+1)<=b)(h2:b+(i+1)<=L.length)(hx:L[a+i]?=some x)(hy:L[b+i]?=some y):
 (fI L a b i)[a+i]?=some x/\(fI L a b i)[b+i]?=some y/\((fI L a b i).set (a+i) y).set (b+i) x=fI L a b (i+1):=by
 have lT:(L.take a).length=a:=by rw[asj];omega
 have l1:(aM L b (b+i)).length=i:=by rw[jS (by omega) (by omega)];omega
 have l2:(aM L (a+i+1) b).length=b-(a+i+1):=jS (by omega) (by omega)
 have l3:(aM L a (a+i)).length=i:=by rw[jS (by omega) (by omega)];omega
 have e0:fI L a b i=(L.take a++aM L b (b+i))++x::(aM L (a+i+1) b++(aM L a (a+i)++y::L.drop (b+i+1))):=by
  unfold fI
  rw[adj (a:=a+i) (by omega) hx,(qA hy).2]
  simp only[arI,as5]
 have adl:fI L a b i=(L.take a++aM L b (b+i)++x::(aM L (a+i+1) b++aM L a (a+i)))++y::L.drop (b+i+1):=by
  rw[e0];simp only[arI,as5]
 have e1:fI L a b (i+1)=(L.take a++aM L b (b+i)++y::(aM L (a+i+1) b++aM L a (a+i)))++x::L.drop (b+i+1):=by
  unfold fI
  rw[show b+(i+1)=b+i+1 by omega,show a+(i+1)=a+i+1 by omega,Cj (a:=b) (i:=b+i) (by omega) hy,Cj (a:=a) (i:=a+i) (by omega) hx]
  simp only[arI,as5,asK]
 refine⟨by rw[e0];exact P4 (by rw[KO];omega),by rw[adl];exact P4 (by simp only[KO,ar4];omega),?_⟩
 rw[e0,Ci (by rw[KO];omega),e1]
 have:L.take a++aM L b (b+i)++y::(aM L (a+i+1) b++(aM L a (a+i)++y::L.drop (b+i+1)))=(L.take a++aM L b (b+i)++y::(aM L (a+i+1) b++aM L a (a+i)))++y::L.drop (b+i+1):=by
  simp only[arI,as5]
 rw[this,Ci (by simp only[KO,ar4];omega)]
structure nz(L:List α)(a m b i j:Nat)(M:List α):Prop where
 it:∃P U V Q,M=L.take a++(P++(U++(V++(Q++L.drop b))))/\U.length=i/\V.length=j/\a+P.length+i=m/\aM L m b++aM L a m=P++(V++(U++Q))
 i0:0<i
 j0:0<j
theorem nz.start{L:List α}{a m b:Nat}(h1:a<m)(h2:m<b)(h3:b<=L.length):nz L a m b (m-a) (b-m) L:=
 ⟨⟨[],aM L a m,aM L m b,[],by
  conv=>lhs;rw[th L (show a<=b by omega),oe L (m:=m) (by omega) (by omega)]
  simp only[arI,asK],jS (by omega) (by omega),jS (by omega) h3,by simp;omega,by simp⟩,by omega,by omega⟩
theorem nz.left{L M:List α}{a m b i j:Nat}(h:nz L a m b i j M)(ha:a<=L.length)(iX:j<i):nz L a m b (i-j) j (fI M (m-i) m j)/\m-i+j<=m/\m+j<=M.length:=by
 obtain⟨⟨P,U,V,Q,rfl,hU,hV,hP,hW⟩,hi,hj⟩:=h
 have lT:(L.take a).length=a:=by rw[asj];omega
 have P5:(U.take j).length=j:=by rw[asj];omega
 have adm:(U.drop j).length=i-j:=by rw[ass];omega
 refine⟨⟨⟨P++V,U.drop j,U.take j,Q,?_,adm,P5,by rw[KO];omega,?_⟩,by omega,hj⟩,by omega,?_⟩
 ·have:L.take a++(P++(U++(V++(Q++L.drop b))))=(L.take a++P)++(U.take j++(U.drop j++(V++(Q++L.drop b)))):=by
   conv=>lhs;rw[<-asD j U]
   simp only[arI]
  rw[this,Ig (by rw[KO];omega) P5 (by omega) hV (by omega)]
  simp only[arI]
 ·rw[hW]
  conv=>lhs;rw[<-asD j U]
  simp only[arI]
 ·simp only[KO];omega
theorem nz.right{L M:List α}{a m b i j:Nat}(h:nz L a m b i j M)(ha:a<=L.length)(iX:i<j):nz L a m b i (j-i) (fI M (m-i) (m+j-i) i)/\m-i+i<=m+j-i/\m+j-i+i<=M.length:=by
 obtain⟨⟨P,U,V,Q,rfl,hU,hV,hP,hW⟩,hi,hj⟩:=h
 have lT:(L.take a).length=a:=by rw[asj];omega
 have adn:(V.take (j-i)).length=j-i:=by rw[asj];omega
 have P6:(V.drop (j-i)).length=i:=by rw[ass];omega
 refine⟨⟨⟨P,V.drop (j-i),V.take (j-i),U++Q,?_,P6,adn,by omega,?_⟩,hi,by omega⟩,by omega,?_⟩
 ·have:L.take a++(P++(U++(V++(Q++L.drop b))))=(L.take a++P)++(U++(V.take (j-i)++(V.drop (j-i)++(Q++L.drop b)))):=by
   conv=>lhs;rw[<-asD (j-i) V]
   simp only[arI]
  rw[this,Ig (by rw[KO];omega) hU (by omega) P6 (by omega)]
  simp only[arI]
 ·rw[hW]
  conv=>lhs;rw[<-asD (j-i) V]
  simp only[arI]
 ·simp only[KO];omega
theorem nz.done{L M:List α}{a m b i:Nat}(h:nz L a m b i i M)(ha:a<=L.length):fI M (m-i) m i=gZ L a m b/\m-i+i<=m/\m+i<=M.length/\i<=m:=by
 obtain⟨⟨P,U,V,Q,rfl,hU,hV,hP,hW⟩,hi,hj⟩:=h
 have lT:(L.take a).length=a:=by rw[asj];omega
 refine⟨?_,by omega,by simp only[KO];omega,by omega⟩
 have:=Ig (T:=L.take a++P) (X:=U) (Z:=[]) (Y:=V) (D:=Q++L.drop b) (a:=m-i) (b:=m) (k:=i) (by rw[KO];omega) hU (by simp;omega) hV (by omega)
 rw[asK]at this
 rw[show L.take a++(P++(U++(V++(Q++L.drop b))))=(L.take a++P)++(U++(V++(Q++L.drop b)))by simp only[arI],this]
 unfold gZ
 have e:aM L m b++(aM L a m++L.drop b)=(aM L m b++aM L a m)++L.drop b:=by rw[arI]
 rw[e,hW]
 simp only[arI,asK]
theorem nz.bounds{L M:List α}{a m b i j:Nat}(h:nz L a m b i j M)(pK:a<=m)(pM:m<=b)(hb:b<=L.length):M.length=L.length/\i<=m-a/\j<=b-m:=by
 obtain⟨⟨P,U,V,Q,rfl,hU,hV,hP,hW⟩,hi,hj⟩:=h
 have hl:=congrArg nG hW
 simp only[KO]at hl
 rw[jS pM hb,jS pK (by omega)]at hl
 simp only[KO,asj,ass]
 omega
end
end Go.Proofs.YtnlkkgpcikkpoaaGreat
namespace Go.Proofs.YtnlkkgpcikkpoaaGreat
open Go Vm Go.RowKit
section
variable (S:ad) (R:List Int) (H:List au) (d:aA)
def Ck(n a b k:Nat)(L:List ByteArray)(i:Nat):ai:=⟨[(0,gh n),(1,iZ a),(2,iZ b),(3,iZ k),(10,iZ i)],da S R H d (fI L a b i)⟩
theorem ado(L:List ByteArray)(n a b k:Nat)(hn:L.length=n)(hL:n<=1000000)(j5:a+k<=b)(hb:b+k<=n):
 aF fK 139 [gh n,iZ a,iZ b,iZ k,gN] (da S R H d L) λr o=>r=.ret (.tuple #[])/\o=da S R H d (fI L a b k):=by
 have pH:=aZ H
 refine aF.dv (n:=cp fK 139) (by kernel_rfl) ?_
 apply ada S R H d n L a b k pH hn
 ·
  have e:Ie S R H d n L a b k=Ck S R H d n a b k L 0:=by unfold Ie Ck;rw[adi L (by omega) (by omega)];rfl
  rw[e]
  refine ao.eX 1 0 (by kernel_rfl) ?_
  refine ao.gu (Ck S R H d n a b k L) (λi=>k-i) (λi=>i<=k) 0 (by kernel_rfl) (asb _) ?_
  intro i hi
  have gP:(fI L a b i).length=n:=by rw[adh (by omega) (by omega),hn]
  apply adf S R H d n (fI L a b i) a b k i pH gP (by omega) (by omega) (by omega) (by omega) hL (bK (by omega) (by omega)) (bK (by omega) (by omega)) (bK (by omega) (by omega))
  case aY=>simp
  case bh=>exact pH
  case bT=>simp
  case l7=>
   intro g
   have g:=of_decide_eq_false g
   have j6:i=k:=by omega
   subst j6
   with_reducible (repeat first|refine QL.ret ?_|refine QL.exit ?_|refine QB.ret ?_|refine QB.cw ?_|refine QB.normal ?_|refine QB.cJ (by rfl) ?_)
   refine ao.done (by kernel_rfl) ?_
   refine aG.normal (vs:=[]) (l:=[]) (bs:=[0,1,2,3,4]) (pl:=[0,3,4]) (q:=[ah (fI L a b i),ay R,an H]) (λu=>by kernel_rfl) (by kernel_rfl) (aD (by simp) (aD (by simp) (aD pH be))) ⟨rfl,rfl⟩
  all_goals
   intro g
   have g:=of_decide_eq_true g
   obtain⟨x,hx⟩:∃x,L[a+i]?=some x:=⟨_,KH (by omega)⟩
   obtain⟨y,hy⟩:∃y,L[b+i]?=some y:=⟨_,KH (by omega)⟩
   obtain⟨gq,iK,cN⟩:=adk (L:=L) (a:=a) (b:=b) (i:=i) (by omega) (by omega) hx hy
   have ea:0+m5 (m6 Ul ((a:Int)+(i:Int)))*1=a+i:=by rw[bK (by omega) (by omega)];omega
   have eb:0+m5 (m6 Ul ((b:Int)+(i:Int)))*1=b+i:=by rw[bK (by omega) (by omega)];omega
  case n0=>rw[eb];exact(eh iK).2
  case n1=>rw[ea];exact(eh gq).2
  case n2=>rw[ea,eb,(eh iK).1,oV (by omega),yS,asU];exact arZ (by omega)
  case l5=>
   refine QL.to (i+1) (by omega) (by omega) ?_
   unfold P3 Ck
   rw[ea,eb,(eh iK).1,(eh gq).1,oV (by omega),oV (by rw[asU];omega),cN,fP (by omega)]
   rfl
end
def adp:Dy->ByteArray
 | .string s=>s
 |_=>ByteArray.empty
def di(l:List Dy):List ByteArray:=l.map adp
@[simp] theorem je(l:List ByteArray):di (ah l)=l:=by
 unfold di ah
 rw[List.map_map]
 conv=>rhs;rw[<-List.map_id l]
 exact List.map_congr_left λx _=>rfl
noncomputable def jf(o:List ak)(n:Nat):Bool:=@decide (∃S R H d L,o=da S R H d L/\L.length=n/\n<=1000000) (arT _)
theorem w0{S:ad}{R:List Int}{H:List au}{d:aA}{L:List ByteArray}{o:List ak}{n:Nat}(h:o=da S R H d L)(h2:L.length=n)(h3:n<=1000000):jf o n=true:=by
 unfold jf
 exact(@decide_eq_true_iff _ (arT _)).2 ⟨S,R,H,d,L,h,h2,h3⟩
noncomputable def Ih(a:List Dy)(o:List ak):Option (Bool×bD×List ak):=match a,o with
 | [.slice (some ⟨0,0,none⟩) n m,.int .i64 x,.int .i64 y,.int .i64 k,.func (.func f) c1 c2],ak.cells c t r::l=>match c1.toList,c2.toList with
  | [.pointer (some ⟨1,0,none⟩)],[]=>some (jf (.cells c t r::l) n&&(arE m n&&(arE f 74&&(decide (0<=x)&&(decide (0<=k)&&(decide (x+k<=y)&&decide (y+k<=n)))))),.ret (.tuple #[]),.cells (ah (fI (di c) x.toNat y.toNat k.toNat)) t r::l)
  |_,_=>none
 |_,_=>none
theorem adq:bB fK 139 (Sum.dQ fK Ih):=bB.dQ λa o r o' hg=>by
 unfold Ih at hg
 split at hg
 ·rename_i n m x y k f c1 c2 c t ro l
  split at hg
  ·rename_i h1 h2
   simp only[DE,KN,BV,decide_eq_true_eq]at hg
   obtain⟨⟨g1,g2,g3,g4,g5,g6,g7⟩,rfl,rfl⟩:=hg
   have g2:=arJ g2
   have g3:=arJ g3
   obtain⟨S,R,H,d,L,he,hl,hn⟩:=@of_decide_eq_true _ (arT _) g1
   have e1:c1= #[.pointer (some ⟨1,0,none⟩)]:=by rw[<-asB (xs:=c1),h1]
   have e2:c2= #[]:=by rw[<-asB (xs:=c2),h2]
   subst g2 g3 e1 e2
   obtain⟨x,rfl⟩:=asV g4
   obtain⟨k,rfl⟩:=asV g5
   obtain⟨y,rfl⟩:=asV (show 0<=y by omega)
   unfold da at he
   injection he with pN eH
   injection pN with hc ht hr
   subst hc ht hr eH
   refine(ado S R H d L _ x y k hl hn (by omega) (by omega)).mono ?_
   rintro r o ⟨rfl,rfl⟩
   exact⟨rfl,by rw[je];rfl⟩
  ·cases hg
 ·cases hg
noncomputable def adr:List (FuncId×Sum):=[(139,Sum.dQ fK Ih)]
theorem P7:dD fK (dM fK (dP adr) 50 40):=dU dC mixed (ee (.cons adq .nil)) 50 40
end Go.Proofs.YtnlkkgpcikkpoaaGreat
namespace Go.Proofs.YtnlkkgpcikkpoaaGreat
open Go Vm Go.RowKit
noncomputable section
def Cm:List ar3:=a7 (dI fK 134)
open Tree renaming aQ->mN,dE->mF,fj->mL,fY->mQ,dN->mR,gH->mE
abbrev Ii:List ar3:=(a7 (inner (a7 (inner (Cm.drop 2)))))
abbrev w5:=λS R H d L=>([ab (ah L) 9,ab (aL S 2 0 3 4) 89,.abs d,ab (ay R) 3,ab (an H) 114]:List ak)
abbrev Ij:=λS R H d (n:Nat) L (a m b:Int)=>(⟨[(0,aq 0 n),(2,aa m),(4,.func (.func 74) #[ap 1] #[]),(10,.int .i64 (m6 .i64 (m-a))),(11,.int .i64 (m6 .i64 (b-m)))],w5 S R H d L⟩:ai)
abbrev ads:=λS R H d (n:Nat) L (a m b:Int)=>(⟨[(0,aq 0 n),(1,aa a),(2,aa m),(3,aa b),(4,.func (.func 74) #[ap 1] #[])],w5 S R H d L⟩:ai)
theorem adt(S R H d)(n:Nat)(L)(a m b:Int)(pH:(an H).all ag=true)(hn:(nG L)=n)(fV:m6 .i64 (m-a)=m-a)(dg:m6 .i64 (b-m)=b-m){Q:aU}(l3:ao fK 58 5 (Cm.drop 2) (Ij S R H d n L a m b) Q):ao fK 58 5 Cm (ads S R H d n L a m b) Q:=
 aV bp 2 (.leaf [0,2,4,10,11] [0,1,2,3,4] [0,3,4]) (λu=>by kernel_rfl) (aO L R H (mQ l3))
abbrev adu:=λS R H d (n:Nat) L (m i j:Int)=>(⟨[(0,aq 0 n),(2,aa m),(4,.func (.func 74) #[ap 1] #[]),(10,aa i),(11,aa j)],w5 S R H d L⟩:ai)
abbrev adv:=λS R H d (n:Nat) L (m i j:Int)=>(⟨[(0,aq 0 n),(2,aa m),(4,.func (.func 74) #[ap 1] #[]),(10,aa i)],w5 S R H d L⟩:ai)
abbrev P8:=λS R H d (n:Nat) L (m i j:Int)=>(⟨[(0,aq 0 n),(2,aa m),(4,.func (.func 74) #[ap 1] #[]),(10,aa i),(11,aa j)],w5 S R H d L⟩:ai)
theorem adw(S R H d)(n:Nat)(L)(m i j:Int)(pH:(an H).all ag=true)(hn:(nG L)=n){Q:aU}(l3:(i != j)->ao fK 58 5 (Ii.drop 2) (adu S R H d n L m i j) Q)(l4:(i != j)=false->Q (.exit 0) (adv S R H d n L m i j)):ao fK 58 5 Ii (P8 S R H d n L m i j) Q:=
 aV bp 2 (.fork 0 (.leaf [0,2,4,10,11] [0,1,2,3,4] [0,3,4]) (.leaf [0,2,4,10] [0,1,2,3,4] [0,3,4])) (λu=>by kernel_rfl) (mF (c:=i != j) (λh0=>(aO L R H (mQ (l3 h0)))) (λh0=>(aO L R H (mE 0 (l4 h0)))))
abbrev P9:=λS R H d (n:Nat) L (m i j:Int)=>(⟨[(0,aq 0 n),(2,aa m),(4,.func (.func 74) #[ap 1] #[]),(10,.int .i64 (m6 .i64 (i-j))),(11,aa j)],[ab (ah (fI (di (ah L)) (m5 (m6 .i64 (m-i))) (m5 m) (m5 j))) 9,ab (aL S 2 0 3 4) 89,.abs d,ab (ay R) 3,ab (an H) 114]⟩:ai)
abbrev Qa:=λS R H d (n:Nat) L (m i j:Int)=>(⟨[(0,aq 0 n),(2,aa m),(4,.func (.func 74) #[ap 1] #[]),(10,aa i),(11,.int .i64 (m6 .i64 (j-i)))],[ab (ah (fI (di (ah L)) (m5 (m6 .i64 (m-i))) (m5 (m6 .i64 (m6 .i64 (m+j)-i))) (m5 i))) 9,ab (aL S 2 0 3 4) 89,.abs d,ab (ay R) 3,ab (an H) 114]⟩:ai)
theorem adx(S R H d)(n:Nat)(L)(m i j:Int)(pH:(an H).all ag=true)(hn:(nG L)=n)(h1:0<i)(h2:0<j)(h3:i<=m)(h4:m+j<=n)(hL:n<=1000000)(fV:m6 .i64 (m-i)=m-i)(dg:m6 .i64 (m+j)=m+j)(oh:m6 .i64 (m+j-i)=m+j-i)(Cn:m6 .i64 (i-j)=i-j)(aqr:m6 .i64 (j-i)=j-i){Q:aU}(n0:(decide (i>j))->(jf [ab (ah L) 9,ab (aL S 2 0 3 4) 89,ak.abs d,ab (ay R) 3,ab (an H) 114] n&&(arE n n&&(arE 74 74&&(decide (0<=m6 .i64 (m-i))&&(decide (0<=j)&&(decide (m6 .i64 (m-i)+j<=m)&&decide (m+j<=(↑n:Int))))))))=true)(l3:(decide (i>j))->Q .normal (P9 S R H d n L m i j))(n4:(decide (i>j))=false->(jf [ab (ah L) 9,ab (aL S 2 0 3 4) 89,ak.abs d,ab (ay R) 3,ab (an H) 114] n&&(arE n n&&(arE 74 74&&(decide (0<=m6 .i64 (m-i))&&(decide (0<=i)&&(decide (m6 .i64 (m-i)+i<=m6 .i64 (m6 .i64 (m+j)-i))&&decide (m6 .i64 (m6 .i64 (m+j)-i)+i<=(↑n:Int))))))))=true)(l5:(decide (i>j))=false->Q .normal (Qa S R H d n L m i j)):ao fK 58 5 (a7 (inner (Ii.drop 2))) (P8 S R H d n L m i j) Q:=
 aV P7 1000 (.fork 0 (aB [3,1,1,1,1,1,1] (.leaf [0,2,4,10,11] [0,1,2,3,4] [0,3,4])) (aB [3,1,1,1,1,1,1] (.leaf [0,2,4,10,11] [0,1,2,3,4] [0,3,4]))) (λu=>by kernel_rfl) (mF (c:=decide (i>j)) (λh0=>(aO L R H (mN (n0 h0) (mN (aW (fI (di (ah L)) (m5 (m6 .i64 (m-i))) (m5 m) (m5 j))) (mN (aS R) (mN (aZ H) (mN (aW (fI (di (ah L)) (m5 (m6 .i64 (m-i))) (m5 m) (m5 j))) (mN (aS R) (mN (aZ H) (mQ (ao.done (by kernel_rfl) (l3 h0)))))))))))) (λh0=>(aO L R H (mN (n4 h0) (mN (aW (fI (di (ah L)) (m5 (m6 .i64 (m-i))) (m5 (m6 .i64 (m6 .i64 (m+j)-i))) (m5 i))) (mN (aS R) (mN (aZ H) (mN (aW (fI (di (ah L)) (m5 (m6 .i64 (m-i))) (m5 (m6 .i64 (m6 .i64 (m+j)-i))) (m5 i))) (mN (aS R) (mN (aZ H) (mQ (ao.done (by kernel_rfl) (l5 h0)))))))))))))
abbrev Ik:=λS R H d (n:Nat) L (m i j:Int)=>(⟨[],[ab (ah (fI (di (ah L)) (m5 (m6 .i64 (m-i))) (m5 m) (m5 i))) 9,ab (aL S 2 0 3 4) 89,.abs d,ab (ay R) 3,ab (an H) 114]⟩:ai)
abbrev ady:=λS R H d (n:Nat) L (m i j:Int)=>(⟨[(0,aq 0 n),(2,aa m),(4,.func (.func 74) #[ap 1] #[]),(10,aa i)],w5 S R H d L⟩:ai)
theorem adz(S R H d)(n:Nat)(L)(m i j:Int)(pH:(an H).all ag=true)(hn:(nG L)=n)(h1:0<i)(h3:i<=m)(hL:n<=1000000)(fV:m6 .i64 (m-i)=m-i){Q:aU}(n0:(jf [ab (ah L) 9,ab (aL S 2 0 3 4) 89,ak.abs d,ab (ay R) 3,ab (an H) 114] n&&(arE n n&&(arE 74 74&&(decide (0<=m6 .i64 (m-i))&&(decide (0<=i)&&(decide (m6 .i64 (m-i)+i<=m)&&decide (m+i<=(↑n:Int))))))))=true)(l3:Q .normal (Ik S R H d n L m i j)):ao fK 58 5 (Cm.drop 3) (ady S R H d n L m i j) Q:=
 aV P7 1000 (aB [3,1,1,1,1,1,1] (.leaf [] [0,1,2,3,4] [0,3,4])) (λu=>by kernel_rfl) (aO L R H (mN n0 (mN (aW (fI (di (ah L)) (m5 (m6 .i64 (m-i))) (m5 m) (m5 i))) (mN (aS R) (mN (aZ H) (mN (aW (fI (di (ah L)) (m5 (m6 .i64 (m-i))) (m5 m) (m5 i))) (mN (aS R) (mN (aZ H) (mQ (ao.done (by kernel_rfl) l3))))))))))
end
section
variable (S:ad) (R:List Int) (H:List au) (d:aA)
def zh(n m:Nat)(s:Nat×Nat×List ByteArray):ai:=⟨[(0,gh n),(2,iZ m),(4,gN),(10,iZ s.1),(11,iZ s.2.1)],da S R H d s.2.2⟩
theorem Co{a b:Nat}(h:b<=a)(h2:a<1000000000):(.int .i64 (m6 Ul ((a:Int)-(b:Int))):Dy)=iZ (a-b):=by
 rw[bK (by omega) (by omega)]
 show KJ .i64 _=KJ .i64 _
 congr 1
 omega
theorem adA(L:List ByteArray)(n a m b:Nat)(hn:L.length=n)(hL:n<=1000000)(pK:a<m)(pM:m<b)(hb:b<=n):
 aF fK 134 [gh n,iZ a,iZ m,iZ b,gN] (da S R H d L) λr o=>r=.ret (.tuple #[])/\o=da S R H d (gZ L a m b):=by
 have pH:=aZ H
 refine aF.dv (n:=cp fK 134) (by kernel_rfl) ?_
 apply adt S R H d n L a m b pH hn (bK (by omega) (by omega)) (bK (by omega) (by omega))
 ·
  have e:Ij S R H d n L a m b=zh S R H d n m (m-a,b-m,L):=by unfold Ij zh;rw[Co (by omega) (by omega),Co (by omega) (by omega)];rfl
  rw[e]
  refine ao.eX 2 0 (by kernel_rfl) ?_
  refine ao.gu (zh S R H d n m) (λs=>s.1+s.2.1) (λs=>nz L a m b s.1 s.2.1 s.2.2) (m-a,b-m,L) (by kernel_rfl) (nz.start pK pM (by omega)) ?_
  rintro⟨i,j,M⟩ hs
  dsimp only at hs
  obtain⟨gP,wB,adB⟩:=hs.bounds (by omega) (by omega) (by omega)
  rw[hn]at gP
  have hO:=w0 (S:=S) (R:=R) (H:=H) (d:=d) (L:=M) rfl gP hL
  unfold da at hO
  have oG:=hs.i0
  have uc:=hs.j0
  apply adw S R H d n M m i j pH gP
  case l4=>
   intro g
   have iX:i=j:=by have:(i:Int)=j:=by simpa using g
                   omega
   subst iX
   obtain⟨e1,e2,e3,e4⟩:=hs.done (by omega)
   with_reducible (repeat first|refine QL.ret ?_|refine QL.exit ?_|refine QB.ret ?_|refine QB.cw ?_|refine QB.normal ?_|refine QB.cJ (by rfl) ?_)
   apply adz S R H d n M m i i pH gP (by omega) (by omega) hL (bK (by omega) (by omega))
   case n0=>
    rw[bK (by omega) (by omega),hO]
    simp only[at2,asx,BV,decide_eq_true_eq]
    omega
   case l3=>
    have e5:Ik S R H d n M m i i=⟨[],da S R H d (gZ L a m b)⟩:=by
     unfold Ik
     rw[je,bK (by omega) (by omega),show((m:Int)-(i:Int)).toNat=m-i by omega,show((m:Int)).toNat=m by omega,show((i:Int)).toNat=i by omega,e1]
     rfl
    rw[e5]
    exact aG.normal (vs:=[]) (l:=[]) (bs:=[0,1,2,3,4]) (pl:=[0,3,4]) (q:=[ah (gZ L a m b),ay R,an H]) (λu=>by kernel_rfl) (by kernel_rfl) (aD (by simp) (aD (by simp) (aD pH be))) ⟨rfl,rfl⟩
  case l3=>
   intro g
   have iX:i≠j:=by have:¬(i:Int)=j:=by simpa using g
                   omega
   refine ao.eX 2 1 (by kernel_rfl) ?_
   apply adx S R H d n M m i j pH gP (by omega) (by omega) (by omega) (by omega) hL (bK (by omega) (by omega)) (bK (by omega) (by omega)) (bK (by omega) (by omega)) (bK (by omega) (by omega)) (bK (by omega) (by omega))
   case n0=>
    intro g1
    have g1:=of_decide_eq_true g1
    rw[bK (by omega) (by omega),hO]
    simp only[at2,asx,BV,decide_eq_true_eq]
    omega
   case n4=>
    intro g1
    have g1:=of_decide_eq_false g1
    rw[bK (z:=(m:Int)-i) (by omega) (by omega),bK (z:=(m:Int)+j) (by omega) (by omega),bK (by omega) (by omega),hO]
    simp only[at2,asx,BV,decide_eq_true_eq]
    omega
   case l3=>
    intro g1
    have g1:=of_decide_eq_true g1
    obtain⟨q1,q2,q3⟩:=hs.left (by omega) (by omega)
    with_reducible (repeat first|refine QL.ret ?_|refine QL.exit ?_|refine QB.ret ?_|refine QB.cw ?_|refine QB.normal ?_|refine QB.cJ (by rfl) ?_)
    refine ao.done (by kernel_rfl) ?_
    refine QL.to (i-j,j,fI M (m-i) m j) q1 (by dsimp only;omega) ?_
    unfold P9 zh
    rw[je,Co (by omega) (by omega),bK (by omega) (by omega),show((m:Int)-(i:Int)).toNat=m-i by omega,show((m:Int)).toNat=m by omega,show((j:Int)).toNat=j by omega]
    rfl
   case l5=>
    intro g1
    have g1:=of_decide_eq_false g1
    obtain⟨q1,q2,q3⟩:=hs.right (by omega) (by omega)
    with_reducible (repeat first|refine QL.ret ?_|refine QL.exit ?_|refine QB.ret ?_|refine QB.cw ?_|refine QB.normal ?_|refine QB.cJ (by rfl) ?_)
    refine ao.done (by kernel_rfl) ?_
    refine QL.to (i,j-i,fI M (m-i) (m+j-i) i) q1 (by dsimp only;omega) ?_
    unfold Qa zh
    rw[je,Co (by omega) (by omega),bK (z:=(m:Int)-i) (by omega) (by omega),bK (z:=(m:Int)+j) (by omega) (by omega),bK (by omega) (by omega),show((m:Int)-(i:Int)).toNat=m-i by omega,show((m:Int)+(j:Int)-(i:Int)).toNat=m+j-i by omega,show((i:Int)).toNat=i by omega]
    rfl
end
noncomputable def Il(a:List Dy)(o:List ak):Option (Bool×bD×List ak):=match a,o with
 | [.slice (some ⟨0,0,none⟩) n m,.int .i64 x,.int .i64 y,.int .i64 z,.func (.func f) c1 c2],ak.cells c t r::l=>match c1.toList,c2.toList with
  | [.pointer (some ⟨1,0,none⟩)],[]=>some (jf (.cells c t r::l) n&&(arE m n&&(arE f 74&&(decide (0<=x)&&(decide (x<y)&&(decide (y<z)&&decide (z<=n)))))),.ret (.tuple #[]),.cells (ah (gZ (di c) x.toNat y.toNat z.toNat)) t r::l)
  |_,_=>none
 |_,_=>none
theorem adC:bB fK 134 (Sum.dQ fK Il):=bB.dQ λa o r o' hg=>by
 unfold Il at hg
 split at hg
 ·rename_i n m x y z f c1 c2 c t ro l
  split at hg
  ·rename_i h1 h2
   simp only[DE,KN,BV,decide_eq_true_eq]at hg
   obtain⟨⟨g1,g2,g3,g4,g5,g6,g7⟩,rfl,rfl⟩:=hg
   have g2:=arJ g2
   have g3:=arJ g3
   obtain⟨S,R,H,d,L,he,hl,hn⟩:=@of_decide_eq_true _ (arT _) g1
   have e1:c1= #[.pointer (some ⟨1,0,none⟩)]:=by rw[<-asB (xs:=c1),h1]
   have e2:c2= #[]:=by rw[<-asB (xs:=c2),h2]
   subst g2 g3 e1 e2
   obtain⟨x,rfl⟩:=asV g4
   obtain⟨y,rfl⟩:=asV (show 0<=y by omega)
   obtain⟨z,rfl⟩:=asV (show 0<=z by omega)
   unfold da at he
   injection he with pN eH
   injection pN with hc ht hr
   subst hc ht hr eH
   refine(adA S R H d L _ x y z hl hn (by omega) (by omega) (by omega)).mono ?_
   rintro r o ⟨rfl,rfl⟩
   exact⟨rfl,by rw[je];rfl⟩
  ·cases hg
 ·cases hg
end Go.Proofs.YtnlkkgpcikkpoaaGreat
namespace Go.Proofs.YtnlkkgpcikkpoaaGreat
section
variable {α:Type} {c:α->α->Int}
structure lZ(c:α->α->Int)(X:List α)(x:α)(i j:Nat):Prop where
 iX:i<=j
 hj:j<=X.length
 lo:∀k y,k<i->X[k]?=some y->gg c y x=true
 hi:∀k y,j<=k->X[k]?=some y->gg c x y=true
theorem lZ.start(c:α->α->Int)(X:List α)(x:α):lZ c X x 0 X.length:=
 ⟨asb _,arO _,λ_ _ h=>absurd h (Nat.not_lt_zero _),λk y h hy=>by have:=(KP.1 hy).1;omega⟩
theorem lZ.up{X:List α}{x y:α}{i j h:Nat}(B:lZ c X x i j)(t:TO c)(hX:dp c X)(h1:i<=h)(h2:h<j)(hy:X[h]?=some y)(hl:gg c y x=true):lZ c X x (h+1) j:=
 ⟨by omega,B.hj,λk z hk hz=>t.le_trans (Cd hX t (by omega) hz hy) hl,B.hi⟩
theorem lZ.down{X:List α}{x y:α}{i j h:Nat}(B:lZ c X x i j)(t:TO c)(hX:dp c X)(h1:i<=h)(h2:h<j)(hy:X[h]?=some y)(hl:gg c x y=true):lZ c X x i h:=
 ⟨h1,by have:=B.hj;omega,B.lo,λk z hk hz=>t.le_trans hl (Cd hX t hk hy hz)⟩
theorem lZ.done{X:List α}{x:α}{i:Nat}(B:lZ c X x i i)(t:TO c)(hX:dp c X):X.take i++(x::X.drop i)=bb c (X++[x]):=
 PW t hX B.hj B.lo B.hi
theorem zi{L:List α}{a b k:Nat}(h:a+k<b):(aM L a b)[k]?=L[a+k]? :=by
 unfold aM
 rw[List.getElem?_take_of_lt (by omega),asH]
theorem Qb{L:List α}{a:Nat}{x:α}(hx:L[a]?=some x):aM L a (a+1)=[x]:=by
 unfold aM;rw[show a+1-a=1 by omega,(qA hx).2];rfl
theorem adD{L:List α}{a b i:Nat}{x:α}(t:TO c)(hb:a+1<=b)(hx:L[a]?=some x)(hX:dp c (aM L (a+1) b))(B:lZ c (aM L (a+1) b) x i i):dF (L.take a) (aM L (a+1) b) (L.drop b) x i=b9 c L a b:=by
 unfold dF b9
 have e1:bb c (aM L a b)=bb c (aM L (a+1) b++[x]):=by
  refine ze t ?_
  rw[oe L (m:=a+1) (by omega) hb,Qb hx]
  exact avz
 rw[e1,<-B.done t hX]
 simp only[arI,as5]
theorem adE{L:List α}{a b:Nat}{x:α}(hb:a+1<=b)(hx:L[a]?=some x):dF (L.take a) (aM L (a+1) b) (L.drop b) x 0=L:=by
 unfold dF
 conv=>rhs;rw[th L (show a<=b by omega),oe L (m:=a+1) (by omega) hb,Qb hx]
 simp only[aum,List.drop_zero,asK,arI,as5]
theorem adF{L:List α}{a m i:Nat}{x:α}(t:TO c)(hm:a<=m)(hx:L[m]?=some x)(hX:dp c (aM L a m))(B:lZ c (aM L a m) x i i):dF (L.take a) (aM L a m) (L.drop (m+1)) x i=b9 c L a (m+1):=by
 unfold dF b9
 have e1:bb c (aM L a (m+1))=bb c (aM L a m++[x]):=by rw[Cj hm hx]
 rw[e1,<-B.done t hX]
 simp only[arI,as5]
theorem adG{L:List α}{a m:Nat}{x:α}(hm:a<=m)(cC:m<L.length)(hx:L[m]?=some x):dF (L.take a) (aM L a m) (L.drop (m+1)) x (m-a)=L:=by
 unfold dF
 have hl:(aM L a m).length=m-a:=jS hm (by omega)
 conv=>rhs;rw[th L (show a<=m+1 by omega),Cj hm hx]
 rw[<-hl,avt,avu]
 simp only[asK,arI,as5]
theorem adH{T S D:List α}{x:α}{j:Nat}(h:j<S.length):(dF T S D x j)[T.length+j+1]?=S[j]? :=by
 unfold dF
 rw[asd (by omega),show T.length+j+1-T.length=j+1 by omega,asd (by simp;omega)]
 simp only[asj]
 rw[show j+1-min j S.length=1 by omega,List.getElem?_cons_succ,List.getElem?_append_left (by rw[ass];omega),asH]
 simp
theorem adI{T S D:List α}{x y:α}{j:Nat}(h:j<S.length)(hy:S[j]?=some y):((dF T S D x j).set (T.length+j) y).set (T.length+j+1) x=dF T S D x (j+1):=by
 obtain⟨e1,e2⟩:=qA hy
 have a1:dF T S D x (j+1)=(T++S.take j)++(y::x::(S.drop (j+1)++D)):=by unfold dF;rw[e1];simp
 have a2:dF T S D x j=(T++S.take j)++(x::y::(S.drop (j+1)++D)):=by unfold dF;rw[e2];simp
 have hl:(T++S.take j).length=T.length+j:=by rw[KO,asj];omega
 rw[a1,a2,Ci hl]
 have a3:(T++S.take j)++(y::y::(S.drop (j+1)++D))=((T++S.take j)++[y])++(y::(S.drop (j+1)++D)):=by simp
 rw[a3,Ci (by rw[KO,hl];rfl)]
 simp
structure mM(c:α->α->Int)(L:List α)(a m b s r:Nat):Prop where
 Fe:s<=r
 rL:a<=s
 rm:r<=m
 me:m+r<=(a+b)/2+m
 sb:(a+b)/2+m<=s+b
 lo:∀x y,0<s->a<s->(a+b)/2+m-s<b->L[s-1]?=some x->L[(a+b)/2+m-s]?=some y->gg c x y=true
 hi:∀x y,r<m->m<(a+b)/2+m-r->L[r]?=some x->L[(a+b)/2+m-r-1]?=some y->gg c y x=true
theorem mM.start(c:α->α->Int)(L:List α){a m b:Nat}(h1:a<m)(h2:m<b):mM c L a m b (if m>(a+b)/2 then(a+b)/2+m-b else a) (if m>(a+b)/2 then(a+b)/2 else m):=by
 by_cases h:m>(a+b)/2
 ·rw[if_pos h,if_pos h]
  refine⟨by omega,by omega,by omega,by omega,by omega,λx y _ _ h3=>by omega,λx y _ h3=>by omega⟩
 ·rw[if_neg h,if_neg h]
  refine⟨by omega,by omega,by omega,by omega,by omega,λx y _ h3=>by omega,λx y h3=>by omega⟩
theorem mM.up{L:List α}{a m b s r h:Nat}(S:mM c L a m b s r)(h1:s<=h)(h2:h<r){x y:α}(hx:L[h]?=some x)(hy:L[(a+b)/2+m-1-h]?=some y)(hl:gg c x y=true):mM c L a m b (h+1) r:=by
 have:=S.rL;have:=S.rm;have:=S.me;have:=S.sb
 refine⟨by omega,by omega,S.rm,S.me,by omega,λx' y' _ _ _ gX lq=>?_,S.hi⟩
 rw[show h+1-1=h by omega,hx]at gX
 rw[show(a+b)/2+m-(h+1)=(a+b)/2+m-1-h by omega,hy]at lq
 cases gX;cases lq;exact hl
theorem mM.down{L:List α}{a m b s r h:Nat}(S:mM c L a m b s r)(h1:s<=h)(h2:h<r){x y:α}(hx:L[h]?=some x)(hy:L[(a+b)/2+m-1-h]?=some y)(hl:gg c y x=true):mM c L a m b s h:=by
 have:=S.rL;have:=S.rm;have:=S.me;have:=S.sb
 refine⟨by omega,S.rL,by omega,by omega,S.sb,S.lo,λx' y' _ _ gX lq=>?_⟩
 rw[hx]at gX
 rw[show(a+b)/2+m-h-1=(a+b)/2+m-1-h by omega,hy]at lq
 cases gX;cases lq;exact hl
theorem w6(t:TO c){L:List α}{a b i j:Nat}{x y:α}(hS:dp c (aM L a b))(h1:a<=i)(h2:i<=j)(h3:j<b)(hx:L[i]?=some x)(hy:L[j]?=some y):gg c x y=true:=by
 refine Cd hS t (i:=i-a) (j:=j-a) (by omega) ?_ ?_
 ·rw[zi (by omega),show a+(i-a)=i by omega];exact hx
 ·rw[zi (by omega),show a+(j-a)=j by omega];exact hy
theorem Qc{L:List α}{a b:Nat}{x:α}(h:x∈aM L a b):∃i,a<=i/\i<b/\L[i]?=some x:=by
 obtain⟨k,hk⟩:=List.getElem?_of_mem h
 have hl:=(KP.1 hk).1
 unfold aM at hl
 rw[asj]at hl
 rw[zi (by omega)]at hk
 exact⟨a+k,by omega,by omega,hk⟩
theorem mM.done{L:List α}{a m b s:Nat}(S:mM c L a m b s s)(t:TO c)(hb:b<=L.length)(h1:a<m)(h2:m<b)(hX:dp c (aM L a m))(hY:dp c (aM L m b)):
 ∀x∈aM L a s++aM L m ((a+b)/2+m-s),∀y∈aM L s m++aM L ((a+b)/2+m-s) b,gg c x y=true:=by
 have h3:=S.rL;have h4:=S.rm;have h5:=S.me;have h6:=S.sb
 intro x hx y hy
 rcases arL.1 hx with hx|hx<;>rcases arL.1 hy with hy|hy<;>obtain⟨i,i1,i2,hx⟩:=Qc hx<;>obtain⟨j,j1,j2,hy⟩:=Qc hy
 ·exact w6 t hX i1 (by omega) j2 hx hy
 ·obtain⟨u,hu⟩:∃u,L[s-1]?=some u:=⟨_,KH (by omega)⟩
  obtain⟨v,hv⟩:∃v,L[(a+b)/2+m-s]?=some v:=⟨_,KH (by omega)⟩
  refine t.le_trans (w6 t hX i1 (show i<=s-1 by omega) (by omega) hx hu) (t.le_trans (S.lo u v (by omega) (by omega) (by omega) hu hv) ?_)
  exact w6 t hY (by omega) j1 j2 hv hy
 ·obtain⟨u,hu⟩:∃u,L[s]?=some u:=⟨_,KH (by omega)⟩
  obtain⟨v,hv⟩:∃v,L[(a+b)/2+m-s-1]?=some v:=⟨_,KH (by omega)⟩
  refine t.le_trans (w6 t hY i1 (show i<=(a+b)/2+m-s-1 by omega) (by omega) hx hv) (t.le_trans (S.hi u v (by omega) (by omega) hu hv) ?_)
  exact w6 t hX (by omega) j1 j2 hu hy
 ·exact w6 t hY i1 (by omega) j2 hx hy
theorem adJ{L:List α}{a m b:Nat}(h1:a<=m)(h2:m<=b)(h:a=m\/m=b):gZ L a m b=L:=by
 have e0:∀x,aM L x x=[]:=λx=>by unfold aM;rw[atY,aum]
 unfold gZ
 conv=>rhs;rw[th L (show a<=b by omega),oe L h1 h2]
 rcases h with rfl|rfl
 ·rw[e0];simp
 ·rw[e0];simp
theorem adK{L:List α}{a s m e b:Nat}(h1:a<=s)(h2:s<=m)(h3:m<=e)(h4:e<=b)(hb:b<=L.length):gZ L s m e=L.take a++((aM L a s++aM L m e)++((aM L s m++aM L e b)++L.drop b)):=by
 unfold gZ
 have e1:L.take s=L.take a++aM L a s:=by
  unfold aM
  conv=>lhs;rw[show s=a+(s-a)by omega,List.take_add]
 have e2:L.drop e=aM L e b++L.drop b:=by
  unfold aM
  have:L.drop b=(L.drop e).drop (b-e):=by rw[asI,show e+(b-e)=b by omega]
  rw[this,asD]
 rw[e1,e2]
 simp only[arI]
structure Qd(c:α->α->Int)(L:List α)(a m b s d e:Nat):Prop where
 h1:a<=s
 h2:s<=m
 h3:m<=e
 h4:e<=b
 hd:d=s+(e-m)
 x1:dp c (aM (gZ L s m e) a s)
 x2:dp c (aM (gZ L s m e) s d)
 y1:dp c (aM (b9 c (gZ L s m e) a d) d e)
 y2:dp c (aM (b9 c (gZ L s m e) a d) e b)
 fin:b9 c (b9 c (gZ L s m e) a d) d b=b9 c L a b
theorem mM.three{L:List α}{a m b s:Nat}(S:mM c L a m b s s)(t:TO c)(hb:b<=L.length)(h1:a<m)(h2:m<b)(hX:dp c (aM L a m))(hY:dp c (aM L m b)):
 Qd c L a m b s ((a+b)/2) ((a+b)/2+m-s):=by
 have adL:=S.done t hb h1 h2 hX hY
 have h3:=S.rL;have h4:=S.rm;have h5:=S.me;have h6:=S.sb
 generalize he:(a+b)/2+m-s=e at*
 generalize hd:(a+b)/2=d at*
 have hM:=adK (L:=L) (a:=a) (s:=s) (m:=m) (e:=e) (b:=b) h3 h4 (by omega) (by omega) hb
 have lT:(L.take a).length=a:=by rw[asj];omega
 have l1:(aM L a s).length=s-a:=jS h3 (by omega)
 have l2:(aM L m e).length=e-m:=jS (by omega) (by omega)
 have l3:(aM L s m).length=m-s:=jS (by omega) (by omega)
 have l4:(aM L e b).length=b-e:=jS (by omega) (by omega)
 have Cp:∀{x y z w:Nat},x<=z->z<=w->w<=y->dp c (aM L x y)->dp c (aM L z w):=λq1 q2 q3 hs=>by
  rw[oe L (m:=_) q1 (by omega),oe L (a:=_) q2 q3]at hs
  exact(auM.1 (auM.1 hs).2.1).1
 have jn:dp c (aM L a s):=Cp (arO _) h3 h4 hX
 have lW:dp c (aM L m e):=Cp (arO _) (by omega) (by omega) hY
 have zj:dp c (aM L s m):=Cp h3 h4 (arO _) hX
 have adM:dp c (aM L e b):=Cp (by omega) (by omega) (arO _) hY
 have hA:b9 c (gZ L s m e) a d=L.take a++(bb c (aM L a s++aM L m e)++((aM L s m++aM L e b)++L.drop b)):=by
  rw[hM];exact wY lT (by omega) (by rw[KO];omega)
 have lS:(bb c (aM L a s++aM L m e)).length=d-a:=by rw[lG,KO];omega
 have Qe:(L.take a++bb c (aM L a s++aM L m e)).length=d:=by rw[KO];omega
 refine⟨h3,h4,by omega,by omega,by omega,?_,?_,?_,?_,?_⟩
 ·rw[hM,arI]
  have:=oU (T:=L.take a) (X:=aM L a s) (D:=aM L m e++((aM L s m++aM L e b)++L.drop b)) (a:=a) (b:=s) lT l1
  rw[this];exact jn
 ·rw[hM,arI,<-arI]
  have:=oU (T:=L.take a++aM L a s) (X:=aM L m e) (D:=(aM L s m++aM L e b)++L.drop b) (a:=s) (b:=d) (by rw[KO];omega) (by omega)
  rw[this];exact lW
 ·rw[hA,<-arI,arI (aM L s m)]
  have:=oU (T:=L.take a++bb c (aM L a s++aM L m e)) (X:=aM L s m) (D:=aM L e b++L.drop b) (a:=d) (b:=e) Qe (by omega)
  rw[this];exact zj
 ·rw[hA,<-arI,arI (aM L s m),<-arI _ (aM L s m)]
  have:=oU (T:=(L.take a++bb c (aM L a s++aM L m e))++aM L s m) (X:=aM L e b) (D:=L.drop b) (a:=e) (b:=b) (by rw[KO];omega) (by omega)
  rw[this];exact adM
 ·rw[hA,<-arI,wY Qe (by omega) (by rw[KO];omega)]
  unfold b9
  have e1:bb c (aM L a b)=bb c (aM L a s++aM L m e)++bb c (aM L s m++aM L e b):=by
   rw[<-acN t adL]
   refine ze t ?_
   rw[oe L (m:=m) (by omega) (by omega),oe L (m:=s) h3 h4,oe L (a:=m) (m:=e) (by omega) (by omega)]
   simp only[arI]
   refine List.Perm.append_left _ ?_
   rw[<-arI,<-arI]
   exact List.Perm.append_right _ avz
  rw[e1]
  simp only[arI]
theorem Qf(t:TO c){L:List α}{a s b:Nat}(h1:a<=s)(h2:s<=b)(h:a=s\/s=b)(hx:dp c (aM L a s))(hy:dp c (aM L s b)):b9 c L a b=L:=by
 have e0:∀x,aM L x x=[]:=λx=>by unfold aM;rw[atY,aum]
 have:bb c (aM L a b)=aM L a b:=by
  refine H0 t ?_
  rcases h with rfl|rfl
  ·exact hy
  ·exact hx
 unfold b9
 rw[this]
 exact(th L (by omega)).symm
theorem adN{L:List α}{a m b:Nat}(h1:a<=m)(h2:m<=b)(hb:b<=L.length):(gZ L a m b).length=L.length:=by
 unfold gZ
 simp only[KO]
 rw[jS (by omega) (by omega),jS (by omega) (by omega),asj,ass]
 omega
end
end Go.Proofs.YtnlkkgpcikkpoaaGreat
namespace Go.Proofs.YtnlkkgpcikkpoaaGreat
open Go Vm Go.RowKit
def Qg(c:ByteArray->ByteArray->Int)(L:List ByteArray)(n:Nat)(a m b:Int)(N:Nat):Prop:=0<=a/\a<m/\m<b/\b<=n/\b-a<=N/\dp c (aM L a.toNat m.toNat)/\dp c (aM L m.toNat b.toNat)
noncomputable def u0(c:ByteArray->ByteArray->Int)(L:List ByteArray)(n:Nat)(a m b:Int)(N:Nat):Bool:=@decide (Qg c L n a m b N) (arT _)
theorem zk{c:ByteArray->ByteArray->Int}{L:List ByteArray}{n:Nat}{a m b:Int}{N:Nat}:u0 c L n a m b N=true↔Qg c L n a m b N:=by
 unfold u0;exact @decide_eq_true_iff _ (arT _)
noncomputable def oW(N:Nat)(a:List Dy)(o:List ak):Option (Bool×bD×List ak):=match a,o with
 | [.slice (some ⟨0,0,none⟩) n m,.int .i64 x,.int .i64 y,.int .i64 z,.func (.func f) c1 c2],ak.cells c t r::ak.cells e t2 r2::l=>match c1.toList,c2.toList with
  | [.pointer (some ⟨1,0,none⟩)],[]=>match(e[70]?:Option Dy)with
   |some (.bool fl)=>some (jf (.cells c t r:: .cells e t2 r2::l) n&&(arE m n&&(arE f 74&&u0 (aN fl) (di c) n x y z N)),.ret (.tuple #[]),.cells (ah (b9 (aN fl) (di c) x.toNat z.toNat)) t r:: .cells e t2 r2::l)
   |_=>none
  |_,_=>none
 |_,_=>none
theorem Qh(N:Nat)(hf:∀(S:ad) (R:List Int) (H:List au) (d:aA) (L:List ByteArray) (n a m b:Nat),L.length=n->n<=1000000->a<m->m<b->b<=n->b-a<=N->dp (aN S.aC) (aM L a m)->dp (aN S.aC) (aM L m b)->
 aF fK 122 [gh n,iZ a,iZ m,iZ b,gN] (da S R H d L) λr o=>r=.ret (.tuple #[])/\o=da S R H d (b9 (aN S.aC) L a b)):
 bB fK 122 (Sum.dQ fK (oW N)):=bB.dQ λa o r o' hg=>by
 unfold oW at hg
 split at hg
 ·rename_i n m x y z f c1 c2 c t ro e t2 r2 l
  split at hg
  ·rename_i h1 h2
   split at hg
   ·rename_i fl gE
    simp only[DE,KN,BV,zk]at hg
    obtain⟨⟨g1,g2,g3,g4⟩,rfl,rfl⟩:=hg
    have g2:=arJ g2
    have g3:=arJ g3
    obtain⟨S,R,H,d,L,he,hl,hn⟩:=@of_decide_eq_true _ (arT _) g1
    have e1:c1= #[.pointer (some ⟨1,0,none⟩)]:=by rw[<-asB (xs:=c1),h1]
    have e2:c2= #[]:=by rw[<-asB (xs:=c2),h2]
    subst g2 g3 e1 e2
    obtain⟨p1,p2,p3,p4,p5,p6,p7⟩:=g4
    obtain⟨x,rfl⟩:=asV p1
    obtain⟨y,rfl⟩:=asV (show 0<=y by omega)
    obtain⟨z,rfl⟩:=asV (show 0<=z by omega)
    unfold da at he
    injection he with pN eH
    injection eH with eH rM
    injection pN with hc ht hr
    injection eH with jj kv eT
    subst hc ht hr jj kv eT rM
    have:(aL S 2 0 3 4)[70]?=some (.bool S.aC):=rfl
    rw[this]at gE
    cases gE
    rw[je]at p6 p7
    refine(hf S R H d L _ x y z hl hn (by omega) (by omega) (by omega) (by omega) p6 p7).mono ?_
    rintro r o ⟨rfl,rfl⟩
    exact⟨rfl,by rw[je];rfl⟩
   ·cases hg
  ·cases hg
 ·cases hg
noncomputable def adO(N:Nat):List (FuncId×Sum):=[(134,Sum.dQ fK Il),(122,Sum.dQ fK (oW N))]
theorem Im(N:Nat)(h:bB fK 122 (Sum.dQ fK (oW N))):dD fK (dM fK (dP (adO N)) 50 40):=dU dC mixed (ee (.cons adC (.cons h .nil))) 50 40
noncomputable section
def nD:List ar3:=a7 (dI fK 122)
open Tree renaming aQ->mN,dE->mF,fj->mL,fY->mQ,dN->mR,gH->mE
abbrev Cq:List ar3:=(nD.drop 3)
abbrev u5:List ar3:=(a7 (qo true Cq))
abbrev Cr:List ar3:=(nD.drop 1)
abbrev u6:List ar3:=(a7 (qo true Cr))
abbrev Ip:List ar3:=(a7 (inner (a7 (inner (nD.drop 10)))))
abbrev Iq:List ar3:=(a7 (inner (a7 (inner (u6.drop 4)))))
abbrev Ir:List ar3:=(a7 (inner (a7 (inner (u6.drop 2)))))
abbrev It:List ar3:=(a7 (inner (a7 (inner (u5.drop 4)))))
abbrev Iu:List ar3:=(a7 (inner (a7 (inner (u5.drop 2)))))
abbrev Cs:List ar3:=(nD.drop 14)
abbrev Ct:List ar3:=(nD.drop 11)
abbrev Iv:List ar3:=(a7 (inner (Ip.drop 2)))
abbrev adP:List ar3:=(nD.drop 16)
def Qi:Nat->Bool->Bool->Tree->Tree
 |0,_,_,t=>t
 |n+1,d,b,t=>.cY d b (Qi n d b t)
theorem w7{R:bf->ai->Prop}{c v:Bool}{t:Tree}(n:Nat)(h1:c=v)(h2:t.ok R):(Qi n c v t).ok R:=by
 induction n with
 |zero=>exact h2
 |succ n ih=>exact⟨h1,ih⟩
abbrev dG:=λS R H d L=>([ab (ah L) 9,ab (aL S 2 0 3 4) 89,.abs d,ab (ay R) 3,ab (an H) 114]:List ak)
abbrev zl:=λS R H d (n:Nat) L (a m b:Int)=>(⟨[(0,aq 0 n),(1,aa a),(2,aa m),(3,aa b),(4,.func (.func 74) #[ap 1] #[]),(28,.bool (m6 .i64 (m-a)==1))],dG S R H d L⟩:ai)
abbrev adQ:=λS R H d (n:Nat) L (a m b:Int)=>(⟨[(0,aq 0 n),(1,aa a),(2,aa m),(3,aa b),(4,.func (.func 74) #[ap 1] #[])],dG S R H d L⟩:ai)
theorem adR(S R H d)(n:Nat)(L)(a m b:Int)(pH:(an H).all ag=true)(hn:(nG L)=n)(h0:m6 .i64 (m-a)=m-a){Q:aU}(l3:ao fK 220 5 Cr (zl S R H d n L a m b) Q):ao fK 220 5 nD (adQ S R H d n L a m b) Q:=
 aV bp 1 (.leaf [0,1,2,3,4,28] [0,1,2,3,4] [0,3,4]) (λu=>by kernel_rfl) (aO L R H (mQ l3))
abbrev Iw:=λS R H d (n:Nat) L (a m b:Int)=>(⟨[(0,aq 0 n),(1,aa a),(4,.func (.func 74) #[ap 1] #[]),(10,aa m),(11,aa b)],dG S R H d L⟩:ai)
abbrev adS:=λS R H d (n:Nat) L (a m b:Int)=>(⟨[(0,aq 0 n),(1,aa a),(2,aa m),(3,aa b),(4,.func (.func 74) #[ap 1] #[]),(28,.bool true)],dG S R H d L⟩:ai)
theorem adT(S R H d)(n:Nat)(L)(a m b:Int)(pH:(an H).all ag=true)(hn:(nG L)=n){Q:aU}(l3:ao fK 220 5 (u6.drop 2) (Iw S R H d n L a m b) Q):ao fK 220 5 u6 (adS S R H d n L a m b) Q:=
 aV bp 2 (.leaf [0,1,4,10,11] [0,1,2,3,4] [0,3,4]) (λu=>by kernel_rfl) (aO L R H (mQ l3))
abbrev adU:=λS R H d (n:Nat) L (a i j:Int)=>(⟨[(0,aq 0 n),(1,aa a),(4,.func (.func 74) #[ap 1] #[]),(10,aa i),(11,aa j)],dG S R H d L⟩:ai)
abbrev adV:=λS R H d (n:Nat) L (a i j:Int)=>(⟨[(0,aq 0 n),(1,aa a),(10,aa i)],dG S R H d L⟩:ai)
abbrev Qj:=λS R H d (n:Nat) L (a i j:Int)=>(⟨[(0,aq 0 n),(1,aa a),(4,.func (.func 74) #[ap 1] #[]),(10,aa i),(11,aa j)],dG S R H d L⟩:ai)
theorem adW(S R H d)(n:Nat)(L)(a i j:Int)(pH:(an H).all ag=true)(hn:(nG L)=n){Q:aU}(l3:(decide (i<j))->ao fK 220 5 (Ir.drop 2) (adU S R H d n L a i j) Q)(l4:(decide (i<j))=false->Q (.exit 0) (adV S R H d n L a i j)):ao fK 220 5 Ir (Qj S R H d n L a i j) Q:=
 aV bp 2 (.fork 0 (.leaf [0,1,4,10,11] [0,1,2,3,4] [0,3,4]) (.leaf [0,1,10] [0,1,2,3,4] [0,3,4])) (λu=>by kernel_rfl) (mF (c:=decide (i<j)) (λh0=>(aO L R H (mQ (l3 h0)))) (λh0=>(aO L R H (mE 0 (l4 h0)))))
abbrev Qk:=λS R H d (n:Nat) L (a i j:Int)=>(⟨[(0,aq 0 n),(1,aa a),(4,.func (.func 74) #[ap 1] #[]),(10,.int .i64 (m6 .i64 (m6 .i64 (asJ (m6 ar9 (m6 .i64 (i+j))) 2)+1))),(11,aa j)],dG S R H d L⟩:ai)
abbrev Ql:=λS R H d (n:Nat) L (a i j:Int)=>(⟨[(0,aq 0 n),(1,aa a),(4,.func (.func 74) #[ap 1] #[]),(10,aa i),(11,.int .i64 (m6 .i64 (asJ (m6 ar9 (m6 .i64 (i+j))) 2)))],dG S R H d L⟩:ai)
theorem adX(S R H d)(n:Nat)(L)(a i j:Int)(pH:(an H).all ag=true)(hn:(nG L)=n)(h0:0<=i)(h1:0<=j)(h2:i<2000000)(h3:j<2000000)(h4:m6 .i64 (i+j)=i+j)(h5:i<j)(h6:j<=n)(h7:0<=a)(h8:a<n)(h9:n<=1000000){Q:aU}(n0:(decide (0<=m6 .i64 (asJ (m6 ar9 (m6 .i64 (i+j))) 2))))(n1:(arF (m5 (m6 .i64 (asJ (m6 ar9 (m6 .i64 (i+j))) 2))) n))(n2:(dY (ah L) (0+m5 (m6 .i64 (asJ (m6 ar9 (m6 .i64 (i+j))) 2))*1)))(n3:(dY (ah L) (0+m5 a*1)))(n4:(rK [ab (aL S 1 2 3 4) 89,ak.abs d,ab (ah L) 9,ab (ay R) 3,ab (an H) 114]))(l8:(decide (aN (ad.aC S) (aR (ah L) (0+m5 (m6 .i64 (asJ (m6 ar9 (m6 .i64 (i+j))) 2))*1)) (aR (ah L) (0+m5 a*1))<0))->Q .normal (Qk S R H d n L a i j))(l9:(decide (aN (ad.aC S) (aR (ah L) (0+m5 (m6 .i64 (asJ (m6 ar9 (m6 .i64 (i+j))) 2))*1)) (aR (ah L) (0+m5 a*1))<0))=false->Q .normal (Ql S R H d n L a i j)):ao fK 220 5 (a7 (inner (Ir.drop 2))) (Qj S R H d n L a i j) Q:=
 aV ti 1000 (aB [4,1,1,0,1,0,1,1,0,1,3,1,1,1,1,1,1] (.fork 0 (.leaf [0,1,4,10,11] [0,1,2,3,4] [0,3,4]) (.leaf [0,1,4,10,11] [0,1,2,3,4] [0,3,4]))) (λu=>by kernel_rfl) (mN n0 (mN n1 (mN n2 (mN (decide_eq_true (by omega):(decide (0<=a))=true) (mN (show(arF (m5 a) n)=true by simp at pH hn h0 h1 h2 h3 h4 h5 h6 h7 h8 h9⊢ <;>omega) (mN n3 (aO L R H (mN n4 (aO L R H (mF (c:=decide (aN (ad.aC S) (aR (ah L) (0+m5 (m6 .i64 (asJ (m6 ar9 (m6 .i64 (i+j))) 2))*1)) (aR (ah L) (0+m5 a*1))<0)) (λh0=>(aO L R H (mQ (ao.done (by kernel_rfl) (l8 h0))))) (λh0=>(aO L R H (mQ (ao.done (by kernel_rfl) (l9 h0)))))))))))))))
abbrev Ix:=λS R H d (n:Nat) L (a i:Int)=>(⟨[(0,aq 0 n),(10,aa i),(13,aa a)],dG S R H d L⟩:ai)
abbrev adY:=λS R H d (n:Nat) L (a i:Int)=>(⟨[(0,aq 0 n),(1,aa a),(10,aa i)],dG S R H d L⟩:ai)
theorem adZ(S R H d)(n:Nat)(L)(a i:Int)(pH:(an H).all ag=true)(hn:(nG L)=n){Q:aU}(l3:ao fK 220 5 ((u6.drop 3).drop 1) (Ix S R H d n L a i) Q):ao fK 220 5 (u6.drop 3) (adY S R H d n L a i) Q:=
 aV bp 1 (.leaf [0,10,13] [0,1,2,3,4] [0,3,4]) (λu=>by kernel_rfl) (aO L R H (mQ l3))
abbrev ad0:=λS R H d (n:Nat) L (i k:Int)=>(⟨[(0,aq 0 n),(10,aa i),(13,aa k)],dG S R H d L⟩:ai)
abbrev ad1(S:ad)(R:List Int)(H:List au)(d:aA)(n:Nat)(L:List ByteArray)(i k:Int):ai:=⟨[],dG S R H d L⟩
abbrev Qm:=λS R H d (n:Nat) L (i k:Int)=>(⟨[(0,aq 0 n),(10,aa i),(13,aa k)],dG S R H d L⟩:ai)
theorem ad2(S R H d)(n:Nat)(L)(i k:Int)(pH:(an H).all ag=true)(hn:(nG L)=n)(h0:m6 .i64 (i-1)=i-1){Q:aU}(l3:(decide (k<m6 .i64 (i-1)))->ao fK 220 5 (Iq.drop 2) (ad0 S R H d n L i k) Q)(l4:(decide (k<m6 .i64 (i-1)))=false->Q (.exit 2) (ad1 S R H d n L i k)):ao fK 220 5 Iq (Qm S R H d n L i k) Q:=
 aV bp 2 (.fork 0 (.leaf [0,10,13] [0,1,2,3,4] [0,3,4]) (.leaf [] [0,1,2,3,4] [0,3,4])) (λu=>by kernel_rfl) (mF (c:=decide (k<m6 .i64 (i-1))) (λh0=>(aO L R H (mQ (l3 h0)))) (λh0=>(aO L R H (mE 2 (l4 h0)))))
abbrev Qn:=λS R H d (n:Nat) L (i k:Int)=>(⟨[(0,aq 0 n),(10,aa i),(13,.int .i64 (m6 .i64 (k+1)))],[ab (bc (bc (ah L) (0+m5 k*1) [arS (aR (ah L) (0+m5 (m6 .i64 (k+1))*1))]) (0+m5 (m6 .i64 (k+1))*1) [arS (aR (ah L) (0+m5 k*1))]) 9,ab (aL S 2 0 3 4) 89,.abs d,ab (ay R) 3,ab (an H) 114]⟩:ai)
theorem ad3(S R H d)(n:Nat)(L)(i k:Int)(pH:(an H).all ag=true)(hn:(nG L)=n)(h0:0<=k)(h1:k+1<n)(h2:n<=1000000)(h3:m6 .i64 (k+1)=k+1){Q:aU}(n0:(dY (ah L) (0+m5 (m6 .i64 (k+1))*1)))(n1:(dY (ah L) (0+m5 k*1)))(n2:(arM (0+m5 (m6 .i64 (k+1))*1+1) (nG (bc (ah L) (0+m5 k*1) [arS (aR (ah L) (0+m5 (m6 .i64 (k+1))*1))]))))(aY:DC (ay R) ag)(bh:DC (an H) ag)(l5:Q .normal (Qn S R H d n L i k)):ao fK 220 5 (Iq.drop 2) (Qm S R H d n L i k) Q:=
 aV bp 1000 (aB [0,1,1,0,1,0,1,1,0,1,0,1,1,0,1,0,1,1,0,1] (.leaf [0,10,13] [0,1,2,3,4] [0,3,4])) (λu=>by kernel_rfl) (mN (decide_eq_true (by omega):(decide (0<=m6 .i64 (k+1)))=true) (mN (show(arF (m5 (m6 .i64 (k+1))) n)=true by simp at pH hn h0 h1 h2 h3⊢ <;>omega) (mN n0 (mN (decide_eq_true (by omega):(decide (0<=k))=true) (mN (show(arF (m5 k) n)=true by simp at pH hn h0 h1 h2 h3⊢ <;>omega) (mN n1 (mN (decide_eq_true (by omega):(decide (0<=k))=true) (mN (show(arF (m5 k) n)=true by simp at pH hn h0 h1 h2 h3⊢ <;>omega) (mN (show(arM (0+m5 k*1+1) (nG (ah L)))=true by simp at pH hn h0 h1 h2 h3⊢ <;>omega) (mN (decide_eq_true (by omega):(decide (0<=m6 .i64 (k+1)))=true) (mN (show(arF (m5 (m6 .i64 (k+1))) n)=true by simp at pH hn h0 h1 h2 h3⊢ <;>omega) (mN n2 (mN (show(DC (bc (bc (ah L) (0+m5 k*1) [arS (aR (ah L) (0+m5 (m6 .i64 (k+1))*1))]) (0+m5 (m6 .i64 (k+1))*1) [arS (aR (ah L) (0+m5 k*1))]) ag)=true by simp) (mN (aS R) (mN (aZ H) (mQ (ao.done (by kernel_rfl) l5)))))))))))))))))
abbrev Qo(S:ad)(R:List Int)(H:List au)(d:aA)(n:Nat)(L:List ByteArray):ai:=⟨[],dG S R H d L⟩
theorem ad4(S R H d)(n:Nat)(L){Q:bu}(hq:Q (.ret (.tuple #[])) (dG S R H d L)):aG fK 122 220 5 Q .ret (Qo S R H d n L):=aG.ret (vs:=[]) (l:=[]) (bs:=[0,1,2,3,4]) (pl:=[0,3,4]) (q:=[ah L,ay R,an H]) (λu=>by kernel_rfl) (by kernel_rfl) (ia L R H be) hq
abbrev Qp(S:ad)(R:List Int)(H:List au)(d:aA)(n:Nat)(L:List ByteArray):ai:=⟨[],dG S R H d L⟩
theorem ad5(S R H d)(n:Nat)(L)(pH:(an H).all ag=true)(hn:(nG L)=n){Q:aU}(l3:Q .ret (Qo S R H d n L)):ao fK 220 5 (u6.drop 5) (Qp S R H d n L) Q:=
 aV bp 1 (.leaf [] [0,1,2,3,4] [0,3,4]) (λu=>by kernel_rfl) (aO L R H (mR l3))
abbrev Qq(S:ad)(R:List Int)(H:List au)(d:aA)(n:Nat)(L:List ByteArray):ai:=⟨[],dG S R H d L⟩
theorem ad6(S R H d)(n:Nat)(L){Q:bu}(hq:Q (.ret (.tuple #[])) (dG S R H d L)):aG fK 122 220 5 Q .ret (Qq S R H d n L):=aG.ret (vs:=[]) (l:=[]) (bs:=[0,1,2,3,4]) (pl:=[0,3,4]) (q:=[ah L,ay R,an H]) (λu=>by kernel_rfl) (by kernel_rfl) (ia L R H be) hq
theorem ad7(S R H d)(n:Nat)(L)(pH:(an H).all ag=true)(hn:(nG L)=n){Q:aU}(l3:Q .ret (Qq S R H d n L)):ao fK 220 5 (u5.drop 5) (Qp S R H d n L) Q:=
 aV bp 1 (.leaf [] [0,1,2,3,4] [0,3,4]) (λu=>by kernel_rfl) (aO L R H (mR l3))
abbrev zm:=λS R H d (n:Nat) L (a m b:Int)=>(⟨[(0,aq 0 n),(1,aa a),(2,aa m),(3,aa b),(4,.func (.func 74) #[ap 1] #[]),(80,.bool (m6 .i64 (b-m)==1))],dG S R H d L⟩:ai)
abbrev ad8:=λS R H d (n:Nat) L (a m b:Int)=>(⟨[(0,aq 0 n),(1,aa a),(2,aa m),(3,aa b),(4,.func (.func 74) #[ap 1] #[]),(28,.bool false)],dG S R H d L⟩:ai)
theorem ad9(S R H d)(n:Nat)(L)(a m b:Int)(pH:(an H).all ag=true)(hn:(nG L)=n)(h0:m6 .i64 (b-m)=b-m){Q:aU}(l3:ao fK 220 5 (Cr.drop 2) (zm S R H d n L a m b) Q):ao fK 220 5 Cr (ad8 S R H d n L a m b) Q:=
 aV bp 2 (.leaf [0,1,2,3,4,80] [0,1,2,3,4] [0,3,4]) (λu=>by kernel_rfl) (aO L R H (mQ l3))
abbrev Iy:=λS R H d (n:Nat) L (a m b:Int)=>(⟨[(0,aq 0 n),(2,aa m),(4,.func (.func 74) #[ap 1] #[]),(14,aa a),(15,aa m)],dG S R H d L⟩:ai)
abbrev aea:=λS R H d (n:Nat) L (a m b:Int)=>(⟨[(0,aq 0 n),(1,aa a),(2,aa m),(3,aa b),(4,.func (.func 74) #[ap 1] #[]),(80,.bool true)],dG S R H d L⟩:ai)
theorem aeb(S R H d)(n:Nat)(L)(a m b:Int)(pH:(an H).all ag=true)(hn:(nG L)=n){Q:aU}(l3:ao fK 220 5 (u5.drop 2) (Iy S R H d n L a m b) Q):ao fK 220 5 u5 (aea S R H d n L a m b) Q:=
 aV bp 2 (.leaf [0,2,4,14,15] [0,1,2,3,4] [0,3,4]) (λu=>by kernel_rfl) (aO L R H (mQ l3))
abbrev aec:=λS R H d (n:Nat) L (m i j:Int)=>(⟨[(0,aq 0 n),(2,aa m),(4,.func (.func 74) #[ap 1] #[]),(14,aa i),(15,aa j)],dG S R H d L⟩:ai)
abbrev aed:=λS R H d (n:Nat) L (m i j:Int)=>(⟨[(0,aq 0 n),(2,aa m),(14,aa i)],dG S R H d L⟩:ai)
abbrev Qr:=λS R H d (n:Nat) L (m i j:Int)=>(⟨[(0,aq 0 n),(2,aa m),(4,.func (.func 74) #[ap 1] #[]),(14,aa i),(15,aa j)],dG S R H d L⟩:ai)
theorem aee(S R H d)(n:Nat)(L)(m i j:Int)(pH:(an H).all ag=true)(hn:(nG L)=n){Q:aU}(l3:(decide (i<j))->ao fK 220 5 (Iu.drop 2) (aec S R H d n L m i j) Q)(l4:(decide (i<j))=false->Q (.exit 4) (aed S R H d n L m i j)):ao fK 220 5 Iu (Qr S R H d n L m i j) Q:=
 aV bp 2 (.fork 0 (.leaf [0,2,4,14,15] [0,1,2,3,4] [0,3,4]) (.leaf [0,2,14] [0,1,2,3,4] [0,3,4])) (λu=>by kernel_rfl) (mF (c:=decide (i<j)) (λh0=>(aO L R H (mQ (l3 h0)))) (λh0=>(aO L R H (mE 4 (l4 h0)))))
abbrev Qs:=λS R H d (n:Nat) L (m i j:Int)=>(⟨[(0,aq 0 n),(2,aa m),(4,.func (.func 74) #[ap 1] #[]),(14,.int .i64 (m6 .i64 (m6 .i64 (asJ (m6 ar9 (m6 .i64 (i+j))) 2)+1))),(15,aa j)],dG S R H d L⟩:ai)
abbrev Qt:=λS R H d (n:Nat) L (m i j:Int)=>(⟨[(0,aq 0 n),(2,aa m),(4,.func (.func 74) #[ap 1] #[]),(14,aa i),(15,.int .i64 (m6 .i64 (asJ (m6 ar9 (m6 .i64 (i+j))) 2)))],dG S R H d L⟩:ai)
theorem aef(S R H d)(n:Nat)(L)(m i j:Int)(pH:(an H).all ag=true)(hn:(nG L)=n)(h0:0<=i)(h1:0<=j)(h2:i<2000000)(h3:j<2000000)(h4:m6 .i64 (i+j)=i+j)(h5:i<j)(h6:j<=n)(h7:0<=m)(h8:m<n)(h9:n<=1000000){Q:aU}(n0:(dY (ah L) (0+m5 m*1)))(n1:(decide (0<=m6 .i64 (asJ (m6 ar9 (m6 .i64 (i+j))) 2))))(n2:(arF (m5 (m6 .i64 (asJ (m6 ar9 (m6 .i64 (i+j))) 2))) n))(n3:(dY (ah L) (0+m5 (m6 .i64 (asJ (m6 ar9 (m6 .i64 (i+j))) 2))*1)))(n4:(rK [ab (aL S 1 2 3 4) 89,ak.abs d,ab (ah L) 9,ab (ay R) 3,ab (an H) 114]))(l8:(!decide (aN (ad.aC S) (aR (ah L) (0+m5 m*1)) (aR (ah L) (0+m5 (m6 .i64 (asJ (m6 ar9 (m6 .i64 (i+j))) 2))*1))<0))->Q .normal (Qs S R H d n L m i j))(l9:(!decide (aN (ad.aC S) (aR (ah L) (0+m5 m*1)) (aR (ah L) (0+m5 (m6 .i64 (asJ (m6 ar9 (m6 .i64 (i+j))) 2))*1))<0))=false->Q .normal (Qt S R H d n L m i j)):ao fK 220 5 (a7 (inner (Iu.drop 2))) (Qr S R H d n L m i j) Q:=
 aV ti 1000 (aB [4,1,1,0,1,0,1,1,0,1,3,1,1,1,1,1,1] (.fork 0 (.leaf [0,2,4,14,15] [0,1,2,3,4] [0,3,4]) (.leaf [0,2,4,14,15] [0,1,2,3,4] [0,3,4]))) (λu=>by kernel_rfl) (mN (decide_eq_true (by omega):(decide (0<=m))=true) (mN (show(arF (m5 m) n)=true by simp at pH hn h0 h1 h2 h3 h4 h5 h6 h7 h8 h9⊢ <;>omega) (mN n0 (mN n1 (mN n2 (mN n3 (aO L R H (mN n4 (aO L R H (mF (c:= !decide (aN (ad.aC S) (aR (ah L) (0+m5 m*1)) (aR (ah L) (0+m5 (m6 .i64 (asJ (m6 ar9 (m6 .i64 (i+j))) 2))*1))<0)) (λh0=>(aO L R H (mQ (ao.done (by kernel_rfl) (l8 h0))))) (λh0=>(aO L R H (mQ (ao.done (by kernel_rfl) (l9 h0)))))))))))))))
abbrev Iz:=λS R H d (n:Nat) L (m i:Int)=>(⟨[(0,aq 0 n),(14,aa i),(17,aa m)],dG S R H d L⟩:ai)
abbrev aeg:=λS R H d (n:Nat) L (m i:Int)=>(⟨[(0,aq 0 n),(2,aa m),(14,aa i)],dG S R H d L⟩:ai)
theorem aeh(S R H d)(n:Nat)(L)(m i:Int)(pH:(an H).all ag=true)(hn:(nG L)=n){Q:aU}(l3:ao fK 220 5 ((u5.drop 3).drop 1) (Iz S R H d n L m i) Q):ao fK 220 5 (u5.drop 3) (aeg S R H d n L m i) Q:=
 aV bp 1 (.leaf [0,14,17] [0,1,2,3,4] [0,3,4]) (λu=>by kernel_rfl) (aO L R H (mQ l3))
abbrev aei:=λS R H d (n:Nat) L (i k:Int)=>(⟨[(0,aq 0 n),(14,aa i),(17,aa k)],dG S R H d L⟩:ai)
abbrev aej(S:ad)(R:List Int)(H:List au)(d:aA)(n:Nat)(L:List ByteArray)(i k:Int):ai:=⟨[],dG S R H d L⟩
abbrev Qu:=λS R H d (n:Nat) L (i k:Int)=>(⟨[(0,aq 0 n),(14,aa i),(17,aa k)],dG S R H d L⟩:ai)
theorem aek(S R H d)(n:Nat)(L)(i k:Int)(pH:(an H).all ag=true)(hn:(nG L)=n){Q:aU}(l3:(decide (k>i))->ao fK 220 5 (It.drop 2) (aei S R H d n L i k) Q)(l4:(decide (k>i))=false->Q (.exit 6) (aej S R H d n L i k)):ao fK 220 5 It (Qu S R H d n L i k) Q:=
 aV bp 2 (.fork 0 (.leaf [0,14,17] [0,1,2,3,4] [0,3,4]) (.leaf [] [0,1,2,3,4] [0,3,4])) (λu=>by kernel_rfl) (mF (c:=decide (k>i)) (λh0=>(aO L R H (mQ (l3 h0)))) (λh0=>(aO L R H (mE 6 (l4 h0)))))
abbrev Qv:=λS R H d (n:Nat) L (i k:Int)=>(⟨[(0,aq 0 n),(14,aa i),(17,.int .i64 (m6 .i64 (k-1)))],[ab (bc (bc (ah L) (0+m5 k*1) [arS (aR (ah L) (0+m5 (m6 .i64 (k-1))*1))]) (0+m5 (m6 .i64 (k-1))*1) [arS (aR (ah L) (0+m5 k*1))]) 9,ab (aL S 2 0 3 4) 89,.abs d,ab (ay R) 3,ab (an H) 114]⟩:ai)
theorem ael(S R H d)(n:Nat)(L)(i k:Int)(pH:(an H).all ag=true)(hn:(nG L)=n)(h0:0<k)(h1:k<n)(h2:n<=1000000)(h3:m6 .i64 (k-1)=k-1){Q:aU}(n0:(dY (ah L) (0+m5 (m6 .i64 (k-1))*1)))(n1:(dY (ah L) (0+m5 k*1)))(n2:(arM (0+m5 (m6 .i64 (k-1))*1+1) (nG (bc (ah L) (0+m5 k*1) [arS (aR (ah L) (0+m5 (m6 .i64 (k-1))*1))]))))(aY:DC (ay R) ag)(bh:DC (an H) ag)(l5:Q .normal (Qv S R H d n L i k)):ao fK 220 5 (It.drop 2) (Qu S R H d n L i k) Q:=
 aV bp 1000 (aB [0,1,1,0,1,0,1,1,0,1,0,1,1,0,1,0,1,1,0,1] (.leaf [0,14,17] [0,1,2,3,4] [0,3,4])) (λu=>by kernel_rfl) (mN (decide_eq_true (by omega):(decide (0<=m6 .i64 (k-1)))=true) (mN (show(arF (m5 (m6 .i64 (k-1))) n)=true by simp at pH hn h0 h1 h2 h3⊢ <;>omega) (mN n0 (mN (decide_eq_true (by omega):(decide (0<=k))=true) (mN (show(arF (m5 k) n)=true by simp at pH hn h0 h1 h2 h3⊢ <;>omega) (mN n1 (mN (decide_eq_true (by omega):(decide (0<=k))=true) (mN (show(arF (m5 k) n)=true by simp at pH hn h0 h1 h2 h3⊢ <;>omega) (mN (show(arM (0+m5 k*1+1) (nG (ah L)))=true by simp at pH hn h0 h1 h2 h3⊢ <;>omega) (mN (decide_eq_true (by omega):(decide (0<=m6 .i64 (k-1)))=true) (mN (show(arF (m5 (m6 .i64 (k-1))) n)=true by simp at pH hn h0 h1 h2 h3⊢ <;>omega) (mN n2 (mN (show(DC (bc (bc (ah L) (0+m5 k*1) [arS (aR (ah L) (0+m5 (m6 .i64 (k-1))*1))]) (0+m5 (m6 .i64 (k-1))*1) [arS (aR (ah L) (0+m5 k*1))]) ag)=true by simp) (mN (aS R) (mN (aZ H) (mQ (ao.done (by kernel_rfl) l5)))))))))))))))))
abbrev IA:=λS R H d (n:Nat) L (a m b:Int)=>(⟨[(0,aq 0 n),(1,aa a),(2,aa m),(3,aa b),(4,.func (.func 74) #[ap 1] #[]),(18,.int .i64 (m6 .i64 (asJ (m6 ar9 (m6 .i64 (a+b))) 2))),(19,.int .i64 (m6 .i64 (m6 .i64 (asJ (m6 ar9 (m6 .i64 (a+b))) 2)+m))),(20,.int .i64 (m6 .i64 (m6 .i64 (m6 .i64 (asJ (m6 ar9 (m6 .i64 (a+b))) 2)+m)-b))),(21,.int .i64 (m6 .i64 (asJ (m6 ar9 (m6 .i64 (a+b))) 2))),(22,.int .i64 (m6 .i64 (m6 .i64 (m6 .i64 (asJ (m6 ar9 (m6 .i64 (a+b))) 2)+m)-1)))],dG S R H d L⟩:ai)
abbrev IB:=λS R H d (n:Nat) L (a m b:Int)=>(⟨[(0,aq 0 n),(1,aa a),(2,aa m),(3,aa b),(4,.func (.func 74) #[ap 1] #[]),(18,.int .i64 (m6 .i64 (asJ (m6 ar9 (m6 .i64 (a+b))) 2))),(19,.int .i64 (m6 .i64 (m6 .i64 (asJ (m6 ar9 (m6 .i64 (a+b))) 2)+m))),(20,aa a),(21,aa m),(22,.int .i64 (m6 .i64 (m6 .i64 (m6 .i64 (asJ (m6 ar9 (m6 .i64 (a+b))) 2)+m)-1)))],dG S R H d L⟩:ai)
abbrev aem:=λS R H d (n:Nat) L (a m b:Int)=>(⟨[(0,aq 0 n),(1,aa a),(2,aa m),(3,aa b),(4,.func (.func 74) #[ap 1] #[]),(80,.bool false)],dG S R H d L⟩:ai)
theorem aen(S R H d)(n:Nat)(L)(a m b:Int)(pH:(an H).all ag=true)(hn:(nG L)=n)(h0:0<=a)(h1:0<=b)(h2:a<2000000)(h3:b<2000000)(h4:m6 .i64 (a+b)=a+b){Q:aU}(l3:(decide (m>m6 .i64 (asJ (m6 ar9 (m6 .i64 (a+b))) 2)))->ao fK 220 5 (Cq.drop 7) (IA S R H d n L a m b) Q)(l4:(decide (m>m6 .i64 (asJ (m6 ar9 (m6 .i64 (a+b))) 2)))=false->ao fK 220 5 (Cq.drop 7) (IB S R H d n L a m b) Q):ao fK 220 5 Cq (aem S R H d n L a m b) Q:=
 aV bp 7 (.fork 3 (.leaf [0,1,2,3,4,18,19,20,21,22] [0,1,2,3,4] [0,3,4]) (.leaf [0,1,2,3,4,18,19,20,21,22] [0,1,2,3,4] [0,3,4])) (λu=>by kernel_rfl) (mF (c:=decide (m>m6 .i64 (asJ (m6 ar9 (m6 .i64 (a+b))) 2))) (λh0=>(aO L R H (mQ (l3 h0)))) (λh0=>(aO L R H (mQ (l4 h0)))))
abbrev aeo:=λS R H d (n:Nat) L (a m b w q s r p:Int)=>(⟨[(0,aq 0 n),(1,aa a),(2,aa m),(3,aa b),(4,.func (.func 74) #[ap 1] #[]),(18,aa w),(19,aa q),(20,aa s),(21,aa r),(22,aa p)],dG S R H d L⟩:ai)
abbrev aep:=λS R H d (n:Nat) L (a m b w q s r p:Int)=>(⟨[(0,aq 0 n),(1,aa a),(2,aa m),(3,aa b),(4,.func (.func 74) #[ap 1] #[]),(18,aa w),(19,aa q),(20,aa s)],dG S R H d L⟩:ai)
abbrev aeq:=λS R H d (n:Nat) L (a m b w q s r p:Int)=>(⟨[(0,aq 0 n),(1,aa a),(2,aa m),(3,aa b),(4,.func (.func 74) #[ap 1] #[]),(18,aa w),(19,aa q),(20,aa s),(21,aa r),(22,aa p)],dG S R H d L⟩:ai)
theorem aer(S R H d)(n:Nat)(L)(a m b w q s r p:Int)(pH:(an H).all ag=true)(hn:(nG L)=n){Q:aU}(l3:(decide (s<r))->ao fK 220 5 (Ip.drop 2) (aeo S R H d n L a m b w q s r p) Q)(l4:(decide (s<r))=false->Q (.exit 8) (aep S R H d n L a m b w q s r p)):ao fK 220 5 Ip (aeq S R H d n L a m b w q s r p) Q:=
 aV bp 2 (.fork 0 (.leaf [0,1,2,3,4,18,19,20,21,22] [0,1,2,3,4] [0,3,4]) (.leaf [0,1,2,3,4,18,19,20] [0,1,2,3,4] [0,3,4])) (λu=>by kernel_rfl) (mF (c:=decide (s<r)) (λh0=>(aO L R H (mQ (l3 h0)))) (λh0=>(aO L R H (mE 8 (l4 h0)))))
abbrev Qw:=λS R H d (n:Nat) L (a m b w q i j p:Int)=>(⟨[(0,aq 0 n),(1,aa a),(2,aa m),(3,aa b),(4,.func (.func 74) #[ap 1] #[]),(18,aa w),(19,aa q),(20,aa i),(21,aa j),(22,aa p),(23,.int .i64 (m6 .i64 (asJ (m6 ar9 (m6 .i64 (i+j))) 2)))],dG S R H d L⟩:ai)
abbrev aes:=λS R H d (n:Nat) L (a m b w q i j p:Int)=>(⟨[(0,aq 0 n),(1,aa a),(2,aa m),(3,aa b),(4,.func (.func 74) #[ap 1] #[]),(18,aa w),(19,aa q),(20,aa i),(21,aa j),(22,aa p)],dG S R H d L⟩:ai)
theorem aet(S R H d)(n:Nat)(L)(a m b w q i j p:Int)(pH:(an H).all ag=true)(hn:(nG L)=n)(h0:0<=i)(h1:0<=j)(h2:i<2000000)(h3:j<2000000)(h4:m6 .i64 (i+j)=i+j){Q:aU}(l3:ao fK 220 5 (Iv.drop 1) (Qw S R H d n L a m b w q i j p) Q):ao fK 220 5 Iv (aes S R H d n L a m b w q i j p) Q:=
 aV bp 1 (.leaf [0,1,2,3,4,18,19,20,21,22,23] [0,1,2,3,4] [0,3,4]) (λu=>by kernel_rfl) (aO L R H (mQ l3))
abbrev Qx:=λS R H d (n:Nat) L (a m b w q i j p x:Int)=>(⟨[(0,aq 0 n),(1,aa a),(2,aa m),(3,aa b),(4,.func (.func 74) #[ap 1] #[]),(18,aa w),(19,aa q),(20,.int .i64 (m6 .i64 (x+1))),(21,aa j),(22,aa p)],dG S R H d L⟩:ai)
abbrev aeu:=λS R H d (n:Nat) L (a m b w q i j p x:Int)=>(⟨[(0,aq 0 n),(1,aa a),(2,aa m),(3,aa b),(4,.func (.func 74) #[ap 1] #[]),(18,aa w),(19,aa q),(20,aa i),(21,aa x),(22,aa p)],dG S R H d L⟩:ai)
abbrev aev:=λS R H d (n:Nat) L (a m b w q i j p x:Int)=>(⟨[(0,aq 0 n),(1,aa a),(2,aa m),(3,aa b),(4,.func (.func 74) #[ap 1] #[]),(18,aa w),(19,aa q),(20,aa i),(21,aa j),(22,aa p),(23,aa x)],dG S R H d L⟩:ai)
theorem aew(S R H d)(n:Nat)(L)(a m b w q i j p x:Int)(pH:(an H).all ag=true)(hn:(nG L)=n)(h0:0<=x)(h1:x<n)(h2:0<=p-x)(h3:p-x<n)(h4:n<=1000000)(h5:m6 .i64 (p-x)=p-x)(h6:m6 .i64 (x+1)=x+1){Q:aU}(n0:(dY (ah L) (0+m5 (m6 .i64 (p-x))*1)))(n1:(dY (ah L) (0+m5 x*1)))(n2:(rK [ab (aL S 1 2 3 4) 89,ak.abs d,ab (ah L) 9,ab (ay R) 3,ab (an H) 114]))(l6:(!decide (aN (ad.aC S) (aR (ah L) (0+m5 (m6 .i64 (p-x))*1)) (aR (ah L) (0+m5 x*1))<0))->Q .normal (Qx S R H d n L a m b w q i j p x))(l7:(!decide (aN (ad.aC S) (aR (ah L) (0+m5 (m6 .i64 (p-x))*1)) (aR (ah L) (0+m5 x*1))<0))=false->Q .normal (aeu S R H d n L a m b w q i j p x)):ao fK 220 5 (Iv.drop 1) (aev S R H d n L a m b w q i j p x) Q:=
 aV ti 1000 (aB [0,1,1,0,1,0,1,1,0,1,3,1,1,1,1,1,1] (.fork 0 (.leaf [0,1,2,3,4,18,19,20,21,22] [0,1,2,3,4] [0,3,4]) (.leaf [0,1,2,3,4,18,19,20,21,22] [0,1,2,3,4] [0,3,4]))) (λu=>by kernel_rfl) (mN (decide_eq_true (by omega):(decide (0<=m6 .i64 (p-x)))=true) (mN (show(arF (m5 (m6 .i64 (p-x))) n)=true by simp at pH hn h0 h1 h2 h3 h4 h5 h6⊢ <;>omega) (mN n0 (mN (decide_eq_true (by omega):(decide (0<=x))=true) (mN (show(arF (m5 x) n)=true by simp at pH hn h0 h1 h2 h3 h4 h5 h6⊢ <;>omega) (mN n1 (aO L R H (mN n2 (aO L R H (mF (c:= !decide (aN (ad.aC S) (aR (ah L) (0+m5 (m6 .i64 (p-x))*1)) (aR (ah L) (0+m5 x*1))<0)) (λh0=>(aO L R H (mQ (ao.done (by kernel_rfl) (l6 h0))))) (λh0=>(aO L R H (mQ (ao.done (by kernel_rfl) (l7 h0)))))))))))))))
abbrev IC:=λ(N:Nat) S R H d (n:Nat) L (a m b w q s:Int)=>(⟨[(0,aq 0 n),(1,aa a),(3,aa b),(4,.func (.func 74) #[ap 1] #[]),(18,aa w),(20,aa s),(24,.int .i64 (m6 .i64 (q-s)))],[ab (ah (gZ (di (ah L)) (m5 s) (m5 m) (m5 (m6 .i64 (q-s))))) 9,ab (aL S 2 0 3 4) 89,.abs d,ab (ay R) 3,ab (an H) 114]⟩:ai)
abbrev IE:=λ(N:Nat) S R H d (n:Nat) L (a m b w q s:Int)=>(⟨[(0,aq 0 n),(1,aa a),(3,aa b),(4,.func (.func 74) #[ap 1] #[]),(18,aa w),(20,aa s),(24,.int .i64 (m6 .i64 (q-s)))],dG S R H d L⟩:ai)
abbrev IG:=λ(N:Nat) S R H d (n:Nat) L (a m b w q s:Int)=>(⟨[(0,aq 0 n),(1,aa a),(3,aa b),(4,.func (.func 74) #[ap 1] #[]),(18,aa w),(20,aa s),(24,.int .i64 (m6 .i64 (q-s)))],dG S R H d L⟩:ai)
abbrev aex:=λ(N:Nat) S R H d (n:Nat) L (a m b w q s:Int)=>(⟨[(0,aq 0 n),(1,aa a),(2,aa m),(3,aa b),(4,.func (.func 74) #[ap 1] #[]),(18,aa w),(19,aa q),(20,aa s)],dG S R H d L⟩:ai)
theorem aey(N:Nat)(S R H d)(n:Nat)(L)(a m b w q s:Int)(hN:bB fK 122 (Sum.dQ fK (oW N)))(pH:(an H).all ag=true)(hn:(nG L)=n)(h0:0<=s)(h1:0<=m)(h2:q<=2000000)(h3:0<=q)(h4:m6 .i64 (q-s)=q-s){Q:aU}(n0:(decide (s<m))->(decide (m<m6 .i64 (q-s)))->(jf [ab (ah L) 9,ab (aL S 2 0 3 4) 89,ak.abs d,ab (ay R) 3,ab (an H) 114] n&&(arE n n&&(arE 74 74&&(decide (0<=s)&&(decide (s<m)&&(decide (m<m6 .i64 (q-s))&&decide (m6 .i64 (q-s)<=(↑n:Int))))))))=true)(l3:(decide (s<m))->(decide (m<m6 .i64 (q-s)))->ao fK 220 5 (Ct.drop 3) (IC N S R H d n L a m b w q s) Q)(l5:(decide (s<m))->(decide (m<m6 .i64 (q-s)))=false->ao fK 220 5 (Ct.drop 3) (IE N S R H d n L a m b w q s) Q)(l6:(decide (s<m))=false->ao fK 220 5 (Ct.drop 3) (IG N S R H d n L a m b w q s) Q):ao fK 220 5 Ct (aex N S R H d n L a m b w q s) Q:=
 aV (Im N hN) 3 (.fork 0 (aB [1,1,1] (.fork 0 (aB [3,1,1,1,1,1,1] (.leaf [0,1,3,4,18,20,24] [0,1,2,3,4] [0,3,4])) (.leaf [0,1,3,4,18,20,24] [0,1,2,3,4] [0,3,4]))) (aB [0,0,0] (.leaf [0,1,3,4,18,20,24] [0,1,2,3,4] [0,3,4]))) (λu=>by kernel_rfl) (mF (c:=decide (s<m)) (λh0=>(w7 3 h0 (mF (c:=decide (m<m6 .i64 (q-s))) (λh1=>(aO L R H (mN (n0 h0 h1) (mN (aW (gZ (di (ah L)) (m5 s) (m5 m) (m5 (m6 .i64 (q-s))))) (mN (aS R) (mN (aZ H) (mN (aW (gZ (di (ah L)) (m5 s) (m5 m) (m5 (m6 .i64 (q-s))))) (mN (aS R) (mN (aZ H) (mQ (l3 h0 h1))))))))))) (λh1=>(aO L R H (mQ (l5 h0 h1))))))) (λh0=>(w7 3 h0 (aO L R H (mQ (l6 h0))))))
abbrev IH:=λ(N:Nat) S R H d (n:Nat) L (a b w s e:Int)=>(⟨[(0,aq 0 n),(3,aa b),(4,.func (.func 74) #[ap 1] #[]),(18,aa w),(24,aa e)],[ab (ah (b9 (aN (ad.aC S)) (di (ah L)) (m5 a) (m5 w))) 9,ab (aL S 2 0 3 4) 89,.abs d,ab (ay R) 3,ab (an H) 114]⟩:ai)
abbrev aez:=λ(N:Nat) S R H d (n:Nat) L (a b w s e:Int)=>(⟨[(0,aq 0 n),(3,aa b),(4,.func (.func 74) #[ap 1] #[]),(18,aa w),(24,aa e)],dG S R H d L⟩:ai)
abbrev aeA:=λ(N:Nat) S R H d (n:Nat) L (a b w s e:Int)=>(⟨[(0,aq 0 n),(3,aa b),(4,.func (.func 74) #[ap 1] #[]),(18,aa w),(24,aa e)],dG S R H d L⟩:ai)
abbrev aeB:=λ(N:Nat) S R H d (n:Nat) L (a b w s e:Int)=>(⟨[(0,aq 0 n),(1,aa a),(3,aa b),(4,.func (.func 74) #[ap 1] #[]),(18,aa w),(20,aa s),(24,aa e)],dG S R H d L⟩:ai)
theorem aeC(N:Nat)(S R H d)(n:Nat)(L)(a b w s e:Int)(hN:bB fK 122 (Sum.dQ fK (oW N)))(pH:(an H).all ag=true)(hn:(nG L)=n){Q:aU}(n0:(decide (a<s))->(decide (s<w))->(jf [ab (ah L) 9,ab (aL S 2 0 3 4) 89,ak.abs d,ab (ay R) 3,ab (an H) 114] n&&(arE n n&&(arE 74 74&&u0 (aN (ad.aC S)) (di (ah L)) n a s w N))))(l3:(decide (a<s))->(decide (s<w))->ao fK 220 5 (Cs.drop 2) (IH N S R H d n L a b w s e) Q)(l5:(decide (a<s))->(decide (s<w))=false->ao fK 220 5 (Cs.drop 2) (aez N S R H d n L a b w s e) Q)(l6:(decide (a<s))=false->ao fK 220 5 (Cs.drop 2) (aeA N S R H d n L a b w s e) Q):ao fK 220 5 Cs (aeB N S R H d n L a b w s e) Q:=
 aV (Im N hN) 2 (.fork 0 (aB [1,1,1] (.fork 0 (aB [3,1,1,1,1,1,1] (.leaf [0,3,4,18,24] [0,1,2,3,4] [0,3,4])) (.leaf [0,3,4,18,24] [0,1,2,3,4] [0,3,4]))) (aB [0,0,0] (.leaf [0,3,4,18,24] [0,1,2,3,4] [0,3,4]))) (λu=>by kernel_rfl) (mF (c:=decide (a<s)) (λh0=>(w7 3 h0 (mF (c:=decide (s<w)) (λh1=>(aO L R H (mN (n0 h0 h1) (mN (aW (b9 (aN (ad.aC S)) (di (ah L)) (m5 a) (m5 w))) (mN (aS R) (mN (aZ H) (mN (aW (b9 (aN (ad.aC S)) (di (ah L)) (m5 a) (m5 w))) (mN (aS R) (mN (aZ H) (mQ (l3 h0 h1))))))))))) (λh1=>(aO L R H (mQ (l5 h0 h1))))))) (λh0=>(w7 3 h0 (aO L R H (mQ (l6 h0))))))
abbrev II:=λ(N:Nat) S R H d (n:Nat) L (b w e:Int)=>(⟨[],[ab (ah (b9 (aN (ad.aC S)) (di (ah L)) (m5 w) (m5 b))) 9,ab (aL S 2 0 3 4) 89,.abs d,ab (ay R) 3,ab (an H) 114]⟩:ai)
abbrev aeD(N:Nat)(S:ad)(R:List Int)(H:List au)(d:aA)(n:Nat)(L:List ByteArray)(b w e:Int):ai:=⟨[],dG S R H d L⟩
abbrev aeE(N:Nat)(S:ad)(R:List Int)(H:List au)(d:aA)(n:Nat)(L:List ByteArray)(b w e:Int):ai:=⟨[],dG S R H d L⟩
abbrev aeF:=λ(N:Nat) S R H d (n:Nat) L (b w e:Int)=>(⟨[(0,aq 0 n),(3,aa b),(4,.func (.func 74) #[ap 1] #[]),(18,aa w),(24,aa e)],dG S R H d L⟩:ai)
theorem aeG(N:Nat)(S R H d)(n:Nat)(L)(b w e:Int)(hN:bB fK 122 (Sum.dQ fK (oW N)))(pH:(an H).all ag=true)(hn:(nG L)=n){Q:aU}(n0:(decide (w<e))->(decide (e<b))->(jf [ab (ah L) 9,ab (aL S 2 0 3 4) 89,ak.abs d,ab (ay R) 3,ab (an H) 114] n&&(arE n n&&(arE 74 74&&u0 (aN (ad.aC S)) (di (ah L)) n w e b N))))(l3:(decide (w<e))->(decide (e<b))->Q .normal (II N S R H d n L b w e))(l5:(decide (w<e))->(decide (e<b))=false->Q .normal (aeD N S R H d n L b w e))(l6:(decide (w<e))=false->Q .normal (aeE N S R H d n L b w e)):ao fK 220 5 adP (aeF N S R H d n L b w e) Q:=
 aV (Im N hN) 1000 (.fork 0 (aB [1,1,1] (.fork 0 (aB [3,1,1,1,1,1,1] (.leaf [] [0,1,2,3,4] [0,3,4])) (.leaf [] [0,1,2,3,4] [0,3,4]))) (aB [0,0,0] (.leaf [] [0,1,2,3,4] [0,3,4]))) (λu=>by kernel_rfl) (mF (c:=decide (w<e)) (λh0=>(w7 3 h0 (mF (c:=decide (e<b)) (λh1=>(aO L R H (mN (n0 h0 h1) (mN (aW (b9 (aN (ad.aC S)) (di (ah L)) (m5 w) (m5 b))) (mN (aS R) (mN (aZ H) (mN (aW (b9 (aN (ad.aC S)) (di (ah L)) (m5 w) (m5 b))) (mN (aS R) (mN (aZ H) (mQ (ao.done (by kernel_rfl) (l3 h0 h1)))))))))))) (λh1=>(aO L R H (mQ (ao.done (by kernel_rfl) (l5 h0 h1)))))))) (λh0=>(w7 3 h0 (aO L R H (mQ (ao.done (by kernel_rfl) (l6 h0)))))))
end
end Go.Proofs.YtnlkkgpcikkpoaaGreat
namespace Go.Proofs.YtnlkkgpcikkpoaaGreat.Vm
open Go.RowKit
def QA(N:ai->Prop)(Q:bf->ai->Prop):bf->ai->Prop
 | .normal,d=>N d
 |x,d=>Q x d
theorem ao.join{P:Program}{n k:Nat}{l l':List ar3}{d:ai}{Q:bf->ai->Prop}(h:ao P n k l d (QA (λd'=>ao P n k l' d' Q) Q)):ao P n k (l++l') d Q:=by
 intro X hn hk a w hd
 refine GG (yK (h X hn hk a w hd) λe a' w' he=>?_)
 obtain⟨x,d',h1,h2,h3⟩:=he
 cases h2 with
 |normal=>exact h1 X hn hk a' w' h3
 |exit j=>exact⟨_,d',h1,.exit j,h3⟩
 |ret=>exact⟨_,d',h1,.ret,h3⟩
 |panic v v' hv=>exact⟨_,d',h1,.panic v v' hv,h3⟩
theorem ao.pass{P:Program}{n k:Nat}{l:List ar3}{d:ai}{Q:bf->ai->Prop}(h:ao P n k l d Q):ao P n k (Code.skip::l) d Q:=λX hn hk a w hd=>wp_skip (Q:=Exit.then (jC P l _) _) (h X hn hk a w hd)
theorem QA.ret{N:ai->Prop}{Q:bf->ai->Prop}{d:ai}(h:Q .ret d):QA N Q .ret d:=h
theorem QA.normal{N:ai->Prop}{Q:bf->ai->Prop}{d:ai}(h:N d):QA N Q .normal d:=h
theorem ao.aeH{P:Program}{n k:Nat}{L:List ar3}{d:ai}{Q:bf->ai->Prop}(i:Nat){c:Nat}(hl:Br (L.drop i)=some c)(hi:arF c n=true)(hv:j7 d.sl c=some (.bool false))
 (hs:a7 (qo false (L.drop i))=[Code.skip])(h:ao P n k (L.drop (i+1)) d Q):ao P n k (L.drop i) d Q:=
 ao.wD i hl hi hv (by rw[hs];exact ao.pass h)
end Go.Proofs.YtnlkkgpcikkpoaaGreat.Vm
namespace Go.Proofs.YtnlkkgpcikkpoaaGreat
open Go Vm Go.RowKit
theorem ld{x y:Nat}(h:x<1000000000)(h2:y<1000000000):m6 Ul (asJ (m6 ar9 (m6 Ul ((x:Int)+(y:Int)))) 2)=(((x+y)/2:Nat):Int):=by
 have h1:m6 Ul ((x:Int)+(y:Int))=((x+y:Nat):Int):=by rw[nX (by omega) (by omega)];omega
 have h2:m6 ar9 ((x+y:Nat):Int)=((x+y:Nat):Int):=by
  unfold m6
  simp only[ar9,IntKind.bits,IntKind.signed,Bool.false_and,Bool.false_eq_true,if_false]
  omega
 have h3:asJ ((x+y:Nat):Int) 2=(((x+y)/2:Nat):Int):=by
  rw[Int.fdiv_eq_ediv_of_nonneg _ (by omega)];omega
 rw[h1,h2,h3]
 exact nX (by omega) (by omega)
theorem Qy{x y:Nat}(h:x<1000000000)(h2:y<1000000000):m6 Ul (m6 Ul (asJ (m6 ar9 (m6 Ul ((x:Int)+(y:Int)))) 2)+1)=(((x+y)/2+1:Nat):Int):=by
 rw[ld h h2,nX (by omega) (by omega)];omega
section
variable (S:ad) (R:List Int) (H:List au) (d:aA)
abbrev tj(a b:Nat)(L:List ByteArray):bf->ai->Prop:=aG fK 122 220 5 λr o=>r=.ret (.tuple #[])/\o=da S R H d (b9 (aN S.aC) L a b)
def zn(n a:Nat)(L:List ByteArray)(s:Nat×Nat):ai:=⟨[(0,gh n),(1,iZ a),(4,gN),(10,iZ (a+1+s.1)),(11,iZ (a+1+s.2))],da S R H d L⟩
def Cu(n a b i:Nat)(L:List ByteArray)(x:ByteArray)(k:Nat):ai:=⟨[(0,gh n),(10,iZ (a+1+i)),(13,iZ (a+k))],da S R H d (dF (L.take a) (aM L (a+1) b) (L.drop b) x k)⟩
theorem aeI{N:ai->Prop}(L:List ByteArray)(n a b:Nat)(hn:L.length=n)(hL:n<=1000000)(hb:b<=n)(j5:a+1<b)(hX:dp (aN S.aC) (aM L (a+1) b)):
 ao fK 220 5 (a7 (qo true (nD.drop 1))) ⟨[(0,gh n),(1,iZ a),(2,iZ (a+1)),(3,iZ b),(4,gN),(28,.bool true)],da S R H d L⟩ (QA N (tj S R H d a b L)):=by
 have pH:=aZ H
 have fQ:=og S.aC
 obtain⟨x,hx⟩:∃x,L[a]?=some x:=⟨_,KH (by omega)⟩
 have lT:(L.take a).length=a:=by rw[asj];omega
 have lX:(aM L (a+1) b).length=b-(a+1):=jS (by omega) (by omega)
 apply adT S R H d n L a ((a+1:Nat):Int) b pH hn
 ·
  have e:Iw S R H d n L a ((a+1:Nat):Int) b=zn S R H d n a L (0,(aM L (a+1) b).length):=by
   unfold Iw zn;dsimp only;rw[lX,show a+1+0=a+1 by omega,show a+1+(b-(a+1))=b by omega];rfl
  rw[e]
  refine ao.eX 2 0 (by kernel_rfl) ?_
  refine ao.gu (zn S R H d n a L) (λs=>s.2-s.1) (λs=>lZ (aN S.aC) (aM L (a+1) b) x s.1 s.2) (0,(aM L (a+1) b).length) (by kernel_rfl) (lZ.start _ _ _) ?_
  rintro⟨i,j⟩ hs
  dsimp only at hs
  have iX:=hs.iX
  have hj:=hs.hj
  rw[lX]at hj
  apply adW S R H d n L a ((a+1+i:Nat):Int) ((a+1+j:Nat):Int) pH hn
  case l4=>
   intro g
   have g:=of_decide_eq_false g
   have e:j=i:=by omega
   subst e
   with_reducible (repeat first|refine QL.ret ?_|refine QL.exit ?_|refine QB.ret ?_|refine QB.cw ?_|refine QB.normal ?_|refine QB.cJ (by rfl) ?_)
   apply adZ S R H d n L a ((a+1+j:Nat):Int) pH hn
   ·
    have e:Ix S R H d n L a ((a+1+j:Nat):Int)=Cu S R H d n a b j L x 0:=by
     unfold Ix Cu;rw[adE (by omega) hx];rfl
    rw[e,asI]
    refine ao.eX 4 2 (by kernel_rfl) ?_
    refine ao.gu (Cu S R H d n a b j L x) (λk=>j-k) (λk=>k<=j) 0 (by kernel_rfl) (asb _) ?_
    intro k hk
    have gP:(dF (L.take a) (aM L (a+1) b) (L.drop b) x k).length=n:=by rw[H4 (by omega),lT,lX,ass];omega
    apply ad2 S R H d n (dF (L.take a) (aM L (a+1) b) (L.drop b) x k) ((a+1+j:Nat):Int) ((a+k:Nat):Int) pH gP (bK (by omega) (by omega))
    case l4=>
     intro g
     rw[bK (by omega) (by omega)]at g
     have g:=of_decide_eq_false g
     have e:k=j:=by omega
     subst e
     with_reducible (repeat first|refine QL.ret ?_|refine QL.exit ?_|refine QB.ret ?_|refine QB.cw ?_|refine QB.normal ?_|refine QB.cJ (by rfl) ?_)
     apply ad5 S R H d n (dF (L.take a) (aM L (a+1) b) (L.drop b) x k) pH gP
     ·
      refine QA.ret ?_
      refine ad4 S R H d n (dF (L.take a) (aM L (a+1) b) (L.drop b) x k) ⟨rfl,?_⟩
      rw[adD fQ (by omega) hx hX hs]
      rfl
    case l3=>
     intro g
     rw[bK (by omega) (by omega)]at g
     have g:=of_decide_eq_true g
     obtain⟨y,hy⟩:∃y,(aM L (a+1) b)[k]?=some y:=⟨_,KH (by omega)⟩
     have gq:(dF (L.take a) (aM L (a+1) b) (L.drop b) x k)[a+k]?=some x:=by have:=H5 (T:=L.take a) (D:=L.drop b) (x:=x) (S:=aM L (a+1) b) (j:=k) (by omega);rw[lT]at this;exact this
     have iK:(dF (L.take a) (aM L (a+1) b) (L.drop b) x k)[a+k+1]?=some y:=by have:=adH (T:=L.take a) (D:=L.drop b) (x:=x) (S:=aM L (a+1) b) (j:=k) (by omega);rw[lT,hy]at this;exact this
     have e1:0+m5 (m6 Ul (((a+k:Nat):Int)+1))*1=a+k+1:=by rw[bK (by omega) (by omega)];omega
     apply ad3 S R H d n (dF (L.take a) (aM L (a+1) b) (L.drop b) x k) ((a+1+j:Nat):Int) ((a+k:Nat):Int) pH gP (by omega) (by omega) hL (bK (by omega) (by omega))
     case aY=>simp
     case bh=>exact pH
     case n0=>rw[e1];exact(eh iK).2
     case n1=>rw[gO];exact(eh gq).2
     case n2=>
      rw[e1,gO,(eh iK).1,oV (by omega),yS,asU]
      exact arZ (by omega)
     case l5=>
      refine QL.to (k+1) (by omega) (by omega) ?_
      unfold Qn Cu
      rw[e1,gO,(eh iK).1,(eh gq).1,oV (by omega),oV (by rw[asU];omega)]
      have:=adI (T:=L.take a) (D:=L.drop b) (x:=x) (S:=aM L (a+1) b) (j:=k) (by omega) hy
      rw[lT]at this
      rw[this,bK (by omega) (by omega)]
      have:(((a+k:Nat):Int)+1)=((a+(k+1):Nat):Int):=by omega
      rw[this]
      rfl
  case l3=>
   intro g
   have g:=of_decide_eq_true g
   have hm:(a+1+i+(a+1+j))/2=a+1+(i+j)/2:=by omega
   obtain⟨y,hy⟩:∃y,(aM L (a+1) b)[(i+j)/2]?=some y:=⟨_,KH (by omega)⟩
   have iK:L[a+1+(i+j)/2]?=some y:=by rw[zi (by omega)]at hy;exact hy
   refine ao.eX 2 1 (by kernel_rfl) ?_
   apply adX S R H d n L a ((a+1+i:Nat):Int) ((a+1+j:Nat):Int) pH hn (by omega) (by omega) (by omega) (by omega) (bK (by omega) (by omega)) (by omega) (by omega) (by omega) (by omega) hL
   case n0=>rw[ld (by omega) (by omega)];exact decide_eq_true (by omega)
   case n1=>rw[ld (by omega) (by omega)];rw[awT];omega
   case n2=>rw[ld (by omega) (by omega),gO,hm];exact(eh iK).2
   case n3=>rw[gO];exact(eh hx).2
   case n4=>exact wZ rfl
   case l8=>
    intro g1
    rw[ld (by omega) (by omega),gO,gO,hm,(eh iK).1,(eh hx).1]at g1
    have g1:=of_decide_eq_true g1
    with_reducible (repeat first|refine QL.ret ?_|refine QL.exit ?_|refine QB.ret ?_|refine QB.cw ?_|refine QB.normal ?_|refine QB.cJ (by rfl) ?_)
    refine ao.done (by kernel_rfl) ?_
    refine QL.to ((i+j)/2+1,j) (hs.up fQ hX (by omega) (by omega) hy (oT.2 (fQ.asym _ _ g1))) (by dsimp only;omega) ?_
    unfold Qk zn
    rw[Qy (by omega) (by omega),hm]
    rfl
   case l9=>
    intro g1
    rw[ld (by omega) (by omega),gO,gO,hm,(eh iK).1,(eh hx).1]at g1
    have g1:=of_decide_eq_false g1
    with_reducible (repeat first|refine QL.ret ?_|refine QL.exit ?_|refine QB.ret ?_|refine QB.cw ?_|refine QB.normal ?_|refine QB.cJ (by rfl) ?_)
    refine ao.done (by kernel_rfl) ?_
    refine QL.to (i,(i+j)/2) (hs.down fQ hX (by omega) (by omega) hy (oT.2 g1)) (by dsimp only;omega) ?_
    unfold Ql zn
    rw[ld (by omega) (by omega),hm]
    rfl
end
end Go.Proofs.YtnlkkgpcikkpoaaGreat
namespace Go.Proofs.YtnlkkgpcikkpoaaGreat
open Go Vm Go.RowKit
section
variable (S:ad) (R:List Int) (H:List au) (d:aA)
def zo(n a m:Nat)(L:List ByteArray)(s:Nat×Nat):ai:=⟨[(0,gh n),(2,iZ m),(4,gN),(14,iZ (a+s.1)),(15,iZ (a+s.2))],da S R H d L⟩
def Cv(n a m i:Nat)(L:List ByteArray)(x:ByteArray)(k:Nat):ai:=⟨[(0,gh n),(14,iZ (a+i)),(17,iZ (a+k))],da S R H d (dF (L.take a) (aM L a m) (L.drop (m+1)) x k)⟩
theorem aeJ{N:ai->Prop}(L:List ByteArray)(n a m:Nat)(hn:L.length=n)(hL:n<=1000000)(hb:m+1<=n)(j5:a<m)(hX:dp (aN S.aC) (aM L a m)):
 ao fK 220 5 (a7 (qo true (nD.drop 3))) ⟨[(0,gh n),(1,iZ a),(2,iZ m),(3,iZ (m+1)),(4,gN),(80,.bool true)],da S R H d L⟩ (QA N (tj S R H d a (m+1) L)):=by
 have pH:=aZ H
 have fQ:=og S.aC
 obtain⟨x,hx⟩:∃x,L[m]?=some x:=⟨_,KH (by omega)⟩
 have lT:(L.take a).length=a:=by rw[asj];omega
 have lX:(aM L a m).length=m-a:=jS (by omega) (by omega)
 apply aeb S R H d n L a m ((m+1:Nat):Int) pH hn
 ·
  have e:Iy S R H d n L a m ((m+1:Nat):Int)=zo S R H d n a m L (0,(aM L a m).length):=by
   unfold Iy zo;dsimp only;rw[lX,show a+0=a by omega,show a+(m-a)=m by omega];rfl
  rw[e]
  refine ao.eX 2 4 (by kernel_rfl) ?_
  refine ao.gu (zo S R H d n a m L) (λs=>s.2-s.1) (λs=>lZ (aN S.aC) (aM L a m) x s.1 s.2) (0,(aM L a m).length) (by kernel_rfl) (lZ.start _ _ _) ?_
  rintro⟨i,j⟩ hs
  dsimp only at hs
  have iX:=hs.iX
  have hj:=hs.hj
  rw[lX]at hj
  apply aee S R H d n L m ((a+i:Nat):Int) ((a+j:Nat):Int) pH hn
  case l4=>
   intro g
   have g:=of_decide_eq_false g
   have e:j=i:=by omega
   subst e
   with_reducible (repeat first|refine QL.ret ?_|refine QL.exit ?_|refine QB.ret ?_|refine QB.cw ?_|refine QB.normal ?_|refine QB.cJ (by rfl) ?_)
   apply aeh S R H d n L m ((a+j:Nat):Int) pH hn
   ·
    have e:Iz S R H d n L m ((a+j:Nat):Int)=Cv S R H d n a m j L x (m-a):=by
     unfold Iz Cv;rw[adG (by omega) (by omega) hx,show a+(m-a)=m by omega];rfl
    rw[e,asI]
    refine ao.eX 4 6 (by kernel_rfl) ?_
    refine ao.gu (Cv S R H d n a m j L x) (λk=>k) (λk=>j<=k/\k<=m-a) (m-a) (by kernel_rfl) ⟨hj,arO _⟩ ?_
    rintro k ⟨hk,kW⟩
    have gP:(dF (L.take a) (aM L a m) (L.drop (m+1)) x k).length=n:=by rw[H4 (by omega),lT,lX,ass];omega
    apply aek S R H d n (dF (L.take a) (aM L a m) (L.drop (m+1)) x k) ((a+j:Nat):Int) ((a+k:Nat):Int) pH gP
    case l4=>
     intro g
     have g:=of_decide_eq_false g
     have e:k=j:=by omega
     subst e
     with_reducible (repeat first|refine QL.ret ?_|refine QL.exit ?_|refine QB.ret ?_|refine QB.cw ?_|refine QB.normal ?_|refine QB.cJ (by rfl) ?_)
     apply ad7 S R H d n (dF (L.take a) (aM L a m) (L.drop (m+1)) x k) pH gP
     ·
      refine QA.ret ?_
      refine ad6 S R H d n (dF (L.take a) (aM L a m) (L.drop (m+1)) x k) ⟨rfl,?_⟩
      rw[adF fQ (by omega) hx hX hs]
      rfl
    case l3=>
     intro g
     have g:=of_decide_eq_true g
     obtain⟨k',rfl⟩:∃k',k=k'+1:=⟨k-1,by omega⟩
     obtain⟨y,hy⟩:∃y,(aM L a m)[k']?=some y:=⟨_,KH (by omega)⟩
     have gq:(dF (L.take a) (aM L a m) (L.drop (m+1)) x (k'+1))[a+(k'+1)]?=some x:=by have:=H5 (T:=L.take a) (D:=L.drop (m+1)) (x:=x) (S:=aM L a m) (j:=k'+1) (by omega);rw[lT]at this;exact this
     have iK:(dF (L.take a) (aM L a m) (L.drop (m+1)) x (k'+1))[a+k']?=some y:=by have:=PU (T:=L.take a) (D:=L.drop (m+1)) (x:=x) (S:=aM L a m) (j:=k') (by omega);rw[lT,hy]at this;exact this
     have e1:0+m5 (m6 Ul (((a+(k'+1):Nat):Int)-1))*1=a+k':=by rw[bK (by omega) (by omega)];omega
     apply ael S R H d n (dF (L.take a) (aM L a m) (L.drop (m+1)) x (k'+1)) ((a+j:Nat):Int) ((a+(k'+1):Nat):Int) pH gP (by omega) (by omega) hL (bK (by omega) (by omega))
     case aY=>simp
     case bh=>exact pH
     case n0=>rw[e1];exact(eh iK).2
     case n1=>rw[gO];exact(eh gq).2
     case n2=>
      rw[e1,gO,(eh iK).1,oV (by omega),yS,asU]
      exact arZ (by omega)
     case l5=>
      refine QL.to k' (by omega) (by omega) ?_
      unfold Qv Cv
      rw[e1,gO,(eh iK).1,(eh gq).1,oV (by omega),oV (by rw[asU];omega)]
      have:=PV (T:=L.take a) (D:=L.drop (m+1)) (x:=x) (S:=aM L a m) (j:=k') (by omega) hy
      rw[lT]at this
      rw[this,bK (by omega) (by omega)]
      have:(((a+(k'+1):Nat):Int)-1)=((a+k':Nat):Int):=by omega
      rw[this]
      rfl
  case l3=>
   intro g
   have g:=of_decide_eq_true g
   have hm:(a+i+(a+j))/2=a+(i+j)/2:=by omega
   obtain⟨y,hy⟩:∃y,(aM L a m)[(i+j)/2]?=some y:=⟨_,KH (by omega)⟩
   have iK:L[a+(i+j)/2]?=some y:=by rw[zi (by omega)]at hy;exact hy
   refine ao.eX 2 5 (by kernel_rfl) ?_
   apply aef S R H d n L m ((a+i:Nat):Int) ((a+j:Nat):Int) pH hn (by omega) (by omega) (by omega) (by omega) (bK (by omega) (by omega)) (by omega) (by omega) (by omega) (by omega) hL
   case n0=>rw[gO];exact(eh hx).2
   case n1=>rw[ld (by omega) (by omega)];exact decide_eq_true (by omega)
   case n2=>rw[ld (by omega) (by omega),awT];omega
   case n3=>rw[ld (by omega) (by omega),gO,hm];exact(eh iK).2
   case n4=>exact wZ rfl
   case l8=>
    intro g1
    rw[ld (by omega) (by omega),gO,gO,hm,(eh iK).1,(eh hx).1]at g1
    have g1:gg (aN S.aC) y x=true:=g1
    with_reducible (repeat first|refine QL.ret ?_|refine QL.exit ?_|refine QB.ret ?_|refine QB.cw ?_|refine QB.normal ?_|refine QB.cJ (by rfl) ?_)
    refine ao.done (by kernel_rfl) ?_
    refine QL.to ((i+j)/2+1,j) (hs.up fQ hX (by omega) (by omega) hy g1) (by dsimp only;omega) ?_
    unfold Qs zo
    rw[Qy (by omega) (by omega),hm]
    rfl
   case l9=>
    intro g1
    rw[ld (by omega) (by omega),gO,gO,hm,(eh iK).1,(eh hx).1]at g1
    have g1:=of_decide_eq_true (show decide (aN S.aC x y<0)=true by cases h:decide (aN S.aC x y<0)with|true=>rfl|false=>rw[h]at g1;cases g1)
    with_reducible (repeat first|refine QL.ret ?_|refine QL.exit ?_|refine QB.ret ?_|refine QB.cw ?_|refine QB.normal ?_|refine QB.cJ (by rfl) ?_)
    refine ao.done (by kernel_rfl) ?_
    refine QL.to (i,(i+j)/2) (hs.down fQ hX (by omega) (by omega) hy (oT.2 (fQ.asym _ _ g1))) (by dsimp only;omega) ?_
    unfold Qt zo
    rw[ld (by omega) (by omega),hm]
    rfl
end
end Go.Proofs.YtnlkkgpcikkpoaaGreat
namespace Go.Proofs.YtnlkkgpcikkpoaaGreat
open Go Vm Go.RowKit
section
variable (S:ad) (R:List Int) (H:List au) (d:aA)
def u7(n a m b w q s r p:Nat)(L:List ByteArray):ai:=⟨[(0,gh n),(1,iZ a),(2,iZ m),(3,iZ b),(4,gN),(18,iZ w),(19,iZ q),(20,iZ s),(21,iZ r),(22,iZ p)],da S R H d L⟩
theorem aeK(N:Nat)(hN:bB fK 122 (Sum.dQ fK (oW N)))(L:List ByteArray)(n a m b s:Nat)(hn:L.length=n)(hL:n<=1000000)(pK:a<m)(pM:m<b)(hb:b<=n)(Cw:b-a<=N+1)(aqs:a+2<=b)
 (T:Qd (aN S.aC) L a m b s ((a+b)/2) ((a+b)/2+m-s)):
 ao fK 220 5 (nD.drop 11) ⟨[(0,gh n),(1,iZ a),(2,iZ m),(3,iZ b),(4,gN),(18,iZ ((a+b)/2)),(19,iZ ((a+b)/2+m)),(20,iZ s)],da S R H d L⟩ (tj S R H d a b L):=by
 have pH:=aZ H
 have fQ:=og S.aC
 obtain⟨h1,h2,h3,h4,hd,x1,x2,y1,y2,fin⟩:=T
 have he:(((a+b)/2+m:Nat):Int)-(s:Int)=(((a+b)/2+m-s:Nat):Int):=by omega
 generalize hE:(a+b)/2+m-s=e at*
 generalize hW:(a+b)/2=w at*
 have lR:(gZ L s m e).length=n:=by rw[adN h2 h3 (by omega),hn]
 have lA:(b9 (aN S.aC) (gZ L s m e) a w).length=n:=by rw[PT (by omega) (by omega),lR]
 have hO:∀M:List ByteArray,M.length=n->jf [ak.cells (ah M) 9 false,ak.cells (aL S 2 0 3 4) 89 false,ak.abs d,ak.cells (ay R) 3 false,ak.cells (an H) 114 false] n=true:=λM hM=>w0 (S:=S) (R:=R) (H:=H) (d:=d) (L:=M) rfl hM hL
 have last:∀M:List ByteArray,M=b9 (aN S.aC) L a b->tj S R H d a b L .normal ⟨[],da S R H d M⟩:=λM hM=>by
  rw[hM]
  exact aG.normal (vs:=[]) (l:=[]) (bs:=[0,1,2,3,4]) (pl:=[0,3,4]) (q:=[ah (b9 (aN S.aC) L a b),ay R,an H]) (λu=>by kernel_rfl) (by kernel_rfl) (aD (by simp) (aD (by simp) (aD pH be))) ⟨rfl,rfl⟩
 have t3:ao fK 220 5 (nD.drop 16) ⟨[(0,gh n),(3,iZ b),(4,gN),(18,iZ w),(24,iZ e)],da S R H d (b9 (aN S.aC) (gZ L s m e) a w)⟩ (tj S R H d a b L):=by
  generalize b9 (aN S.aC) (gZ L s m e) a w=M at*
  have fk:(w=e\/e=b)->M=b9 (aN S.aC) L a b:=λh=>by rw[<-fin,Qf fQ (by omega) (by omega) h y1 y2]
  apply aeG N S R H d n M b w e hN pH lA
  case n0=>
   intro g1 g2
   have g1:=of_decide_eq_true g1
   have g2:=of_decide_eq_true g2
   rw[hO M lA,je,zk.2 ⟨by omega,g1,g2,by omega,by omega,y1,y2⟩]
   simp only[asx,atn]
  case l3=>
   intro g1 g2
   have e5:II N S R H d n M b w e=⟨[],da S R H d (b9 (aN S.aC) M w b)⟩:=by
    unfold II;rw[je];rfl
   rw[e5]
   exact last _ fin
  case l5=>
   intro g1 g2
   have g2:=of_decide_eq_false g2
   exact last M (fk (.inr (by omega)))
  case l6=>
   intro g1
   have g1:=of_decide_eq_false g1
   exact last M (fk (.inl (by omega)))
 have t2:ao fK 220 5 (nD.drop 14) ⟨[(0,gh n),(1,iZ a),(3,iZ b),(4,gN),(18,iZ w),(20,iZ s),(24,iZ e)],da S R H d (gZ L s m e)⟩ (tj S R H d a b L):=by
  generalize gZ L s m e=M at*
  have fk:(a=s\/s=w)->b9 (aN S.aC) M a w=M:=λh=>Qf fQ (by omega) (by omega) h x1 x2
  apply aeC N S R H d n M a b w s e hN pH lR
  case n0=>
   intro g1 g2
   have g1:=of_decide_eq_true g1
   have g2:=of_decide_eq_true g2
   rw[hO M lR,je,zk.2 ⟨by omega,g1,g2,by omega,by omega,x1,x2⟩]
   simp only[asx,atn]
  case l3=>
   intro g1 g2
   have e5:IH N S R H d n M a b w s e=⟨[(0,gh n),(3,iZ b),(4,gN),(18,iZ w),(24,iZ e)],da S R H d (b9 (aN S.aC) M a w)⟩:=by
    unfold IH;rw[je];rfl
   rw[e5,asI]
   exact t3
  case l5=>
   intro g1 g2
   have g2:=of_decide_eq_false g2
   rw[fk (.inr (by omega))]at t3
   rw[asI]
   exact t3
  case l6=>
   intro g1
   have g1:=of_decide_eq_false g1
   rw[fk (.inl (by omega))]at t3
   rw[asI]
   exact t3
 have fk:(s=m\/m=e)->gZ L s m e=L:=λh=>adJ h2 h3 h
 have IJ:(.int .i64 (m6 Ul (((w+m:Nat):Int)-(s:Int))):Dy)=iZ e:=by rw[he,nX (by omega) (by omega)];rfl
 apply aey N S R H d n L a m b w ((w+m:Nat):Int) s hN pH hn (by omega) (by omega) (by omega) (by omega) (bK (by omega) (by omega))
 case n0=>
  intro g1 g2
  have g1:=of_decide_eq_true g1
  rw[bK (by omega) (by omega),he]at g2⊢
  have g2:=of_decide_eq_true g2
  rw[hO L hn]
  simp only[asx,at2,BV,decide_eq_true_eq]
  omega
 case l3=>
  intro g1 g2
  have e5:IC N S R H d n L a m b w ((w+m:Nat):Int) s=⟨[(0,gh n),(1,iZ a),(3,iZ b),(4,gN),(18,iZ w),(20,iZ s),(24,iZ e)],da S R H d (gZ L s m e)⟩:=by
   unfold IC;rw[je,IJ,he,nX (by omega) (by omega)];rfl
  rw[e5,asI]
  exact t2
 case l5=>
  intro g1 g2
  rw[bK (by omega) (by omega),he]at g2
  have g2:=of_decide_eq_false g2
  have e5:IE N S R H d n L a m b w ((w+m:Nat):Int) s=⟨[(0,gh n),(1,iZ a),(3,iZ b),(4,gN),(18,iZ w),(20,iZ s),(24,iZ e)],da S R H d L⟩:=by
   unfold IE;rw[IJ];rfl
  rw[fk (.inr (by omega))]at t2
  rw[e5,asI]
  exact t2
 case l6=>
  intro g1
  have g1:=of_decide_eq_false g1
  have e5:IG N S R H d n L a m b w ((w+m:Nat):Int) s=⟨[(0,gh n),(1,iZ a),(3,iZ b),(4,gN),(18,iZ w),(20,iZ s),(24,iZ e)],da S R H d L⟩:=by
   unfold IG;rw[IJ];rfl
  rw[fk (.inl (by omega))]at t2
  rw[e5,asI]
  exact t2
end
end Go.Proofs.YtnlkkgpcikkpoaaGreat
namespace Go.Proofs.YtnlkkgpcikkpoaaGreat
open Go Vm Go.RowKit
section
variable (S:ad) (R:List Int) (H:List au) (d:aA)
theorem aeL(N:Nat)(hN:bB fK 122 (Sum.dQ fK (oW N)))(L:List ByteArray)(n a m b:Nat)(hn:L.length=n)(hL:n<=1000000)(pK:a<m)(pM:m<b)(hb:b<=n)(Cw:b-a<=N+1)
 (hX:dp (aN S.aC) (aM L a m))(hY:dp (aN S.aC) (aM L m b)):
 ao fK 220 5 (nD.drop 3) ⟨[(0,gh n),(1,iZ a),(2,iZ m),(3,iZ b),(4,gN),(80,.bool false)],da S R H d L⟩ (tj S R H d a b L):=by
 have pH:=aZ H
 have fQ:=og S.aC
 have go:∀s0 r0,mM (aN S.aC) L a m b s0 r0->ao fK 220 5 (nD.drop 10) (u7 S R H d n a m b ((a+b)/2) ((a+b)/2+m) s0 r0 ((a+b)/2+m-1) L) (tj S R H d a b L):=λs0 r0 ug=>by
  refine ao.eX 10 8 (by kernel_rfl) ?_
  refine ao.gu (λs:Nat×Nat=>u7 S R H d n a m b ((a+b)/2) ((a+b)/2+m) s.1 s.2 ((a+b)/2+m-1) L) (λs=>s.2-s.1) (λs=>mM (aN S.aC) L a m b s.1 s.2) (s0,r0) (by kernel_rfl) ug ?_
  rintro⟨i,j⟩ hs
  dsimp only at hs
  have q1:=hs.Fe
  have q2:=hs.rL
  have q3:=hs.rm
  have q4:=hs.me
  have q5:=hs.sb
  apply aer S R H d n L a m b ((a+b)/2:Nat) ((a+b)/2+m:Nat) i j ((a+b)/2+m-1:Nat) pH hn
  case l4=>
   intro g
   have g:=of_decide_eq_false g
   have e:j=i:=by omega
   subst e
   with_reducible (repeat first|refine QL.ret ?_|refine QL.exit ?_|refine QB.ret ?_|refine QB.cw ?_|refine QB.normal ?_|refine QB.cJ (by rfl) ?_)
   exact aeK S R H d N hN L n a m b j hn hL pK pM hb Cw (by omega) (hs.three fQ (by omega) pK pM hX hY)
  case l3=>
   intro g
   have g:=of_decide_eq_true g
   refine ao.eX 2 9 (by kernel_rfl) ?_
   apply aet S R H d n L a m b ((a+b)/2:Nat) ((a+b)/2+m:Nat) i j ((a+b)/2+m-1:Nat) pH hn (by omega) (by omega) (by omega) (by omega) (bK (by omega) (by omega))
   ·
    have sy:i<=(i+j)/2:=by omega
    have jj:(i+j)/2<j:=by omega
    unfold Qw
    rw[ld (by omega) (by omega)]
    generalize(i+j)/2=x at sy jj
    obtain⟨u,hu⟩:∃u,L[x]?=some u:=⟨_,KH (by omega)⟩
    obtain⟨v,hv⟩:∃v,L[(a+b)/2+m-1-x]?=some v:=⟨_,KH (by omega)⟩
    have e1:0+m5 (m6 Ul ((((a+b)/2+m-1:Nat):Int)-(x:Int)))*1=(a+b)/2+m-1-x:=by rw[bK (by omega) (by omega)];omega
    apply aew S R H d n L a m b ((a+b)/2:Nat) ((a+b)/2+m:Nat) i j ((a+b)/2+m-1:Nat) x pH hn (by omega) (by omega) (by omega) (by omega) hL (bK (by omega) (by omega)) (bK (by omega) (by omega))
    case n0=>rw[e1];exact(eh hv).2
    case n1=>rw[gO];exact(eh hu).2
    case n2=>exact wZ rfl
    case l6=>
     intro g1
     rw[e1,gO,(eh hu).1,(eh hv).1]at g1
     have g1:gg (aN S.aC) u v=true:=g1
     with_reducible (repeat first|refine QL.ret ?_|refine QL.exit ?_|refine QB.ret ?_|refine QB.cw ?_|refine QB.normal ?_|refine QB.cJ (by rfl) ?_)
     refine ao.done (by kernel_rfl) ?_
     refine QL.to (x+1,j) (hs.up sy jj hu hv g1) (by dsimp only;omega) ?_
     unfold Qx u7
     dsimp only
     rw[fP (by omega)]
     rfl
    case l7=>
     intro g1
     rw[e1,gO,(eh hu).1,(eh hv).1]at g1
     have g1:=of_decide_eq_true (show decide (aN S.aC v u<0)=true by cases h:decide (aN S.aC v u<0)with|true=>rfl|false=>rw[h]at g1;cases g1)
     with_reducible (repeat first|refine QL.ret ?_|refine QL.exit ?_|refine QB.ret ?_|refine QB.cw ?_|refine QB.normal ?_|refine QB.cJ (by rfl) ?_)
     refine ao.done (by kernel_rfl) ?_
     refine QL.to (i,x) (hs.down sy jj hu hv (oT.2 (fQ.asym _ _ g1))) (by dsimp only;omega) ?_
     rfl
 have cN:=mM.start (aN S.aC) L pK pM
 have eW:m6 Ul ((((a+b)/2:Nat):Int)+(m:Int))=(((a+b)/2+m:Nat):Int):=by rw[nX (by omega) (by omega)];omega
 have eP:m6 Ul ((((a+b)/2+m:Nat):Int)-1)=(((a+b)/2+m-1:Nat):Int):=by rw[bK (by omega) (by omega)];omega
 apply aen S R H d n L a m b pH hn (by omega) (by omega) (by omega) (by omega) (bK (by omega) (by omega))
 case l3=>
  intro g
  rw[ld (by omega) (by omega)]at g
  have g:=of_decide_eq_true g
  have g2:m>(a+b)/2:=by omega
  rw[if_pos g2,if_pos g2]at cN
  have e:IA S R H d n L a m b=u7 S R H d n a m b ((a+b)/2) ((a+b)/2+m) ((a+b)/2+m-b) ((a+b)/2) ((a+b)/2+m-1) L:=by
   unfold IA u7
   rw[ld (by omega) (by omega),eW,eP,show m6 Ul ((((a+b)/2+m:Nat):Int)-(b:Int))=(((a+b)/2+m-b:Nat):Int)by rw[bK (by omega) (by omega)];omega]
   rfl
  rw[e,asI]
  exact go _ _ cN
 case l4=>
  intro g
  rw[ld (by omega) (by omega)]at g
  have g:=of_decide_eq_false g
  have g2:¬m>(a+b)/2:=by omega
  rw[if_neg g2,if_neg g2]at cN
  have e:IB S R H d n L a m b=u7 S R H d n a m b ((a+b)/2) ((a+b)/2+m) a m ((a+b)/2+m-1) L:=by
   unfold IB u7
   rw[ld (by omega) (by omega),eW,eP]
   rfl
  rw[e,asI]
  exact go _ _ cN
theorem aeM(N:Nat)(hN:bB fK 122 (Sum.dQ fK (oW N)))(L:List ByteArray)(n a m b:Nat)(hn:L.length=n)(hL:n<=1000000)(pK:a<m)(pM:m<b)(hb:b<=n)(Cw:b-a<=N+1)
 (hX:dp (aN S.aC) (aM L a m))(hY:dp (aN S.aC) (aM L m b)):
 aF fK 122 [gh n,iZ a,iZ m,iZ b,gN] (da S R H d L) λr o=>r=.ret (.tuple #[])/\o=da S R H d (b9 (aN S.aC) L a b):=by
 have pH:=aZ H
 refine aF.dv (n:=cp fK 122) (by kernel_rfl) ?_
 have ez:∀x y:Nat,x<y->y<=n->(m6 Ul ((y:Int)-(x:Int))==1)=decide (y=x+1):=λx y h1 h2=>by
  rw[bK (by omega) (by omega),Bool.eq_iff_iff,beq_iff_eq,decide_eq_true_eq];omega
 apply adR S R H d n L a m b pH hn (bK (by omega) (by omega))
 ·
  by_cases c1:m=a+1
  ·subst c1
   have e:zl S R H d n L a ((a+1:Nat):Int) b=⟨[(0,gh n),(1,iZ a),(2,iZ (a+1)),(3,iZ b),(4,gN),(28,.bool true)],da S R H d L⟩:=by
    unfold zl;rw[ez _ _ (by omega) (by omega),decide_eq_true rfl];rfl
   rw[e]
   refine ao.wD 1 (c:=28) (b:=true) (by kernel_rfl) (by rfl) (by rfl) ?_
   exact ao.join (aeI S R H d L n a b hn hL hb pM hY)
  ·have e:zl S R H d n L a m b=⟨[(0,gh n),(1,iZ a),(2,iZ m),(3,iZ b),(4,gN),(28,.bool false)],da S R H d L⟩:=by
    unfold zl;rw[ez _ _ (by omega) (by omega),decide_eq_false c1];rfl
   rw[e]
   apply ad9 S R H d n L a m b pH hn (bK (by omega) (by omega))
   ·
    rw[asI]
    by_cases c2:b=m+1
    ·subst c2
     have e:zm S R H d n L a m ((m+1:Nat):Int)=⟨[(0,gh n),(1,iZ a),(2,iZ m),(3,iZ (m+1)),(4,gN),(80,.bool true)],da S R H d L⟩:=by
      unfold zm;rw[ez _ _ (by omega) (by omega),decide_eq_true rfl];rfl
     rw[e]
     refine ao.wD 3 (c:=80) (b:=true) (by kernel_rfl) (by rfl) (by rfl) ?_
     exact ao.join (aeJ S R H d L n a m hn hL hb pK hX)
    ·have e:zm S R H d n L a m b=⟨[(0,gh n),(1,iZ a),(2,iZ m),(3,iZ b),(4,gN),(80,.bool false)],da S R H d L⟩:=by
      unfold zm;rw[ez _ _ (by omega) (by omega),decide_eq_false c2];rfl
     rw[e]
     exact aeL S R H d N hN L n a m b hn hL pK pM hb Cw hX hY
end
theorem aeN(N:Nat):bB fK 122 (Sum.dQ fK (oW N)):=by
 induction N with
 |zero=>exact Qh 0 λS R H d L n a m b _ _ h1 h2 _ h3 _ _=>absurd h3 (by omega)
 |succ N ih=>exact Qh (N+1) λS R H d L n a m b h1 h2 h3 h4 h5 h6 h7 h8=>aeM S R H d N ih L n a m b h1 h2 h3 h4 h5 h6 h7 h8
end Go.Proofs.YtnlkkgpcikkpoaaGreat
