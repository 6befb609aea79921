/- Part of the proof: So4, So5, StU, So6, So7, So8, StV, So9, Sma, App, Smb, Smc, Smd, Sme. -/
import Derived.Test.YtnlkkgpcikkpoaaGreatJAg
import Derived.KernelRfl
import Derived.Test.YtnlkkgpcikkpoaaGreatJAe
open Array renaming toArray_toList→aqq
open Bool renaming and_eq_true→apt,and_self→aq7,true_and→arJ
open Classical renaming propDecidable→apF
open Go renaming Code→apV,Value→ape
open Go.IntKind renaming i64→apr,u64→ap4,wrap→apc
open Go.Proofs.Tryz renaming prog→av9
open Go.Value renaming int→apm,string→apJ
open Int renaming eq_ofNat_of_zero_le→aqL,fdiv→aqI,toNat→apd
open List renaming all→aph,append_assoc→apK,cons_append→aqZ,drop_drop→aqu,drop_length→as3,getElem?_append_right→apZ,getElem?_drop→aqz,getElem?_eq_getElem→apl,getElem?_eq_some_iff→app,length→apb,length_append→apv,length_cons→ap1,length_drop→aqp,length_set→aqK,length_take→ap8,mem_append→apN,nil_append→aqO,pairwise_append→asv,perm_append_comm→ata,take_append_drop→aqv,take_length→as2,take_zero→asq
open Nat renaming beq→apw,beq_refl→aqn,ble→apG,ble_eq_true_of_le→apU,blt→apy,blt_eq→avZ,eq_of_beq_eq_true→apz,le_refl→apI,sub_self→arS,zero_le→ap7
open Option.some renaming injEq→api
open Prod.mk renaming injEq→apn
set_option linter.unusedVariables false
set_option linter.unusedSimpArgs false
set_option maxRecDepth 100000
namespace Go.Proofs.YtnlkkgpcikkpoaaGreat
open Go Vm Go.RowKit
def fF(n:Nat):ape:=.slice (some ⟨0,0,none⟩) n n
def gg:ape:=.func (.func 74) #[.pointer (some ⟨1,0,none⟩)] #[]
def iZ(k:Nat):ape:=.int .i64 k
def cL(S:ad)(R:List Int)(H:List au)(d:ay)(L:List ByteArray):List ag:=[.cells (ap L) 9 false,.cells (aJ S 2 0 3 4) 89 false,.abs d,.cells (aq R) 3 false,.cells (ak H) 114 false]
theorem fA{k:Nat}(h:k<1000000000):(.int .i64 (apc apr ((k:Int)+1)):ape)=iZ (k+1):=by
 rw[nk (by omega) (by omega)];rfl
theorem bI{z:Int}(h: -1000000000≤z)(h2:z<1000000000):apc apr z=z:=nk (by omega) (by omega)
theorem dU{L:List ByteArray}{k:Nat}{x:ByteArray}(h:L[k]?=some x):aX (ap L) k=x∧eS (ap L) k=true:=by
 have:(ap L)[k]?=some (.string x):=by unfold ap;rw[List.getElem?_map,h];rfl
 exact⟨by unfold aX;rw[this],by unfold eS;rw[this]⟩
theorem nU{L:List ByteArray}{k:Nat}{x:ByteArray}(h:k<L.length):a8 (ap L) k [apJ x]=ap (L.set k x):=by
 unfold a8 ap
 rw[List.map_set,List.set_eq_take_append_cons_drop,if_pos (by rw[List.length_map];exact h)]
 simp
theorem gh{x:Nat}:0+apd (x:Int)*1=x:=by simp
section
variable (S:ad) (R:List Int) (H:List au) (d:ay)
def yH(n a z:Nat)(L:List ByteArray)(i:Nat):aj:=⟨[(0,fF n),(1,iZ a),(2,iZ z),(3,gg),(8,iZ i)],cL S R H d (bV (aV S.aB) L a i)⟩
def Bz(n a z i:Nat)(T X D:List ByteArray)(x:ByteArray)(j:Nat):aj:=⟨[(0,fF n),(1,iZ a),(2,iZ z),(3,gg),(8,iZ i),(9,iZ (a+j))],cL S R H d (dn T X D x j)⟩
structure abh(c:ByteArray→ByteArray→Int)(X:List ByteArray)(x:ByteArray)(j:Nat):Prop where
 h1:j≤X.length
 h2:∀k y,j≤k→X[k]?=some y→fJ c x y=true
theorem abi(L:List ByteArray)(n a z:Nat)(hn:L.length=n)(hL:n≤1000000)(aoi:a≤z)(hz:z≤n):
 aE av9 121 [fF n,iZ a,iZ z,gg] (cL S R H d L) fun r o=>r=.ret (.tuple #[])∧o=cL S R H d (bV (aV S.aB) L a z):=by
 have pH:=aU H
 have fT:=wj S.aB
 have hlen:∀i,a≤i→i≤n→(bV (aV S.aB) L a i).length=n:=fun i h1 h2=>by rw[OI h1 (by omega),hn]
 have h1:bV (aV S.aB) L a (a+1)=L:=by
  have:bE (aV S.aB) (aL L a (a+1))=aL L a (a+1):=GX fT (by
   unfold aL
   rw[show a+1-a=1 by omega]
   cases L.drop a with
   |nil=>exact .nil
   |cons y l=>exact List.pairwise_singleton _ _)
  unfold bV
  rw[this]
  exact(su L (Nat.le_succ a)).symm
 have h0:bV (aV S.aB) L a a=L:=by
  unfold bV
  have:aL L a a=[]:=by unfold aL;rw[arS,asq]
  rw[this]
  show L.take a++(bE _ []++L.drop a)=L
  rw[GX fT .nil,aqO,aqv]
 refine aE.cT (n:=cn av9 121) (by kernel_rfl) ?_
 apply aa7 S R H d n L a z pH hn (bI (by omega) (by omega))
 ·
  have e:G5 S R H d n L a z=yH S R H d n a z L (a+1):=by unfold G5 yH;rw[h1,fA (by omega)];rfl
  rw[e]
  refine an.eU 1 0 (by kernel_rfl) ?_
  refine an.fS (yH S R H d n a z L) (fun i=>z-i) (fun i=>a+1≤i∧(i≤z∨i=a+1)) (a+1) (by kernel_rfl) ⟨apI _,.inr rfl⟩ ?_
  rintro i ⟨hi,vK⟩
  have gi:(bV (aV S.aB) L a i).length=n:=by
   rcases vK with h|rfl
   ·exact hlen i (by omega) (by omega)
   ·rw[h1];exact hn
  apply aba S R H d n (bV (aV S.aB) L a i) a z i pH gi
  case l4=>
   intro g
   have g:=of_decide_eq_false g
   have he:bV (aV S.aB) L a i=bV (aV S.aB) L a z:=by
    rcases vK with h|h
    ·rw[show i=z by omega]
    ·by_cases ez:z=a
     ·subst ez;rw[h,h1,h0]
     ·rw[show i=z by omega]
   with_reducible (repeat first|refine QL.ret ?_|refine QL.exit ?_|refine QB.ret ?_|refine QB.cp ?_|refine QB.normal ?_|refine QB.cy (by rfl) ?_)
   refine an.done (by kernel_rfl) ?_
   refine aF.normal (vs:=[]) (l:=[]) (bs:=[0,1,2,3,4]) (pl:=[0,3,4]) (q:=[ap (bV (aV S.aB) L a i),aq R,ak H]) (fun u=>by kernel_rfl) (by kernel_rfl) (aC (by simp) (aC (by simp) (aC pH bc))) ⟨rfl,by rw[←he]⟩
  case l3=>
   intro g
   have g:=of_decide_eq_true g
   have fk:i<L.length:=by omega
   obtain⟨x,hx⟩:∃x,L[i]?=some x:=⟨_,apl fk⟩
   have hT:(L.take a).length=a:=by rw[ap8];omega
   have hX:(bE (aV S.aB) (aL L a i)).length=i-a:=by rw[nS,jt (by omega) (by omega)]
   have hM:bV (aV S.aB) L a i=dn (L.take a) (bE (aV S.aB) (aL L a i)) (L.drop (i+1)) x (i-a):=by
    unfold bV dn
    rw[←hX,as2,as3,(pW hx).2,aqO]
   refine an.eU 2 1 (by kernel_rfl) ?_
   apply abb S R H d n (bV (aV S.aB) L a i) a z i pH gi
   ·
    have e:G7 S R H d n (bV (aV S.aB) L a i) a z i=Bz S R H d n a z i (L.take a) (bE (aV S.aB) (aL L a i)) (L.drop (i+1)) x (i-a):=by
     unfold G7 Bz;rw[hM,show a+(i-a)=i by omega];rfl
    rw[e]
    refine an.eU 1 2 (by kernel_rfl) ?_
    refine an.fS (Bz S R H d n a z i (L.take a) (bE (aV S.aB) (aL L a i)) (L.drop (i+1)) x) (fun j=>j) (abh (aV S.aB) (bE (aV S.aB) (aL L a i)) x) (i-a) (by kernel_rfl) ⟨by omega,fun k y hk hy=>by have:=(app.1 hy).1;omega⟩ ?_
    intro j hj
    have G8:=hj.h1
    have nG:(dn (L.take a) (bE (aV S.aB) (aL L a i)) (L.drop (i+1)) x j).length=n:=by rw[G1 G8,hT,hX,aqp];omega
    have nc:(∀k y,k<j→(bE (aV S.aB) (aL L a i))[k]?=some y→fJ (aV S.aB) y x=true)→dn (L.take a) (bE (aV S.aB) (aL L a i)) (L.drop (i+1)) x j=bV (aV S.aB) L a (i+1):=fun hb=>by
     have:=OL fT (pV fT (aL L a i)) G8 hb hj.h2
     unfold bV dn
     have e2:bE (aV S.aB) (aL L a (i+1))=bE (aV S.aB) (bE (aV S.aB) (aL L a i)++[x]):=by
      refine GY fT ?_
      rw[np L (m:=i) (by omega) (by omega)]
      have:aL L i (i+1)=[x]:=by unfold aL;rw[show i+1-i=1 by omega,(pW hx).2];rfl
      rw[this]
      exact(kR _).symm.append_right _
     rw[e2,←this]
     simp only[apK,aqZ]
    have Au:∀M,M.length=n→M=bV (aV S.aB) L a (i+1)→an av9 53 5 ((aY (inner (aY (inner (yG.drop 1))))).drop 3) ⟨[(0,fF n),(1,iZ a),(2,iZ z),(3,gg),(8,iZ i)],cL S R H d M⟩ (QL (yH S R H d n a z L) (fun i=>z-i) (fun i=>a+1≤i∧(i≤z∨i=a+1)) i fun x d'=>QB 0 (fun d'=>an av9 53 5 (yG.drop 2) d' (aF av9 121 (cn av9 121) (cL S R H d L).length fun r o=>r=.ret (.tuple #[])∧o=cL S R H d (bV (aV S.aB) L a z))) (aF av9 121 (cn av9 121) (cL S R H d L).length fun r o=>r=.ret (.tuple #[])∧o=cL S R H d (bV (aV S.aB) L a z)) x d'):=fun M abj abk=>by
     apply abg S R H d n M a z i pH abj (bI (by omega) (by omega))
     ·exact QL.to (i+1) ⟨by omega,.inl (by omega)⟩ (by omega) (by unfold OT yH;rw[fA (by omega),abk];rfl)
    have fQ:(dn (L.take a) (bE (aV S.aB) (aL L a i)) (L.drop (i+1)) x j)[a+j]?=some x:=by have:=G2 (T:=L.take a) (D:=L.drop (i+1)) (x:=x) G8;rw[hT]at this;exact this
    apply abf S R H d n (dn (L.take a) (bE (aV S.aB) (aL L a i)) (L.drop (i+1)) x j) a z i ((a+j:Nat):Int) pH nG (by omega) (by omega) (by omega) hL (bI (by omega) (by omega))
    case aR=>simp
    case be=>exact pH
    case bB=>simp
    case n0=>intro g;rw[gh];exact(dU fQ).2
    case n2=>intro g;exact wh rfl
    case l9=>
     intro g
     have g:=of_decide_eq_false g
     have tw:j=0:=by omega
     with_reducible (repeat first|refine QL.ret ?_|refine QL.exit ?_|refine QB.ret ?_|refine QB.cp ?_|refine QB.normal ?_|refine QB.cy (by rfl) ?_)
     refine an.done (by kernel_rfl) ?_
     with_reducible (repeat first|refine QL.ret ?_|refine QL.exit ?_|refine QB.ret ?_|refine QB.cp ?_|refine QB.normal ?_|refine QB.cy (by rfl) ?_)
     exact Au _ nG (nc fun k y hk _=>by omega)
    all_goals
     intro g
     have g:=of_decide_eq_true g
     obtain⟨j',rfl⟩:∃j',j=j'+1:=⟨j-1,by omega⟩
     obtain⟨y,hy⟩:∃y,(bE (aV S.aB) (aL L a i))[j']?=some y:=⟨_,apl (by omega)⟩
     have iv:(dn (L.take a) (bE (aV S.aB) (aL L a i)) (L.drop (i+1)) x (j'+1))[a+j']?=some y:=by have:=OJ (T:=L.take a) (D:=L.drop (i+1)) (x:=x) (S:=bE (aV S.aB) (aL L a i)) (j:=j') (by omega);rw[hT,hy]at this;exact this
     have e1:0+apd (apc apr (((a+(j'+1):Nat):Int)-1))*1=a+j':=by rw[bI (by omega) (by omega)];omega
    case n1=>rw[e1];exact(dU iv).2
    case n3=>
     intro g1
     rw[e1,gh,(dU iv).1,nU (by omega),yj,aqK]
     exact apU (by omega)
    case l6=>
     intro g1
     rw[e1,gh,(dU iv).1,(dU fQ).1]at g1
     have g1:=of_decide_eq_true g1
     refine QL.to j' ⟨by omega,fun k u hk hu=>?_⟩ (by omega) ?_
     ·by_cases e:k=j'
      ·subst e;rw[hy]at hu;cases hu;rw[pU];exact fT.asym _ _ g1
      ·exact hj.h2 k u (by omega) hu
     ·unfold OS Bz
      rw[e1,gh,(dU iv).1,(dU fQ).1,nU (by omega),nU (by rw[aqK];omega)]
      have:=OK (T:=L.take a) (D:=L.drop (i+1)) (x:=x) (S:=bE (aV S.aB) (aL L a i)) (j:=j') (by omega) hy
      rw[hT]at this
      rw[this,bI (by omega) (by omega)]
      have:(((a+(j'+1):Nat):Int)-1)=((a+j':Nat):Int):=by omega
      rw[this]
      rfl
    case l8=>
     intro g1
     rw[e1,gh,(dU iv).1,(dU fQ).1]at g1
     have g1:=of_decide_eq_false g1
     with_reducible (repeat first|refine QL.ret ?_|refine QL.exit ?_|refine QB.ret ?_|refine QB.cp ?_|refine QB.normal ?_|refine QB.cy (by rfl) ?_)
     refine an.done (by kernel_rfl) ?_
     with_reducible (repeat first|refine QL.ret ?_|refine QL.exit ?_|refine QB.ret ?_|refine QB.cp ?_|refine QB.normal ?_|refine QB.cy (by rfl) ?_)
     refine Au _ nG (nc fun k u hk hu=>?_)
     refine fT.le_trans (Bv (pV fT _) fT (show k≤j' by omega) hu hy) ?_
     rw[pU];exact g1
end
end Go.Proofs.YtnlkkgpcikkpoaaGreat
namespace Go.Proofs.YtnlkkgpcikkpoaaGreat
open Go Vm Go.RowKit
noncomputable section
noncomputable def G9:List apV:=aY (dz av9 139)
open Tree renaming aN→mN,dj→mF,eT→mL,fz→mQ,dB→mR,fH→mE
noncomputable abbrev abl:List apV:=(aY (inner (aY (inner (G9.drop 1)))))
abbrev BA:=fun S R H d L=>([ab (ap L) 9,ab (aJ S 2 0 3 4) 89,.abs d,ab (aq R) 3,ab (ak H) 114]:List ag)
abbrev Ha:=fun S R H d (n:Nat) L (a b k:Int)=>(⟨[(0,ah 0 n),(1,aa a),(2,aa b),(3,aa k),(10,aa 0)],BA S R H d L⟩:aj)
abbrev abm:=fun S R H d (n:Nat) L (a b k:Int)=>(⟨[(0,ah 0 n),(1,aa a),(2,aa b),(3,aa k),(4,.func (.func 74) #[ao 1] #[])],BA S R H d L⟩:aj)
theorem abn(S R H d)(n:Nat)(L)(a b k:Int)(pH:(ak H).all af=true)(hn:(apb L)=n){Q:aQ}(l3:an av9 38 5 (G9.drop 1) (Ha S R H d n L a b k) Q):an av9 38 5 G9 (abm S R H d n L a b k) Q:=
 aS bo 1 (.leaf [0,1,2,3,10] [0,1,2,3,4] [0,3,4]) (fun u=>by kernel_rfl) (aM L R H (mQ l3))
abbrev OU:=fun S R H d (n:Nat) L (a b k i:Int)=>(⟨[(0,ah 0 n),(1,aa a),(2,aa b),(3,aa k),(10,.int .i64 (apc .i64 (i+1)))],[ab (a8 (a8 (ap L) (0+apd (apc .i64 (a+i))*1) [apJ (aX (ap L) (0+apd (apc .i64 (b+i))*1))]) (0+apd (apc .i64 (b+i))*1) [apJ (aX (ap L) (0+apd (apc .i64 (a+i))*1))]) 9,ab (aJ S 2 0 3 4) 89,.abs d,ab (aq R) 3,ab (ak H) 114]⟩:aj)
noncomputable abbrev abo(S:ad)(R:List Int)(H:List au)(d:ay)(n:Nat)(L:List ByteArray)(a b k i:Int):aj:=⟨[],BA S R H d L⟩
abbrev abp:=fun S R H d (n:Nat) L (a b k i:Int)=>(⟨[(0,ah 0 n),(1,aa a),(2,aa b),(3,aa k),(10,aa i)],BA S R H d L⟩:aj)
theorem abq(S R H d)(n:Nat)(L)(a b k i:Int)(pH:(ak H).all af=true)(hn:(apb L)=n)(h0:0≤i)(ha:0≤a)(jA:a+k≤b)(hb:b+k≤n)(hL:n≤1000000)(gQ:apc .i64 (a+i)=a+i)(dG:apc .i64 (b+i)=b+i)(nq:apc .i64 (i+1)=i+1){Q:aQ}(n0:(decide (i<k))=true→(eS (ap L) (0+apd (apc .i64 (b+i))*1))=true)(n1:(decide (i<k))=true→(eS (ap L) (0+apd (apc .i64 (a+i))*1))=true)(n2:(decide (i<k))=true→(apG (0+apd (apc .i64 (b+i))*1+1) (apb (a8 (ap L) (0+apd (apc .i64 (a+i))*1) [apJ (aX (ap L) (0+apd (apc .i64 (b+i))*1))])))=true)(aR:aph (aq R) af=true)(be:aph (ak H) af=true)(l5:(decide (i<k))=true→Q .normal (OU S R H d n L a b k i))(bB:aph (ap L) af=true)(l7:(decide (i<k))=false→Q (.exit 0) (abo S R H d n L a b k i)):an av9 38 5 abl (abp S R H d n L a b k i) Q:=
 aS bo 1000 (.fork 0 (aA [0,1,1,0,1,0,1,1,0,1,0,1,1,0,1,0,1,1,0,1] (.leaf [0,1,2,3,10] [0,1,2,3,4] [0,3,4])) (.leaf [] [0,1,2,3,4] [0,3,4])) (fun u=>by kernel_rfl) (mF (c:=decide (i<k)) (fun h0=>(mN (show(decide (0≤apc .i64 (b+i)))=true by simp at pH hn h0 ha jA hb hL gQ dG nq h0⊢ <;>omega) (mN (show(apy (apd (apc .i64 (b+i))) n)=true by simp at pH hn h0 ha jA hb hL gQ dG nq h0⊢ <;>omega) (mN (n0 h0) (mN (decide_eq_true (by omega):(decide (0≤apc .i64 (a+i)))=true) (mN (show(apy (apd (apc .i64 (a+i))) n)=true by simp at pH hn h0 ha jA hb hL gQ dG nq h0⊢ <;>omega) (mN (n1 h0) (mN (decide_eq_true (by omega):(decide (0≤apc .i64 (a+i)))=true) (mN (show(apy (apd (apc .i64 (a+i))) n)=true by simp at pH hn h0 ha jA hb hL gQ dG nq h0⊢ <;>omega) (mN (show(apG (0+apd (apc .i64 (a+i))*1+1) (apb (ap L)))=true by simp at pH hn h0 ha jA hb hL gQ dG nq h0⊢ <;>omega) (mN (show(decide (0≤apc .i64 (b+i)))=true by simp at pH hn h0 ha jA hb hL gQ dG nq h0⊢ <;>omega) (mN (show(apy (apd (apc .i64 (b+i))) n)=true by simp at pH hn h0 ha jA hb hL gQ dG nq h0⊢ <;>omega) (mN (n2 h0) (mN (show(aph (a8 (a8 (ap L) (0+apd (apc .i64 (a+i))*1) [apJ (aX (ap L) (0+apd (apc .i64 (b+i))*1))]) (0+apd (apc .i64 (b+i))*1) [apJ (aX (ap L) (0+apd (apc .i64 (a+i))*1))]) af)=true by simp) (mN (aG R) (mN (aU H) (mQ (an.done (by kernel_rfl) (l5 h0))))))))))))))))))) (fun h0=>(aM L R H (mE 0 (l7 h0)))))
end
end Go.Proofs.YtnlkkgpcikkpoaaGreat
namespace Go.Proofs.YtnlkkgpcikkpoaaGreat
section
variable {α:Type} {c:α→α→Int}
def fq(L:List α)(a b k:Nat):List α:=L.take a++(aL L b (b+k)++(aL L (a+k) b++(aL L a (a+k)++L.drop (b+k))))
def gE(L:List α)(a m b:Nat):List α:=L.take a++(aL L m b++(aL L a m++L.drop b))
theorem Hb{T X Z Y D:List α}{a b k:Nat}(h1:T.length=a)(h2:X.length=k)(h3:Z.length=b-(a+k))(h4:Y.length=k)(h5:a+k≤b):fq (T++(X++(Z++(Y++D)))) a b k=T++(Y++(Z++(X++D))):=by
 have e1:aL (T++(X++(Z++(Y++D)))) a (a+k)=X:=nT h1 (by omega)
 have e2:aL (T++(X++(Z++(Y++D)))) (a+k) b=Z:=by
  rw[←apK];exact nT (by rw[apv];omega) (by omega)
 have e3:aL (T++(X++(Z++(Y++D)))) b (b+k)=Y:=by
  rw[←apK,←apK];exact nT (by rw[apv,apv];omega) (by omega)
 have e4:(T++(X++(Z++(Y++D)))).drop (b+k)=D:=by
  rw[←apK,←apK,←apK];exact G0 (by simp only[apv];omega)
 unfold fq
 rw[e1,e2,e3,e4,GZ h1]
theorem abr{L:List α}{a b k:Nat}(h1:a+k≤b)(h2:b+k≤L.length):L=L.take a++(aL L a (a+k)++(aL L (a+k) b++(aL L b (b+k)++L.drop (b+k)))):=by
 conv=>lhs;rw[su L (show a≤b+k by omega),np L (m:=a+k) (by omega) (by omega),np L (a:=a+k) (m:=b) (by omega) (by omega)]
 simp only[apK]
theorem abt{L:List α}{a b k:Nat}(h1:a+k≤b)(h2:b+k≤L.length):(fq L a b k).length=L.length:=by
 unfold fq
 simp only[apv]
 rw[jt (by omega) (by omega),jt (by omega) (by omega),jt (by omega) (by omega),ap8,aqp]
 omega
theorem abu(L:List α){a b:Nat}(h:a≤b)(h2:b≤L.length):fq L a b 0=L:=by
 have:=abr (L:=L) (a:=a) (b:=b) (k:=0) (by omega) (by omega)
 have e0:∀x,aL L x (x+0)=[]:=fun x=>by unfold aL;rw[show x+0-x=0 by omega,asq]
 unfold fq
 rw[e0,e0]at*
 exact this.symm
theorem BB{P W:List α}{u v:α}{n:Nat}(h:P.length=n):(P++u::W).set n v=P++v::W:=by
 subst h
 rw[List.set_append_right _ _ (by omega),arS];rfl
theorem OV{P W:List α}{u:α}{n:Nat}(h:P.length=n):(P++u::W)[n]?=some u:=by
 subst h
 rw[apZ (by omega),arS];rfl
theorem BC{L:List α}{a i:Nat}{x:α}(h:a≤i)(hx:L[i]?=some x):aL L a (i+1)=aL L a i++[x]:=by
 rw[np L (m:=i) h (by omega)]
 have:aL L i (i+1)=[x]:=by unfold aL;rw[show i+1-i=1 by omega,(pW hx).2];rfl
 rw[this]
theorem abv{L:List α}{a b:Nat}{x:α}(h:a<b)(hx:L[a]?=some x):aL L a b=x::aL L (a+1) b:=by
 unfold aL
 rw[(pW hx).2,show b-a=(b-(a+1))+1 by omega,List.take_succ_cons]
theorem abw{L:List α}{a b i:Nat}{x y:α}(h1:a+(i+1)≤b)(h2:b+(i+1)≤L.length)(hx:L[a+i]?=some x)(hy:L[b+i]?=some y):
 (fq L a b i)[a+i]?=some x∧(fq L a b i)[b+i]?=some y∧((fq L a b i).set (a+i) y).set (b+i) x=fq L a b (i+1):=by
 have lT:(L.take a).length=a:=by rw[ap8];omega
 have l1:(aL L b (b+i)).length=i:=by rw[jt (by omega) (by omega)];omega
 have l2:(aL L (a+i+1) b).length=b-(a+i+1):=jt (by omega) (by omega)
 have l3:(aL L a (a+i)).length=i:=by rw[jt (by omega) (by omega)];omega
 have e0:fq L a b i=(L.take a++aL L b (b+i))++x::(aL L (a+i+1) b++(aL L a (a+i)++y::L.drop (b+i+1))):=by
  unfold fq
  rw[abv (a:=a+i) (by omega) hx,(pW hy).2]
  simp only[apK,aqZ]
 have abx:fq L a b i=(L.take a++aL L b (b+i)++x::(aL L (a+i+1) b++aL L a (a+i)))++y::L.drop (b+i+1):=by
  rw[e0];simp only[apK,aqZ]
 have e1:fq L a b (i+1)=(L.take a++aL L b (b+i)++y::(aL L (a+i+1) b++aL L a (a+i)))++x::L.drop (b+i+1):=by
  unfold fq
  rw[show b+(i+1)=b+i+1 by omega,show a+(i+1)=a+i+1 by omega,BC (a:=b) (i:=b+i) (by omega) hy,BC (a:=a) (i:=a+i) (by omega) hx]
  simp only[apK,aqZ,aqO]
 refine⟨by rw[e0];exact OV (by rw[apv];omega),by rw[abx];exact OV (by simp only[apv,ap1];omega),?_⟩
 rw[e0,BB (by rw[apv];omega),e1]
 have:L.take a++aL L b (b+i)++y::(aL L (a+i+1) b++(aL L a (a+i)++y::L.drop (b+i+1)))=(L.take a++aL L b (b+i)++y::(aL L (a+i+1) b++aL L a (a+i)))++y::L.drop (b+i+1):=by
  simp only[apK,aqZ]
 rw[this,BB (by simp only[apv,ap1];omega)]
structure mK(L:List α)(a m b i j:Nat)(M:List α):Prop where
 it:∃P U V Q,M=L.take a++(P++(U++(V++(Q++L.drop b))))∧U.length=i∧V.length=j∧a+P.length+i=m∧aL L m b++aL L a m=P++(V++(U++Q))
 i0:0<i
 j0:0<j
theorem mK.start{L:List α}{a m b:Nat}(h1:a<m)(h2:m<b)(h3:b≤L.length):mK L a m b (m-a) (b-m) L:=
 ⟨⟨[],aL L a m,aL L m b,[],by
  conv=>lhs;rw[su L (show a≤b by omega),np L (m:=m) (by omega) (by omega)]
  simp only[apK,aqO],jt (by omega) (by omega),jt (by omega) h3,by simp;omega,by simp⟩,by omega,by omega⟩
theorem mK.left{L M:List α}{a m b i j:Nat}(h:mK L a m b i j M)(ha:a≤L.length)(iI:j<i):mK L a m b (i-j) j (fq M (m-i) m j)∧m-i+j≤m∧m+j≤M.length:=by
 obtain⟨⟨P,U,V,Q,rfl,hU,hV,hP,hW⟩,hi,hj⟩:=h
 have lT:(L.take a).length=a:=by rw[ap8];omega
 have OW:(U.take j).length=j:=by rw[ap8];omega
 have aby:(U.drop j).length=i-j:=by rw[aqp];omega
 refine⟨⟨⟨P++V,U.drop j,U.take j,Q,?_,aby,OW,by rw[apv];omega,?_⟩,by omega,hj⟩,by omega,?_⟩
 ·have:L.take a++(P++(U++(V++(Q++L.drop b))))=(L.take a++P)++(U.take j++(U.drop j++(V++(Q++L.drop b)))):=by
   conv=>lhs;rw[←aqv j U]
   simp only[apK]
  rw[this,Hb (by rw[apv];omega) OW (by omega) hV (by omega)]
  simp only[apK]
 ·rw[hW]
  conv=>lhs;rw[←aqv j U]
  simp only[apK]
 ·simp only[apv];omega
theorem mK.right{L M:List α}{a m b i j:Nat}(h:mK L a m b i j M)(ha:a≤L.length)(iI:i<j):mK L a m b i (j-i) (fq M (m-i) (m+j-i) i)∧m-i+i≤m+j-i∧m+j-i+i≤M.length:=by
 obtain⟨⟨P,U,V,Q,rfl,hU,hV,hP,hW⟩,hi,hj⟩:=h
 have lT:(L.take a).length=a:=by rw[ap8];omega
 have abz:(V.take (j-i)).length=j-i:=by rw[ap8];omega
 have OX:(V.drop (j-i)).length=i:=by rw[aqp];omega
 refine⟨⟨⟨P,V.drop (j-i),V.take (j-i),U++Q,?_,OX,abz,by omega,?_⟩,hi,by omega⟩,by omega,?_⟩
 ·have:L.take a++(P++(U++(V++(Q++L.drop b))))=(L.take a++P)++(U++(V.take (j-i)++(V.drop (j-i)++(Q++L.drop b)))):=by
   conv=>lhs;rw[←aqv (j-i) V]
   simp only[apK]
  rw[this,Hb (by rw[apv];omega) hU (by omega) OX (by omega)]
  simp only[apK]
 ·rw[hW]
  conv=>lhs;rw[←aqv (j-i) V]
  simp only[apK]
 ·simp only[apv];omega
theorem mK.done{L M:List α}{a m b i:Nat}(h:mK L a m b i i M)(ha:a≤L.length):fq M (m-i) m i=gE L a m b∧m-i+i≤m∧m+i≤M.length∧i≤m:=by
 obtain⟨⟨P,U,V,Q,rfl,hU,hV,hP,hW⟩,hi,hj⟩:=h
 have lT:(L.take a).length=a:=by rw[ap8];omega
 refine⟨?_,by omega,by simp only[apv];omega,by omega⟩
 have:=Hb (T:=L.take a++P) (X:=U) (Z:=[]) (Y:=V) (D:=Q++L.drop b) (a:=m-i) (b:=m) (k:=i) (by rw[apv];omega) hU (by simp;omega) hV (by omega)
 rw[aqO]at this
 rw[show L.take a++(P++(U++(V++(Q++L.drop b))))=(L.take a++P)++(U++(V++(Q++L.drop b)))by simp only[apK],this]
 unfold gE
 have e:aL L m b++(aL L a m++L.drop b)=(aL L m b++aL L a m)++L.drop b:=by rw[apK]
 rw[e,hW]
 simp only[apK,aqO]
theorem mK.bounds{L M:List α}{a m b i j:Nat}(h:mK L a m b i j M)(oX:a≤m)(oY:m≤b)(hb:b≤L.length):M.length=L.length∧i≤m-a∧j≤b-m:=by
 obtain⟨⟨P,U,V,Q,rfl,hU,hV,hP,hW⟩,hi,hj⟩:=h
 have hl:=congrArg apb hW
 simp only[apv]at hl
 rw[jt oY hb,jt oX (by omega)]at hl
 simp only[apv,ap8,aqp]
 omega
end
end Go.Proofs.YtnlkkgpcikkpoaaGreat
namespace Go.Proofs.YtnlkkgpcikkpoaaGreat
open Go Vm Go.RowKit
section
variable (S:ad) (R:List Int) (H:List au) (d:ay)
def BD(n a b k:Nat)(L:List ByteArray)(i:Nat):aj:=⟨[(0,fF n),(1,iZ a),(2,iZ b),(3,iZ k),(10,iZ i)],cL S R H d (fq L a b i)⟩
theorem abA(L:List ByteArray)(n a b k:Nat)(hn:L.length=n)(hL:n≤1000000)(jA:a+k≤b)(hb:b+k≤n):
 aE av9 139 [fF n,iZ a,iZ b,iZ k,gg] (cL S R H d L) fun r o=>r=.ret (.tuple #[])∧o=cL S R H d (fq L a b k):=by
 have pH:=aU H
 refine aE.cT (n:=cn av9 139) (by kernel_rfl) ?_
 apply abn S R H d n L a b k pH hn
 ·
  have e:Ha S R H d n L a b k=BD S R H d n a b k L 0:=by unfold Ha BD;rw[abu L (by omega) (by omega)];rfl
  rw[e]
  refine an.eU 1 0 (by kernel_rfl) ?_
  refine an.fS (BD S R H d n a b k L) (fun i=>k-i) (fun i=>i≤k) 0 (by kernel_rfl) (ap7 _) ?_
  intro i hi
  have gi:(fq L a b i).length=n:=by rw[abt (by omega) (by omega),hn]
  apply abq S R H d n (fq L a b i) a b k i pH gi (by omega) (by omega) (by omega) (by omega) hL (bI (by omega) (by omega)) (bI (by omega) (by omega)) (bI (by omega) (by omega))
  case aR=>simp
  case be=>exact pH
  case bB=>simp
  case l7=>
   intro g
   have g:=of_decide_eq_false g
   have jB:i=k:=by omega
   subst jB
   with_reducible (repeat first|refine QL.ret ?_|refine QL.exit ?_|refine QB.ret ?_|refine QB.cp ?_|refine QB.normal ?_|refine QB.cy (by rfl) ?_)
   refine an.done (by kernel_rfl) ?_
   refine aF.normal (vs:=[]) (l:=[]) (bs:=[0,1,2,3,4]) (pl:=[0,3,4]) (q:=[ap (fq L a b i),aq R,ak H]) (fun u=>by kernel_rfl) (by kernel_rfl) (aC (by simp) (aC (by simp) (aC pH bc))) ⟨rfl,rfl⟩
  all_goals
   intro g
   have g:=of_decide_eq_true g
   obtain⟨x,hx⟩:∃x,L[a+i]?=some x:=⟨_,apl (by omega)⟩
   obtain⟨y,hy⟩:∃y,L[b+i]?=some y:=⟨_,apl (by omega)⟩
   obtain⟨fQ,iv,cP⟩:=abw (L:=L) (a:=a) (b:=b) (i:=i) (by omega) (by omega) hx hy
   have ea:0+apd (apc apr ((a:Int)+(i:Int)))*1=a+i:=by rw[bI (by omega) (by omega)];omega
   have eb:0+apd (apc apr ((b:Int)+(i:Int)))*1=b+i:=by rw[bI (by omega) (by omega)];omega
  case n0=>rw[eb];exact(dU iv).2
  case n1=>rw[ea];exact(dU fQ).2
  case n2=>rw[ea,eb,(dU iv).1,nU (by omega),yj,aqK];exact apU (by omega)
  case l5=>
   refine QL.to (i+1) (by omega) (by omega) ?_
   unfold OU BD
   rw[ea,eb,(dU iv).1,(dU fQ).1,nU (by omega),nU (by rw[aqK];omega),cP,fA (by omega)]
   rfl
end
def abB:ape→ByteArray
 | .string s=>s
 |_=>ByteArray.empty
def cU(l:List ape):List ByteArray:=l.map abB
@[simp] theorem iP(l:List ByteArray):cU (ap l)=l:=by
 unfold cU ap
 rw[List.map_map]
 conv=>rhs;rw[←List.map_id l]
 exact List.map_congr_left fun x _=>rfl
noncomputable def iQ(o:List ag)(n:Nat):Bool:=@decide (∃S R H d L,o=cL S R H d L∧L.length=n∧n≤1000000) (apF _)
theorem wl{S:ad}{R:List Int}{H:List au}{d:ay}{L:List ByteArray}{o:List ag}{n:Nat}(h:o=cL S R H d L)(h2:L.length=n)(h3:n≤1000000):iQ o n=true:=by
 unfold iQ
 exact(@decide_eq_true_iff _ (apF _)).2 ⟨S,R,H,d,L,h,h2,h3⟩
noncomputable def He(a:List ape)(o:List ag):Option (Bool×bx×List ag):=match a,o with
 | [.slice (some ⟨0,0,none⟩) n m,.int .i64 x,.int .i64 y,.int .i64 k,.func (.func f) c1 c2],ag.cells c t r::l=>match c1.toList,c2.toList with
  | [.pointer (some ⟨1,0,none⟩)],[]=>some (iQ (.cells c t r::l) n&&(apw m n&&(apw f 74&&(decide (0≤x)&&(decide (0≤k)&&(decide (x+k≤y)&&decide (y+k≤n)))))),.ret (.tuple #[]),.cells (ap (fq (cU c) x.toNat y.toNat k.toNat)) t r::l)
  |_,_=>none
 |_,_=>none
theorem abC:bp av9 139 (Sum.dq av9 He):=bp.dq fun a o r o' hg=>by
 unfold He at hg
 split at hg
 ·rename_i n m x y k f c1 c2 c t ro l
  split at hg
  ·rename_i h1 h2
   simp only[api,apn,apt,decide_eq_true_eq]at hg
   obtain⟨⟨g1,g2,g3,g4,g5,g6,g7⟩,rfl,rfl⟩:=hg
   have g2:=apz g2
   have g3:=apz g3
   obtain⟨S,R,H,d,L,he,hl,hn⟩:=@of_decide_eq_true _ (apF _) g1
   have e1:c1= #[.pointer (some ⟨1,0,none⟩)]:=by rw[←aqq (xs:=c1),h1]
   have e2:c2= #[]:=by rw[←aqq (xs:=c2),h2]
   subst g2 g3 e1 e2
   obtain⟨x,rfl⟩:=aqL g4
   obtain⟨k,rfl⟩:=aqL g5
   obtain⟨y,rfl⟩:=aqL (show 0≤y by omega)
   unfold cL at he
   injection he with oZ dY
   injection oZ with hc ht hr
   subst hc ht hr dY
   refine(abA S R H d L _ x y k hl hn (by omega) (by omega)).mono ?_
   rintro r o ⟨rfl,rfl⟩
   exact⟨rfl,by rw[iP];rfl⟩
  ·cases hg
 ·cases hg
noncomputable def abD:List (FuncId×Sum):=[(139,Sum.dq av9 He)]
theorem OY:dw av9 (dM av9 (dN abD) 50 40):=dR du mixed (ed (.cons abC .nil)) 50 40
end Go.Proofs.YtnlkkgpcikkpoaaGreat
namespace Go.Proofs.YtnlkkgpcikkpoaaGreat
open Go Vm Go.RowKit
noncomputable section
noncomputable def BE:List apV:=aY (dz av9 134)
open Tree renaming aN→mN,dj→mF,eT→mL,fz→mQ,dB→mR,fH→mE
noncomputable abbrev Hf:List apV:=(aY (inner (aY (inner (BE.drop 2)))))
abbrev wm:=fun S R H d L=>([ab (ap L) 9,ab (aJ S 2 0 3 4) 89,.abs d,ab (aq R) 3,ab (ak H) 114]:List ag)
abbrev Hg:=fun S R H d (n:Nat) L (a m b:Int)=>(⟨[(0,ah 0 n),(2,aa m),(4,.func (.func 74) #[ao 1] #[]),(10,.int .i64 (apc .i64 (m-a))),(11,.int .i64 (apc .i64 (b-m)))],wm S R H d L⟩:aj)
abbrev abE:=fun S R H d (n:Nat) L (a m b:Int)=>(⟨[(0,ah 0 n),(1,aa a),(2,aa m),(3,aa b),(4,.func (.func 74) #[ao 1] #[])],wm S R H d L⟩:aj)
theorem abF(S R H d)(n:Nat)(L)(a m b:Int)(pH:(ak H).all af=true)(hn:(apb L)=n)(gQ:apc .i64 (m-a)=m-a)(dG:apc .i64 (b-m)=b-m){Q:aQ}(l3:an av9 58 5 (BE.drop 2) (Hg S R H d n L a m b) Q):an av9 58 5 BE (abE S R H d n L a m b) Q:=
 aS bo 2 (.leaf [0,2,4,10,11] [0,1,2,3,4] [0,3,4]) (fun u=>by kernel_rfl) (aM L R H (mQ l3))
abbrev abG:=fun S R H d (n:Nat) L (m i j:Int)=>(⟨[(0,ah 0 n),(2,aa m),(4,.func (.func 74) #[ao 1] #[]),(10,aa i),(11,aa j)],wm S R H d L⟩:aj)
abbrev abH:=fun S R H d (n:Nat) L (m i j:Int)=>(⟨[(0,ah 0 n),(2,aa m),(4,.func (.func 74) #[ao 1] #[]),(10,aa i)],wm S R H d L⟩:aj)
abbrev OZ:=fun S R H d (n:Nat) L (m i j:Int)=>(⟨[(0,ah 0 n),(2,aa m),(4,.func (.func 74) #[ao 1] #[]),(10,aa i),(11,aa j)],wm S R H d L⟩:aj)
theorem abI(S R H d)(n:Nat)(L)(m i j:Int)(pH:(ak H).all af=true)(hn:(apb L)=n){Q:aQ}(l3:(i != j)=true→an av9 58 5 (Hf.drop 2) (abG S R H d n L m i j) Q)(l4:(i != j)=false→Q (.exit 0) (abH S R H d n L m i j)):an av9 58 5 Hf (OZ S R H d n L m i j) Q:=
 aS bo 2 (.fork 0 (.leaf [0,2,4,10,11] [0,1,2,3,4] [0,3,4]) (.leaf [0,2,4,10] [0,1,2,3,4] [0,3,4])) (fun u=>by kernel_rfl) (mF (c:=i != j) (fun h0=>(aM L R H (mQ (l3 h0)))) (fun h0=>(aM L R H (mE 0 (l4 h0)))))
abbrev O0:=fun S R H d (n:Nat) L (m i j:Int)=>(⟨[(0,ah 0 n),(2,aa m),(4,.func (.func 74) #[ao 1] #[]),(10,.int .i64 (apc .i64 (i-j))),(11,aa j)],[ab (ap (fq (cU (ap L)) (apd (apc .i64 (m-i))) (apd m) (apd j))) 9,ab (aJ S 2 0 3 4) 89,.abs d,ab (aq R) 3,ab (ak H) 114]⟩:aj)
abbrev O1:=fun S R H d (n:Nat) L (m i j:Int)=>(⟨[(0,ah 0 n),(2,aa m),(4,.func (.func 74) #[ao 1] #[]),(10,aa i),(11,.int .i64 (apc .i64 (j-i)))],[ab (ap (fq (cU (ap L)) (apd (apc .i64 (m-i))) (apd (apc .i64 (apc .i64 (m+j)-i))) (apd i))) 9,ab (aJ S 2 0 3 4) 89,.abs d,ab (aq R) 3,ab (ak H) 114]⟩:aj)
theorem abJ(S R H d)(n:Nat)(L)(m i j:Int)(pH:(ak H).all af=true)(hn:(apb L)=n)(h1:0<i)(h2:0<j)(h3:i≤m)(h4:m+j≤n)(hL:n≤1000000)(gQ:apc .i64 (m-i)=m-i)(dG:apc .i64 (m+j)=m+j)(nq:apc .i64 (m+j-i)=m+j-i)(BF:apc .i64 (i-j)=i-j)(aoj:apc .i64 (j-i)=j-i){Q:aQ}(n0:(decide (i>j))=true→(iQ [ab (ap L) 9,ab (aJ S 2 0 3 4) 89,ag.abs d,ab (aq R) 3,ab (ak H) 114] n&&(apw n n&&(apw 74 74&&(decide (0≤apc .i64 (m-i))&&(decide (0≤j)&&(decide (apc .i64 (m-i)+j≤m)&&decide (m+j≤(↑n:Int))))))))=true)(l3:(decide (i>j))=true→Q .normal (O0 S R H d n L m i j))(n4:(decide (i>j))=false→(iQ [ab (ap L) 9,ab (aJ S 2 0 3 4) 89,ag.abs d,ab (aq R) 3,ab (ak H) 114] n&&(apw n n&&(apw 74 74&&(decide (0≤apc .i64 (m-i))&&(decide (0≤i)&&(decide (apc .i64 (m-i)+i≤apc .i64 (apc .i64 (m+j)-i))&&decide (apc .i64 (apc .i64 (m+j)-i)+i≤(↑n:Int))))))))=true)(l5:(decide (i>j))=false→Q .normal (O1 S R H d n L m i j)):an av9 58 5 (aY (inner (Hf.drop 2))) (OZ S R H d n L m i j) Q:=
 aS OY 1000 (.fork 0 (aA [3,1,1,1,1,1,1] (.leaf [0,2,4,10,11] [0,1,2,3,4] [0,3,4])) (aA [3,1,1,1,1,1,1] (.leaf [0,2,4,10,11] [0,1,2,3,4] [0,3,4]))) (fun u=>by kernel_rfl) (mF (c:=decide (i>j)) (fun h0=>(aM L R H (mN (n0 h0) (mN (aZ (fq (cU (ap L)) (apd (apc .i64 (m-i))) (apd m) (apd j))) (mN (aG R) (mN (aU H) (mN (aZ (fq (cU (ap L)) (apd (apc .i64 (m-i))) (apd m) (apd j))) (mN (aG R) (mN (aU H) (mQ (an.done (by kernel_rfl) (l3 h0)))))))))))) (fun h0=>(aM L R H (mN (n4 h0) (mN (aZ (fq (cU (ap L)) (apd (apc .i64 (m-i))) (apd (apc .i64 (apc .i64 (m+j)-i))) (apd i))) (mN (aG R) (mN (aU H) (mN (aZ (fq (cU (ap L)) (apd (apc .i64 (m-i))) (apd (apc .i64 (apc .i64 (m+j)-i))) (apd i))) (mN (aG R) (mN (aU H) (mQ (an.done (by kernel_rfl) (l5 h0)))))))))))))
abbrev Hh:=fun S R H d (n:Nat) L (m i j:Int)=>(⟨[],[ab (ap (fq (cU (ap L)) (apd (apc .i64 (m-i))) (apd m) (apd i))) 9,ab (aJ S 2 0 3 4) 89,.abs d,ab (aq R) 3,ab (ak H) 114]⟩:aj)
abbrev abK:=fun S R H d (n:Nat) L (m i j:Int)=>(⟨[(0,ah 0 n),(2,aa m),(4,.func (.func 74) #[ao 1] #[]),(10,aa i)],wm S R H d L⟩:aj)
theorem abL(S R H d)(n:Nat)(L)(m i j:Int)(pH:(ak H).all af=true)(hn:(apb L)=n)(h1:0<i)(h3:i≤m)(hL:n≤1000000)(gQ:apc .i64 (m-i)=m-i){Q:aQ}(n0:(iQ [ab (ap L) 9,ab (aJ S 2 0 3 4) 89,ag.abs d,ab (aq R) 3,ab (ak H) 114] n&&(apw n n&&(apw 74 74&&(decide (0≤apc .i64 (m-i))&&(decide (0≤i)&&(decide (apc .i64 (m-i)+i≤m)&&decide (m+i≤(↑n:Int))))))))=true)(l3:Q .normal (Hh S R H d n L m i j)):an av9 58 5 (BE.drop 3) (abK S R H d n L m i j) Q:=
 aS OY 1000 (aA [3,1,1,1,1,1,1] (.leaf [] [0,1,2,3,4] [0,3,4])) (fun u=>by kernel_rfl) (aM L R H (mN n0 (mN (aZ (fq (cU (ap L)) (apd (apc .i64 (m-i))) (apd m) (apd i))) (mN (aG R) (mN (aU H) (mN (aZ (fq (cU (ap L)) (apd (apc .i64 (m-i))) (apd m) (apd i))) (mN (aG R) (mN (aU H) (mQ (an.done (by kernel_rfl) l3))))))))))
end
section
variable (S:ad) (R:List Int) (H:List au) (d:ay)
def yI(n m:Nat)(s:Nat×Nat×List ByteArray):aj:=⟨[(0,fF n),(2,iZ m),(4,gg),(10,iZ s.1),(11,iZ s.2.1)],cL S R H d s.2.2⟩
theorem BG{a b:Nat}(h:b≤a)(h2:a<1000000000):(.int .i64 (apc apr ((a:Int)-(b:Int))):ape)=iZ (a-b):=by
 rw[bI (by omega) (by omega)]
 show apm .i64 _=apm .i64 _
 congr 1
 omega
theorem abM(L:List ByteArray)(n a m b:Nat)(hn:L.length=n)(hL:n≤1000000)(oX:a<m)(oY:m<b)(hb:b≤n):
 aE av9 134 [fF n,iZ a,iZ m,iZ b,gg] (cL S R H d L) fun r o=>r=.ret (.tuple #[])∧o=cL S R H d (gE L a m b):=by
 have pH:=aU H
 refine aE.cT (n:=cn av9 134) (by kernel_rfl) ?_
 apply abF S R H d n L a m b pH hn (bI (by omega) (by omega)) (bI (by omega) (by omega))
 ·
  have e:Hg S R H d n L a m b=yI S R H d n m (m-a,b-m,L):=by unfold Hg yI;rw[BG (by omega) (by omega),BG (by omega) (by omega)];rfl
  rw[e]
  refine an.eU 2 0 (by kernel_rfl) ?_
  refine an.fS (yI S R H d n m) (fun s=>s.1+s.2.1) (fun s=>mK L a m b s.1 s.2.1 s.2.2) (m-a,b-m,L) (by kernel_rfl) (mK.start oX oY (by omega)) ?_
  rintro⟨i,j,M⟩ hs
  dsimp only at hs
  obtain⟨gi,vK,abN⟩:=hs.bounds (by omega) (by omega) (by omega)
  rw[hn]at gi
  have hO:=wl (S:=S) (R:=R) (H:=H) (d:=d) (L:=M) rfl gi hL
  unfold cL at hO
  have vc:=hs.i0
  have tw:=hs.j0
  apply abI S R H d n M m i j pH gi
  case l4=>
   intro g
   have iI:i=j:=by have:(i:Int)=j:=by simpa using g
                   omega
   subst iI
   obtain⟨e1,e2,e3,e4⟩:=hs.done (by omega)
   with_reducible (repeat first|refine QL.ret ?_|refine QL.exit ?_|refine QB.ret ?_|refine QB.cp ?_|refine QB.normal ?_|refine QB.cy (by rfl) ?_)
   apply abL S R H d n M m i i pH gi (by omega) (by omega) hL (bI (by omega) (by omega))
   case n0=>
    rw[bI (by omega) (by omega),hO]
    simp only[arJ,aqn,apt,decide_eq_true_eq]
    omega
   case l3=>
    have e5:Hh S R H d n M m i i=⟨[],cL S R H d (gE L a m b)⟩:=by
     unfold Hh
     rw[iP,bI (by omega) (by omega),show((m:Int)-(i:Int)).toNat=m-i by omega,show((m:Int)).toNat=m by omega,show((i:Int)).toNat=i by omega,e1]
     rfl
    rw[e5]
    exact aF.normal (vs:=[]) (l:=[]) (bs:=[0,1,2,3,4]) (pl:=[0,3,4]) (q:=[ap (gE L a m b),aq R,ak H]) (fun u=>by kernel_rfl) (by kernel_rfl) (aC (by simp) (aC (by simp) (aC pH bc))) ⟨rfl,rfl⟩
  case l3=>
   intro g
   have iI:i≠j:=by have:¬(i:Int)=j:=by simpa using g
                   omega
   refine an.eU 2 1 (by kernel_rfl) ?_
   apply abJ S R H d n M m i j pH gi (by omega) (by omega) (by omega) (by omega) hL (bI (by omega) (by omega)) (bI (by omega) (by omega)) (bI (by omega) (by omega)) (bI (by omega) (by omega)) (bI (by omega) (by omega))
   case n0=>
    intro g1
    have g1:=of_decide_eq_true g1
    rw[bI (by omega) (by omega),hO]
    simp only[arJ,aqn,apt,decide_eq_true_eq]
    omega
   case n4=>
    intro g1
    have g1:=of_decide_eq_false g1
    rw[bI (z:=(m:Int)-i) (by omega) (by omega),bI (z:=(m:Int)+j) (by omega) (by omega),bI (by omega) (by omega),hO]
    simp only[arJ,aqn,apt,decide_eq_true_eq]
    omega
   case l3=>
    intro g1
    have g1:=of_decide_eq_true g1
    obtain⟨q1,q2,q3⟩:=hs.left (by omega) (by omega)
    with_reducible (repeat first|refine QL.ret ?_|refine QL.exit ?_|refine QB.ret ?_|refine QB.cp ?_|refine QB.normal ?_|refine QB.cy (by rfl) ?_)
    refine an.done (by kernel_rfl) ?_
    refine QL.to (i-j,j,fq M (m-i) m j) q1 (by dsimp only;omega) ?_
    unfold O0 yI
    rw[iP,BG (by omega) (by omega),bI (by omega) (by omega),show((m:Int)-(i:Int)).toNat=m-i by omega,show((m:Int)).toNat=m by omega,show((j:Int)).toNat=j by omega]
    rfl
   case l5=>
    intro g1
    have g1:=of_decide_eq_false g1
    obtain⟨q1,q2,q3⟩:=hs.right (by omega) (by omega)
    with_reducible (repeat first|refine QL.ret ?_|refine QL.exit ?_|refine QB.ret ?_|refine QB.cp ?_|refine QB.normal ?_|refine QB.cy (by rfl) ?_)
    refine an.done (by kernel_rfl) ?_
    refine QL.to (i,j-i,fq M (m-i) (m+j-i) i) q1 (by dsimp only;omega) ?_
    unfold O1 yI
    rw[iP,BG (by omega) (by omega),bI (z:=(m:Int)-i) (by omega) (by omega),bI (z:=(m:Int)+j) (by omega) (by omega),bI (by omega) (by omega),show((m:Int)-(i:Int)).toNat=m-i by omega,show((m:Int)+(j:Int)-(i:Int)).toNat=m+j-i by omega,show((i:Int)).toNat=i by omega]
    rfl
end
noncomputable def Hi(a:List ape)(o:List ag):Option (Bool×bx×List ag):=match a,o with
 | [.slice (some ⟨0,0,none⟩) n m,.int .i64 x,.int .i64 y,.int .i64 z,.func (.func f) c1 c2],ag.cells c t r::l=>match c1.toList,c2.toList with
  | [.pointer (some ⟨1,0,none⟩)],[]=>some (iQ (.cells c t r::l) n&&(apw m n&&(apw f 74&&(decide (0≤x)&&(decide (x<y)&&(decide (y<z)&&decide (z≤n)))))),.ret (.tuple #[]),.cells (ap (gE (cU c) x.toNat y.toNat z.toNat)) t r::l)
  |_,_=>none
 |_,_=>none
theorem abO:bp av9 134 (Sum.dq av9 Hi):=bp.dq fun a o r o' hg=>by
 unfold Hi at hg
 split at hg
 ·rename_i n m x y z f c1 c2 c t ro l
  split at hg
  ·rename_i h1 h2
   simp only[api,apn,apt,decide_eq_true_eq]at hg
   obtain⟨⟨g1,g2,g3,g4,g5,g6,g7⟩,rfl,rfl⟩:=hg
   have g2:=apz g2
   have g3:=apz g3
   obtain⟨S,R,H,d,L,he,hl,hn⟩:=@of_decide_eq_true _ (apF _) g1
   have e1:c1= #[.pointer (some ⟨1,0,none⟩)]:=by rw[←aqq (xs:=c1),h1]
   have e2:c2= #[]:=by rw[←aqq (xs:=c2),h2]
   subst g2 g3 e1 e2
   obtain⟨x,rfl⟩:=aqL g4
   obtain⟨y,rfl⟩:=aqL (show 0≤y by omega)
   obtain⟨z,rfl⟩:=aqL (show 0≤z by omega)
   unfold cL at he
   injection he with oZ dY
   injection oZ with hc ht hr
   subst hc ht hr dY
   refine(abM S R H d L _ x y z hl hn (by omega) (by omega) (by omega)).mono ?_
   rintro r o ⟨rfl,rfl⟩
   exact⟨rfl,by rw[iP];rfl⟩
  ·cases hg
 ·cases hg
end Go.Proofs.YtnlkkgpcikkpoaaGreat
namespace Go.Proofs.YtnlkkgpcikkpoaaGreat
section
variable {α:Type} {c:α→α→Int}
structure lr(c:α→α→Int)(X:List α)(x:α)(i j:Nat):Prop where
 iI:i≤j
 hj:j≤X.length
 lo:∀k y,k<i→X[k]?=some y→fJ c y x=true
 hi:∀k y,j≤k→X[k]?=some y→fJ c x y=true
theorem lr.start(c:α→α→Int)(X:List α)(x:α):lr c X x 0 X.length:=
 ⟨ap7 _,apI _,fun _ _ h=>absurd h (Nat.not_lt_zero _),fun k y h hy=>by have:=(app.1 hy).1;omega⟩
theorem lr.up{X:List α}{x y:α}{i j h:Nat}(B:lr c X x i j)(t:TO c)(hX:dC c X)(h1:i≤h)(h2:h<j)(hy:X[h]?=some y)(hl:fJ c y x=true):lr c X x (h+1) j:=
 ⟨by omega,B.hj,fun k z hk hz=>t.le_trans (Bv hX t (by omega) hz hy) hl,B.hi⟩
theorem lr.down{X:List α}{x y:α}{i j h:Nat}(B:lr c X x i j)(t:TO c)(hX:dC c X)(h1:i≤h)(h2:h<j)(hy:X[h]?=some y)(hl:fJ c x y=true):lr c X x i h:=
 ⟨h1,by have:=B.hj;omega,B.lo,fun k z hk hz=>t.le_trans hl (Bv hX t hk hy hz)⟩
theorem lr.done{X:List α}{x:α}{i:Nat}(B:lr c X x i i)(t:TO c)(hX:dC c X):X.take i++(x::X.drop i)=bE c (X++[x]):=
 OL t hX B.hj B.lo B.hi
theorem yJ{L:List α}{a b k:Nat}(h:a+k<b):(aL L a b)[k]?=L[a+k]? :=by
 unfold aL
 rw[List.getElem?_take_of_lt (by omega),aqz]
theorem O2{L:List α}{a:Nat}{x:α}(hx:L[a]?=some x):aL L a (a+1)=[x]:=by
 unfold aL;rw[show a+1-a=1 by omega,(pW hx).2];rfl
theorem abP{L:List α}{a b i:Nat}{x:α}(t:TO c)(hb:a+1≤b)(hx:L[a]?=some x)(hX:dC c (aL L (a+1) b))(B:lr c (aL L (a+1) b) x i i):dn (L.take a) (aL L (a+1) b) (L.drop b) x i=bV c L a b:=by
 unfold dn bV
 have e1:bE c (aL L a b)=bE c (aL L (a+1) b++[x]):=by
  refine GY t ?_
  rw[np L (m:=a+1) (by omega) hb,O2 hx]
  exact ata
 rw[e1,←B.done t hX]
 simp only[apK,aqZ]
theorem abQ{L:List α}{a b:Nat}{x:α}(hb:a+1≤b)(hx:L[a]?=some x):dn (L.take a) (aL L (a+1) b) (L.drop b) x 0=L:=by
 unfold dn
 conv=>rhs;rw[su L (show a≤b by omega),np L (m:=a+1) (by omega) hb,O2 hx]
 simp only[asq,List.drop_zero,aqO,apK,aqZ]
theorem abR{L:List α}{a m i:Nat}{x:α}(t:TO c)(hm:a≤m)(hx:L[m]?=some x)(hX:dC c (aL L a m))(B:lr c (aL L a m) x i i):dn (L.take a) (aL L a m) (L.drop (m+1)) x i=bV c L a (m+1):=by
 unfold dn bV
 have e1:bE c (aL L a (m+1))=bE c (aL L a m++[x]):=by rw[BC hm hx]
 rw[e1,←B.done t hX]
 simp only[apK,aqZ]
theorem abS{L:List α}{a m:Nat}{x:α}(hm:a≤m)(cq:m<L.length)(hx:L[m]?=some x):dn (L.take a) (aL L a m) (L.drop (m+1)) x (m-a)=L:=by
 unfold dn
 have hl:(aL L a m).length=m-a:=jt hm (by omega)
 conv=>rhs;rw[su L (show a≤m+1 by omega),BC hm hx]
 rw[←hl,as2,as3]
 simp only[aqO,apK,aqZ]
theorem abT{T S D:List α}{x:α}{j:Nat}(h:j<S.length):(dn T S D x j)[T.length+j+1]?=S[j]? :=by
 unfold dn
 rw[apZ (by omega),show T.length+j+1-T.length=j+1 by omega,apZ (by simp;omega)]
 simp only[ap8]
 rw[show j+1-min j S.length=1 by omega,List.getElem?_cons_succ,List.getElem?_append_left (by rw[aqp];omega),aqz]
 simp
theorem abU{T S D:List α}{x y:α}{j:Nat}(h:j<S.length)(hy:S[j]?=some y):((dn T S D x j).set (T.length+j) y).set (T.length+j+1) x=dn T S D x (j+1):=by
 obtain⟨e1,e2⟩:=pW hy
 have a1:dn T S D x (j+1)=(T++S.take j)++(y::x::(S.drop (j+1)++D)):=by unfold dn;rw[e1];simp
 have a2:dn T S D x j=(T++S.take j)++(x::y::(S.drop (j+1)++D)):=by unfold dn;rw[e2];simp
 have hl:(T++S.take j).length=T.length+j:=by rw[apv,ap8];omega
 rw[a1,a2,BB hl]
 have a3:(T++S.take j)++(y::y::(S.drop (j+1)++D))=((T++S.take j)++[y])++(y::(S.drop (j+1)++D)):=by simp
 rw[a3,BB (by rw[apv,hl];rfl)]
 simp
structure lZ(c:α→α→Int)(L:List α)(a m b s r:Nat):Prop where
 Ek:s≤r
 qS:a≤s
 rm:r≤m
 me:m+r≤(a+b)/2+m
 sb:(a+b)/2+m≤s+b
 lo:∀x y,0<s→a<s→(a+b)/2+m-s<b→L[s-1]?=some x→L[(a+b)/2+m-s]?=some y→fJ c x y=true
 hi:∀x y,r<m→m<(a+b)/2+m-r→L[r]?=some x→L[(a+b)/2+m-r-1]?=some y→fJ c y x=true
theorem lZ.start(c:α→α→Int)(L:List α){a m b:Nat}(h1:a<m)(h2:m<b):lZ c L a m b (if m>(a+b)/2 then(a+b)/2+m-b else a) (if m>(a+b)/2 then(a+b)/2 else m):=by
 by_cases h:m>(a+b)/2
 ·rw[if_pos h,if_pos h]
  refine⟨by omega,by omega,by omega,by omega,by omega,fun x y _ _ h3=>by omega,fun x y _ h3=>by omega⟩
 ·rw[if_neg h,if_neg h]
  refine⟨by omega,by omega,by omega,by omega,by omega,fun x y _ h3=>by omega,fun x y h3=>by omega⟩
theorem lZ.up{L:List α}{a m b s r h:Nat}(S:lZ c L a m b s r)(h1:s≤h)(h2:h<r){x y:α}(hx:L[h]?=some x)(hy:L[(a+b)/2+m-1-h]?=some y)(hl:fJ c x y=true):lZ c L a m b (h+1) r:=by
 have:=S.qS;have:=S.rm;have:=S.me;have:=S.sb
 refine⟨by omega,by omega,S.rm,S.me,by omega,fun x' y' _ _ _ gA kF=>?_,S.hi⟩
 rw[show h+1-1=h by omega,hx]at gA
 rw[show(a+b)/2+m-(h+1)=(a+b)/2+m-1-h by omega,hy]at kF
 cases gA;cases kF;exact hl
theorem lZ.down{L:List α}{a m b s r h:Nat}(S:lZ c L a m b s r)(h1:s≤h)(h2:h<r){x y:α}(hx:L[h]?=some x)(hy:L[(a+b)/2+m-1-h]?=some y)(hl:fJ c y x=true):lZ c L a m b s h:=by
 have:=S.qS;have:=S.rm;have:=S.me;have:=S.sb
 refine⟨by omega,S.qS,by omega,by omega,S.sb,S.lo,fun x' y' _ _ gA kF=>?_⟩
 rw[hx]at gA
 rw[show(a+b)/2+m-h-1=(a+b)/2+m-1-h by omega,hy]at kF
 cases gA;cases kF;exact hl
theorem wo(t:TO c){L:List α}{a b i j:Nat}{x y:α}(hS:dC c (aL L a b))(h1:a≤i)(h2:i≤j)(h3:j<b)(hx:L[i]?=some x)(hy:L[j]?=some y):fJ c x y=true:=by
 refine Bv hS t (i:=i-a) (j:=j-a) (by omega) ?_ ?_
 ·rw[yJ (by omega),show a+(i-a)=i by omega];exact hx
 ·rw[yJ (by omega),show a+(j-a)=j by omega];exact hy
theorem O3{L:List α}{a b:Nat}{x:α}(h:x∈aL L a b):∃i,a≤i∧i<b∧L[i]?=some x:=by
 obtain⟨k,hk⟩:=List.getElem?_of_mem h
 have hl:=(app.1 hk).1
 unfold aL at hl
 rw[ap8]at hl
 rw[yJ (by omega)]at hk
 exact⟨a+k,by omega,by omega,hk⟩
theorem lZ.done{L:List α}{a m b s:Nat}(S:lZ c L a m b s s)(t:TO c)(hb:b≤L.length)(h1:a<m)(h2:m<b)(hX:dC c (aL L a m))(hY:dC c (aL L m b)):
 ∀x∈aL L a s++aL L m ((a+b)/2+m-s),∀y∈aL L s m++aL L ((a+b)/2+m-s) b,fJ c x y=true:=by
 have h3:=S.qS;have h4:=S.rm;have h5:=S.me;have h6:=S.sb
 intro x hx y hy
 rcases apN.1 hx with hx|hx<;>rcases apN.1 hy with hy|hy<;>obtain⟨i,i1,i2,hx⟩:=O3 hx<;>obtain⟨j,j1,j2,hy⟩:=O3 hy
 ·exact wo t hX i1 (by omega) j2 hx hy
 ·obtain⟨u,hu⟩:∃u,L[s-1]?=some u:=⟨_,apl (by omega)⟩
  obtain⟨v,hv⟩:∃v,L[(a+b)/2+m-s]?=some v:=⟨_,apl (by omega)⟩
  refine t.le_trans (wo t hX i1 (show i≤s-1 by omega) (by omega) hx hu) (t.le_trans (S.lo u v (by omega) (by omega) (by omega) hu hv) ?_)
  exact wo t hY (by omega) j1 j2 hv hy
 ·obtain⟨u,hu⟩:∃u,L[s]?=some u:=⟨_,apl (by omega)⟩
  obtain⟨v,hv⟩:∃v,L[(a+b)/2+m-s-1]?=some v:=⟨_,apl (by omega)⟩
  refine t.le_trans (wo t hY i1 (show i≤(a+b)/2+m-s-1 by omega) (by omega) hx hv) (t.le_trans (S.hi u v (by omega) (by omega) hu hv) ?_)
  exact wo t hX (by omega) j1 j2 hu hy
 ·exact wo t hY i1 (by omega) j2 hx hy
theorem abV{L:List α}{a m b:Nat}(h1:a≤m)(h2:m≤b)(h:a=m∨m=b):gE L a m b=L:=by
 have e0:∀x,aL L x x=[]:=fun x=>by unfold aL;rw[arS,asq]
 unfold gE
 conv=>rhs;rw[su L (show a≤b by omega),np L h1 h2]
 rcases h with rfl|rfl
 ·rw[e0];simp
 ·rw[e0];simp
theorem abW{L:List α}{a s m e b:Nat}(h1:a≤s)(h2:s≤m)(h3:m≤e)(h4:e≤b)(hb:b≤L.length):gE L s m e=L.take a++((aL L a s++aL L m e)++((aL L s m++aL L e b)++L.drop b)):=by
 unfold gE
 have e1:L.take s=L.take a++aL L a s:=by
  unfold aL
  conv=>lhs;rw[show s=a+(s-a)by omega,List.take_add]
 have e2:L.drop e=aL L e b++L.drop b:=by
  unfold aL
  have:L.drop b=(L.drop e).drop (b-e):=by rw[aqu,show e+(b-e)=b by omega]
  rw[this,aqv]
 rw[e1,e2]
 simp only[apK]
structure O4(c:α→α→Int)(L:List α)(a m b s d e:Nat):Prop where
 h1:a≤s
 h2:s≤m
 h3:m≤e
 h4:e≤b
 hd:d=s+(e-m)
 x1:dC c (aL (gE L s m e) a s)
 x2:dC c (aL (gE L s m e) s d)
 y1:dC c (aL (bV c (gE L s m e) a d) d e)
 y2:dC c (aL (bV c (gE L s m e) a d) e b)
 fin:bV c (bV c (gE L s m e) a d) d b=bV c L a b
theorem lZ.three{L:List α}{a m b s:Nat}(S:lZ c L a m b s s)(t:TO c)(hb:b≤L.length)(h1:a<m)(h2:m<b)(hX:dC c (aL L a m))(hY:dC c (aL L m b)):
 O4 c L a m b s ((a+b)/2) ((a+b)/2+m-s):=by
 have abX:=S.done t hb h1 h2 hX hY
 have h3:=S.qS;have h4:=S.rm;have h5:=S.me;have h6:=S.sb
 generalize he:(a+b)/2+m-s=e at*
 generalize hd:(a+b)/2=d at*
 have hM:=abW (L:=L) (a:=a) (s:=s) (m:=m) (e:=e) (b:=b) h3 h4 (by omega) (by omega) hb
 have lT:(L.take a).length=a:=by rw[ap8];omega
 have l1:(aL L a s).length=s-a:=jt h3 (by omega)
 have l2:(aL L m e).length=e-m:=jt (by omega) (by omega)
 have l3:(aL L s m).length=m-s:=jt (by omega) (by omega)
 have l4:(aL L e b).length=b-e:=jt (by omega) (by omega)
 have BH:∀{x y z w:Nat},x≤z→z≤w→w≤y→dC c (aL L x y)→dC c (aL L z w):=fun q1 q2 q3 hs=>by
  rw[np L (m:=_) q1 (by omega),np L (a:=_) q2 q3]at hs
  exact(asv.1 (asv.1 hs).2.1).1
 have mI:dC c (aL L a s):=BH (apI _) h3 h4 hX
 have ni:dC c (aL L m e):=BH (apI _) (by omega) (by omega) hY
 have Hj:dC c (aL L s m):=BH h3 h4 (apI _) hX
 have abY:dC c (aL L e b):=BH (by omega) (by omega) (apI _) hY
 have hA:bV c (gE L s m e) a d=L.take a++(bE c (aL L a s++aL L m e)++((aL L s m++aL L e b)++L.drop b)):=by
  rw[hM];exact wg lT (by omega) (by rw[apv];omega)
 have lS:(bE c (aL L a s++aL L m e)).length=d-a:=by rw[nS,apv];omega
 have O5:(L.take a++bE c (aL L a s++aL L m e)).length=d:=by rw[apv];omega
 refine⟨h3,h4,by omega,by omega,by omega,?_,?_,?_,?_,?_⟩
 ·rw[hM,apK]
  have:=nT (T:=L.take a) (X:=aL L a s) (D:=aL L m e++((aL L s m++aL L e b)++L.drop b)) (a:=a) (b:=s) lT l1
  rw[this];exact mI
 ·rw[hM,apK,←apK]
  have:=nT (T:=L.take a++aL L a s) (X:=aL L m e) (D:=(aL L s m++aL L e b)++L.drop b) (a:=s) (b:=d) (by rw[apv];omega) (by omega)
  rw[this];exact ni
 ·rw[hA,←apK,apK (aL L s m)]
  have:=nT (T:=L.take a++bE c (aL L a s++aL L m e)) (X:=aL L s m) (D:=aL L e b++L.drop b) (a:=d) (b:=e) O5 (by omega)
  rw[this];exact Hj
 ·rw[hA,←apK,apK (aL L s m),←apK _ (aL L s m)]
  have:=nT (T:=(L.take a++bE c (aL L a s++aL L m e))++aL L s m) (X:=aL L e b) (D:=L.drop b) (a:=e) (b:=b) (by rw[apv];omega) (by omega)
  rw[this];exact abY
 ·rw[hA,←apK,wg O5 (by omega) (by rw[apv];omega)]
  unfold bV
  have e1:bE c (aL L a b)=bE c (aL L a s++aL L m e)++bE c (aL L s m++aL L e b):=by
   rw[←aa0 t abX]
   refine GY t ?_
   rw[np L (m:=m) (by omega) (by omega),np L (m:=s) h3 h4,np L (a:=m) (m:=e) (by omega) (by omega)]
   simp only[apK]
   refine List.Perm.append_left _ ?_
   rw[←apK,←apK]
   exact List.Perm.append_right _ ata
  rw[e1]
  simp only[apK]
theorem O6(t:TO c){L:List α}{a s b:Nat}(h1:a≤s)(h2:s≤b)(h:a=s∨s=b)(hx:dC c (aL L a s))(hy:dC c (aL L s b)):bV c L a b=L:=by
 have e0:∀x,aL L x x=[]:=fun x=>by unfold aL;rw[arS,asq]
 have:bE c (aL L a b)=aL L a b:=by
  refine GX t ?_
  rcases h with rfl|rfl
  ·exact hy
  ·exact hx
 unfold bV
 rw[this]
 exact(su L (by omega)).symm
theorem abZ{L:List α}{a m b:Nat}(h1:a≤m)(h2:m≤b)(hb:b≤L.length):(gE L a m b).length=L.length:=by
 unfold gE
 simp only[apv]
 rw[jt (by omega) (by omega),jt (by omega) (by omega),ap8,aqp]
 omega
end
end Go.Proofs.YtnlkkgpcikkpoaaGreat
namespace Go.Proofs.YtnlkkgpcikkpoaaGreat
open Go Vm Go.RowKit
def O7(c:ByteArray→ByteArray→Int)(L:List ByteArray)(n:Nat)(a m b:Int)(N:Nat):Prop:=0≤a∧a<m∧m<b∧b≤n∧b-a≤N∧dC c (aL L a.toNat m.toNat)∧dC c (aL L m.toNat b.toNat)
noncomputable def uw(c:ByteArray→ByteArray→Int)(L:List ByteArray)(n:Nat)(a m b:Int)(N:Nat):Bool:=@decide (O7 c L n a m b N) (apF _)
theorem yK{c:ByteArray→ByteArray→Int}{L:List ByteArray}{n:Nat}{a m b:Int}{N:Nat}:uw c L n a m b N=true↔O7 c L n a m b N:=by
 unfold uw;exact @decide_eq_true_iff _ (apF _)
noncomputable def nV(N:Nat)(a:List ape)(o:List ag):Option (Bool×bx×List ag):=match a,o with
 | [.slice (some ⟨0,0,none⟩) n m,.int .i64 x,.int .i64 y,.int .i64 z,.func (.func f) c1 c2],ag.cells c t r::ag.cells e t2 r2::l=>match c1.toList,c2.toList with
  | [.pointer (some ⟨1,0,none⟩)],[]=>match(e[70]?:Option ape)with
   |some (.bool fl)=>some (iQ (.cells c t r:: .cells e t2 r2::l) n&&(apw m n&&(apw f 74&&uw (aV fl) (cU c) n x y z N)),.ret (.tuple #[]),.cells (ap (bV (aV fl) (cU c) x.toNat z.toNat)) t r:: .cells e t2 r2::l)
   |_=>none
  |_,_=>none
 |_,_=>none
theorem O8(N:Nat)(hf:∀(S:ad) (R:List Int) (H:List au) (d:ay) (L:List ByteArray) (n a m b:Nat),L.length=n→n≤1000000→a<m→m<b→b≤n→b-a≤N→dC (aV S.aB) (aL L a m)→dC (aV S.aB) (aL L m b)→
 aE av9 122 [fF n,iZ a,iZ m,iZ b,gg] (cL S R H d L) fun r o=>r=.ret (.tuple #[])∧o=cL S R H d (bV (aV S.aB) L a b)):
 bp av9 122 (Sum.dq av9 (nV N)):=bp.dq fun a o r o' hg=>by
 unfold nV at hg
 split at hg
 ·rename_i n m x y z f c1 c2 c t ro e t2 r2 l
  split at hg
  ·rename_i h1 h2
   split at hg
   ·rename_i fl fP
    simp only[api,apn,apt,yK]at hg
    obtain⟨⟨g1,g2,g3,g4⟩,rfl,rfl⟩:=hg
    have g2:=apz g2
    have g3:=apz g3
    obtain⟨S,R,H,d,L,he,hl,hn⟩:=@of_decide_eq_true _ (apF _) g1
    have e1:c1= #[.pointer (some ⟨1,0,none⟩)]:=by rw[←aqq (xs:=c1),h1]
    have e2:c2= #[]:=by rw[←aqq (xs:=c2),h2]
    subst g2 g3 e1 e2
    obtain⟨p1,p2,p3,p4,p5,p6,p7⟩:=g4
    obtain⟨x,rfl⟩:=aqL p1
    obtain⟨y,rfl⟩:=aqL (show 0≤y by omega)
    obtain⟨z,rfl⟩:=aqL (show 0≤z by omega)
    unfold cL at he
    injection he with oZ dY
    injection dY with dY qT
    injection oZ with hc ht hr
    injection dY with iU mC eO
    subst hc ht hr iU mC eO qT
    have:(aJ S 2 0 3 4)[70]?=some (.bool S.aB):=rfl
    rw[this]at fP
    cases fP
    rw[iP]at p6 p7
    refine(hf S R H d L _ x y z hl hn (by omega) (by omega) (by omega) (by omega) p6 p7).mono ?_
    rintro r o ⟨rfl,rfl⟩
    exact⟨rfl,by rw[iP];rfl⟩
   ·cases hg
  ·cases hg
 ·cases hg
noncomputable def ab0(N:Nat):List (FuncId×Sum):=[(134,Sum.dq av9 Hi),(122,Sum.dq av9 (nV N))]
theorem Hk(N:Nat)(h:bp av9 122 (Sum.dq av9 (nV N))):dw av9 (dM av9 (dN (ab0 N)) 50 40):=dR du mixed (ed (.cons abO (.cons h .nil))) 50 40
noncomputable section
noncomputable def mM:List apV:=aY (dz av9 122)
open Tree renaming aN→mN,dj→mF,eT→mL,fz→mQ,dB→mR,fH→mE
noncomputable abbrev BI:List apV:=(mM.drop 3)
noncomputable abbrev ux:List apV:=(aY (pF true BI))
noncomputable abbrev BJ:List apV:=(mM.drop 1)
noncomputable abbrev uy:List apV:=(aY (pF true BJ))
noncomputable abbrev Hl:List apV:=(aY (inner (aY (inner (mM.drop 10)))))
noncomputable abbrev Hm:List apV:=(aY (inner (aY (inner (uy.drop 4)))))
noncomputable abbrev Hn:List apV:=(aY (inner (aY (inner (uy.drop 2)))))
noncomputable abbrev Ho:List apV:=(aY (inner (aY (inner (ux.drop 4)))))
noncomputable abbrev Hp:List apV:=(aY (inner (aY (inner (ux.drop 2)))))
noncomputable abbrev BK:List apV:=(mM.drop 14)
noncomputable abbrev BL:List apV:=(mM.drop 11)
noncomputable abbrev Hq:List apV:=(aY (inner (Hl.drop 2)))
noncomputable abbrev ab1:List apV:=(mM.drop 16)
def O9:Nat→Bool→Bool→Tree→Tree
 |0,_,_,t=>t
 |n+1,d,b,t=>.cD d b (O9 n d b t)
theorem wq{R:bd→aj→Prop}{c v:Bool}{t:Tree}(n:Nat)(h1:c=v)(h2:t.ok R):(O9 n c v t).ok R:=by
 induction n with
 |zero=>exact h2
 |succ n ih=>exact⟨h1,ih⟩
abbrev dp:=fun S R H d L=>([ab (ap L) 9,ab (aJ S 2 0 3 4) 89,.abs d,ab (aq R) 3,ab (ak H) 114]:List ag)
abbrev yL:=fun S R H d (n:Nat) L (a m b:Int)=>(⟨[(0,ah 0 n),(1,aa a),(2,aa m),(3,aa b),(4,.func (.func 74) #[ao 1] #[]),(28,.bool (apc .i64 (m-a)==1))],dp S R H d L⟩:aj)
abbrev ab2:=fun S R H d (n:Nat) L (a m b:Int)=>(⟨[(0,ah 0 n),(1,aa a),(2,aa m),(3,aa b),(4,.func (.func 74) #[ao 1] #[])],dp S R H d L⟩:aj)
theorem ab3(S R H d)(n:Nat)(L)(a m b:Int)(pH:(ak H).all af=true)(hn:(apb L)=n)(h0:apc .i64 (m-a)=m-a){Q:aQ}(l3:an av9 220 5 BJ (yL S R H d n L a m b) Q):an av9 220 5 mM (ab2 S R H d n L a m b) Q:=
 aS bo 1 (.leaf [0,1,2,3,4,28] [0,1,2,3,4] [0,3,4]) (fun u=>by kernel_rfl) (aM L R H (mQ l3))
abbrev Hr:=fun S R H d (n:Nat) L (a m b:Int)=>(⟨[(0,ah 0 n),(1,aa a),(4,.func (.func 74) #[ao 1] #[]),(10,aa m),(11,aa b)],dp S R H d L⟩:aj)
abbrev ab4:=fun S R H d (n:Nat) L (a m b:Int)=>(⟨[(0,ah 0 n),(1,aa a),(2,aa m),(3,aa b),(4,.func (.func 74) #[ao 1] #[]),(28,.bool true)],dp S R H d L⟩:aj)
theorem ab5(S R H d)(n:Nat)(L)(a m b:Int)(pH:(ak H).all af=true)(hn:(apb L)=n){Q:aQ}(l3:an av9 220 5 (uy.drop 2) (Hr S R H d n L a m b) Q):an av9 220 5 uy (ab4 S R H d n L a m b) Q:=
 aS bo 2 (.leaf [0,1,4,10,11] [0,1,2,3,4] [0,3,4]) (fun u=>by kernel_rfl) (aM L R H (mQ l3))
abbrev ab6:=fun S R H d (n:Nat) L (a i j:Int)=>(⟨[(0,ah 0 n),(1,aa a),(4,.func (.func 74) #[ao 1] #[]),(10,aa i),(11,aa j)],dp S R H d L⟩:aj)
abbrev ab7:=fun S R H d (n:Nat) L (a i j:Int)=>(⟨[(0,ah 0 n),(1,aa a),(10,aa i)],dp S R H d L⟩:aj)
abbrev Pa:=fun S R H d (n:Nat) L (a i j:Int)=>(⟨[(0,ah 0 n),(1,aa a),(4,.func (.func 74) #[ao 1] #[]),(10,aa i),(11,aa j)],dp S R H d L⟩:aj)
theorem ab8(S R H d)(n:Nat)(L)(a i j:Int)(pH:(ak H).all af=true)(hn:(apb L)=n){Q:aQ}(l3:(decide (i<j))=true→an av9 220 5 (Hn.drop 2) (ab6 S R H d n L a i j) Q)(l4:(decide (i<j))=false→Q (.exit 0) (ab7 S R H d n L a i j)):an av9 220 5 Hn (Pa S R H d n L a i j) Q:=
 aS bo 2 (.fork 0 (.leaf [0,1,4,10,11] [0,1,2,3,4] [0,3,4]) (.leaf [0,1,10] [0,1,2,3,4] [0,3,4])) (fun u=>by kernel_rfl) (mF (c:=decide (i<j)) (fun h0=>(aM L R H (mQ (l3 h0)))) (fun h0=>(aM L R H (mE 0 (l4 h0)))))
abbrev Pb:=fun S R H d (n:Nat) L (a i j:Int)=>(⟨[(0,ah 0 n),(1,aa a),(4,.func (.func 74) #[ao 1] #[]),(10,.int .i64 (apc .i64 (apc .i64 (aqI (apc ap4 (apc .i64 (i+j))) 2)+1))),(11,aa j)],dp S R H d L⟩:aj)
abbrev Pc:=fun S R H d (n:Nat) L (a i j:Int)=>(⟨[(0,ah 0 n),(1,aa a),(4,.func (.func 74) #[ao 1] #[]),(10,aa i),(11,.int .i64 (apc .i64 (aqI (apc ap4 (apc .i64 (i+j))) 2)))],dp S R H d L⟩:aj)
theorem ab9(S R H d)(n:Nat)(L)(a i j:Int)(pH:(ak H).all af=true)(hn:(apb L)=n)(h0:0≤i)(h1:0≤j)(h2:i<2000000)(h3:j<2000000)(h4:apc .i64 (i+j)=i+j)(h5:i<j)(h6:j≤n)(h7:0≤a)(h8:a<n)(h9:n≤1000000){Q:aQ}(n0:(decide (0≤apc .i64 (aqI (apc ap4 (apc .i64 (i+j))) 2)))=true)(n1:(apy (apd (apc .i64 (aqI (apc ap4 (apc .i64 (i+j))) 2))) n)=true)(n2:(eS (ap L) (0+apd (apc .i64 (aqI (apc ap4 (apc .i64 (i+j))) 2))*1))=true)(n3:(eS (ap L) (0+apd a*1))=true)(n4:(qR [ab (aJ S 1 2 3 4) 89,ag.abs d,ab (ap L) 9,ab (aq R) 3,ab (ak H) 114])=true)(l8:(decide (aV (ad.aB S) (aX (ap L) (0+apd (apc .i64 (aqI (apc ap4 (apc .i64 (i+j))) 2))*1)) (aX (ap L) (0+apd a*1))<0))=true→Q .normal (Pb S R H d n L a i j))(l9:(decide (aV (ad.aB S) (aX (ap L) (0+apd (apc .i64 (aqI (apc ap4 (apc .i64 (i+j))) 2))*1)) (aX (ap L) (0+apd a*1))<0))=false→Q .normal (Pc S R H d n L a i j)):an av9 220 5 (aY (inner (Hn.drop 2))) (Pa S R H d n L a i j) Q:=
 aS sw 1000 (aA [4,1,1,0,1,0,1,1,0,1,3,1,1,1,1,1,1] (.fork 0 (.leaf [0,1,4,10,11] [0,1,2,3,4] [0,3,4]) (.leaf [0,1,4,10,11] [0,1,2,3,4] [0,3,4]))) (fun u=>by kernel_rfl) (mN n0 (mN n1 (mN n2 (mN (decide_eq_true (by omega):(decide (0≤a))=true) (mN (show(apy (apd a) n)=true by simp at pH hn h0 h1 h2 h3 h4 h5 h6 h7 h8 h9⊢ <;>omega) (mN n3 (aM L R H (mN n4 (aM L R H (mF (c:=decide (aV (ad.aB S) (aX (ap L) (0+apd (apc .i64 (aqI (apc ap4 (apc .i64 (i+j))) 2))*1)) (aX (ap L) (0+apd a*1))<0)) (fun h0=>(aM L R H (mQ (an.done (by kernel_rfl) (l8 h0))))) (fun h0=>(aM L R H (mQ (an.done (by kernel_rfl) (l9 h0)))))))))))))))
abbrev Hs:=fun S R H d (n:Nat) L (a i:Int)=>(⟨[(0,ah 0 n),(10,aa i),(13,aa a)],dp S R H d L⟩:aj)
abbrev aca:=fun S R H d (n:Nat) L (a i:Int)=>(⟨[(0,ah 0 n),(1,aa a),(10,aa i)],dp S R H d L⟩:aj)
theorem acb(S R H d)(n:Nat)(L)(a i:Int)(pH:(ak H).all af=true)(hn:(apb L)=n){Q:aQ}(l3:an av9 220 5 ((uy.drop 3).drop 1) (Hs S R H d n L a i) Q):an av9 220 5 (uy.drop 3) (aca S R H d n L a i) Q:=
 aS bo 1 (.leaf [0,10,13] [0,1,2,3,4] [0,3,4]) (fun u=>by kernel_rfl) (aM L R H (mQ l3))
abbrev acd:=fun S R H d (n:Nat) L (i k:Int)=>(⟨[(0,ah 0 n),(10,aa i),(13,aa k)],dp S R H d L⟩:aj)
noncomputable abbrev ace(S:ad)(R:List Int)(H:List au)(d:ay)(n:Nat)(L:List ByteArray)(i k:Int):aj:=⟨[],dp S R H d L⟩
abbrev Pd:=fun S R H d (n:Nat) L (i k:Int)=>(⟨[(0,ah 0 n),(10,aa i),(13,aa k)],dp S R H d L⟩:aj)
theorem acf(S R H d)(n:Nat)(L)(i k:Int)(pH:(ak H).all af=true)(hn:(apb L)=n)(h0:apc .i64 (i-1)=i-1){Q:aQ}(l3:(decide (k<apc .i64 (i-1)))=true→an av9 220 5 (Hm.drop 2) (acd S R H d n L i k) Q)(l4:(decide (k<apc .i64 (i-1)))=false→Q (.exit 2) (ace S R H d n L i k)):an av9 220 5 Hm (Pd S R H d n L i k) Q:=
 aS bo 2 (.fork 0 (.leaf [0,10,13] [0,1,2,3,4] [0,3,4]) (.leaf [] [0,1,2,3,4] [0,3,4])) (fun u=>by kernel_rfl) (mF (c:=decide (k<apc .i64 (i-1))) (fun h0=>(aM L R H (mQ (l3 h0)))) (fun h0=>(aM L R H (mE 2 (l4 h0)))))
abbrev Pe:=fun S R H d (n:Nat) L (i k:Int)=>(⟨[(0,ah 0 n),(10,aa i),(13,.int .i64 (apc .i64 (k+1)))],[ab (a8 (a8 (ap L) (0+apd k*1) [apJ (aX (ap L) (0+apd (apc .i64 (k+1))*1))]) (0+apd (apc .i64 (k+1))*1) [apJ (aX (ap L) (0+apd k*1))]) 9,ab (aJ S 2 0 3 4) 89,.abs d,ab (aq R) 3,ab (ak H) 114]⟩:aj)
theorem acg(S R H d)(n:Nat)(L)(i k:Int)(pH:(ak H).all af=true)(hn:(apb L)=n)(h0:0≤k)(h1:k+1<n)(h2:n≤1000000)(h3:apc .i64 (k+1)=k+1){Q:aQ}(n0:(eS (ap L) (0+apd (apc .i64 (k+1))*1))=true)(n1:(eS (ap L) (0+apd k*1))=true)(n2:(apG (0+apd (apc .i64 (k+1))*1+1) (apb (a8 (ap L) (0+apd k*1) [apJ (aX (ap L) (0+apd (apc .i64 (k+1))*1))])))=true)(aR:aph (aq R) af=true)(be:aph (ak H) af=true)(l5:Q .normal (Pe S R H d n L i k)):an av9 220 5 (Hm.drop 2) (Pd S R H d n L i k) Q:=
 aS bo 1000 (aA [0,1,1,0,1,0,1,1,0,1,0,1,1,0,1,0,1,1,0,1] (.leaf [0,10,13] [0,1,2,3,4] [0,3,4])) (fun u=>by kernel_rfl) (mN (decide_eq_true (by omega):(decide (0≤apc .i64 (k+1)))=true) (mN (show(apy (apd (apc .i64 (k+1))) n)=true by simp at pH hn h0 h1 h2 h3⊢ <;>omega) (mN n0 (mN (decide_eq_true (by omega):(decide (0≤k))=true) (mN (show(apy (apd k) n)=true by simp at pH hn h0 h1 h2 h3⊢ <;>omega) (mN n1 (mN (decide_eq_true (by omega):(decide (0≤k))=true) (mN (show(apy (apd k) n)=true by simp at pH hn h0 h1 h2 h3⊢ <;>omega) (mN (show(apG (0+apd k*1+1) (apb (ap L)))=true by simp at pH hn h0 h1 h2 h3⊢ <;>omega) (mN (decide_eq_true (by omega):(decide (0≤apc .i64 (k+1)))=true) (mN (show(apy (apd (apc .i64 (k+1))) n)=true by simp at pH hn h0 h1 h2 h3⊢ <;>omega) (mN n2 (mN (show(aph (a8 (a8 (ap L) (0+apd k*1) [apJ (aX (ap L) (0+apd (apc .i64 (k+1))*1))]) (0+apd (apc .i64 (k+1))*1) [apJ (aX (ap L) (0+apd k*1))]) af)=true by simp) (mN (aG R) (mN (aU H) (mQ (an.done (by kernel_rfl) l5)))))))))))))))))
noncomputable abbrev Pf(S:ad)(R:List Int)(H:List au)(d:ay)(n:Nat)(L:List ByteArray):aj:=⟨[],dp S R H d L⟩
theorem ach(S R H d)(n:Nat)(L){Q:bg}(hq:Q (.ret (.tuple #[])) (dp S R H d L)):aF av9 122 220 5 Q .ret (Pf S R H d n L):=aF.ret (vs:=[]) (l:=[]) (bs:=[0,1,2,3,4]) (pl:=[0,3,4]) (q:=[ap L,aq R,ak H]) (fun u=>by kernel_rfl) (by kernel_rfl) (gL L R H bc) hq
noncomputable abbrev Pg(S:ad)(R:List Int)(H:List au)(d:ay)(n:Nat)(L:List ByteArray):aj:=⟨[],dp S R H d L⟩
theorem aci(S R H d)(n:Nat)(L)(pH:(ak H).all af=true)(hn:(apb L)=n){Q:aQ}(l3:Q .ret (Pf S R H d n L)):an av9 220 5 (uy.drop 5) (Pg S R H d n L) Q:=
 aS bo 1 (.leaf [] [0,1,2,3,4] [0,3,4]) (fun u=>by kernel_rfl) (aM L R H (mR l3))
noncomputable abbrev Ph(S:ad)(R:List Int)(H:List au)(d:ay)(n:Nat)(L:List ByteArray):aj:=⟨[],dp S R H d L⟩
theorem acj(S R H d)(n:Nat)(L){Q:bg}(hq:Q (.ret (.tuple #[])) (dp S R H d L)):aF av9 122 220 5 Q .ret (Ph S R H d n L):=aF.ret (vs:=[]) (l:=[]) (bs:=[0,1,2,3,4]) (pl:=[0,3,4]) (q:=[ap L,aq R,ak H]) (fun u=>by kernel_rfl) (by kernel_rfl) (gL L R H bc) hq
theorem ack(S R H d)(n:Nat)(L)(pH:(ak H).all af=true)(hn:(apb L)=n){Q:aQ}(l3:Q .ret (Ph S R H d n L)):an av9 220 5 (ux.drop 5) (Pg S R H d n L) Q:=
 aS bo 1 (.leaf [] [0,1,2,3,4] [0,3,4]) (fun u=>by kernel_rfl) (aM L R H (mR l3))
abbrev yM:=fun S R H d (n:Nat) L (a m b:Int)=>(⟨[(0,ah 0 n),(1,aa a),(2,aa m),(3,aa b),(4,.func (.func 74) #[ao 1] #[]),(80,.bool (apc .i64 (b-m)==1))],dp S R H d L⟩:aj)
abbrev acm:=fun S R H d (n:Nat) L (a m b:Int)=>(⟨[(0,ah 0 n),(1,aa a),(2,aa m),(3,aa b),(4,.func (.func 74) #[ao 1] #[]),(28,.bool false)],dp S R H d L⟩:aj)
theorem acn(S R H d)(n:Nat)(L)(a m b:Int)(pH:(ak H).all af=true)(hn:(apb L)=n)(h0:apc .i64 (b-m)=b-m){Q:aQ}(l3:an av9 220 5 (BJ.drop 2) (yM S R H d n L a m b) Q):an av9 220 5 BJ (acm S R H d n L a m b) Q:=
 aS bo 2 (.leaf [0,1,2,3,4,80] [0,1,2,3,4] [0,3,4]) (fun u=>by kernel_rfl) (aM L R H (mQ l3))
abbrev Ht:=fun S R H d (n:Nat) L (a m b:Int)=>(⟨[(0,ah 0 n),(2,aa m),(4,.func (.func 74) #[ao 1] #[]),(14,aa a),(15,aa m)],dp S R H d L⟩:aj)
abbrev aco:=fun S R H d (n:Nat) L (a m b:Int)=>(⟨[(0,ah 0 n),(1,aa a),(2,aa m),(3,aa b),(4,.func (.func 74) #[ao 1] #[]),(80,.bool true)],dp S R H d L⟩:aj)
theorem acp(S R H d)(n:Nat)(L)(a m b:Int)(pH:(ak H).all af=true)(hn:(apb L)=n){Q:aQ}(l3:an av9 220 5 (ux.drop 2) (Ht S R H d n L a m b) Q):an av9 220 5 ux (aco S R H d n L a m b) Q:=
 aS bo 2 (.leaf [0,2,4,14,15] [0,1,2,3,4] [0,3,4]) (fun u=>by kernel_rfl) (aM L R H (mQ l3))
abbrev acq:=fun S R H d (n:Nat) L (m i j:Int)=>(⟨[(0,ah 0 n),(2,aa m),(4,.func (.func 74) #[ao 1] #[]),(14,aa i),(15,aa j)],dp S R H d L⟩:aj)
abbrev acr:=fun S R H d (n:Nat) L (m i j:Int)=>(⟨[(0,ah 0 n),(2,aa m),(14,aa i)],dp S R H d L⟩:aj)
abbrev Pj:=fun S R H d (n:Nat) L (m i j:Int)=>(⟨[(0,ah 0 n),(2,aa m),(4,.func (.func 74) #[ao 1] #[]),(14,aa i),(15,aa j)],dp S R H d L⟩:aj)
theorem acs(S R H d)(n:Nat)(L)(m i j:Int)(pH:(ak H).all af=true)(hn:(apb L)=n){Q:aQ}(l3:(decide (i<j))=true→an av9 220 5 (Hp.drop 2) (acq S R H d n L m i j) Q)(l4:(decide (i<j))=false→Q (.exit 4) (acr S R H d n L m i j)):an av9 220 5 Hp (Pj S R H d n L m i j) Q:=
 aS bo 2 (.fork 0 (.leaf [0,2,4,14,15] [0,1,2,3,4] [0,3,4]) (.leaf [0,2,14] [0,1,2,3,4] [0,3,4])) (fun u=>by kernel_rfl) (mF (c:=decide (i<j)) (fun h0=>(aM L R H (mQ (l3 h0)))) (fun h0=>(aM L R H (mE 4 (l4 h0)))))
abbrev Pk:=fun S R H d (n:Nat) L (m i j:Int)=>(⟨[(0,ah 0 n),(2,aa m),(4,.func (.func 74) #[ao 1] #[]),(14,.int .i64 (apc .i64 (apc .i64 (aqI (apc ap4 (apc .i64 (i+j))) 2)+1))),(15,aa j)],dp S R H d L⟩:aj)
abbrev Pm:=fun S R H d (n:Nat) L (m i j:Int)=>(⟨[(0,ah 0 n),(2,aa m),(4,.func (.func 74) #[ao 1] #[]),(14,aa i),(15,.int .i64 (apc .i64 (aqI (apc ap4 (apc .i64 (i+j))) 2)))],dp S R H d L⟩:aj)
theorem acu(S R H d)(n:Nat)(L)(m i j:Int)(pH:(ak H).all af=true)(hn:(apb L)=n)(h0:0≤i)(h1:0≤j)(h2:i<2000000)(h3:j<2000000)(h4:apc .i64 (i+j)=i+j)(h5:i<j)(h6:j≤n)(h7:0≤m)(h8:m<n)(h9:n≤1000000){Q:aQ}(n0:(eS (ap L) (0+apd m*1))=true)(n1:(decide (0≤apc .i64 (aqI (apc ap4 (apc .i64 (i+j))) 2)))=true)(n2:(apy (apd (apc .i64 (aqI (apc ap4 (apc .i64 (i+j))) 2))) n)=true)(n3:(eS (ap L) (0+apd (apc .i64 (aqI (apc ap4 (apc .i64 (i+j))) 2))*1))=true)(n4:(qR [ab (aJ S 1 2 3 4) 89,ag.abs d,ab (ap L) 9,ab (aq R) 3,ab (ak H) 114])=true)(l8:(!decide (aV (ad.aB S) (aX (ap L) (0+apd m*1)) (aX (ap L) (0+apd (apc .i64 (aqI (apc ap4 (apc .i64 (i+j))) 2))*1))<0))=true→Q .normal (Pk S R H d n L m i j))(l9:(!decide (aV (ad.aB S) (aX (ap L) (0+apd m*1)) (aX (ap L) (0+apd (apc .i64 (aqI (apc ap4 (apc .i64 (i+j))) 2))*1))<0))=false→Q .normal (Pm S R H d n L m i j)):an av9 220 5 (aY (inner (Hp.drop 2))) (Pj S R H d n L m i j) Q:=
 aS sw 1000 (aA [4,1,1,0,1,0,1,1,0,1,3,1,1,1,1,1,1] (.fork 0 (.leaf [0,2,4,14,15] [0,1,2,3,4] [0,3,4]) (.leaf [0,2,4,14,15] [0,1,2,3,4] [0,3,4]))) (fun u=>by kernel_rfl) (mN (decide_eq_true (by omega):(decide (0≤m))=true) (mN (show(apy (apd m) n)=true by simp at pH hn h0 h1 h2 h3 h4 h5 h6 h7 h8 h9⊢ <;>omega) (mN n0 (mN n1 (mN n2 (mN n3 (aM L R H (mN n4 (aM L R H (mF (c:= !decide (aV (ad.aB S) (aX (ap L) (0+apd m*1)) (aX (ap L) (0+apd (apc .i64 (aqI (apc ap4 (apc .i64 (i+j))) 2))*1))<0)) (fun h0=>(aM L R H (mQ (an.done (by kernel_rfl) (l8 h0))))) (fun h0=>(aM L R H (mQ (an.done (by kernel_rfl) (l9 h0)))))))))))))))
abbrev Hu:=fun S R H d (n:Nat) L (m i:Int)=>(⟨[(0,ah 0 n),(14,aa i),(17,aa m)],dp S R H d L⟩:aj)
abbrev acv:=fun S R H d (n:Nat) L (m i:Int)=>(⟨[(0,ah 0 n),(2,aa m),(14,aa i)],dp S R H d L⟩:aj)
theorem acw(S R H d)(n:Nat)(L)(m i:Int)(pH:(ak H).all af=true)(hn:(apb L)=n){Q:aQ}(l3:an av9 220 5 ((ux.drop 3).drop 1) (Hu S R H d n L m i) Q):an av9 220 5 (ux.drop 3) (acv S R H d n L m i) Q:=
 aS bo 1 (.leaf [0,14,17] [0,1,2,3,4] [0,3,4]) (fun u=>by kernel_rfl) (aM L R H (mQ l3))
abbrev acx:=fun S R H d (n:Nat) L (i k:Int)=>(⟨[(0,ah 0 n),(14,aa i),(17,aa k)],dp S R H d L⟩:aj)
noncomputable abbrev acy(S:ad)(R:List Int)(H:List au)(d:ay)(n:Nat)(L:List ByteArray)(i k:Int):aj:=⟨[],dp S R H d L⟩
abbrev Pn:=fun S R H d (n:Nat) L (i k:Int)=>(⟨[(0,ah 0 n),(14,aa i),(17,aa k)],dp S R H d L⟩:aj)
theorem acz(S R H d)(n:Nat)(L)(i k:Int)(pH:(ak H).all af=true)(hn:(apb L)=n){Q:aQ}(l3:(decide (k>i))=true→an av9 220 5 (Ho.drop 2) (acx S R H d n L i k) Q)(l4:(decide (k>i))=false→Q (.exit 6) (acy S R H d n L i k)):an av9 220 5 Ho (Pn S R H d n L i k) Q:=
 aS bo 2 (.fork 0 (.leaf [0,14,17] [0,1,2,3,4] [0,3,4]) (.leaf [] [0,1,2,3,4] [0,3,4])) (fun u=>by kernel_rfl) (mF (c:=decide (k>i)) (fun h0=>(aM L R H (mQ (l3 h0)))) (fun h0=>(aM L R H (mE 6 (l4 h0)))))
abbrev Po:=fun S R H d (n:Nat) L (i k:Int)=>(⟨[(0,ah 0 n),(14,aa i),(17,.int .i64 (apc .i64 (k-1)))],[ab (a8 (a8 (ap L) (0+apd k*1) [apJ (aX (ap L) (0+apd (apc .i64 (k-1))*1))]) (0+apd (apc .i64 (k-1))*1) [apJ (aX (ap L) (0+apd k*1))]) 9,ab (aJ S 2 0 3 4) 89,.abs d,ab (aq R) 3,ab (ak H) 114]⟩:aj)
theorem acA(S R H d)(n:Nat)(L)(i k:Int)(pH:(ak H).all af=true)(hn:(apb L)=n)(h0:0<k)(h1:k<n)(h2:n≤1000000)(h3:apc .i64 (k-1)=k-1){Q:aQ}(n0:(eS (ap L) (0+apd (apc .i64 (k-1))*1))=true)(n1:(eS (ap L) (0+apd k*1))=true)(n2:(apG (0+apd (apc .i64 (k-1))*1+1) (apb (a8 (ap L) (0+apd k*1) [apJ (aX (ap L) (0+apd (apc .i64 (k-1))*1))])))=true)(aR:aph (aq R) af=true)(be:aph (ak H) af=true)(l5:Q .normal (Po S R H d n L i k)):an av9 220 5 (Ho.drop 2) (Pn S R H d n L i k) Q:=
 aS bo 1000 (aA [0,1,1,0,1,0,1,1,0,1,0,1,1,0,1,0,1,1,0,1] (.leaf [0,14,17] [0,1,2,3,4] [0,3,4])) (fun u=>by kernel_rfl) (mN (decide_eq_true (by omega):(decide (0≤apc .i64 (k-1)))=true) (mN (show(apy (apd (apc .i64 (k-1))) n)=true by simp at pH hn h0 h1 h2 h3⊢ <;>omega) (mN n0 (mN (decide_eq_true (by omega):(decide (0≤k))=true) (mN (show(apy (apd k) n)=true by simp at pH hn h0 h1 h2 h3⊢ <;>omega) (mN n1 (mN (decide_eq_true (by omega):(decide (0≤k))=true) (mN (show(apy (apd k) n)=true by simp at pH hn h0 h1 h2 h3⊢ <;>omega) (mN (show(apG (0+apd k*1+1) (apb (ap L)))=true by simp at pH hn h0 h1 h2 h3⊢ <;>omega) (mN (decide_eq_true (by omega):(decide (0≤apc .i64 (k-1)))=true) (mN (show(apy (apd (apc .i64 (k-1))) n)=true by simp at pH hn h0 h1 h2 h3⊢ <;>omega) (mN n2 (mN (show(aph (a8 (a8 (ap L) (0+apd k*1) [apJ (aX (ap L) (0+apd (apc .i64 (k-1))*1))]) (0+apd (apc .i64 (k-1))*1) [apJ (aX (ap L) (0+apd k*1))]) af)=true by simp) (mN (aG R) (mN (aU H) (mQ (an.done (by kernel_rfl) l5)))))))))))))))))
abbrev Hv:=fun S R H d (n:Nat) L (a m b:Int)=>(⟨[(0,ah 0 n),(1,aa a),(2,aa m),(3,aa b),(4,.func (.func 74) #[ao 1] #[]),(18,.int .i64 (apc .i64 (aqI (apc ap4 (apc .i64 (a+b))) 2))),(19,.int .i64 (apc .i64 (apc .i64 (aqI (apc ap4 (apc .i64 (a+b))) 2)+m))),(20,.int .i64 (apc .i64 (apc .i64 (apc .i64 (aqI (apc ap4 (apc .i64 (a+b))) 2)+m)-b))),(21,.int .i64 (apc .i64 (aqI (apc ap4 (apc .i64 (a+b))) 2))),(22,.int .i64 (apc .i64 (apc .i64 (apc .i64 (aqI (apc ap4 (apc .i64 (a+b))) 2)+m)-1)))],dp S R H d L⟩:aj)
abbrev Hw:=fun S R H d (n:Nat) L (a m b:Int)=>(⟨[(0,ah 0 n),(1,aa a),(2,aa m),(3,aa b),(4,.func (.func 74) #[ao 1] #[]),(18,.int .i64 (apc .i64 (aqI (apc ap4 (apc .i64 (a+b))) 2))),(19,.int .i64 (apc .i64 (apc .i64 (aqI (apc ap4 (apc .i64 (a+b))) 2)+m))),(20,aa a),(21,aa m),(22,.int .i64 (apc .i64 (apc .i64 (apc .i64 (aqI (apc ap4 (apc .i64 (a+b))) 2)+m)-1)))],dp S R H d L⟩:aj)
abbrev acB:=fun S R H d (n:Nat) L (a m b:Int)=>(⟨[(0,ah 0 n),(1,aa a),(2,aa m),(3,aa b),(4,.func (.func 74) #[ao 1] #[]),(80,.bool false)],dp S R H d L⟩:aj)
theorem acC(S R H d)(n:Nat)(L)(a m b:Int)(pH:(ak H).all af=true)(hn:(apb L)=n)(h0:0≤a)(h1:0≤b)(h2:a<2000000)(h3:b<2000000)(h4:apc .i64 (a+b)=a+b){Q:aQ}(l3:(decide (m>apc .i64 (aqI (apc ap4 (apc .i64 (a+b))) 2)))=true→an av9 220 5 (BI.drop 7) (Hv S R H d n L a m b) Q)(l4:(decide (m>apc .i64 (aqI (apc ap4 (apc .i64 (a+b))) 2)))=false→an av9 220 5 (BI.drop 7) (Hw S R H d n L a m b) Q):an av9 220 5 BI (acB S R H d n L a m b) Q:=
 aS bo 7 (.fork 3 (.leaf [0,1,2,3,4,18,19,20,21,22] [0,1,2,3,4] [0,3,4]) (.leaf [0,1,2,3,4,18,19,20,21,22] [0,1,2,3,4] [0,3,4])) (fun u=>by kernel_rfl) (mF (c:=decide (m>apc .i64 (aqI (apc ap4 (apc .i64 (a+b))) 2))) (fun h0=>(aM L R H (mQ (l3 h0)))) (fun h0=>(aM L R H (mQ (l4 h0)))))
abbrev acD:=fun S R H d (n:Nat) L (a m b w q s r p:Int)=>(⟨[(0,ah 0 n),(1,aa a),(2,aa m),(3,aa b),(4,.func (.func 74) #[ao 1] #[]),(18,aa w),(19,aa q),(20,aa s),(21,aa r),(22,aa p)],dp S R H d L⟩:aj)
abbrev acE:=fun S R H d (n:Nat) L (a m b w q s r p:Int)=>(⟨[(0,ah 0 n),(1,aa a),(2,aa m),(3,aa b),(4,.func (.func 74) #[ao 1] #[]),(18,aa w),(19,aa q),(20,aa s)],dp S R H d L⟩:aj)
abbrev acF:=fun S R H d (n:Nat) L (a m b w q s r p:Int)=>(⟨[(0,ah 0 n),(1,aa a),(2,aa m),(3,aa b),(4,.func (.func 74) #[ao 1] #[]),(18,aa w),(19,aa q),(20,aa s),(21,aa r),(22,aa p)],dp S R H d L⟩:aj)
theorem acG(S R H d)(n:Nat)(L)(a m b w q s r p:Int)(pH:(ak H).all af=true)(hn:(apb L)=n){Q:aQ}(l3:(decide (s<r))=true→an av9 220 5 (Hl.drop 2) (acD S R H d n L a m b w q s r p) Q)(l4:(decide (s<r))=false→Q (.exit 8) (acE S R H d n L a m b w q s r p)):an av9 220 5 Hl (acF S R H d n L a m b w q s r p) Q:=
 aS bo 2 (.fork 0 (.leaf [0,1,2,3,4,18,19,20,21,22] [0,1,2,3,4] [0,3,4]) (.leaf [0,1,2,3,4,18,19,20] [0,1,2,3,4] [0,3,4])) (fun u=>by kernel_rfl) (mF (c:=decide (s<r)) (fun h0=>(aM L R H (mQ (l3 h0)))) (fun h0=>(aM L R H (mE 8 (l4 h0)))))
abbrev Pp:=fun S R H d (n:Nat) L (a m b w q i j p:Int)=>(⟨[(0,ah 0 n),(1,aa a),(2,aa m),(3,aa b),(4,.func (.func 74) #[ao 1] #[]),(18,aa w),(19,aa q),(20,aa i),(21,aa j),(22,aa p),(23,.int .i64 (apc .i64 (aqI (apc ap4 (apc .i64 (i+j))) 2)))],dp S R H d L⟩:aj)
abbrev acH:=fun S R H d (n:Nat) L (a m b w q i j p:Int)=>(⟨[(0,ah 0 n),(1,aa a),(2,aa m),(3,aa b),(4,.func (.func 74) #[ao 1] #[]),(18,aa w),(19,aa q),(20,aa i),(21,aa j),(22,aa p)],dp S R H d L⟩:aj)
theorem acI(S R H d)(n:Nat)(L)(a m b w q i j p:Int)(pH:(ak H).all af=true)(hn:(apb L)=n)(h0:0≤i)(h1:0≤j)(h2:i<2000000)(h3:j<2000000)(h4:apc .i64 (i+j)=i+j){Q:aQ}(l3:an av9 220 5 (Hq.drop 1) (Pp S R H d n L a m b w q i j p) Q):an av9 220 5 Hq (acH S R H d n L a m b w q i j p) Q:=
 aS bo 1 (.leaf [0,1,2,3,4,18,19,20,21,22,23] [0,1,2,3,4] [0,3,4]) (fun u=>by kernel_rfl) (aM L R H (mQ l3))
abbrev Pq:=fun S R H d (n:Nat) L (a m b w q i j p x:Int)=>(⟨[(0,ah 0 n),(1,aa a),(2,aa m),(3,aa b),(4,.func (.func 74) #[ao 1] #[]),(18,aa w),(19,aa q),(20,.int .i64 (apc .i64 (x+1))),(21,aa j),(22,aa p)],dp S R H d L⟩:aj)
abbrev acJ:=fun S R H d (n:Nat) L (a m b w q i j p x:Int)=>(⟨[(0,ah 0 n),(1,aa a),(2,aa m),(3,aa b),(4,.func (.func 74) #[ao 1] #[]),(18,aa w),(19,aa q),(20,aa i),(21,aa x),(22,aa p)],dp S R H d L⟩:aj)
abbrev acK:=fun S R H d (n:Nat) L (a m b w q i j p x:Int)=>(⟨[(0,ah 0 n),(1,aa a),(2,aa m),(3,aa b),(4,.func (.func 74) #[ao 1] #[]),(18,aa w),(19,aa q),(20,aa i),(21,aa j),(22,aa p),(23,aa x)],dp S R H d L⟩:aj)
theorem acL(S R H d)(n:Nat)(L)(a m b w q i j p x:Int)(pH:(ak H).all af=true)(hn:(apb L)=n)(h0:0≤x)(h1:x<n)(h2:0≤p-x)(h3:p-x<n)(h4:n≤1000000)(h5:apc .i64 (p-x)=p-x)(h6:apc .i64 (x+1)=x+1){Q:aQ}(n0:(eS (ap L) (0+apd (apc .i64 (p-x))*1))=true)(n1:(eS (ap L) (0+apd x*1))=true)(n2:(qR [ab (aJ S 1 2 3 4) 89,ag.abs d,ab (ap L) 9,ab (aq R) 3,ab (ak H) 114])=true)(l6:(!decide (aV (ad.aB S) (aX (ap L) (0+apd (apc .i64 (p-x))*1)) (aX (ap L) (0+apd x*1))<0))=true→Q .normal (Pq S R H d n L a m b w q i j p x))(l7:(!decide (aV (ad.aB S) (aX (ap L) (0+apd (apc .i64 (p-x))*1)) (aX (ap L) (0+apd x*1))<0))=false→Q .normal (acJ S R H d n L a m b w q i j p x)):an av9 220 5 (Hq.drop 1) (acK S R H d n L a m b w q i j p x) Q:=
 aS sw 1000 (aA [0,1,1,0,1,0,1,1,0,1,3,1,1,1,1,1,1] (.fork 0 (.leaf [0,1,2,3,4,18,19,20,21,22] [0,1,2,3,4] [0,3,4]) (.leaf [0,1,2,3,4,18,19,20,21,22] [0,1,2,3,4] [0,3,4]))) (fun u=>by kernel_rfl) (mN (decide_eq_true (by omega):(decide (0≤apc .i64 (p-x)))=true) (mN (show(apy (apd (apc .i64 (p-x))) n)=true by simp at pH hn h0 h1 h2 h3 h4 h5 h6⊢ <;>omega) (mN n0 (mN (decide_eq_true (by omega):(decide (0≤x))=true) (mN (show(apy (apd x) n)=true by simp at pH hn h0 h1 h2 h3 h4 h5 h6⊢ <;>omega) (mN n1 (aM L R H (mN n2 (aM L R H (mF (c:= !decide (aV (ad.aB S) (aX (ap L) (0+apd (apc .i64 (p-x))*1)) (aX (ap L) (0+apd x*1))<0)) (fun h0=>(aM L R H (mQ (an.done (by kernel_rfl) (l6 h0))))) (fun h0=>(aM L R H (mQ (an.done (by kernel_rfl) (l7 h0)))))))))))))))
abbrev Hx:=fun(N:Nat) S R H d (n:Nat) L (a m b w q s:Int)=>(⟨[(0,ah 0 n),(1,aa a),(3,aa b),(4,.func (.func 74) #[ao 1] #[]),(18,aa w),(20,aa s),(24,.int .i64 (apc .i64 (q-s)))],[ab (ap (gE (cU (ap L)) (apd s) (apd m) (apd (apc .i64 (q-s))))) 9,ab (aJ S 2 0 3 4) 89,.abs d,ab (aq R) 3,ab (ak H) 114]⟩:aj)
abbrev Hy:=fun(N:Nat) S R H d (n:Nat) L (a m b w q s:Int)=>(⟨[(0,ah 0 n),(1,aa a),(3,aa b),(4,.func (.func 74) #[ao 1] #[]),(18,aa w),(20,aa s),(24,.int .i64 (apc .i64 (q-s)))],dp S R H d L⟩:aj)
abbrev Hz:=fun(N:Nat) S R H d (n:Nat) L (a m b w q s:Int)=>(⟨[(0,ah 0 n),(1,aa a),(3,aa b),(4,.func (.func 74) #[ao 1] #[]),(18,aa w),(20,aa s),(24,.int .i64 (apc .i64 (q-s)))],dp S R H d L⟩:aj)
abbrev acM:=fun(N:Nat) S R H d (n:Nat) L (a m b w q s:Int)=>(⟨[(0,ah 0 n),(1,aa a),(2,aa m),(3,aa b),(4,.func (.func 74) #[ao 1] #[]),(18,aa w),(19,aa q),(20,aa s)],dp S R H d L⟩:aj)
theorem acN(N:Nat)(S R H d)(n:Nat)(L)(a m b w q s:Int)(hN:bp av9 122 (Sum.dq av9 (nV N)))(pH:(ak H).all af=true)(hn:(apb L)=n)(h0:0≤s)(h1:0≤m)(h2:q≤2000000)(h3:0≤q)(h4:apc .i64 (q-s)=q-s){Q:aQ}(n0:(decide (s<m))=true→(decide (m<apc .i64 (q-s)))=true→(iQ [ab (ap L) 9,ab (aJ S 2 0 3 4) 89,ag.abs d,ab (aq R) 3,ab (ak H) 114] n&&(apw n n&&(apw 74 74&&(decide (0≤s)&&(decide (s<m)&&(decide (m<apc .i64 (q-s))&&decide (apc .i64 (q-s)≤(↑n:Int))))))))=true)(l3:(decide (s<m))=true→(decide (m<apc .i64 (q-s)))=true→an av9 220 5 (BL.drop 3) (Hx N S R H d n L a m b w q s) Q)(l5:(decide (s<m))=true→(decide (m<apc .i64 (q-s)))=false→an av9 220 5 (BL.drop 3) (Hy N S R H d n L a m b w q s) Q)(l6:(decide (s<m))=false→an av9 220 5 (BL.drop 3) (Hz N S R H d n L a m b w q s) Q):an av9 220 5 BL (acM N S R H d n L a m b w q s) Q:=
 aS (Hk N hN) 3 (.fork 0 (aA [1,1,1] (.fork 0 (aA [3,1,1,1,1,1,1] (.leaf [0,1,3,4,18,20,24] [0,1,2,3,4] [0,3,4])) (.leaf [0,1,3,4,18,20,24] [0,1,2,3,4] [0,3,4]))) (aA [0,0,0] (.leaf [0,1,3,4,18,20,24] [0,1,2,3,4] [0,3,4]))) (fun u=>by kernel_rfl) (mF (c:=decide (s<m)) (fun h0=>(wq 3 h0 (mF (c:=decide (m<apc .i64 (q-s))) (fun h1=>(aM L R H (mN (n0 h0 h1) (mN (aZ (gE (cU (ap L)) (apd s) (apd m) (apd (apc .i64 (q-s))))) (mN (aG R) (mN (aU H) (mN (aZ (gE (cU (ap L)) (apd s) (apd m) (apd (apc .i64 (q-s))))) (mN (aG R) (mN (aU H) (mQ (l3 h0 h1))))))))))) (fun h1=>(aM L R H (mQ (l5 h0 h1))))))) (fun h0=>(wq 3 h0 (aM L R H (mQ (l6 h0))))))
abbrev HA:=fun(N:Nat) S R H d (n:Nat) L (a b w s e:Int)=>(⟨[(0,ah 0 n),(3,aa b),(4,.func (.func 74) #[ao 1] #[]),(18,aa w),(24,aa e)],[ab (ap (bV (aV (ad.aB S)) (cU (ap L)) (apd a) (apd w))) 9,ab (aJ S 2 0 3 4) 89,.abs d,ab (aq R) 3,ab (ak H) 114]⟩:aj)
abbrev acO:=fun(N:Nat) S R H d (n:Nat) L (a b w s e:Int)=>(⟨[(0,ah 0 n),(3,aa b),(4,.func (.func 74) #[ao 1] #[]),(18,aa w),(24,aa e)],dp S R H d L⟩:aj)
abbrev acP:=fun(N:Nat) S R H d (n:Nat) L (a b w s e:Int)=>(⟨[(0,ah 0 n),(3,aa b),(4,.func (.func 74) #[ao 1] #[]),(18,aa w),(24,aa e)],dp S R H d L⟩:aj)
abbrev acQ:=fun(N:Nat) S R H d (n:Nat) L (a b w s e:Int)=>(⟨[(0,ah 0 n),(1,aa a),(3,aa b),(4,.func (.func 74) #[ao 1] #[]),(18,aa w),(20,aa s),(24,aa e)],dp S R H d L⟩:aj)
theorem acR(N:Nat)(S R H d)(n:Nat)(L)(a b w s e:Int)(hN:bp av9 122 (Sum.dq av9 (nV N)))(pH:(ak H).all af=true)(hn:(apb L)=n){Q:aQ}(n0:(decide (a<s))=true→(decide (s<w))=true→(iQ [ab (ap L) 9,ab (aJ S 2 0 3 4) 89,ag.abs d,ab (aq R) 3,ab (ak H) 114] n&&(apw n n&&(apw 74 74&&uw (aV (ad.aB S)) (cU (ap L)) n a s w N)))=true)(l3:(decide (a<s))=true→(decide (s<w))=true→an av9 220 5 (BK.drop 2) (HA N S R H d n L a b w s e) Q)(l5:(decide (a<s))=true→(decide (s<w))=false→an av9 220 5 (BK.drop 2) (acO N S R H d n L a b w s e) Q)(l6:(decide (a<s))=false→an av9 220 5 (BK.drop 2) (acP N S R H d n L a b w s e) Q):an av9 220 5 BK (acQ N S R H d n L a b w s e) Q:=
 aS (Hk N hN) 2 (.fork 0 (aA [1,1,1] (.fork 0 (aA [3,1,1,1,1,1,1] (.leaf [0,3,4,18,24] [0,1,2,3,4] [0,3,4])) (.leaf [0,3,4,18,24] [0,1,2,3,4] [0,3,4]))) (aA [0,0,0] (.leaf [0,3,4,18,24] [0,1,2,3,4] [0,3,4]))) (fun u=>by kernel_rfl) (mF (c:=decide (a<s)) (fun h0=>(wq 3 h0 (mF (c:=decide (s<w)) (fun h1=>(aM L R H (mN (n0 h0 h1) (mN (aZ (bV (aV (ad.aB S)) (cU (ap L)) (apd a) (apd w))) (mN (aG R) (mN (aU H) (mN (aZ (bV (aV (ad.aB S)) (cU (ap L)) (apd a) (apd w))) (mN (aG R) (mN (aU H) (mQ (l3 h0 h1))))))))))) (fun h1=>(aM L R H (mQ (l5 h0 h1))))))) (fun h0=>(wq 3 h0 (aM L R H (mQ (l6 h0))))))
abbrev HB:=fun(N:Nat) S R H d (n:Nat) L (b w e:Int)=>(⟨[],[ab (ap (bV (aV (ad.aB S)) (cU (ap L)) (apd w) (apd b))) 9,ab (aJ S 2 0 3 4) 89,.abs d,ab (aq R) 3,ab (ak H) 114]⟩:aj)
noncomputable abbrev acS(N:Nat)(S:ad)(R:List Int)(H:List au)(d:ay)(n:Nat)(L:List ByteArray)(b w e:Int):aj:=⟨[],dp S R H d L⟩
noncomputable abbrev acT(N:Nat)(S:ad)(R:List Int)(H:List au)(d:ay)(n:Nat)(L:List ByteArray)(b w e:Int):aj:=⟨[],dp S R H d L⟩
abbrev acU:=fun(N:Nat) S R H d (n:Nat) L (b w e:Int)=>(⟨[(0,ah 0 n),(3,aa b),(4,.func (.func 74) #[ao 1] #[]),(18,aa w),(24,aa e)],dp S R H d L⟩:aj)
theorem acV(N:Nat)(S R H d)(n:Nat)(L)(b w e:Int)(hN:bp av9 122 (Sum.dq av9 (nV N)))(pH:(ak H).all af=true)(hn:(apb L)=n){Q:aQ}(n0:(decide (w<e))=true→(decide (e<b))=true→(iQ [ab (ap L) 9,ab (aJ S 2 0 3 4) 89,ag.abs d,ab (aq R) 3,ab (ak H) 114] n&&(apw n n&&(apw 74 74&&uw (aV (ad.aB S)) (cU (ap L)) n w e b N)))=true)(l3:(decide (w<e))=true→(decide (e<b))=true→Q .normal (HB N S R H d n L b w e))(l5:(decide (w<e))=true→(decide (e<b))=false→Q .normal (acS N S R H d n L b w e))(l6:(decide (w<e))=false→Q .normal (acT N S R H d n L b w e)):an av9 220 5 ab1 (acU N S R H d n L b w e) Q:=
 aS (Hk N hN) 1000 (.fork 0 (aA [1,1,1] (.fork 0 (aA [3,1,1,1,1,1,1] (.leaf [] [0,1,2,3,4] [0,3,4])) (.leaf [] [0,1,2,3,4] [0,3,4]))) (aA [0,0,0] (.leaf [] [0,1,2,3,4] [0,3,4]))) (fun u=>by kernel_rfl) (mF (c:=decide (w<e)) (fun h0=>(wq 3 h0 (mF (c:=decide (e<b)) (fun h1=>(aM L R H (mN (n0 h0 h1) (mN (aZ (bV (aV (ad.aB S)) (cU (ap L)) (apd w) (apd b))) (mN (aG R) (mN (aU H) (mN (aZ (bV (aV (ad.aB S)) (cU (ap L)) (apd w) (apd b))) (mN (aG R) (mN (aU H) (mQ (an.done (by kernel_rfl) (l3 h0 h1)))))))))))) (fun h1=>(aM L R H (mQ (an.done (by kernel_rfl) (l5 h0 h1)))))))) (fun h0=>(wq 3 h0 (aM L R H (mQ (an.done (by kernel_rfl) (l6 h0)))))))
end
end Go.Proofs.YtnlkkgpcikkpoaaGreat
namespace Go.Proofs.YtnlkkgpcikkpoaaGreat.Vm
open Go.RowKit
def QA(N:aj→Prop)(Q:bd→aj→Prop):bd→aj→Prop
 | .normal,d=>N d
 |x,d=>Q x d
theorem an.join{P:Program}{n k:Nat}{l l':List apV}{d:aj}{Q:bd→aj→Prop}(h:an P n k l d (QA (fun d'=>an P n k l' d' Q) Q)):an P n k (l++l') d Q:=by
 intro X hn hk a w hd
 refine FK (yd (h X hn hk a w hd) fun e a' w' he=>?_)
 obtain⟨x,d',h1,h2,h3⟩:=he
 cases h2 with
 |normal=>exact h1 X hn hk a' w' h3
 |exit j=>exact⟨_,d',h1,.exit j,h3⟩
 |ret=>exact⟨_,d',h1,.ret,h3⟩
 |panic v v' hv=>exact⟨_,d',h1,.panic v v' hv,h3⟩
theorem an.pass{P:Program}{n k:Nat}{l:List apV}{d:aj}{Q:bd→aj→Prop}(h:an P n k l d Q):an P n k (Code.skip::l) d Q:=fun X hn hk a w hd=>wp_skip (Q:=Exit.then (jh P l _) _) (h X hn hk a w hd)
theorem QA.ret{N:aj→Prop}{Q:bd→aj→Prop}{d:aj}(h:Q .ret d):QA N Q .ret d:=h
theorem QA.normal{N:aj→Prop}{Q:bd→aj→Prop}{d:aj}(h:N d):QA N Q .normal d:=h
theorem an.acW{P:Program}{n k:Nat}{L:List apV}{d:aj}{Q:bd→aj→Prop}(i:Nat){c:Nat}(hl:AP (L.drop i)=some c)(hi:apy c n=true)(hv:jC d.sl c=some (.bool false))
 (hs:aY (pF false (L.drop i))=[Code.skip])(h:an P n k (L.drop (i+1)) d Q):an P n k (L.drop i) d Q:=
 an.vN i hl hi hv (by rw[hs];exact an.pass h)
end Go.Proofs.YtnlkkgpcikkpoaaGreat.Vm
namespace Go.Proofs.YtnlkkgpcikkpoaaGreat
open Go Vm Go.RowKit
theorem kv{x y:Nat}(h:x<1000000000)(h2:y<1000000000):apc apr (aqI (apc ap4 (apc apr ((x:Int)+(y:Int)))) 2)=(((x+y)/2:Nat):Int):=by
 have h1:apc apr ((x:Int)+(y:Int))=((x+y:Nat):Int):=by rw[nk (by omega) (by omega)];omega
 have h2:apc ap4 ((x+y:Nat):Int)=((x+y:Nat):Int):=by
  unfold apc
  simp only[ap4,IntKind.bits,IntKind.signed,Bool.false_and,Bool.false_eq_true,if_false]
  omega
 have h3:aqI ((x+y:Nat):Int) 2=(((x+y)/2:Nat):Int):=by
  rw[Int.fdiv_eq_ediv_of_nonneg _ (by omega)];omega
 rw[h1,h2,h3]
 exact nk (by omega) (by omega)
theorem Pr{x y:Nat}(h:x<1000000000)(h2:y<1000000000):apc apr (apc apr (aqI (apc ap4 (apc apr ((x:Int)+(y:Int)))) 2)+1)=(((x+y)/2+1:Nat):Int):=by
 rw[kv h h2,nk (by omega) (by omega)];omega
section
variable (S:ad) (R:List Int) (H:List au) (d:ay)
abbrev sx(a b:Nat)(L:List ByteArray):bd→aj→Prop:=aF av9 122 220 5 fun r o=>r=.ret (.tuple #[])∧o=cL S R H d (bV (aV S.aB) L a b)
def yN(n a:Nat)(L:List ByteArray)(s:Nat×Nat):aj:=⟨[(0,fF n),(1,iZ a),(4,gg),(10,iZ (a+1+s.1)),(11,iZ (a+1+s.2))],cL S R H d L⟩
def BM(n a b i:Nat)(L:List ByteArray)(x:ByteArray)(k:Nat):aj:=⟨[(0,fF n),(10,iZ (a+1+i)),(13,iZ (a+k))],cL S R H d (dn (L.take a) (aL L (a+1) b) (L.drop b) x k)⟩
theorem acX{N:aj→Prop}(L:List ByteArray)(n a b:Nat)(hn:L.length=n)(hL:n≤1000000)(hb:b≤n)(jA:a+1<b)(hX:dC (aV S.aB) (aL L (a+1) b)):
 an av9 220 5 (aY (pF true (mM.drop 1))) ⟨[(0,fF n),(1,iZ a),(2,iZ (a+1)),(3,iZ b),(4,gg),(28,.bool true)],cL S R H d L⟩ (QA N (sx S R H d a b L)):=by
 have pH:=aU H
 have fT:=wj S.aB
 obtain⟨x,hx⟩:∃x,L[a]?=some x:=⟨_,apl (by omega)⟩
 have lT:(L.take a).length=a:=by rw[ap8];omega
 have lX:(aL L (a+1) b).length=b-(a+1):=jt (by omega) (by omega)
 apply ab5 S R H d n L a ((a+1:Nat):Int) b pH hn
 ·
  have e:Hr S R H d n L a ((a+1:Nat):Int) b=yN S R H d n a L (0,(aL L (a+1) b).length):=by
   unfold Hr yN;dsimp only;rw[lX,show a+1+0=a+1 by omega,show a+1+(b-(a+1))=b by omega];rfl
  rw[e]
  refine an.eU 2 0 (by kernel_rfl) ?_
  refine an.fS (yN S R H d n a L) (fun s=>s.2-s.1) (fun s=>lr (aV S.aB) (aL L (a+1) b) x s.1 s.2) (0,(aL L (a+1) b).length) (by kernel_rfl) (lr.start _ _ _) ?_
  rintro⟨i,j⟩ hs
  dsimp only at hs
  have iI:=hs.iI
  have hj:=hs.hj
  rw[lX]at hj
  apply ab8 S R H d n L a ((a+1+i:Nat):Int) ((a+1+j:Nat):Int) pH hn
  case l4=>
   intro g
   have g:=of_decide_eq_false g
   have e:j=i:=by omega
   subst e
   with_reducible (repeat first|refine QL.ret ?_|refine QL.exit ?_|refine QB.ret ?_|refine QB.cp ?_|refine QB.normal ?_|refine QB.cy (by rfl) ?_)
   apply acb S R H d n L a ((a+1+j:Nat):Int) pH hn
   ·
    have e:Hs S R H d n L a ((a+1+j:Nat):Int)=BM S R H d n a b j L x 0:=by
     unfold Hs BM;rw[abQ (by omega) hx];rfl
    rw[e,aqu]
    refine an.eU 4 2 (by kernel_rfl) ?_
    refine an.fS (BM S R H d n a b j L x) (fun k=>j-k) (fun k=>k≤j) 0 (by kernel_rfl) (ap7 _) ?_
    intro k hk
    have gi:(dn (L.take a) (aL L (a+1) b) (L.drop b) x k).length=n:=by rw[G1 (by omega),lT,lX,aqp];omega
    apply acf S R H d n (dn (L.take a) (aL L (a+1) b) (L.drop b) x k) ((a+1+j:Nat):Int) ((a+k:Nat):Int) pH gi (bI (by omega) (by omega))
    case l4=>
     intro g
     rw[bI (by omega) (by omega)]at g
     have g:=of_decide_eq_false g
     have e:k=j:=by omega
     subst e
     with_reducible (repeat first|refine QL.ret ?_|refine QL.exit ?_|refine QB.ret ?_|refine QB.cp ?_|refine QB.normal ?_|refine QB.cy (by rfl) ?_)
     apply aci S R H d n (dn (L.take a) (aL L (a+1) b) (L.drop b) x k) pH gi
     ·
      refine QA.ret ?_
      refine ach S R H d n (dn (L.take a) (aL L (a+1) b) (L.drop b) x k) ⟨rfl,?_⟩
      rw[abP fT (by omega) hx hX hs]
      rfl
    case l3=>
     intro g
     rw[bI (by omega) (by omega)]at g
     have g:=of_decide_eq_true g
     obtain⟨y,hy⟩:∃y,(aL L (a+1) b)[k]?=some y:=⟨_,apl (by omega)⟩
     have fQ:(dn (L.take a) (aL L (a+1) b) (L.drop b) x k)[a+k]?=some x:=by have:=G2 (T:=L.take a) (D:=L.drop b) (x:=x) (S:=aL L (a+1) b) (j:=k) (by omega);rw[lT]at this;exact this
     have iv:(dn (L.take a) (aL L (a+1) b) (L.drop b) x k)[a+k+1]?=some y:=by have:=abT (T:=L.take a) (D:=L.drop b) (x:=x) (S:=aL L (a+1) b) (j:=k) (by omega);rw[lT,hy]at this;exact this
     have e1:0+apd (apc apr (((a+k:Nat):Int)+1))*1=a+k+1:=by rw[bI (by omega) (by omega)];omega
     apply acg S R H d n (dn (L.take a) (aL L (a+1) b) (L.drop b) x k) ((a+1+j:Nat):Int) ((a+k:Nat):Int) pH gi (by omega) (by omega) hL (bI (by omega) (by omega))
     case aR=>simp
     case be=>exact pH
     case n0=>rw[e1];exact(dU iv).2
     case n1=>rw[gh];exact(dU fQ).2
     case n2=>
      rw[e1,gh,(dU iv).1,nU (by omega),yj,aqK]
      exact apU (by omega)
     case l5=>
      refine QL.to (k+1) (by omega) (by omega) ?_
      unfold Pe BM
      rw[e1,gh,(dU iv).1,(dU fQ).1,nU (by omega),nU (by rw[aqK];omega)]
      have:=abU (T:=L.take a) (D:=L.drop b) (x:=x) (S:=aL L (a+1) b) (j:=k) (by omega) hy
      rw[lT]at this
      rw[this,bI (by omega) (by omega)]
      have:(((a+k:Nat):Int)+1)=((a+(k+1):Nat):Int):=by omega
      rw[this]
      rfl
  case l3=>
   intro g
   have g:=of_decide_eq_true g
   have hm:(a+1+i+(a+1+j))/2=a+1+(i+j)/2:=by omega
   obtain⟨y,hy⟩:∃y,(aL L (a+1) b)[(i+j)/2]?=some y:=⟨_,apl (by omega)⟩
   have iv:L[a+1+(i+j)/2]?=some y:=by rw[yJ (by omega)]at hy;exact hy
   refine an.eU 2 1 (by kernel_rfl) ?_
   apply ab9 S R H d n L a ((a+1+i:Nat):Int) ((a+1+j:Nat):Int) pH hn (by omega) (by omega) (by omega) (by omega) (bI (by omega) (by omega)) (by omega) (by omega) (by omega) (by omega) hL
   case n0=>rw[kv (by omega) (by omega)];exact decide_eq_true (by omega)
   case n1=>rw[kv (by omega) (by omega)];rw[avZ];omega
   case n2=>rw[kv (by omega) (by omega),gh,hm];exact(dU iv).2
   case n3=>rw[gh];exact(dU hx).2
   case n4=>exact wh rfl
   case l8=>
    intro g1
    rw[kv (by omega) (by omega),gh,gh,hm,(dU iv).1,(dU hx).1]at g1
    have g1:=of_decide_eq_true g1
    with_reducible (repeat first|refine QL.ret ?_|refine QL.exit ?_|refine QB.ret ?_|refine QB.cp ?_|refine QB.normal ?_|refine QB.cy (by rfl) ?_)
    refine an.done (by kernel_rfl) ?_
    refine QL.to ((i+j)/2+1,j) (hs.up fT hX (by omega) (by omega) hy (pU.2 (fT.asym _ _ g1))) (by dsimp only;omega) ?_
    unfold Pb yN
    rw[Pr (by omega) (by omega),hm]
    rfl
   case l9=>
    intro g1
    rw[kv (by omega) (by omega),gh,gh,hm,(dU iv).1,(dU hx).1]at g1
    have g1:=of_decide_eq_false g1
    with_reducible (repeat first|refine QL.ret ?_|refine QL.exit ?_|refine QB.ret ?_|refine QB.cp ?_|refine QB.normal ?_|refine QB.cy (by rfl) ?_)
    refine an.done (by kernel_rfl) ?_
    refine QL.to (i,(i+j)/2) (hs.down fT hX (by omega) (by omega) hy (pU.2 g1)) (by dsimp only;omega) ?_
    unfold Pc yN
    rw[kv (by omega) (by omega),hm]
    rfl
end
end Go.Proofs.YtnlkkgpcikkpoaaGreat
namespace Go.Proofs.YtnlkkgpcikkpoaaGreat
open Go Vm Go.RowKit
section
variable (S:ad) (R:List Int) (H:List au) (d:ay)
def yO(n a m:Nat)(L:List ByteArray)(s:Nat×Nat):aj:=⟨[(0,fF n),(2,iZ m),(4,gg),(14,iZ (a+s.1)),(15,iZ (a+s.2))],cL S R H d L⟩
def BN(n a m i:Nat)(L:List ByteArray)(x:ByteArray)(k:Nat):aj:=⟨[(0,fF n),(14,iZ (a+i)),(17,iZ (a+k))],cL S R H d (dn (L.take a) (aL L a m) (L.drop (m+1)) x k)⟩
theorem acY{N:aj→Prop}(L:List ByteArray)(n a m:Nat)(hn:L.length=n)(hL:n≤1000000)(hb:m+1≤n)(jA:a<m)(hX:dC (aV S.aB) (aL L a m)):
 an av9 220 5 (aY (pF true (mM.drop 3))) ⟨[(0,fF n),(1,iZ a),(2,iZ m),(3,iZ (m+1)),(4,gg),(80,.bool true)],cL S R H d L⟩ (QA N (sx S R H d a (m+1) L)):=by
 have pH:=aU H
 have fT:=wj S.aB
 obtain⟨x,hx⟩:∃x,L[m]?=some x:=⟨_,apl (by omega)⟩
 have lT:(L.take a).length=a:=by rw[ap8];omega
 have lX:(aL L a m).length=m-a:=jt (by omega) (by omega)
 apply acp S R H d n L a m ((m+1:Nat):Int) pH hn
 ·
  have e:Ht S R H d n L a m ((m+1:Nat):Int)=yO S R H d n a m L (0,(aL L a m).length):=by
   unfold Ht yO;dsimp only;rw[lX,show a+0=a by omega,show a+(m-a)=m by omega];rfl
  rw[e]
  refine an.eU 2 4 (by kernel_rfl) ?_
  refine an.fS (yO S R H d n a m L) (fun s=>s.2-s.1) (fun s=>lr (aV S.aB) (aL L a m) x s.1 s.2) (0,(aL L a m).length) (by kernel_rfl) (lr.start _ _ _) ?_
  rintro⟨i,j⟩ hs
  dsimp only at hs
  have iI:=hs.iI
  have hj:=hs.hj
  rw[lX]at hj
  apply acs S R H d n L m ((a+i:Nat):Int) ((a+j:Nat):Int) pH hn
  case l4=>
   intro g
   have g:=of_decide_eq_false g
   have e:j=i:=by omega
   subst e
   with_reducible (repeat first|refine QL.ret ?_|refine QL.exit ?_|refine QB.ret ?_|refine QB.cp ?_|refine QB.normal ?_|refine QB.cy (by rfl) ?_)
   apply acw S R H d n L m ((a+j:Nat):Int) pH hn
   ·
    have e:Hu S R H d n L m ((a+j:Nat):Int)=BN S R H d n a m j L x (m-a):=by
     unfold Hu BN;rw[abS (by omega) (by omega) hx,show a+(m-a)=m by omega];rfl
    rw[e,aqu]
    refine an.eU 4 6 (by kernel_rfl) ?_
    refine an.fS (BN S R H d n a m j L x) (fun k=>k) (fun k=>j≤k∧k≤m-a) (m-a) (by kernel_rfl) ⟨hj,apI _⟩ ?_
    rintro k ⟨hk,ko⟩
    have gi:(dn (L.take a) (aL L a m) (L.drop (m+1)) x k).length=n:=by rw[G1 (by omega),lT,lX,aqp];omega
    apply acz S R H d n (dn (L.take a) (aL L a m) (L.drop (m+1)) x k) ((a+j:Nat):Int) ((a+k:Nat):Int) pH gi
    case l4=>
     intro g
     have g:=of_decide_eq_false g
     have e:k=j:=by omega
     subst e
     with_reducible (repeat first|refine QL.ret ?_|refine QL.exit ?_|refine QB.ret ?_|refine QB.cp ?_|refine QB.normal ?_|refine QB.cy (by rfl) ?_)
     apply ack S R H d n (dn (L.take a) (aL L a m) (L.drop (m+1)) x k) pH gi
     ·
      refine QA.ret ?_
      refine acj S R H d n (dn (L.take a) (aL L a m) (L.drop (m+1)) x k) ⟨rfl,?_⟩
      rw[abR fT (by omega) hx hX hs]
      rfl
    case l3=>
     intro g
     have g:=of_decide_eq_true g
     obtain⟨k',rfl⟩:∃k',k=k'+1:=⟨k-1,by omega⟩
     obtain⟨y,hy⟩:∃y,(aL L a m)[k']?=some y:=⟨_,apl (by omega)⟩
     have fQ:(dn (L.take a) (aL L a m) (L.drop (m+1)) x (k'+1))[a+(k'+1)]?=some x:=by have:=G2 (T:=L.take a) (D:=L.drop (m+1)) (x:=x) (S:=aL L a m) (j:=k'+1) (by omega);rw[lT]at this;exact this
     have iv:(dn (L.take a) (aL L a m) (L.drop (m+1)) x (k'+1))[a+k']?=some y:=by have:=OJ (T:=L.take a) (D:=L.drop (m+1)) (x:=x) (S:=aL L a m) (j:=k') (by omega);rw[lT,hy]at this;exact this
     have e1:0+apd (apc apr (((a+(k'+1):Nat):Int)-1))*1=a+k':=by rw[bI (by omega) (by omega)];omega
     apply acA S R H d n (dn (L.take a) (aL L a m) (L.drop (m+1)) x (k'+1)) ((a+j:Nat):Int) ((a+(k'+1):Nat):Int) pH gi (by omega) (by omega) hL (bI (by omega) (by omega))
     case aR=>simp
     case be=>exact pH
     case n0=>rw[e1];exact(dU iv).2
     case n1=>rw[gh];exact(dU fQ).2
     case n2=>
      rw[e1,gh,(dU iv).1,nU (by omega),yj,aqK]
      exact apU (by omega)
     case l5=>
      refine QL.to k' (by omega) (by omega) ?_
      unfold Po BN
      rw[e1,gh,(dU iv).1,(dU fQ).1,nU (by omega),nU (by rw[aqK];omega)]
      have:=OK (T:=L.take a) (D:=L.drop (m+1)) (x:=x) (S:=aL L a m) (j:=k') (by omega) hy
      rw[lT]at this
      rw[this,bI (by omega) (by omega)]
      have:(((a+(k'+1):Nat):Int)-1)=((a+k':Nat):Int):=by omega
      rw[this]
      rfl
  case l3=>
   intro g
   have g:=of_decide_eq_true g
   have hm:(a+i+(a+j))/2=a+(i+j)/2:=by omega
   obtain⟨y,hy⟩:∃y,(aL L a m)[(i+j)/2]?=some y:=⟨_,apl (by omega)⟩
   have iv:L[a+(i+j)/2]?=some y:=by rw[yJ (by omega)]at hy;exact hy
   refine an.eU 2 5 (by kernel_rfl) ?_
   apply acu S R H d n L m ((a+i:Nat):Int) ((a+j:Nat):Int) pH hn (by omega) (by omega) (by omega) (by omega) (bI (by omega) (by omega)) (by omega) (by omega) (by omega) (by omega) hL
   case n0=>rw[gh];exact(dU hx).2
   case n1=>rw[kv (by omega) (by omega)];exact decide_eq_true (by omega)
   case n2=>rw[kv (by omega) (by omega),avZ];omega
   case n3=>rw[kv (by omega) (by omega),gh,hm];exact(dU iv).2
   case n4=>exact wh rfl
   case l8=>
    intro g1
    rw[kv (by omega) (by omega),gh,gh,hm,(dU iv).1,(dU hx).1]at g1
    have g1:fJ (aV S.aB) y x=true:=g1
    with_reducible (repeat first|refine QL.ret ?_|refine QL.exit ?_|refine QB.ret ?_|refine QB.cp ?_|refine QB.normal ?_|refine QB.cy (by rfl) ?_)
    refine an.done (by kernel_rfl) ?_
    refine QL.to ((i+j)/2+1,j) (hs.up fT hX (by omega) (by omega) hy g1) (by dsimp only;omega) ?_
    unfold Pk yO
    rw[Pr (by omega) (by omega),hm]
    rfl
   case l9=>
    intro g1
    rw[kv (by omega) (by omega),gh,gh,hm,(dU iv).1,(dU hx).1]at g1
    have g1:=of_decide_eq_true (show decide (aV S.aB x y<0)=true by cases h:decide (aV S.aB x y<0)with|true=>rfl|false=>rw[h]at g1;cases g1)
    with_reducible (repeat first|refine QL.ret ?_|refine QL.exit ?_|refine QB.ret ?_|refine QB.cp ?_|refine QB.normal ?_|refine QB.cy (by rfl) ?_)
    refine an.done (by kernel_rfl) ?_
    refine QL.to (i,(i+j)/2) (hs.down fT hX (by omega) (by omega) hy (pU.2 (fT.asym _ _ g1))) (by dsimp only;omega) ?_
    unfold Pm yO
    rw[kv (by omega) (by omega),hm]
    rfl
end
end Go.Proofs.YtnlkkgpcikkpoaaGreat
namespace Go.Proofs.YtnlkkgpcikkpoaaGreat
open Go Vm Go.RowKit
section
variable (S:ad) (R:List Int) (H:List au) (d:ay)
def uz(n a m b w q s r p:Nat)(L:List ByteArray):aj:=⟨[(0,fF n),(1,iZ a),(2,iZ m),(3,iZ b),(4,gg),(18,iZ w),(19,iZ q),(20,iZ s),(21,iZ r),(22,iZ p)],cL S R H d L⟩
theorem acZ(N:Nat)(hN:bp av9 122 (Sum.dq av9 (nV N)))(L:List ByteArray)(n a m b s:Nat)(hn:L.length=n)(hL:n≤1000000)(oX:a<m)(oY:m<b)(hb:b≤n)(BO:b-a≤N+1)(aok:a+2≤b)
 (T:O4 (aV S.aB) L a m b s ((a+b)/2) ((a+b)/2+m-s)):
 an av9 220 5 (mM.drop 11) ⟨[(0,fF n),(1,iZ a),(2,iZ m),(3,iZ b),(4,gg),(18,iZ ((a+b)/2)),(19,iZ ((a+b)/2+m)),(20,iZ s)],cL S R H d L⟩ (sx S R H d a b L):=by
 have pH:=aU H
 have fT:=wj S.aB
 obtain⟨h1,h2,h3,h4,hd,x1,x2,y1,y2,fin⟩:=T
 have he:(((a+b)/2+m:Nat):Int)-(s:Int)=(((a+b)/2+m-s:Nat):Int):=by omega
 generalize hE:(a+b)/2+m-s=e at*
 generalize hW:(a+b)/2=w at*
 have lR:(gE L s m e).length=n:=by rw[abZ h2 h3 (by omega),hn]
 have lA:(bV (aV S.aB) (gE L s m e) a w).length=n:=by rw[OI (by omega) (by omega),lR]
 have hO:∀M:List ByteArray,M.length=n→iQ [ag.cells (ap M) 9 false,ag.cells (aJ S 2 0 3 4) 89 false,ag.abs d,ag.cells (aq R) 3 false,ag.cells (ak H) 114 false] n=true:=fun M hM=>wl (S:=S) (R:=R) (H:=H) (d:=d) (L:=M) rfl hM hL
 have last:∀M:List ByteArray,M=bV (aV S.aB) L a b→sx S R H d a b L .normal ⟨[],cL S R H d M⟩:=fun M hM=>by
  rw[hM]
  exact aF.normal (vs:=[]) (l:=[]) (bs:=[0,1,2,3,4]) (pl:=[0,3,4]) (q:=[ap (bV (aV S.aB) L a b),aq R,ak H]) (fun u=>by kernel_rfl) (by kernel_rfl) (aC (by simp) (aC (by simp) (aC pH bc))) ⟨rfl,rfl⟩
 have t3:an av9 220 5 (mM.drop 16) ⟨[(0,fF n),(3,iZ b),(4,gg),(18,iZ w),(24,iZ e)],cL S R H d (bV (aV S.aB) (gE L s m e) a w)⟩ (sx S R H d a b L):=by
  generalize bV (aV S.aB) (gE L s m e) a w=M at*
  have gj:(w=e∨e=b)→M=bV (aV S.aB) L a b:=fun h=>by rw[←fin,O6 fT (by omega) (by omega) h y1 y2]
  apply acV N S R H d n M b w e hN pH lA
  case n0=>
   intro g1 g2
   have g1:=of_decide_eq_true g1
   have g2:=of_decide_eq_true g2
   rw[hO M lA,iP,yK.2 ⟨by omega,g1,g2,by omega,by omega,y1,y2⟩]
   simp only[aqn,aq7]
  case l3=>
   intro g1 g2
   have e5:HB N S R H d n M b w e=⟨[],cL S R H d (bV (aV S.aB) M w b)⟩:=by
    unfold HB;rw[iP];rfl
   rw[e5]
   exact last _ fin
  case l5=>
   intro g1 g2
   have g2:=of_decide_eq_false g2
   exact last M (gj (.inr (by omega)))
  case l6=>
   intro g1
   have g1:=of_decide_eq_false g1
   exact last M (gj (.inl (by omega)))
 have t2:an av9 220 5 (mM.drop 14) ⟨[(0,fF n),(1,iZ a),(3,iZ b),(4,gg),(18,iZ w),(20,iZ s),(24,iZ e)],cL S R H d (gE L s m e)⟩ (sx S R H d a b L):=by
  generalize gE L s m e=M at*
  have gj:(a=s∨s=w)→bV (aV S.aB) M a w=M:=fun h=>O6 fT (by omega) (by omega) h x1 x2
  apply acR N S R H d n M a b w s e hN pH lR
  case n0=>
   intro g1 g2
   have g1:=of_decide_eq_true g1
   have g2:=of_decide_eq_true g2
   rw[hO M lR,iP,yK.2 ⟨by omega,g1,g2,by omega,by omega,x1,x2⟩]
   simp only[aqn,aq7]
  case l3=>
   intro g1 g2
   have e5:HA N S R H d n M a b w s e=⟨[(0,fF n),(3,iZ b),(4,gg),(18,iZ w),(24,iZ e)],cL S R H d (bV (aV S.aB) M a w)⟩:=by
    unfold HA;rw[iP];rfl
   rw[e5,aqu]
   exact t3
  case l5=>
   intro g1 g2
   have g2:=of_decide_eq_false g2
   rw[gj (.inr (by omega))]at t3
   rw[aqu]
   exact t3
  case l6=>
   intro g1
   have g1:=of_decide_eq_false g1
   rw[gj (.inl (by omega))]at t3
   rw[aqu]
   exact t3
 have gj:(s=m∨m=e)→gE L s m e=L:=fun h=>abV h2 h3 h
 have HC:(.int .i64 (apc apr (((w+m:Nat):Int)-(s:Int))):ape)=iZ e:=by rw[he,nk (by omega) (by omega)];rfl
 apply acN N S R H d n L a m b w ((w+m:Nat):Int) s hN pH hn (by omega) (by omega) (by omega) (by omega) (bI (by omega) (by omega))
 case n0=>
  intro g1 g2
  have g1:=of_decide_eq_true g1
  rw[bI (by omega) (by omega),he]at g2⊢
  have g2:=of_decide_eq_true g2
  rw[hO L hn]
  simp only[aqn,arJ,apt,decide_eq_true_eq]
  omega
 case l3=>
  intro g1 g2
  have e5:Hx N S R H d n L a m b w ((w+m:Nat):Int) s=⟨[(0,fF n),(1,iZ a),(3,iZ b),(4,gg),(18,iZ w),(20,iZ s),(24,iZ e)],cL S R H d (gE L s m e)⟩:=by
   unfold Hx;rw[iP,HC,he,nk (by omega) (by omega)];rfl
  rw[e5,aqu]
  exact t2
 case l5=>
  intro g1 g2
  rw[bI (by omega) (by omega),he]at g2
  have g2:=of_decide_eq_false g2
  have e5:Hy N S R H d n L a m b w ((w+m:Nat):Int) s=⟨[(0,fF n),(1,iZ a),(3,iZ b),(4,gg),(18,iZ w),(20,iZ s),(24,iZ e)],cL S R H d L⟩:=by
   unfold Hy;rw[HC];rfl
  rw[gj (.inr (by omega))]at t2
  rw[e5,aqu]
  exact t2
 case l6=>
  intro g1
  have g1:=of_decide_eq_false g1
  have e5:Hz N S R H d n L a m b w ((w+m:Nat):Int) s=⟨[(0,fF n),(1,iZ a),(3,iZ b),(4,gg),(18,iZ w),(20,iZ s),(24,iZ e)],cL S R H d L⟩:=by
   unfold Hz;rw[HC];rfl
  rw[gj (.inl (by omega))]at t2
  rw[e5,aqu]
  exact t2
end
end Go.Proofs.YtnlkkgpcikkpoaaGreat
namespace Go.Proofs.YtnlkkgpcikkpoaaGreat
open Go Vm Go.RowKit
section
variable (S:ad) (R:List Int) (H:List au) (d:ay)
theorem ac0(N:Nat)(hN:bp av9 122 (Sum.dq av9 (nV N)))(L:List ByteArray)(n a m b:Nat)(hn:L.length=n)(hL:n≤1000000)(oX:a<m)(oY:m<b)(hb:b≤n)(BO:b-a≤N+1)
 (hX:dC (aV S.aB) (aL L a m))(hY:dC (aV S.aB) (aL L m b)):
 an av9 220 5 (mM.drop 3) ⟨[(0,fF n),(1,iZ a),(2,iZ m),(3,iZ b),(4,gg),(80,.bool false)],cL S R H d L⟩ (sx S R H d a b L):=by
 have pH:=aU H
 have fT:=wj S.aB
 have go:∀s0 r0,lZ (aV S.aB) L a m b s0 r0→an av9 220 5 (mM.drop 10) (uz S R H d n a m b ((a+b)/2) ((a+b)/2+m) s0 r0 ((a+b)/2+m-1) L) (sx S R H d a b L):=fun s0 r0 tA=>by
  refine an.eU 10 8 (by kernel_rfl) ?_
  refine an.fS (fun s:Nat×Nat=>uz S R H d n a m b ((a+b)/2) ((a+b)/2+m) s.1 s.2 ((a+b)/2+m-1) L) (fun s=>s.2-s.1) (fun s=>lZ (aV S.aB) L a m b s.1 s.2) (s0,r0) (by kernel_rfl) tA ?_
  rintro⟨i,j⟩ hs
  dsimp only at hs
  have q1:=hs.Ek
  have q2:=hs.qS
  have q3:=hs.rm
  have q4:=hs.me
  have q5:=hs.sb
  apply acG S R H d n L a m b ((a+b)/2:Nat) ((a+b)/2+m:Nat) i j ((a+b)/2+m-1:Nat) pH hn
  case l4=>
   intro g
   have g:=of_decide_eq_false g
   have e:j=i:=by omega
   subst e
   with_reducible (repeat first|refine QL.ret ?_|refine QL.exit ?_|refine QB.ret ?_|refine QB.cp ?_|refine QB.normal ?_|refine QB.cy (by rfl) ?_)
   exact acZ S R H d N hN L n a m b j hn hL oX oY hb BO (by omega) (hs.three fT (by omega) oX oY hX hY)
  case l3=>
   intro g
   have g:=of_decide_eq_true g
   refine an.eU 2 9 (by kernel_rfl) ?_
   apply acI S R H d n L a m b ((a+b)/2:Nat) ((a+b)/2+m:Nat) i j ((a+b)/2+m-1:Nat) pH hn (by omega) (by omega) (by omega) (by omega) (bI (by omega) (by omega))
   ·
    have rE:i≤(i+j)/2:=by omega
    have iU:(i+j)/2<j:=by omega
    unfold Pp
    rw[kv (by omega) (by omega)]
    generalize(i+j)/2=x at rE iU
    obtain⟨u,hu⟩:∃u,L[x]?=some u:=⟨_,apl (by omega)⟩
    obtain⟨v,hv⟩:∃v,L[(a+b)/2+m-1-x]?=some v:=⟨_,apl (by omega)⟩
    have e1:0+apd (apc apr ((((a+b)/2+m-1:Nat):Int)-(x:Int)))*1=(a+b)/2+m-1-x:=by rw[bI (by omega) (by omega)];omega
    apply acL S R H d n L a m b ((a+b)/2:Nat) ((a+b)/2+m:Nat) i j ((a+b)/2+m-1:Nat) x pH hn (by omega) (by omega) (by omega) (by omega) hL (bI (by omega) (by omega)) (bI (by omega) (by omega))
    case n0=>rw[e1];exact(dU hv).2
    case n1=>rw[gh];exact(dU hu).2
    case n2=>exact wh rfl
    case l6=>
     intro g1
     rw[e1,gh,(dU hu).1,(dU hv).1]at g1
     have g1:fJ (aV S.aB) u v=true:=g1
     with_reducible (repeat first|refine QL.ret ?_|refine QL.exit ?_|refine QB.ret ?_|refine QB.cp ?_|refine QB.normal ?_|refine QB.cy (by rfl) ?_)
     refine an.done (by kernel_rfl) ?_
     refine QL.to (x+1,j) (hs.up rE iU hu hv g1) (by dsimp only;omega) ?_
     unfold Pq uz
     dsimp only
     rw[fA (by omega)]
     rfl
    case l7=>
     intro g1
     rw[e1,gh,(dU hu).1,(dU hv).1]at g1
     have g1:=of_decide_eq_true (show decide (aV S.aB v u<0)=true by cases h:decide (aV S.aB v u<0)with|true=>rfl|false=>rw[h]at g1;cases g1)
     with_reducible (repeat first|refine QL.ret ?_|refine QL.exit ?_|refine QB.ret ?_|refine QB.cp ?_|refine QB.normal ?_|refine QB.cy (by rfl) ?_)
     refine an.done (by kernel_rfl) ?_
     refine QL.to (i,x) (hs.down rE iU hu hv (pU.2 (fT.asym _ _ g1))) (by dsimp only;omega) ?_
     rfl
 have cP:=lZ.start (aV S.aB) L oX oY
 have eW:apc apr ((((a+b)/2:Nat):Int)+(m:Int))=(((a+b)/2+m:Nat):Int):=by rw[nk (by omega) (by omega)];omega
 have eP:apc apr ((((a+b)/2+m:Nat):Int)-1)=(((a+b)/2+m-1:Nat):Int):=by rw[bI (by omega) (by omega)];omega
 apply acC S R H d n L a m b pH hn (by omega) (by omega) (by omega) (by omega) (bI (by omega) (by omega))
 case l3=>
  intro g
  rw[kv (by omega) (by omega)]at g
  have g:=of_decide_eq_true g
  have g2:m>(a+b)/2:=by omega
  rw[if_pos g2,if_pos g2]at cP
  have e:Hv S R H d n L a m b=uz S R H d n a m b ((a+b)/2) ((a+b)/2+m) ((a+b)/2+m-b) ((a+b)/2) ((a+b)/2+m-1) L:=by
   unfold Hv uz
   rw[kv (by omega) (by omega),eW,eP,show apc apr ((((a+b)/2+m:Nat):Int)-(b:Int))=(((a+b)/2+m-b:Nat):Int)by rw[bI (by omega) (by omega)];omega]
   rfl
  rw[e,aqu]
  exact go _ _ cP
 case l4=>
  intro g
  rw[kv (by omega) (by omega)]at g
  have g:=of_decide_eq_false g
  have g2:¬m>(a+b)/2:=by omega
  rw[if_neg g2,if_neg g2]at cP
  have e:Hw S R H d n L a m b=uz S R H d n a m b ((a+b)/2) ((a+b)/2+m) a m ((a+b)/2+m-1) L:=by
   unfold Hw uz
   rw[kv (by omega) (by omega),eW,eP]
   rfl
  rw[e,aqu]
  exact go _ _ cP
theorem ac1(N:Nat)(hN:bp av9 122 (Sum.dq av9 (nV N)))(L:List ByteArray)(n a m b:Nat)(hn:L.length=n)(hL:n≤1000000)(oX:a<m)(oY:m<b)(hb:b≤n)(BO:b-a≤N+1)
 (hX:dC (aV S.aB) (aL L a m))(hY:dC (aV S.aB) (aL L m b)):
 aE av9 122 [fF n,iZ a,iZ m,iZ b,gg] (cL S R H d L) fun r o=>r=.ret (.tuple #[])∧o=cL S R H d (bV (aV S.aB) L a b):=by
 have pH:=aU H
 refine aE.cT (n:=cn av9 122) (by kernel_rfl) ?_
 have ez:∀x y:Nat,x<y→y≤n→(apc apr ((y:Int)-(x:Int))==1)=decide (y=x+1):=fun x y h1 h2=>by
  rw[bI (by omega) (by omega),Bool.eq_iff_iff,beq_iff_eq,decide_eq_true_eq];omega
 apply ab3 S R H d n L a m b pH hn (bI (by omega) (by omega))
 ·
  by_cases c1:m=a+1
  ·subst c1
   have e:yL S R H d n L a ((a+1:Nat):Int) b=⟨[(0,fF n),(1,iZ a),(2,iZ (a+1)),(3,iZ b),(4,gg),(28,.bool true)],cL S R H d L⟩:=by
    unfold yL;rw[ez _ _ (by omega) (by omega),decide_eq_true rfl];rfl
   rw[e]
   refine an.vN 1 (c:=28) (b:=true) (by kernel_rfl) (by rfl) (by rfl) ?_
   exact an.join (acX S R H d L n a b hn hL hb oY hY)
  ·have e:yL S R H d n L a m b=⟨[(0,fF n),(1,iZ a),(2,iZ m),(3,iZ b),(4,gg),(28,.bool false)],cL S R H d L⟩:=by
    unfold yL;rw[ez _ _ (by omega) (by omega),decide_eq_false c1];rfl
   rw[e]
   apply acn S R H d n L a m b pH hn (bI (by omega) (by omega))
   ·
    rw[aqu]
    by_cases c2:b=m+1
    ·subst c2
     have e:yM S R H d n L a m ((m+1:Nat):Int)=⟨[(0,fF n),(1,iZ a),(2,iZ m),(3,iZ (m+1)),(4,gg),(80,.bool true)],cL S R H d L⟩:=by
      unfold yM;rw[ez _ _ (by omega) (by omega),decide_eq_true rfl];rfl
     rw[e]
     refine an.vN 3 (c:=80) (b:=true) (by kernel_rfl) (by rfl) (by rfl) ?_
     exact an.join (acY S R H d L n a m hn hL hb oX hX)
    ·have e:yM S R H d n L a m b=⟨[(0,fF n),(1,iZ a),(2,iZ m),(3,iZ b),(4,gg),(80,.bool false)],cL S R H d L⟩:=by
      unfold yM;rw[ez _ _ (by omega) (by omega),decide_eq_false c2];rfl
     rw[e]
     exact ac0 S R H d N hN L n a m b hn hL oX oY hb BO hX hY
end
theorem ac2(N:Nat):bp av9 122 (Sum.dq av9 (nV N)):=by
 induction N with
 |zero=>exact O8 0 fun S R H d L n a m b _ _ h1 h2 _ h3 _ _=>absurd h3 (by omega)
 |succ N ih=>exact O8 (N+1) fun S R H d L n a m b h1 h2 h3 h4 h5 h6 h7 h8=>ac1 S R H d N ih L n a m b h1 h2 h3 h4 h5 h6 h7 h8
end Go.Proofs.YtnlkkgpcikkpoaaGreat
