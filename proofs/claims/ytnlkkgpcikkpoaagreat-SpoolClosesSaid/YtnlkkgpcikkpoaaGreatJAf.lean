/- Part of the proof: So7, So8, StV, So9, Sma, App, Smb, Smc, Smd, Sme, StW, SoA, Sst, SoB, SoC, Sss, SoD, Zoa, Zob, Zoc, Zoe, Zod, Zof, Zog, Zoh. -/
import Derived.Test.YtnlkkgpcikkpoaaGreatJAe
import Derived.KernelRfl
import Derived.Test.YtnlkkgpcikkpoaaGreatJAd
open Array renaming toArray_toList→ap1,toList→app
open Bool renaming and_eq_true→ao3,and_self→aqH,false_eq_true→apT,true_and→arz
open ByteArray renaming data→aph,empty→aoZ,size→aoT,size_append→arx
open Classical renaming propDecidable→apj
open Go renaming Code→apw,FuncId→apr,Value→aoP
open Go.IntKind renaming i64→ao2,u64→apF,u8→apb,wrap→aoN
open Go.Proofs.Tryz renaming prog→aoL
open Go.Value renaming int→aoW,string→apm
open Int renaming eq_ofNat_of_zero_le→aqn,fdiv→aqi,toNat→aoO
open List renaming all→aoS,append_assoc→api,append_nil→aqm,cons_append→aqK,drop_drop→ap2,drop_length→asD,drop_zero→as9,eq_nil_of_length_eq_zero→apL,find?→atW,find?_cons→ary,getElem?_append_right→apz,getElem?_drop→aqb,getElem?_eq_getElem→aoV,getElem?_eq_some_iff→ao0,length→aoM,length_append→ao5,length_drop→ap0,length_set→aql,length_take→apI,map→apv,map_append→apK,map_congr_left→aq0,map_cons→apM,map_map→arN,mem_append→apo,mem_map→aqv,mem_singleton→apP,nil_append→aqw,pairwise_append→ar5,perm_append_comm→asJ,take→apd,take_append_drop→ap6,take_of_length_le→ap8,take_zero→ar0
open Nat renaming beq→ao6,beq_refl→apY,ble→apf,ble_eq_true_of_le→apu,blt→ao9,blt_eq→avr,eq_of_beq_eq_true→apa,le_refl→apn,sub_self→arr,zero_le→apN
open Option.some renaming injEq→aoU
open Prod renaming fst→aoY,snd→apG
open Prod.mk renaming injEq→aoX
open UInt8 renaming ofInt→atI,toNat→apt
set_option linter.unusedVariables false
set_option linter.unusedSimpArgs false
set_option maxRecDepth 100000
namespace Go.Proofs.YtnlkkgpcikkpoaaGreat
open Go Vm Go.RowKit
noncomputable section
noncomputable def Bs:List apw:=bd (dC aoL 134)
open Tree renaming aW→mN,dn→mF,eS→mL,fA→mQ,dD→mR,fK→mE
noncomputable abbrev GV:List apw:=(bd (inner (bd (inner (Bs.drop 2)))))
abbrev wb:=fun S R H d L=>([ab (ao L) 9,ab (aM S 2 0 3 4) 89,.abs d,ab (ap R) 3,ab (aj H) 114]:List ak)
abbrev GW:=fun S R H d (n:Nat) L (a m b:Int)=>(⟨[(0,ah 0 n),(2,aa m),(4,.func (.func 74) #[al 1] #[]),(10,.int .i64 (aoN .i64 (m-a))),(11,.int .i64 (aoN .i64 (b-m)))],wb S R H d L⟩:ai)
abbrev abm:=fun S R H d (n:Nat) L (a m b:Int)=>(⟨[(0,ah 0 n),(1,aa a),(2,aa m),(3,aa b),(4,.func (.func 74) #[al 1] #[])],wb S R H d L⟩:ai)
theorem abn(S R H d)(n:Nat)(L)(a m b:Int)(pH:(aj H).all ag=true)(hn:(aoM L)=n)(gP:aoN .i64 (m-a)=m-a)(dK:aoN .i64 (b-m)=b-m){Q:aY}(l3:an aoL 58 5 (Bs.drop 2) (GW S R H d n L a m b) Q):an aoL 58 5 Bs (abm S R H d n L a m b) Q:=
 aZ bt 2 (.leaf [0,2,4,10,11] [0,1,2,3,4] [0,3,4]) (fun u=>by kernel_rfl) (aL L R H (mQ l3))
abbrev abo:=fun S R H d (n:Nat) L (m i j:Int)=>(⟨[(0,ah 0 n),(2,aa m),(4,.func (.func 74) #[al 1] #[]),(10,aa i),(11,aa j)],wb S R H d L⟩:ai)
abbrev abp:=fun S R H d (n:Nat) L (m i j:Int)=>(⟨[(0,ah 0 n),(2,aa m),(4,.func (.func 74) #[al 1] #[]),(10,aa i)],wb S R H d L⟩:ai)
abbrev OL:=fun S R H d (n:Nat) L (m i j:Int)=>(⟨[(0,ah 0 n),(2,aa m),(4,.func (.func 74) #[al 1] #[]),(10,aa i),(11,aa j)],wb S R H d L⟩:ai)
theorem abq(S R H d)(n:Nat)(L)(m i j:Int)(pH:(aj H).all ag=true)(hn:(aoM L)=n){Q:aY}(l3:(i != j)=true→an aoL 58 5 (GV.drop 2) (abo S R H d n L m i j) Q)(l4:(i != j)=false→Q (.exit 0) (abp S R H d n L m i j)):an aoL 58 5 GV (OL S R H d n L m i j) Q:=
 aZ bt 2 (.fork 0 (.leaf [0,2,4,10,11] [0,1,2,3,4] [0,3,4]) (.leaf [0,2,4,10] [0,1,2,3,4] [0,3,4])) (fun u=>by kernel_rfl) (mF (c:=i != j) (fun h0=>(aL L R H (mQ (l3 h0)))) (fun h0=>(aL L R H (mE 0 (l4 h0)))))
abbrev OM:=fun S R H d (n:Nat) L (m i j:Int)=>(⟨[(0,ah 0 n),(2,aa m),(4,.func (.func 74) #[al 1] #[]),(10,.int .i64 (aoN .i64 (i-j))),(11,aa j)],[ab (ao (fv (cZ (ao L)) (aoO (aoN .i64 (m-i))) (aoO m) (aoO j))) 9,ab (aM S 2 0 3 4) 89,.abs d,ab (ap R) 3,ab (aj H) 114]⟩:ai)
abbrev OO:=fun S R H d (n:Nat) L (m i j:Int)=>(⟨[(0,ah 0 n),(2,aa m),(4,.func (.func 74) #[al 1] #[]),(10,aa i),(11,.int .i64 (aoN .i64 (j-i)))],[ab (ao (fv (cZ (ao L)) (aoO (aoN .i64 (m-i))) (aoO (aoN .i64 (aoN .i64 (m+j)-i))) (aoO i))) 9,ab (aM S 2 0 3 4) 89,.abs d,ab (ap R) 3,ab (aj H) 114]⟩:ai)
theorem abr(S R H d)(n:Nat)(L)(m i j:Int)(pH:(aj H).all ag=true)(hn:(aoM L)=n)(h1:0<i)(h2:0<j)(h3:i≤m)(h4:m+j≤n)(hL:n≤1000000)(gP:aoN .i64 (m-i)=m-i)(dK:aoN .i64 (m+j)=m+j)(np:aoN .i64 (m+j-i)=m+j-i)(Bt:aoN .i64 (i-j)=i-j)(anT:aoN .i64 (j-i)=j-i){Q:aY}(n0:(decide (i>j))=true→(iJ [ab (ao L) 9,ab (aM S 2 0 3 4) 89,ak.abs d,ab (ap R) 3,ab (aj H) 114] n&&(ao6 n n&&(ao6 74 74&&(decide (0≤aoN .i64 (m-i))&&(decide (0≤j)&&(decide (aoN .i64 (m-i)+j≤m)&&decide (m+j≤(↑n:Int))))))))=true)(l3:(decide (i>j))=true→Q .normal (OM S R H d n L m i j))(n4:(decide (i>j))=false→(iJ [ab (ao L) 9,ab (aM S 2 0 3 4) 89,ak.abs d,ab (ap R) 3,ab (aj H) 114] n&&(ao6 n n&&(ao6 74 74&&(decide (0≤aoN .i64 (m-i))&&(decide (0≤i)&&(decide (aoN .i64 (m-i)+i≤aoN .i64 (aoN .i64 (m+j)-i))&&decide (aoN .i64 (aoN .i64 (m+j)-i)+i≤(↑n:Int))))))))=true)(l5:(decide (i>j))=false→Q .normal (OO S R H d n L m i j)):an aoL 58 5 (bd (inner (GV.drop 2))) (OL S R H d n L m i j) Q:=
 aZ OK 1000 (.fork 0 (aA [3,1,1,1,1,1,1] (.leaf [0,2,4,10,11] [0,1,2,3,4] [0,3,4])) (aA [3,1,1,1,1,1,1] (.leaf [0,2,4,10,11] [0,1,2,3,4] [0,3,4]))) (fun u=>by kernel_rfl) (mF (c:=decide (i>j)) (fun h0=>(aL L R H (mN (n0 h0) (mN (aV (fv (cZ (ao L)) (aoO (aoN .i64 (m-i))) (aoO m) (aoO j))) (mN (aQ R) (mN (a7 H) (mN (aV (fv (cZ (ao L)) (aoO (aoN .i64 (m-i))) (aoO m) (aoO j))) (mN (aQ R) (mN (a7 H) (mQ (an.done (by kernel_rfl) (l3 h0)))))))))))) (fun h0=>(aL L R H (mN (n4 h0) (mN (aV (fv (cZ (ao L)) (aoO (aoN .i64 (m-i))) (aoO (aoN .i64 (aoN .i64 (m+j)-i))) (aoO i))) (mN (aQ R) (mN (a7 H) (mN (aV (fv (cZ (ao L)) (aoO (aoN .i64 (m-i))) (aoO (aoN .i64 (aoN .i64 (m+j)-i))) (aoO i))) (mN (aQ R) (mN (a7 H) (mQ (an.done (by kernel_rfl) (l5 h0)))))))))))))
abbrev GX:=fun S R H d (n:Nat) L (m i j:Int)=>(⟨[],[ab (ao (fv (cZ (ao L)) (aoO (aoN .i64 (m-i))) (aoO m) (aoO i))) 9,ab (aM S 2 0 3 4) 89,.abs d,ab (ap R) 3,ab (aj H) 114]⟩:ai)
abbrev abt:=fun S R H d (n:Nat) L (m i j:Int)=>(⟨[(0,ah 0 n),(2,aa m),(4,.func (.func 74) #[al 1] #[]),(10,aa i)],wb S R H d L⟩:ai)
theorem abu(S R H d)(n:Nat)(L)(m i j:Int)(pH:(aj H).all ag=true)(hn:(aoM L)=n)(h1:0<i)(h3:i≤m)(hL:n≤1000000)(gP:aoN .i64 (m-i)=m-i){Q:aY}(n0:(iJ [ab (ao L) 9,ab (aM S 2 0 3 4) 89,ak.abs d,ab (ap R) 3,ab (aj H) 114] n&&(ao6 n n&&(ao6 74 74&&(decide (0≤aoN .i64 (m-i))&&(decide (0≤i)&&(decide (aoN .i64 (m-i)+i≤m)&&decide (m+i≤(↑n:Int))))))))=true)(l3:Q .normal (GX S R H d n L m i j)):an aoL 58 5 (Bs.drop 3) (abt S R H d n L m i j) Q:=
 aZ OK 1000 (aA [3,1,1,1,1,1,1] (.leaf [] [0,1,2,3,4] [0,3,4])) (fun u=>by kernel_rfl) (aL L R H (mN n0 (mN (aV (fv (cZ (ao L)) (aoO (aoN .i64 (m-i))) (aoO m) (aoO i))) (mN (aQ R) (mN (a7 H) (mN (aV (fv (cZ (ao L)) (aoO (aoN .i64 (m-i))) (aoO m) (aoO i))) (mN (aQ R) (mN (a7 H) (mQ (an.done (by kernel_rfl) l3))))))))))
end
section
variable (S:ad) (R:List Int) (H:List aq) (d:au)
def yB(n m:Nat)(s:Nat×Nat×List ByteArray):ai:=⟨[(0,fG n),(2,iZ m),(4,fZ),(10,iZ s.1),(11,iZ s.2.1)],cU S R H d s.2.2⟩
theorem Bu{a b:Nat}(h:b≤a)(h2:a<1000000000):(.int .i64 (aoN ao2 ((a:Int)-(b:Int))):aoP)=iZ (a-b):=by
 rw[bL (by omega) (by omega)]
 show aoW .i64 _=aoW .i64 _
 congr 1
 omega
theorem abv(L:List ByteArray)(n a m b:Nat)(hn:L.length=n)(hL:n≤1000000)(oZ:a<m)(o5:m<b)(hb:b≤n):
 aI aoL 134 [fG n,iZ a,iZ m,iZ b,fZ] (cU S R H d L) fun r o=>r=.ret (.tuple #[])∧o=cU S R H d (gA L a m b):=by
 have pH:=a7 H
 refine aI.cY (n:=cp aoL 134) (by kernel_rfl) ?_
 apply abn S R H d n L a m b pH hn (bL (by omega) (by omega)) (bL (by omega) (by omega))
 ·
  have e:GW S R H d n L a m b=yB S R H d n m (m-a,b-m,L):=by unfold GW yB;rw[Bu (by omega) (by omega),Bu (by omega) (by omega)];rfl
  rw[e]
  refine an.eO 2 0 (by kernel_rfl) ?_
  refine an.fL (yB S R H d n m) (fun s=>s.1+s.2.1) (fun s=>mI L a m b s.1 s.2.1 s.2.2) (m-a,b-m,L) (by kernel_rfl) (mI.start oZ o5 (by omega)) ?_
  rintro⟨i,j,M⟩ hs
  dsimp only at hs
  obtain⟨gg,vD,abw⟩:=hs.bounds (by omega) (by omega) (by omega)
  rw[hn]at gg
  have hO:=wa (S:=S) (R:=R) (H:=H) (d:=d) (L:=M) rfl gg hL
  unfold cU at hO
  have u7:=hs.i0
  have tk:=hs.j0
  apply abq S R H d n M m i j pH gg
  case l4=>
   intro g
   have iC:i=j:=by have:(i:Int)=j:=by simpa using g
                   omega
   subst iC
   obtain⟨e1,e2,e3,e4⟩:=hs.done (by omega)
   with_reducible (repeat first|refine QL.ret ?_|refine QL.exit ?_|refine QB.ret ?_|refine QB.cx ?_|refine QB.normal ?_|refine QB.cG (by rfl) ?_)
   apply abu S R H d n M m i i pH gg (by omega) (by omega) hL (bL (by omega) (by omega))
   case n0=>
    rw[bL (by omega) (by omega),hO]
    simp only[arz,apY,ao3,decide_eq_true_eq]
    omega
   case l3=>
    have e5:GX S R H d n M m i i=⟨[],cU S R H d (gA L a m b)⟩:=by
     unfold GX
     rw[iI,bL (by omega) (by omega),show((m:Int)-(i:Int)).toNat=m-i by omega,show((m:Int)).toNat=m by omega,show((i:Int)).toNat=i by omega,e1]
     rfl
    rw[e5]
    exact aJ.normal (vs:=[]) (l:=[]) (bs:=[0,1,2,3,4]) (pl:=[0,3,4]) (q:=[ao (gA L a m b),ap R,aj H]) (fun u=>by kernel_rfl) (by kernel_rfl) (aF (by simp) (aF (by simp) (aF pH bi))) ⟨rfl,rfl⟩
  case l3=>
   intro g
   have iC:i≠j:=by have:¬(i:Int)=j:=by simpa using g
                   omega
   refine an.eO 2 1 (by kernel_rfl) ?_
   apply abr S R H d n M m i j pH gg (by omega) (by omega) (by omega) (by omega) hL (bL (by omega) (by omega)) (bL (by omega) (by omega)) (bL (by omega) (by omega)) (bL (by omega) (by omega)) (bL (by omega) (by omega))
   case n0=>
    intro g1
    have g1:=of_decide_eq_true g1
    rw[bL (by omega) (by omega),hO]
    simp only[arz,apY,ao3,decide_eq_true_eq]
    omega
   case n4=>
    intro g1
    have g1:=of_decide_eq_false g1
    rw[bL (z:=(m:Int)-i) (by omega) (by omega),bL (z:=(m:Int)+j) (by omega) (by omega),bL (by omega) (by omega),hO]
    simp only[arz,apY,ao3,decide_eq_true_eq]
    omega
   case l3=>
    intro g1
    have g1:=of_decide_eq_true g1
    obtain⟨q1,q2,q3⟩:=hs.left (by omega) (by omega)
    with_reducible (repeat first|refine QL.ret ?_|refine QL.exit ?_|refine QB.ret ?_|refine QB.cx ?_|refine QB.normal ?_|refine QB.cG (by rfl) ?_)
    refine an.done (by kernel_rfl) ?_
    refine QL.to (i-j,j,fv M (m-i) m j) q1 (by dsimp only;omega) ?_
    unfold OM yB
    rw[iI,Bu (by omega) (by omega),bL (by omega) (by omega),show((m:Int)-(i:Int)).toNat=m-i by omega,show((m:Int)).toNat=m by omega,show((j:Int)).toNat=j by omega]
    rfl
   case l5=>
    intro g1
    have g1:=of_decide_eq_false g1
    obtain⟨q1,q2,q3⟩:=hs.right (by omega) (by omega)
    with_reducible (repeat first|refine QL.ret ?_|refine QL.exit ?_|refine QB.ret ?_|refine QB.cx ?_|refine QB.normal ?_|refine QB.cG (by rfl) ?_)
    refine an.done (by kernel_rfl) ?_
    refine QL.to (i,j-i,fv M (m-i) (m+j-i) i) q1 (by dsimp only;omega) ?_
    unfold OO yB
    rw[iI,Bu (by omega) (by omega),bL (z:=(m:Int)-i) (by omega) (by omega),bL (z:=(m:Int)+j) (by omega) (by omega),bL (by omega) (by omega),show((m:Int)-(i:Int)).toNat=m-i by omega,show((m:Int)+(j:Int)-(i:Int)).toNat=m+j-i by omega,show((i:Int)).toNat=i by omega]
    rfl
end
noncomputable def GY(a:List aoP)(o:List ak):Option (Bool×bO×List ak):=match a,o with
 | [.slice (some ⟨0,0,none⟩) n m,.int .i64 x,.int .i64 y,.int .i64 z,.func (.func f) c1 c2],ak.cells c t r::l=>match c1.toList,c2.toList with
  | [.pointer (some ⟨1,0,none⟩)],[]=>some (iJ (.cells c t r::l) n&&(ao6 m n&&(ao6 f 74&&(decide (0≤x)&&(decide (x<y)&&(decide (y<z)&&decide (z≤n)))))),.ret (.tuple #[]),.cells (ao (gA (cZ c) x.toNat y.toNat z.toNat)) t r::l)
  |_,_=>none
 |_,_=>none
theorem abx:bB aoL 134 (Sum.dp aoL GY):=bB.dp fun a o r o' hg=>by
 unfold GY at hg
 split at hg
 ·rename_i n m x y z f c1 c2 c t ro l
  split at hg
  ·rename_i h1 h2
   simp only[aoU,aoX,ao3,decide_eq_true_eq]at hg
   obtain⟨⟨g1,g2,g3,g4,g5,g6,g7⟩,rfl,rfl⟩:=hg
   have g2:=apa g2
   have g3:=apa g3
   obtain⟨S,R,H,d,L,he,hl,hn⟩:=@of_decide_eq_true _ (apj _) g1
   have e1:c1= #[.pointer (some ⟨1,0,none⟩)]:=by rw[←ap1 (xs:=c1),h1]
   have e2:c2= #[]:=by rw[←ap1 (xs:=c2),h2]
   subst g2 g3 e1 e2
   obtain⟨x,rfl⟩:=aqn g4
   obtain⟨y,rfl⟩:=aqn (show 0≤y by omega)
   obtain⟨z,rfl⟩:=aqn (show 0≤z by omega)
   unfold cU at he
   injection he with o6 eT
   injection o6 with hc ht hr
   subst hc ht hr eT
   refine(abv S R H d L _ x y z hl hn (by omega) (by omega) (by omega)).mono ?_
   rintro r o ⟨rfl,rfl⟩
   exact⟨rfl,by rw[iI];rfl⟩
  ·cases hg
 ·cases hg
end Go.Proofs.YtnlkkgpcikkpoaaGreat
namespace Go.Proofs.YtnlkkgpcikkpoaaGreat
section
variable {α:Type} {c:α→α→Int}
structure lp(c:α→α→Int)(X:List α)(x:α)(i j:Nat):Prop where
 iC:i≤j
 hj:j≤X.length
 lo:∀k y,k<i→X[k]?=some y→fN c y x=true
 hi:∀k y,j≤k→X[k]?=some y→fN c x y=true
theorem lp.start(c:α→α→Int)(X:List α)(x:α):lp c X x 0 X.length:=
 ⟨apN _,apn _,fun _ _ h=>absurd h (Nat.not_lt_zero _),fun k y h hy=>by have:=(ao0.1 hy).1;omega⟩
theorem lp.up{X:List α}{x y:α}{i j h:Nat}(B:lp c X x i j)(t:TO c)(hX:dF c X)(h1:i≤h)(h2:h<j)(hy:X[h]?=some y)(hl:fN c y x=true):lp c X x (h+1) j:=
 ⟨by omega,B.hj,fun k z hk hz=>t.le_trans (Bk hX t (by omega) hz hy) hl,B.hi⟩
theorem lp.down{X:List α}{x y:α}{i j h:Nat}(B:lp c X x i j)(t:TO c)(hX:dF c X)(h1:i≤h)(h2:h<j)(hy:X[h]?=some y)(hl:fN c x y=true):lp c X x i h:=
 ⟨h1,by have:=B.hj;omega,B.lo,fun k z hk hz=>t.le_trans hl (Bk hX t hk hy hz)⟩
theorem lp.done{X:List α}{x:α}{i:Nat}(B:lp c X x i i)(t:TO c)(hX:dF c X):X.take i++(x::X.drop i)=bK c (X++[x]):=
 Oz t hX B.hj B.lo B.hi
theorem yC{L:List α}{a b k:Nat}(h:a+k<b):(aR L a b)[k]?=L[a+k]? :=by
 unfold aR
 rw[List.getElem?_take_of_lt (by omega),aqb]
theorem OP{L:List α}{a:Nat}{x:α}(hx:L[a]?=some x):aR L a (a+1)=[x]:=by
 unfold aR;rw[show a+1-a=1 by omega,(pU hx).2];rfl
theorem aby{L:List α}{a b i:Nat}{x:α}(t:TO c)(hb:a+1≤b)(hx:L[a]?=some x)(hX:dF c (aR L (a+1) b))(B:lp c (aR L (a+1) b) x i i):du (L.take a) (aR L (a+1) b) (L.drop b) x i=b9 c L a b:=by
 unfold du b9
 have e1:bK c (aR L a b)=bK c (aR L (a+1) b++[x]):=by
  refine GF t ?_
  rw[nm L (m:=a+1) (by omega) hb,OP hx]
  exact asJ
 rw[e1,←B.done t hX]
 simp only[api,aqK]
theorem abz{L:List α}{a b:Nat}{x:α}(hb:a+1≤b)(hx:L[a]?=some x):du (L.take a) (aR L (a+1) b) (L.drop b) x 0=L:=by
 unfold du
 conv=>rhs;rw[sr L (show a≤b by omega),nm L (m:=a+1) (by omega) hb,OP hx]
 simp only[ar0,as9,aqw,api,aqK]
theorem abA{L:List α}{a m i:Nat}{x:α}(t:TO c)(hm:a≤m)(hx:L[m]?=some x)(hX:dF c (aR L a m))(B:lp c (aR L a m) x i i):du (L.take a) (aR L a m) (L.drop (m+1)) x i=b9 c L a (m+1):=by
 unfold du b9
 have e1:bK c (aR L a (m+1))=bK c (aR L a m++[x]):=by rw[Bq hm hx]
 rw[e1,←B.done t hX]
 simp only[api,aqK]
theorem abB{L:List α}{a m:Nat}{x:α}(hm:a≤m)(cy:m<L.length)(hx:L[m]?=some x):du (L.take a) (aR L a m) (L.drop (m+1)) x (m-a)=L:=by
 unfold du
 have hl:(aR L a m).length=m-a:=jp hm (by omega)
 conv=>rhs;rw[sr L (show a≤m+1 by omega),Bq hm hx]
 rw[←hl,List.take_length,asD]
 simp only[aqw,api,aqK]
theorem abC{T S D:List α}{x:α}{j:Nat}(h:j<S.length):(du T S D x j)[T.length+j+1]?=S[j]? :=by
 unfold du
 rw[apz (by omega),show T.length+j+1-T.length=j+1 by omega,apz (by simp;omega)]
 simp only[apI]
 rw[show j+1-min j S.length=1 by omega,List.getElem?_cons_succ,List.getElem?_append_left (by rw[ap0];omega),aqb]
 simp
theorem abD{T S D:List α}{x y:α}{j:Nat}(h:j<S.length)(hy:S[j]?=some y):((du T S D x j).set (T.length+j) y).set (T.length+j+1) x=du T S D x (j+1):=by
 obtain⟨e1,e2⟩:=pU hy
 have a1:du T S D x (j+1)=(T++S.take j)++(y::x::(S.drop (j+1)++D)):=by unfold du;rw[e1];simp
 have a2:du T S D x j=(T++S.take j)++(x::y::(S.drop (j+1)++D)):=by unfold du;rw[e2];simp
 have hl:(T++S.take j).length=T.length+j:=by rw[ao5,apI];omega
 rw[a1,a2,Bp hl]
 have a3:(T++S.take j)++(y::y::(S.drop (j+1)++D))=((T++S.take j)++[y])++(y::(S.drop (j+1)++D)):=by simp
 rw[a3,Bp (by rw[ao5,hl];rfl)]
 simp
structure lU(c:α→α→Int)(L:List α)(a m b s r:Nat):Prop where
 DZ:s≤r
 qT:a≤s
 rm:r≤m
 me:m+r≤(a+b)/2+m
 sb:(a+b)/2+m≤s+b
 lo:∀x y,0<s→a<s→(a+b)/2+m-s<b→L[s-1]?=some x→L[(a+b)/2+m-s]?=some y→fN c x y=true
 hi:∀x y,r<m→m<(a+b)/2+m-r→L[r]?=some x→L[(a+b)/2+m-r-1]?=some y→fN c y x=true
theorem lU.start(c:α→α→Int)(L:List α){a m b:Nat}(h1:a<m)(h2:m<b):lU c L a m b (if m>(a+b)/2 then(a+b)/2+m-b else a) (if m>(a+b)/2 then(a+b)/2 else m):=by
 by_cases h:m>(a+b)/2
 ·rw[if_pos h,if_pos h]
  refine⟨by omega,by omega,by omega,by omega,by omega,fun x y _ _ h3=>by omega,fun x y _ h3=>by omega⟩
 ·rw[if_neg h,if_neg h]
  refine⟨by omega,by omega,by omega,by omega,by omega,fun x y _ h3=>by omega,fun x y h3=>by omega⟩
theorem lU.up{L:List α}{a m b s r h:Nat}(S:lU c L a m b s r)(h1:s≤h)(h2:h<r){x y:α}(hx:L[h]?=some x)(hy:L[(a+b)/2+m-1-h]?=some y)(hl:fN c x y=true):lU c L a m b (h+1) r:=by
 have:=S.qT;have:=S.rm;have:=S.me;have:=S.sb
 refine⟨by omega,by omega,S.rm,S.me,by omega,fun x' y' _ _ _ gy kA=>?_,S.hi⟩
 rw[show h+1-1=h by omega,hx]at gy
 rw[show(a+b)/2+m-(h+1)=(a+b)/2+m-1-h by omega,hy]at kA
 cases gy;cases kA;exact hl
theorem lU.down{L:List α}{a m b s r h:Nat}(S:lU c L a m b s r)(h1:s≤h)(h2:h<r){x y:α}(hx:L[h]?=some x)(hy:L[(a+b)/2+m-1-h]?=some y)(hl:fN c y x=true):lU c L a m b s h:=by
 have:=S.qT;have:=S.rm;have:=S.me;have:=S.sb
 refine⟨by omega,S.qT,by omega,by omega,S.sb,S.lo,fun x' y' _ _ gy kA=>?_⟩
 rw[hx]at gy
 rw[show(a+b)/2+m-h-1=(a+b)/2+m-1-h by omega,hy]at kA
 cases gy;cases kA;exact hl
theorem we(t:TO c){L:List α}{a b i j:Nat}{x y:α}(hS:dF c (aR L a b))(h1:a≤i)(h2:i≤j)(h3:j<b)(hx:L[i]?=some x)(hy:L[j]?=some y):fN c x y=true:=by
 refine Bk hS t (i:=i-a) (j:=j-a) (by omega) ?_ ?_
 ·rw[yC (by omega),show a+(i-a)=i by omega];exact hx
 ·rw[yC (by omega),show a+(j-a)=j by omega];exact hy
theorem OQ{L:List α}{a b:Nat}{x:α}(h:x∈aR L a b):∃i,a≤i∧i<b∧L[i]?=some x:=by
 obtain⟨k,hk⟩:=List.getElem?_of_mem h
 have hl:=(ao0.1 hk).1
 unfold aR at hl
 rw[apI]at hl
 rw[yC (by omega)]at hk
 exact⟨a+k,by omega,by omega,hk⟩
theorem lU.done{L:List α}{a m b s:Nat}(S:lU c L a m b s s)(t:TO c)(hb:b≤L.length)(h1:a<m)(h2:m<b)(hX:dF c (aR L a m))(hY:dF c (aR L m b)):
 ∀x∈aR L a s++aR L m ((a+b)/2+m-s),∀y∈aR L s m++aR L ((a+b)/2+m-s) b,fN c x y=true:=by
 have h3:=S.qT;have h4:=S.rm;have h5:=S.me;have h6:=S.sb
 intro x hx y hy
 rcases apo.1 hx with hx|hx<;>rcases apo.1 hy with hy|hy<;>obtain⟨i,i1,i2,hx⟩:=OQ hx<;>obtain⟨j,j1,j2,hy⟩:=OQ hy
 ·exact we t hX i1 (by omega) j2 hx hy
 ·obtain⟨u,hu⟩:∃u,L[s-1]?=some u:=⟨_,aoV (by omega)⟩
  obtain⟨v,hv⟩:∃v,L[(a+b)/2+m-s]?=some v:=⟨_,aoV (by omega)⟩
  refine t.le_trans (we t hX i1 (show i≤s-1 by omega) (by omega) hx hu) (t.le_trans (S.lo u v (by omega) (by omega) (by omega) hu hv) ?_)
  exact we t hY (by omega) j1 j2 hv hy
 ·obtain⟨u,hu⟩:∃u,L[s]?=some u:=⟨_,aoV (by omega)⟩
  obtain⟨v,hv⟩:∃v,L[(a+b)/2+m-s-1]?=some v:=⟨_,aoV (by omega)⟩
  refine t.le_trans (we t hY i1 (show i≤(a+b)/2+m-s-1 by omega) (by omega) hx hv) (t.le_trans (S.hi u v (by omega) (by omega) hu hv) ?_)
  exact we t hX (by omega) j1 j2 hu hy
 ·exact we t hY i1 (by omega) j2 hx hy
theorem abE{L:List α}{a m b:Nat}(h1:a≤m)(h2:m≤b)(h:a=m∨m=b):gA L a m b=L:=by
 have e0:∀x,aR L x x=[]:=fun x=>by unfold aR;rw[arr,ar0]
 unfold gA
 conv=>rhs;rw[sr L (show a≤b by omega),nm L h1 h2]
 rcases h with rfl|rfl
 ·rw[e0];simp
 ·rw[e0];simp
theorem abF{L:List α}{a s m e b:Nat}(h1:a≤s)(h2:s≤m)(h3:m≤e)(h4:e≤b)(hb:b≤L.length):gA L s m e=L.take a++((aR L a s++aR L m e)++((aR L s m++aR L e b)++L.drop b)):=by
 unfold gA
 have e1:L.take s=L.take a++aR L a s:=by
  unfold aR
  conv=>lhs;rw[show s=a+(s-a)by omega,List.take_add]
 have e2:L.drop e=aR L e b++L.drop b:=by
  unfold aR
  have:L.drop b=(L.drop e).drop (b-e):=by rw[ap2,show e+(b-e)=b by omega]
  rw[this,ap6]
 rw[e1,e2]
 simp only[api]
structure OS(c:α→α→Int)(L:List α)(a m b s d e:Nat):Prop where
 h1:a≤s
 h2:s≤m
 h3:m≤e
 h4:e≤b
 hd:d=s+(e-m)
 x1:dF c (aR (gA L s m e) a s)
 x2:dF c (aR (gA L s m e) s d)
 y1:dF c (aR (b9 c (gA L s m e) a d) d e)
 y2:dF c (aR (b9 c (gA L s m e) a d) e b)
 fin:b9 c (b9 c (gA L s m e) a d) d b=b9 c L a b
theorem lU.three{L:List α}{a m b s:Nat}(S:lU c L a m b s s)(t:TO c)(hb:b≤L.length)(h1:a<m)(h2:m<b)(hX:dF c (aR L a m))(hY:dF c (aR L m b)):
 OS c L a m b s ((a+b)/2) ((a+b)/2+m-s):=by
 have abG:=S.done t hb h1 h2 hX hY
 have h3:=S.qT;have h4:=S.rm;have h5:=S.me;have h6:=S.sb
 generalize he:(a+b)/2+m-s=e at*
 generalize hd:(a+b)/2=d at*
 have hM:=abF (L:=L) (a:=a) (s:=s) (m:=m) (e:=e) (b:=b) h3 h4 (by omega) (by omega) hb
 have lT:(L.take a).length=a:=by rw[apI];omega
 have l1:(aR L a s).length=s-a:=jp h3 (by omega)
 have l2:(aR L m e).length=e-m:=jp (by omega) (by omega)
 have l3:(aR L s m).length=m-s:=jp (by omega) (by omega)
 have l4:(aR L e b).length=b-e:=jp (by omega) (by omega)
 have Bv:∀{x y z w:Nat},x≤z→z≤w→w≤y→dF c (aR L x y)→dF c (aR L z w):=fun q1 q2 q3 hs=>by
  rw[nm L (m:=_) q1 (by omega),nm L (a:=_) q2 q3]at hs
  exact(ar5.1 (ar5.1 hs).2.1).1
 have mD:dF c (aR L a s):=Bv (apn _) h3 h4 hX
 have rT:dF c (aR L m e):=Bv (apn _) (by omega) (by omega) hY
 have GZ:dF c (aR L s m):=Bv h3 h4 (apn _) hX
 have abH:dF c (aR L e b):=Bv (by omega) (by omega) (apn _) hY
 have hA:b9 c (gA L s m e) a d=L.take a++(bK c (aR L a s++aR L m e)++((aR L s m++aR L e b)++L.drop b)):=by
  rw[hM];exact vZ lT (by omega) (by rw[ao5];omega)
 have lS:(bK c (aR L a s++aR L m e)).length=d-a:=by rw[nU,ao5];omega
 have OT:(L.take a++bK c (aR L a s++aR L m e)).length=d:=by rw[ao5];omega
 refine⟨h3,h4,by omega,by omega,by omega,?_,?_,?_,?_,?_⟩
 ·rw[hM,api]
  have:=nV (T:=L.take a) (X:=aR L a s) (D:=aR L m e++((aR L s m++aR L e b)++L.drop b)) (a:=a) (b:=s) lT l1
  rw[this];exact mD
 ·rw[hM,api,←api]
  have:=nV (T:=L.take a++aR L a s) (X:=aR L m e) (D:=(aR L s m++aR L e b)++L.drop b) (a:=s) (b:=d) (by rw[ao5];omega) (by omega)
  rw[this];exact rT
 ·rw[hA,←api,api (aR L s m)]
  have:=nV (T:=L.take a++bK c (aR L a s++aR L m e)) (X:=aR L s m) (D:=aR L e b++L.drop b) (a:=d) (b:=e) OT (by omega)
  rw[this];exact GZ
 ·rw[hA,←api,api (aR L s m),←api _ (aR L s m)]
  have:=nV (T:=(L.take a++bK c (aR L a s++aR L m e))++aR L s m) (X:=aR L e b) (D:=L.drop b) (a:=e) (b:=b) (by rw[ao5];omega) (by omega)
  rw[this];exact abH
 ·rw[hA,←api,vZ OT (by omega) (by rw[ao5];omega)]
  unfold b9
  have e1:bK c (aR L a b)=bK c (aR L a s++aR L m e)++bK c (aR L s m++aR L e b):=by
   rw[←aaJ t abG]
   refine GF t ?_
   rw[nm L (m:=m) (by omega) (by omega),nm L (m:=s) h3 h4,nm L (a:=m) (m:=e) (by omega) (by omega)]
   simp only[api]
   refine List.Perm.append_left _ ?_
   rw[←api,←api]
   exact List.Perm.append_right _ asJ
  rw[e1]
  simp only[api]
theorem OU(t:TO c){L:List α}{a s b:Nat}(h1:a≤s)(h2:s≤b)(h:a=s∨s=b)(hx:dF c (aR L a s))(hy:dF c (aR L s b)):b9 c L a b=L:=by
 have e0:∀x,aR L x x=[]:=fun x=>by unfold aR;rw[arr,ar0]
 have:bK c (aR L a b)=aR L a b:=by
  refine GD t ?_
  rcases h with rfl|rfl
  ·exact hy
  ·exact hx
 unfold b9
 rw[this]
 exact(sr L (by omega)).symm
theorem abI{L:List α}{a m b:Nat}(h1:a≤m)(h2:m≤b)(hb:b≤L.length):(gA L a m b).length=L.length:=by
 unfold gA
 simp only[ao5]
 rw[jp (by omega) (by omega),jp (by omega) (by omega),apI,ap0]
 omega
end
end Go.Proofs.YtnlkkgpcikkpoaaGreat
namespace Go.Proofs.YtnlkkgpcikkpoaaGreat
open Go Vm Go.RowKit
def OV(c:ByteArray→ByteArray→Int)(L:List ByteArray)(n:Nat)(a m b:Int)(N:Nat):Prop:=0≤a∧a<m∧m<b∧b≤n∧b-a≤N∧dF c (aR L a.toNat m.toNat)∧dF c (aR L m.toNat b.toNat)
noncomputable def uk(c:ByteArray→ByteArray→Int)(L:List ByteArray)(n:Nat)(a m b:Int)(N:Nat):Bool:=@decide (OV c L n a m b N) (apj _)
theorem yD{c:ByteArray→ByteArray→Int}{L:List ByteArray}{n:Nat}{a m b:Int}{N:Nat}:uk c L n a m b N=true↔OV c L n a m b N:=by
 unfold uk;exact @decide_eq_true_iff _ (apj _)
noncomputable def nX(N:Nat)(a:List aoP)(o:List ak):Option (Bool×bO×List ak):=match a,o with
 | [.slice (some ⟨0,0,none⟩) n m,.int .i64 x,.int .i64 y,.int .i64 z,.func (.func f) c1 c2],ak.cells c t r::ak.cells e t2 r2::l=>match c1.toList,c2.toList with
  | [.pointer (some ⟨1,0,none⟩)],[]=>match(e[70]?:Option aoP)with
   |some (.bool fl)=>some (iJ (.cells c t r:: .cells e t2 r2::l) n&&(ao6 m n&&(ao6 f 74&&uk (ba fl) (cZ c) n x y z N)),.ret (.tuple #[]),.cells (ao (b9 (ba fl) (cZ c) x.toNat z.toNat)) t r:: .cells e t2 r2::l)
   |_=>none
  |_,_=>none
 |_,_=>none
theorem OW(N:Nat)(hf:∀(S:ad) (R:List Int) (H:List aq) (d:au) (L:List ByteArray) (n a m b:Nat),L.length=n→n≤1000000→a<m→m<b→b≤n→b-a≤N→dF (ba S.aD) (aR L a m)→dF (ba S.aD) (aR L m b)→
 aI aoL 122 [fG n,iZ a,iZ m,iZ b,fZ] (cU S R H d L) fun r o=>r=.ret (.tuple #[])∧o=cU S R H d (b9 (ba S.aD) L a b)):
 bB aoL 122 (Sum.dp aoL (nX N)):=bB.dp fun a o r o' hg=>by
 unfold nX at hg
 split at hg
 ·rename_i n m x y z f c1 c2 c t ro e t2 r2 l
  split at hg
  ·rename_i h1 h2
   split at hg
   ·rename_i fl fQ
    simp only[aoU,aoX,ao3,yD]at hg
    obtain⟨⟨g1,g2,g3,g4⟩,rfl,rfl⟩:=hg
    have g2:=apa g2
    have g3:=apa g3
    obtain⟨S,R,H,d,L,he,hl,hn⟩:=@of_decide_eq_true _ (apj _) g1
    have e1:c1= #[.pointer (some ⟨1,0,none⟩)]:=by rw[←ap1 (xs:=c1),h1]
    have e2:c2= #[]:=by rw[←ap1 (xs:=c2),h2]
    subst g2 g3 e1 e2
    obtain⟨p1,p2,p3,p4,p5,p6,p7⟩:=g4
    obtain⟨x,rfl⟩:=aqn p1
    obtain⟨y,rfl⟩:=aqn (show 0≤y by omega)
    obtain⟨z,rfl⟩:=aqn (show 0≤z by omega)
    unfold cU at he
    injection he with o6 eT
    injection eT with eT qU
    injection o6 with hc ht hr
    injection eT with gM mz eL
    subst hc ht hr gM mz eL qU
    have:(aM S 2 0 3 4)[70]?=some (.bool S.aD):=rfl
    rw[this]at fQ
    cases fQ
    rw[iI]at p6 p7
    refine(hf S R H d L _ x y z hl hn (by omega) (by omega) (by omega) (by omega) p6 p7).mono ?_
    rintro r o ⟨rfl,rfl⟩
    exact⟨rfl,by rw[iI];rfl⟩
   ·cases hg
  ·cases hg
 ·cases hg
noncomputable def abJ(N:Nat):List (apr×Sum):=[(134,Sum.dp aoL GY),(122,Sum.dp aoL (nX N))]
theorem G0(N:Nat)(h:bB aoL 122 (Sum.dp aoL (nX N))):dk aoL (dB aoL (dE (abJ N)) 50 40):=dI de mixed (dR (.cons abx (.cons h .nil))) 50 40
noncomputable section
noncomputable def mJ:List apw:=bd (dC aoL 122)
open Tree renaming aW→mN,dn→mF,eS→mL,fA→mQ,dD→mR,fK→mE
noncomputable abbrev Bw:List apw:=(mJ.drop 3)
noncomputable abbrev ul:List apw:=(bd (pE true Bw))
noncomputable abbrev Bx:List apw:=(mJ.drop 1)
noncomputable abbrev um:List apw:=(bd (pE true Bx))
noncomputable abbrev G1:List apw:=(bd (inner (bd (inner (mJ.drop 10)))))
noncomputable abbrev G2:List apw:=(bd (inner (bd (inner (um.drop 4)))))
noncomputable abbrev G3:List apw:=(bd (inner (bd (inner (um.drop 2)))))
noncomputable abbrev G4:List apw:=(bd (inner (bd (inner (ul.drop 4)))))
noncomputable abbrev G5:List apw:=(bd (inner (bd (inner (ul.drop 2)))))
noncomputable abbrev Bz:List apw:=(mJ.drop 14)
noncomputable abbrev BA:List apw:=(mJ.drop 11)
noncomputable abbrev G6:List apw:=(bd (inner (G1.drop 2)))
noncomputable abbrev abK:List apw:=(mJ.drop 16)
def OX:Nat→Bool→Bool→Tree→Tree
 |0,_,_,t=>t
 |n+1,d,b,t=>.cM d b (OX n d b t)
theorem wg{R:bj→ai→Prop}{c v:Bool}{t:Tree}(n:Nat)(h1:c=v)(h2:t.ok R):(OX n c v t).ok R:=by
 induction n with
 |zero=>exact h2
 |succ n ih=>exact⟨h1,ih⟩
abbrev dv:=fun S R H d L=>([ab (ao L) 9,ab (aM S 2 0 3 4) 89,.abs d,ab (ap R) 3,ab (aj H) 114]:List ak)
abbrev yE:=fun S R H d (n:Nat) L (a m b:Int)=>(⟨[(0,ah 0 n),(1,aa a),(2,aa m),(3,aa b),(4,.func (.func 74) #[al 1] #[]),(28,.bool (aoN .i64 (m-a)==1))],dv S R H d L⟩:ai)
abbrev abL:=fun S R H d (n:Nat) L (a m b:Int)=>(⟨[(0,ah 0 n),(1,aa a),(2,aa m),(3,aa b),(4,.func (.func 74) #[al 1] #[])],dv S R H d L⟩:ai)
theorem abM(S R H d)(n:Nat)(L)(a m b:Int)(pH:(aj H).all ag=true)(hn:(aoM L)=n)(h0:aoN .i64 (m-a)=m-a){Q:aY}(l3:an aoL 220 5 Bx (yE S R H d n L a m b) Q):an aoL 220 5 mJ (abL S R H d n L a m b) Q:=
 aZ bt 1 (.leaf [0,1,2,3,4,28] [0,1,2,3,4] [0,3,4]) (fun u=>by kernel_rfl) (aL L R H (mQ l3))
abbrev G7:=fun S R H d (n:Nat) L (a m b:Int)=>(⟨[(0,ah 0 n),(1,aa a),(4,.func (.func 74) #[al 1] #[]),(10,aa m),(11,aa b)],dv S R H d L⟩:ai)
abbrev abN:=fun S R H d (n:Nat) L (a m b:Int)=>(⟨[(0,ah 0 n),(1,aa a),(2,aa m),(3,aa b),(4,.func (.func 74) #[al 1] #[]),(28,.bool true)],dv S R H d L⟩:ai)
theorem abO(S R H d)(n:Nat)(L)(a m b:Int)(pH:(aj H).all ag=true)(hn:(aoM L)=n){Q:aY}(l3:an aoL 220 5 (um.drop 2) (G7 S R H d n L a m b) Q):an aoL 220 5 um (abN S R H d n L a m b) Q:=
 aZ bt 2 (.leaf [0,1,4,10,11] [0,1,2,3,4] [0,3,4]) (fun u=>by kernel_rfl) (aL L R H (mQ l3))
abbrev abP:=fun S R H d (n:Nat) L (a i j:Int)=>(⟨[(0,ah 0 n),(1,aa a),(4,.func (.func 74) #[al 1] #[]),(10,aa i),(11,aa j)],dv S R H d L⟩:ai)
abbrev abQ:=fun S R H d (n:Nat) L (a i j:Int)=>(⟨[(0,ah 0 n),(1,aa a),(10,aa i)],dv S R H d L⟩:ai)
abbrev OY:=fun S R H d (n:Nat) L (a i j:Int)=>(⟨[(0,ah 0 n),(1,aa a),(4,.func (.func 74) #[al 1] #[]),(10,aa i),(11,aa j)],dv S R H d L⟩:ai)
theorem abR(S R H d)(n:Nat)(L)(a i j:Int)(pH:(aj H).all ag=true)(hn:(aoM L)=n){Q:aY}(l3:(decide (i<j))=true→an aoL 220 5 (G3.drop 2) (abP S R H d n L a i j) Q)(l4:(decide (i<j))=false→Q (.exit 0) (abQ S R H d n L a i j)):an aoL 220 5 G3 (OY S R H d n L a i j) Q:=
 aZ bt 2 (.fork 0 (.leaf [0,1,4,10,11] [0,1,2,3,4] [0,3,4]) (.leaf [0,1,10] [0,1,2,3,4] [0,3,4])) (fun u=>by kernel_rfl) (mF (c:=decide (i<j)) (fun h0=>(aL L R H (mQ (l3 h0)))) (fun h0=>(aL L R H (mE 0 (l4 h0)))))
abbrev OZ:=fun S R H d (n:Nat) L (a i j:Int)=>(⟨[(0,ah 0 n),(1,aa a),(4,.func (.func 74) #[al 1] #[]),(10,.int .i64 (aoN .i64 (aoN .i64 (aqi (aoN apF (aoN .i64 (i+j))) 2)+1))),(11,aa j)],dv S R H d L⟩:ai)
abbrev O0:=fun S R H d (n:Nat) L (a i j:Int)=>(⟨[(0,ah 0 n),(1,aa a),(4,.func (.func 74) #[al 1] #[]),(10,aa i),(11,.int .i64 (aoN .i64 (aqi (aoN apF (aoN .i64 (i+j))) 2)))],dv S R H d L⟩:ai)
theorem abS(S R H d)(n:Nat)(L)(a i j:Int)(pH:(aj H).all ag=true)(hn:(aoM L)=n)(h0:0≤i)(h1:0≤j)(h2:i<2000000)(h3:j<2000000)(h4:aoN .i64 (i+j)=i+j)(h5:i<j)(h6:j≤n)(h7:0≤a)(h8:a<n)(h9:n≤1000000){Q:aY}(n0:(decide (0≤aoN .i64 (aqi (aoN apF (aoN .i64 (i+j))) 2)))=true)(n1:(ao9 (aoO (aoN .i64 (aqi (aoN apF (aoN .i64 (i+j))) 2))) n)=true)(n2:(eQ (ao L) (0+aoO (aoN .i64 (aqi (aoN apF (aoN .i64 (i+j))) 2))*1))=true)(n3:(eQ (ao L) (0+aoO a*1))=true)(n4:(qS [ab (aM S 1 2 3 4) 89,ak.abs d,ab (ao L) 9,ab (ap R) 3,ab (aj H) 114])=true)(l8:(decide (ba (ad.aD S) (bc (ao L) (0+aoO (aoN .i64 (aqi (aoN apF (aoN .i64 (i+j))) 2))*1)) (bc (ao L) (0+aoO a*1))<0))=true→Q .normal (OZ S R H d n L a i j))(l9:(decide (ba (ad.aD S) (bc (ao L) (0+aoO (aoN .i64 (aqi (aoN apF (aoN .i64 (i+j))) 2))*1)) (bc (ao L) (0+aoO a*1))<0))=false→Q .normal (O0 S R H d n L a i j)):an aoL 220 5 (bd (inner (G3.drop 2))) (OY S R H d n L a i j) Q:=
 aZ su 1000 (aA [4,1,1,0,1,0,1,1,0,1,3,1,1,1,1,1,1] (.fork 0 (.leaf [0,1,4,10,11] [0,1,2,3,4] [0,3,4]) (.leaf [0,1,4,10,11] [0,1,2,3,4] [0,3,4]))) (fun u=>by kernel_rfl) (mN n0 (mN n1 (mN n2 (mN (decide_eq_true (by omega):(decide (0≤a))=true) (mN (show(ao9 (aoO a) n)=true by simp at pH hn h0 h1 h2 h3 h4 h5 h6 h7 h8 h9⊢ <;>omega) (mN n3 (aL L R H (mN n4 (aL L R H (mF (c:=decide (ba (ad.aD S) (bc (ao L) (0+aoO (aoN .i64 (aqi (aoN apF (aoN .i64 (i+j))) 2))*1)) (bc (ao L) (0+aoO a*1))<0)) (fun h0=>(aL L R H (mQ (an.done (by kernel_rfl) (l8 h0))))) (fun h0=>(aL L R H (mQ (an.done (by kernel_rfl) (l9 h0)))))))))))))))
abbrev G8:=fun S R H d (n:Nat) L (a i:Int)=>(⟨[(0,ah 0 n),(10,aa i),(13,aa a)],dv S R H d L⟩:ai)
abbrev abT:=fun S R H d (n:Nat) L (a i:Int)=>(⟨[(0,ah 0 n),(1,aa a),(10,aa i)],dv S R H d L⟩:ai)
theorem abU(S R H d)(n:Nat)(L)(a i:Int)(pH:(aj H).all ag=true)(hn:(aoM L)=n){Q:aY}(l3:an aoL 220 5 ((um.drop 3).drop 1) (G8 S R H d n L a i) Q):an aoL 220 5 (um.drop 3) (abT S R H d n L a i) Q:=
 aZ bt 1 (.leaf [0,10,13] [0,1,2,3,4] [0,3,4]) (fun u=>by kernel_rfl) (aL L R H (mQ l3))
abbrev abV:=fun S R H d (n:Nat) L (i k:Int)=>(⟨[(0,ah 0 n),(10,aa i),(13,aa k)],dv S R H d L⟩:ai)
noncomputable abbrev abW(S:ad)(R:List Int)(H:List aq)(d:au)(n:Nat)(L:List ByteArray)(i k:Int):ai:=⟨[],dv S R H d L⟩
abbrev O1:=fun S R H d (n:Nat) L (i k:Int)=>(⟨[(0,ah 0 n),(10,aa i),(13,aa k)],dv S R H d L⟩:ai)
theorem abX(S R H d)(n:Nat)(L)(i k:Int)(pH:(aj H).all ag=true)(hn:(aoM L)=n)(h0:aoN .i64 (i-1)=i-1){Q:aY}(l3:(decide (k<aoN .i64 (i-1)))=true→an aoL 220 5 (G2.drop 2) (abV S R H d n L i k) Q)(l4:(decide (k<aoN .i64 (i-1)))=false→Q (.exit 2) (abW S R H d n L i k)):an aoL 220 5 G2 (O1 S R H d n L i k) Q:=
 aZ bt 2 (.fork 0 (.leaf [0,10,13] [0,1,2,3,4] [0,3,4]) (.leaf [] [0,1,2,3,4] [0,3,4])) (fun u=>by kernel_rfl) (mF (c:=decide (k<aoN .i64 (i-1))) (fun h0=>(aL L R H (mQ (l3 h0)))) (fun h0=>(aL L R H (mE 2 (l4 h0)))))
abbrev O2:=fun S R H d (n:Nat) L (i k:Int)=>(⟨[(0,ah 0 n),(10,aa i),(13,.int .i64 (aoN .i64 (k+1)))],[ab (bf (bf (ao L) (0+aoO k*1) [apm (bc (ao L) (0+aoO (aoN .i64 (k+1))*1))]) (0+aoO (aoN .i64 (k+1))*1) [apm (bc (ao L) (0+aoO k*1))]) 9,ab (aM S 2 0 3 4) 89,.abs d,ab (ap R) 3,ab (aj H) 114]⟩:ai)
theorem abY(S R H d)(n:Nat)(L)(i k:Int)(pH:(aj H).all ag=true)(hn:(aoM L)=n)(h0:0≤k)(h1:k+1<n)(h2:n≤1000000)(h3:aoN .i64 (k+1)=k+1){Q:aY}(n0:(eQ (ao L) (0+aoO (aoN .i64 (k+1))*1))=true)(n1:(eQ (ao L) (0+aoO k*1))=true)(n2:(apf (0+aoO (aoN .i64 (k+1))*1+1) (aoM (bf (ao L) (0+aoO k*1) [apm (bc (ao L) (0+aoO (aoN .i64 (k+1))*1))])))=true)(aX:aoS (ap R) ag=true)(bh:aoS (aj H) ag=true)(l5:Q .normal (O2 S R H d n L i k)):an aoL 220 5 (G2.drop 2) (O1 S R H d n L i k) Q:=
 aZ bt 1000 (aA [0,1,1,0,1,0,1,1,0,1,0,1,1,0,1,0,1,1,0,1] (.leaf [0,10,13] [0,1,2,3,4] [0,3,4])) (fun u=>by kernel_rfl) (mN (decide_eq_true (by omega):(decide (0≤aoN .i64 (k+1)))=true) (mN (show(ao9 (aoO (aoN .i64 (k+1))) n)=true by simp at pH hn h0 h1 h2 h3⊢ <;>omega) (mN n0 (mN (decide_eq_true (by omega):(decide (0≤k))=true) (mN (show(ao9 (aoO k) n)=true by simp at pH hn h0 h1 h2 h3⊢ <;>omega) (mN n1 (mN (decide_eq_true (by omega):(decide (0≤k))=true) (mN (show(ao9 (aoO k) n)=true by simp at pH hn h0 h1 h2 h3⊢ <;>omega) (mN (show(apf (0+aoO k*1+1) (aoM (ao L)))=true by simp at pH hn h0 h1 h2 h3⊢ <;>omega) (mN (decide_eq_true (by omega):(decide (0≤aoN .i64 (k+1)))=true) (mN (show(ao9 (aoO (aoN .i64 (k+1))) n)=true by simp at pH hn h0 h1 h2 h3⊢ <;>omega) (mN n2 (mN (show(aoS (bf (bf (ao L) (0+aoO k*1) [apm (bc (ao L) (0+aoO (aoN .i64 (k+1))*1))]) (0+aoO (aoN .i64 (k+1))*1) [apm (bc (ao L) (0+aoO k*1))]) ag)=true by simp) (mN (aQ R) (mN (a7 H) (mQ (an.done (by kernel_rfl) l5)))))))))))))))))
noncomputable abbrev O3(S:ad)(R:List Int)(H:List aq)(d:au)(n:Nat)(L:List ByteArray):ai:=⟨[],dv S R H d L⟩
theorem abZ(S R H d)(n:Nat)(L){Q:bo}(hq:Q (.ret (.tuple #[])) (dv S R H d L)):aJ aoL 122 220 5 Q .ret (O3 S R H d n L):=aJ.ret (vs:=[]) (l:=[]) (bs:=[0,1,2,3,4]) (pl:=[0,3,4]) (q:=[ao L,ap R,aj H]) (fun u=>by kernel_rfl) (by kernel_rfl) (fY L R H bi) hq
noncomputable abbrev O4(S:ad)(R:List Int)(H:List aq)(d:au)(n:Nat)(L:List ByteArray):ai:=⟨[],dv S R H d L⟩
theorem ab0(S R H d)(n:Nat)(L)(pH:(aj H).all ag=true)(hn:(aoM L)=n){Q:aY}(l3:Q .ret (O3 S R H d n L)):an aoL 220 5 (um.drop 5) (O4 S R H d n L) Q:=
 aZ bt 1 (.leaf [] [0,1,2,3,4] [0,3,4]) (fun u=>by kernel_rfl) (aL L R H (mR l3))
noncomputable abbrev O5(S:ad)(R:List Int)(H:List aq)(d:au)(n:Nat)(L:List ByteArray):ai:=⟨[],dv S R H d L⟩
theorem ab1(S R H d)(n:Nat)(L){Q:bo}(hq:Q (.ret (.tuple #[])) (dv S R H d L)):aJ aoL 122 220 5 Q .ret (O5 S R H d n L):=aJ.ret (vs:=[]) (l:=[]) (bs:=[0,1,2,3,4]) (pl:=[0,3,4]) (q:=[ao L,ap R,aj H]) (fun u=>by kernel_rfl) (by kernel_rfl) (fY L R H bi) hq
theorem ab2(S R H d)(n:Nat)(L)(pH:(aj H).all ag=true)(hn:(aoM L)=n){Q:aY}(l3:Q .ret (O5 S R H d n L)):an aoL 220 5 (ul.drop 5) (O4 S R H d n L) Q:=
 aZ bt 1 (.leaf [] [0,1,2,3,4] [0,3,4]) (fun u=>by kernel_rfl) (aL L R H (mR l3))
abbrev yF:=fun S R H d (n:Nat) L (a m b:Int)=>(⟨[(0,ah 0 n),(1,aa a),(2,aa m),(3,aa b),(4,.func (.func 74) #[al 1] #[]),(80,.bool (aoN .i64 (b-m)==1))],dv S R H d L⟩:ai)
abbrev ab3:=fun S R H d (n:Nat) L (a m b:Int)=>(⟨[(0,ah 0 n),(1,aa a),(2,aa m),(3,aa b),(4,.func (.func 74) #[al 1] #[]),(28,.bool false)],dv S R H d L⟩:ai)
theorem ab4(S R H d)(n:Nat)(L)(a m b:Int)(pH:(aj H).all ag=true)(hn:(aoM L)=n)(h0:aoN .i64 (b-m)=b-m){Q:aY}(l3:an aoL 220 5 (Bx.drop 2) (yF S R H d n L a m b) Q):an aoL 220 5 Bx (ab3 S R H d n L a m b) Q:=
 aZ bt 2 (.leaf [0,1,2,3,4,80] [0,1,2,3,4] [0,3,4]) (fun u=>by kernel_rfl) (aL L R H (mQ l3))
abbrev G9:=fun S R H d (n:Nat) L (a m b:Int)=>(⟨[(0,ah 0 n),(2,aa m),(4,.func (.func 74) #[al 1] #[]),(14,aa a),(15,aa m)],dv S R H d L⟩:ai)
abbrev ab5:=fun S R H d (n:Nat) L (a m b:Int)=>(⟨[(0,ah 0 n),(1,aa a),(2,aa m),(3,aa b),(4,.func (.func 74) #[al 1] #[]),(80,.bool true)],dv S R H d L⟩:ai)
theorem ab6(S R H d)(n:Nat)(L)(a m b:Int)(pH:(aj H).all ag=true)(hn:(aoM L)=n){Q:aY}(l3:an aoL 220 5 (ul.drop 2) (G9 S R H d n L a m b) Q):an aoL 220 5 ul (ab5 S R H d n L a m b) Q:=
 aZ bt 2 (.leaf [0,2,4,14,15] [0,1,2,3,4] [0,3,4]) (fun u=>by kernel_rfl) (aL L R H (mQ l3))
abbrev ab7:=fun S R H d (n:Nat) L (m i j:Int)=>(⟨[(0,ah 0 n),(2,aa m),(4,.func (.func 74) #[al 1] #[]),(14,aa i),(15,aa j)],dv S R H d L⟩:ai)
abbrev ab8:=fun S R H d (n:Nat) L (m i j:Int)=>(⟨[(0,ah 0 n),(2,aa m),(14,aa i)],dv S R H d L⟩:ai)
abbrev O6:=fun S R H d (n:Nat) L (m i j:Int)=>(⟨[(0,ah 0 n),(2,aa m),(4,.func (.func 74) #[al 1] #[]),(14,aa i),(15,aa j)],dv S R H d L⟩:ai)
theorem ab9(S R H d)(n:Nat)(L)(m i j:Int)(pH:(aj H).all ag=true)(hn:(aoM L)=n){Q:aY}(l3:(decide (i<j))=true→an aoL 220 5 (G5.drop 2) (ab7 S R H d n L m i j) Q)(l4:(decide (i<j))=false→Q (.exit 4) (ab8 S R H d n L m i j)):an aoL 220 5 G5 (O6 S R H d n L m i j) Q:=
 aZ bt 2 (.fork 0 (.leaf [0,2,4,14,15] [0,1,2,3,4] [0,3,4]) (.leaf [0,2,14] [0,1,2,3,4] [0,3,4])) (fun u=>by kernel_rfl) (mF (c:=decide (i<j)) (fun h0=>(aL L R H (mQ (l3 h0)))) (fun h0=>(aL L R H (mE 4 (l4 h0)))))
abbrev O7:=fun S R H d (n:Nat) L (m i j:Int)=>(⟨[(0,ah 0 n),(2,aa m),(4,.func (.func 74) #[al 1] #[]),(14,.int .i64 (aoN .i64 (aoN .i64 (aqi (aoN apF (aoN .i64 (i+j))) 2)+1))),(15,aa j)],dv S R H d L⟩:ai)
abbrev O8:=fun S R H d (n:Nat) L (m i j:Int)=>(⟨[(0,ah 0 n),(2,aa m),(4,.func (.func 74) #[al 1] #[]),(14,aa i),(15,.int .i64 (aoN .i64 (aqi (aoN apF (aoN .i64 (i+j))) 2)))],dv S R H d L⟩:ai)
theorem aca(S R H d)(n:Nat)(L)(m i j:Int)(pH:(aj H).all ag=true)(hn:(aoM L)=n)(h0:0≤i)(h1:0≤j)(h2:i<2000000)(h3:j<2000000)(h4:aoN .i64 (i+j)=i+j)(h5:i<j)(h6:j≤n)(h7:0≤m)(h8:m<n)(h9:n≤1000000){Q:aY}(n0:(eQ (ao L) (0+aoO m*1))=true)(n1:(decide (0≤aoN .i64 (aqi (aoN apF (aoN .i64 (i+j))) 2)))=true)(n2:(ao9 (aoO (aoN .i64 (aqi (aoN apF (aoN .i64 (i+j))) 2))) n)=true)(n3:(eQ (ao L) (0+aoO (aoN .i64 (aqi (aoN apF (aoN .i64 (i+j))) 2))*1))=true)(n4:(qS [ab (aM S 1 2 3 4) 89,ak.abs d,ab (ao L) 9,ab (ap R) 3,ab (aj H) 114])=true)(l8:(!decide (ba (ad.aD S) (bc (ao L) (0+aoO m*1)) (bc (ao L) (0+aoO (aoN .i64 (aqi (aoN apF (aoN .i64 (i+j))) 2))*1))<0))=true→Q .normal (O7 S R H d n L m i j))(l9:(!decide (ba (ad.aD S) (bc (ao L) (0+aoO m*1)) (bc (ao L) (0+aoO (aoN .i64 (aqi (aoN apF (aoN .i64 (i+j))) 2))*1))<0))=false→Q .normal (O8 S R H d n L m i j)):an aoL 220 5 (bd (inner (G5.drop 2))) (O6 S R H d n L m i j) Q:=
 aZ su 1000 (aA [4,1,1,0,1,0,1,1,0,1,3,1,1,1,1,1,1] (.fork 0 (.leaf [0,2,4,14,15] [0,1,2,3,4] [0,3,4]) (.leaf [0,2,4,14,15] [0,1,2,3,4] [0,3,4]))) (fun u=>by kernel_rfl) (mN (decide_eq_true (by omega):(decide (0≤m))=true) (mN (show(ao9 (aoO m) n)=true by simp at pH hn h0 h1 h2 h3 h4 h5 h6 h7 h8 h9⊢ <;>omega) (mN n0 (mN n1 (mN n2 (mN n3 (aL L R H (mN n4 (aL L R H (mF (c:= !decide (ba (ad.aD S) (bc (ao L) (0+aoO m*1)) (bc (ao L) (0+aoO (aoN .i64 (aqi (aoN apF (aoN .i64 (i+j))) 2))*1))<0)) (fun h0=>(aL L R H (mQ (an.done (by kernel_rfl) (l8 h0))))) (fun h0=>(aL L R H (mQ (an.done (by kernel_rfl) (l9 h0)))))))))))))))
abbrev Ha:=fun S R H d (n:Nat) L (m i:Int)=>(⟨[(0,ah 0 n),(14,aa i),(17,aa m)],dv S R H d L⟩:ai)
abbrev acb:=fun S R H d (n:Nat) L (m i:Int)=>(⟨[(0,ah 0 n),(2,aa m),(14,aa i)],dv S R H d L⟩:ai)
theorem acd(S R H d)(n:Nat)(L)(m i:Int)(pH:(aj H).all ag=true)(hn:(aoM L)=n){Q:aY}(l3:an aoL 220 5 ((ul.drop 3).drop 1) (Ha S R H d n L m i) Q):an aoL 220 5 (ul.drop 3) (acb S R H d n L m i) Q:=
 aZ bt 1 (.leaf [0,14,17] [0,1,2,3,4] [0,3,4]) (fun u=>by kernel_rfl) (aL L R H (mQ l3))
abbrev ace:=fun S R H d (n:Nat) L (i k:Int)=>(⟨[(0,ah 0 n),(14,aa i),(17,aa k)],dv S R H d L⟩:ai)
noncomputable abbrev acf(S:ad)(R:List Int)(H:List aq)(d:au)(n:Nat)(L:List ByteArray)(i k:Int):ai:=⟨[],dv S R H d L⟩
abbrev O9:=fun S R H d (n:Nat) L (i k:Int)=>(⟨[(0,ah 0 n),(14,aa i),(17,aa k)],dv S R H d L⟩:ai)
theorem acg(S R H d)(n:Nat)(L)(i k:Int)(pH:(aj H).all ag=true)(hn:(aoM L)=n){Q:aY}(l3:(decide (k>i))=true→an aoL 220 5 (G4.drop 2) (ace S R H d n L i k) Q)(l4:(decide (k>i))=false→Q (.exit 6) (acf S R H d n L i k)):an aoL 220 5 G4 (O9 S R H d n L i k) Q:=
 aZ bt 2 (.fork 0 (.leaf [0,14,17] [0,1,2,3,4] [0,3,4]) (.leaf [] [0,1,2,3,4] [0,3,4])) (fun u=>by kernel_rfl) (mF (c:=decide (k>i)) (fun h0=>(aL L R H (mQ (l3 h0)))) (fun h0=>(aL L R H (mE 6 (l4 h0)))))
abbrev Pa:=fun S R H d (n:Nat) L (i k:Int)=>(⟨[(0,ah 0 n),(14,aa i),(17,.int .i64 (aoN .i64 (k-1)))],[ab (bf (bf (ao L) (0+aoO k*1) [apm (bc (ao L) (0+aoO (aoN .i64 (k-1))*1))]) (0+aoO (aoN .i64 (k-1))*1) [apm (bc (ao L) (0+aoO k*1))]) 9,ab (aM S 2 0 3 4) 89,.abs d,ab (ap R) 3,ab (aj H) 114]⟩:ai)
theorem ach(S R H d)(n:Nat)(L)(i k:Int)(pH:(aj H).all ag=true)(hn:(aoM L)=n)(h0:0<k)(h1:k<n)(h2:n≤1000000)(h3:aoN .i64 (k-1)=k-1){Q:aY}(n0:(eQ (ao L) (0+aoO (aoN .i64 (k-1))*1))=true)(n1:(eQ (ao L) (0+aoO k*1))=true)(n2:(apf (0+aoO (aoN .i64 (k-1))*1+1) (aoM (bf (ao L) (0+aoO k*1) [apm (bc (ao L) (0+aoO (aoN .i64 (k-1))*1))])))=true)(aX:aoS (ap R) ag=true)(bh:aoS (aj H) ag=true)(l5:Q .normal (Pa S R H d n L i k)):an aoL 220 5 (G4.drop 2) (O9 S R H d n L i k) Q:=
 aZ bt 1000 (aA [0,1,1,0,1,0,1,1,0,1,0,1,1,0,1,0,1,1,0,1] (.leaf [0,14,17] [0,1,2,3,4] [0,3,4])) (fun u=>by kernel_rfl) (mN (decide_eq_true (by omega):(decide (0≤aoN .i64 (k-1)))=true) (mN (show(ao9 (aoO (aoN .i64 (k-1))) n)=true by simp at pH hn h0 h1 h2 h3⊢ <;>omega) (mN n0 (mN (decide_eq_true (by omega):(decide (0≤k))=true) (mN (show(ao9 (aoO k) n)=true by simp at pH hn h0 h1 h2 h3⊢ <;>omega) (mN n1 (mN (decide_eq_true (by omega):(decide (0≤k))=true) (mN (show(ao9 (aoO k) n)=true by simp at pH hn h0 h1 h2 h3⊢ <;>omega) (mN (show(apf (0+aoO k*1+1) (aoM (ao L)))=true by simp at pH hn h0 h1 h2 h3⊢ <;>omega) (mN (decide_eq_true (by omega):(decide (0≤aoN .i64 (k-1)))=true) (mN (show(ao9 (aoO (aoN .i64 (k-1))) n)=true by simp at pH hn h0 h1 h2 h3⊢ <;>omega) (mN n2 (mN (show(aoS (bf (bf (ao L) (0+aoO k*1) [apm (bc (ao L) (0+aoO (aoN .i64 (k-1))*1))]) (0+aoO (aoN .i64 (k-1))*1) [apm (bc (ao L) (0+aoO k*1))]) ag)=true by simp) (mN (aQ R) (mN (a7 H) (mQ (an.done (by kernel_rfl) l5)))))))))))))))))
abbrev Hb:=fun S R H d (n:Nat) L (a m b:Int)=>(⟨[(0,ah 0 n),(1,aa a),(2,aa m),(3,aa b),(4,.func (.func 74) #[al 1] #[]),(18,.int .i64 (aoN .i64 (aqi (aoN apF (aoN .i64 (a+b))) 2))),(19,.int .i64 (aoN .i64 (aoN .i64 (aqi (aoN apF (aoN .i64 (a+b))) 2)+m))),(20,.int .i64 (aoN .i64 (aoN .i64 (aoN .i64 (aqi (aoN apF (aoN .i64 (a+b))) 2)+m)-b))),(21,.int .i64 (aoN .i64 (aqi (aoN apF (aoN .i64 (a+b))) 2))),(22,.int .i64 (aoN .i64 (aoN .i64 (aoN .i64 (aqi (aoN apF (aoN .i64 (a+b))) 2)+m)-1)))],dv S R H d L⟩:ai)
abbrev He:=fun S R H d (n:Nat) L (a m b:Int)=>(⟨[(0,ah 0 n),(1,aa a),(2,aa m),(3,aa b),(4,.func (.func 74) #[al 1] #[]),(18,.int .i64 (aoN .i64 (aqi (aoN apF (aoN .i64 (a+b))) 2))),(19,.int .i64 (aoN .i64 (aoN .i64 (aqi (aoN apF (aoN .i64 (a+b))) 2)+m))),(20,aa a),(21,aa m),(22,.int .i64 (aoN .i64 (aoN .i64 (aoN .i64 (aqi (aoN apF (aoN .i64 (a+b))) 2)+m)-1)))],dv S R H d L⟩:ai)
abbrev aci:=fun S R H d (n:Nat) L (a m b:Int)=>(⟨[(0,ah 0 n),(1,aa a),(2,aa m),(3,aa b),(4,.func (.func 74) #[al 1] #[]),(80,.bool false)],dv S R H d L⟩:ai)
theorem acj(S R H d)(n:Nat)(L)(a m b:Int)(pH:(aj H).all ag=true)(hn:(aoM L)=n)(h0:0≤a)(h1:0≤b)(h2:a<2000000)(h3:b<2000000)(h4:aoN .i64 (a+b)=a+b){Q:aY}(l3:(decide (m>aoN .i64 (aqi (aoN apF (aoN .i64 (a+b))) 2)))=true→an aoL 220 5 (Bw.drop 7) (Hb S R H d n L a m b) Q)(l4:(decide (m>aoN .i64 (aqi (aoN apF (aoN .i64 (a+b))) 2)))=false→an aoL 220 5 (Bw.drop 7) (He S R H d n L a m b) Q):an aoL 220 5 Bw (aci S R H d n L a m b) Q:=
 aZ bt 7 (.fork 3 (.leaf [0,1,2,3,4,18,19,20,21,22] [0,1,2,3,4] [0,3,4]) (.leaf [0,1,2,3,4,18,19,20,21,22] [0,1,2,3,4] [0,3,4])) (fun u=>by kernel_rfl) (mF (c:=decide (m>aoN .i64 (aqi (aoN apF (aoN .i64 (a+b))) 2))) (fun h0=>(aL L R H (mQ (l3 h0)))) (fun h0=>(aL L R H (mQ (l4 h0)))))
abbrev ack:=fun S R H d (n:Nat) L (a m b w q s r p:Int)=>(⟨[(0,ah 0 n),(1,aa a),(2,aa m),(3,aa b),(4,.func (.func 74) #[al 1] #[]),(18,aa w),(19,aa q),(20,aa s),(21,aa r),(22,aa p)],dv S R H d L⟩:ai)
abbrev acm:=fun S R H d (n:Nat) L (a m b w q s r p:Int)=>(⟨[(0,ah 0 n),(1,aa a),(2,aa m),(3,aa b),(4,.func (.func 74) #[al 1] #[]),(18,aa w),(19,aa q),(20,aa s)],dv S R H d L⟩:ai)
abbrev acn:=fun S R H d (n:Nat) L (a m b w q s r p:Int)=>(⟨[(0,ah 0 n),(1,aa a),(2,aa m),(3,aa b),(4,.func (.func 74) #[al 1] #[]),(18,aa w),(19,aa q),(20,aa s),(21,aa r),(22,aa p)],dv S R H d L⟩:ai)
theorem aco(S R H d)(n:Nat)(L)(a m b w q s r p:Int)(pH:(aj H).all ag=true)(hn:(aoM L)=n){Q:aY}(l3:(decide (s<r))=true→an aoL 220 5 (G1.drop 2) (ack S R H d n L a m b w q s r p) Q)(l4:(decide (s<r))=false→Q (.exit 8) (acm S R H d n L a m b w q s r p)):an aoL 220 5 G1 (acn S R H d n L a m b w q s r p) Q:=
 aZ bt 2 (.fork 0 (.leaf [0,1,2,3,4,18,19,20,21,22] [0,1,2,3,4] [0,3,4]) (.leaf [0,1,2,3,4,18,19,20] [0,1,2,3,4] [0,3,4])) (fun u=>by kernel_rfl) (mF (c:=decide (s<r)) (fun h0=>(aL L R H (mQ (l3 h0)))) (fun h0=>(aL L R H (mE 8 (l4 h0)))))
abbrev Pb:=fun S R H d (n:Nat) L (a m b w q i j p:Int)=>(⟨[(0,ah 0 n),(1,aa a),(2,aa m),(3,aa b),(4,.func (.func 74) #[al 1] #[]),(18,aa w),(19,aa q),(20,aa i),(21,aa j),(22,aa p),(23,.int .i64 (aoN .i64 (aqi (aoN apF (aoN .i64 (i+j))) 2)))],dv S R H d L⟩:ai)
abbrev acp:=fun S R H d (n:Nat) L (a m b w q i j p:Int)=>(⟨[(0,ah 0 n),(1,aa a),(2,aa m),(3,aa b),(4,.func (.func 74) #[al 1] #[]),(18,aa w),(19,aa q),(20,aa i),(21,aa j),(22,aa p)],dv S R H d L⟩:ai)
theorem acq(S R H d)(n:Nat)(L)(a m b w q i j p:Int)(pH:(aj H).all ag=true)(hn:(aoM L)=n)(h0:0≤i)(h1:0≤j)(h2:i<2000000)(h3:j<2000000)(h4:aoN .i64 (i+j)=i+j){Q:aY}(l3:an aoL 220 5 (G6.drop 1) (Pb S R H d n L a m b w q i j p) Q):an aoL 220 5 G6 (acp S R H d n L a m b w q i j p) Q:=
 aZ bt 1 (.leaf [0,1,2,3,4,18,19,20,21,22,23] [0,1,2,3,4] [0,3,4]) (fun u=>by kernel_rfl) (aL L R H (mQ l3))
abbrev Pc:=fun S R H d (n:Nat) L (a m b w q i j p x:Int)=>(⟨[(0,ah 0 n),(1,aa a),(2,aa m),(3,aa b),(4,.func (.func 74) #[al 1] #[]),(18,aa w),(19,aa q),(20,.int .i64 (aoN .i64 (x+1))),(21,aa j),(22,aa p)],dv S R H d L⟩:ai)
abbrev acr:=fun S R H d (n:Nat) L (a m b w q i j p x:Int)=>(⟨[(0,ah 0 n),(1,aa a),(2,aa m),(3,aa b),(4,.func (.func 74) #[al 1] #[]),(18,aa w),(19,aa q),(20,aa i),(21,aa x),(22,aa p)],dv S R H d L⟩:ai)
abbrev acs:=fun S R H d (n:Nat) L (a m b w q i j p x:Int)=>(⟨[(0,ah 0 n),(1,aa a),(2,aa m),(3,aa b),(4,.func (.func 74) #[al 1] #[]),(18,aa w),(19,aa q),(20,aa i),(21,aa j),(22,aa p),(23,aa x)],dv S R H d L⟩:ai)
theorem acu(S R H d)(n:Nat)(L)(a m b w q i j p x:Int)(pH:(aj H).all ag=true)(hn:(aoM L)=n)(h0:0≤x)(h1:x<n)(h2:0≤p-x)(h3:p-x<n)(h4:n≤1000000)(h5:aoN .i64 (p-x)=p-x)(h6:aoN .i64 (x+1)=x+1){Q:aY}(n0:(eQ (ao L) (0+aoO (aoN .i64 (p-x))*1))=true)(n1:(eQ (ao L) (0+aoO x*1))=true)(n2:(qS [ab (aM S 1 2 3 4) 89,ak.abs d,ab (ao L) 9,ab (ap R) 3,ab (aj H) 114])=true)(l6:(!decide (ba (ad.aD S) (bc (ao L) (0+aoO (aoN .i64 (p-x))*1)) (bc (ao L) (0+aoO x*1))<0))=true→Q .normal (Pc S R H d n L a m b w q i j p x))(l7:(!decide (ba (ad.aD S) (bc (ao L) (0+aoO (aoN .i64 (p-x))*1)) (bc (ao L) (0+aoO x*1))<0))=false→Q .normal (acr S R H d n L a m b w q i j p x)):an aoL 220 5 (G6.drop 1) (acs S R H d n L a m b w q i j p x) Q:=
 aZ su 1000 (aA [0,1,1,0,1,0,1,1,0,1,3,1,1,1,1,1,1] (.fork 0 (.leaf [0,1,2,3,4,18,19,20,21,22] [0,1,2,3,4] [0,3,4]) (.leaf [0,1,2,3,4,18,19,20,21,22] [0,1,2,3,4] [0,3,4]))) (fun u=>by kernel_rfl) (mN (decide_eq_true (by omega):(decide (0≤aoN .i64 (p-x)))=true) (mN (show(ao9 (aoO (aoN .i64 (p-x))) n)=true by simp at pH hn h0 h1 h2 h3 h4 h5 h6⊢ <;>omega) (mN n0 (mN (decide_eq_true (by omega):(decide (0≤x))=true) (mN (show(ao9 (aoO x) n)=true by simp at pH hn h0 h1 h2 h3 h4 h5 h6⊢ <;>omega) (mN n1 (aL L R H (mN n2 (aL L R H (mF (c:= !decide (ba (ad.aD S) (bc (ao L) (0+aoO (aoN .i64 (p-x))*1)) (bc (ao L) (0+aoO x*1))<0)) (fun h0=>(aL L R H (mQ (an.done (by kernel_rfl) (l6 h0))))) (fun h0=>(aL L R H (mQ (an.done (by kernel_rfl) (l7 h0)))))))))))))))
abbrev Hf:=fun(N:Nat) S R H d (n:Nat) L (a m b w q s:Int)=>(⟨[(0,ah 0 n),(1,aa a),(3,aa b),(4,.func (.func 74) #[al 1] #[]),(18,aa w),(20,aa s),(24,.int .i64 (aoN .i64 (q-s)))],[ab (ao (gA (cZ (ao L)) (aoO s) (aoO m) (aoO (aoN .i64 (q-s))))) 9,ab (aM S 2 0 3 4) 89,.abs d,ab (ap R) 3,ab (aj H) 114]⟩:ai)
abbrev Hg:=fun(N:Nat) S R H d (n:Nat) L (a m b w q s:Int)=>(⟨[(0,ah 0 n),(1,aa a),(3,aa b),(4,.func (.func 74) #[al 1] #[]),(18,aa w),(20,aa s),(24,.int .i64 (aoN .i64 (q-s)))],dv S R H d L⟩:ai)
abbrev Hh:=fun(N:Nat) S R H d (n:Nat) L (a m b w q s:Int)=>(⟨[(0,ah 0 n),(1,aa a),(3,aa b),(4,.func (.func 74) #[al 1] #[]),(18,aa w),(20,aa s),(24,.int .i64 (aoN .i64 (q-s)))],dv S R H d L⟩:ai)
abbrev acv:=fun(N:Nat) S R H d (n:Nat) L (a m b w q s:Int)=>(⟨[(0,ah 0 n),(1,aa a),(2,aa m),(3,aa b),(4,.func (.func 74) #[al 1] #[]),(18,aa w),(19,aa q),(20,aa s)],dv S R H d L⟩:ai)
theorem acw(N:Nat)(S R H d)(n:Nat)(L)(a m b w q s:Int)(hN:bB aoL 122 (Sum.dp aoL (nX N)))(pH:(aj H).all ag=true)(hn:(aoM L)=n)(h0:0≤s)(h1:0≤m)(h2:q≤2000000)(h3:0≤q)(h4:aoN .i64 (q-s)=q-s){Q:aY}(n0:(decide (s<m))=true→(decide (m<aoN .i64 (q-s)))=true→(iJ [ab (ao L) 9,ab (aM S 2 0 3 4) 89,ak.abs d,ab (ap R) 3,ab (aj H) 114] n&&(ao6 n n&&(ao6 74 74&&(decide (0≤s)&&(decide (s<m)&&(decide (m<aoN .i64 (q-s))&&decide (aoN .i64 (q-s)≤(↑n:Int))))))))=true)(l3:(decide (s<m))=true→(decide (m<aoN .i64 (q-s)))=true→an aoL 220 5 (BA.drop 3) (Hf N S R H d n L a m b w q s) Q)(l5:(decide (s<m))=true→(decide (m<aoN .i64 (q-s)))=false→an aoL 220 5 (BA.drop 3) (Hg N S R H d n L a m b w q s) Q)(l6:(decide (s<m))=false→an aoL 220 5 (BA.drop 3) (Hh N S R H d n L a m b w q s) Q):an aoL 220 5 BA (acv N S R H d n L a m b w q s) Q:=
 aZ (G0 N hN) 3 (.fork 0 (aA [1,1,1] (.fork 0 (aA [3,1,1,1,1,1,1] (.leaf [0,1,3,4,18,20,24] [0,1,2,3,4] [0,3,4])) (.leaf [0,1,3,4,18,20,24] [0,1,2,3,4] [0,3,4]))) (aA [0,0,0] (.leaf [0,1,3,4,18,20,24] [0,1,2,3,4] [0,3,4]))) (fun u=>by kernel_rfl) (mF (c:=decide (s<m)) (fun h0=>(wg 3 h0 (mF (c:=decide (m<aoN .i64 (q-s))) (fun h1=>(aL L R H (mN (n0 h0 h1) (mN (aV (gA (cZ (ao L)) (aoO s) (aoO m) (aoO (aoN .i64 (q-s))))) (mN (aQ R) (mN (a7 H) (mN (aV (gA (cZ (ao L)) (aoO s) (aoO m) (aoO (aoN .i64 (q-s))))) (mN (aQ R) (mN (a7 H) (mQ (l3 h0 h1))))))))))) (fun h1=>(aL L R H (mQ (l5 h0 h1))))))) (fun h0=>(wg 3 h0 (aL L R H (mQ (l6 h0))))))
abbrev Hi:=fun(N:Nat) S R H d (n:Nat) L (a b w s e:Int)=>(⟨[(0,ah 0 n),(3,aa b),(4,.func (.func 74) #[al 1] #[]),(18,aa w),(24,aa e)],[ab (ao (b9 (ba (ad.aD S)) (cZ (ao L)) (aoO a) (aoO w))) 9,ab (aM S 2 0 3 4) 89,.abs d,ab (ap R) 3,ab (aj H) 114]⟩:ai)
abbrev acx:=fun(N:Nat) S R H d (n:Nat) L (a b w s e:Int)=>(⟨[(0,ah 0 n),(3,aa b),(4,.func (.func 74) #[al 1] #[]),(18,aa w),(24,aa e)],dv S R H d L⟩:ai)
abbrev acy:=fun(N:Nat) S R H d (n:Nat) L (a b w s e:Int)=>(⟨[(0,ah 0 n),(3,aa b),(4,.func (.func 74) #[al 1] #[]),(18,aa w),(24,aa e)],dv S R H d L⟩:ai)
abbrev acz:=fun(N:Nat) S R H d (n:Nat) L (a b w s e:Int)=>(⟨[(0,ah 0 n),(1,aa a),(3,aa b),(4,.func (.func 74) #[al 1] #[]),(18,aa w),(20,aa s),(24,aa e)],dv S R H d L⟩:ai)
theorem acA(N:Nat)(S R H d)(n:Nat)(L)(a b w s e:Int)(hN:bB aoL 122 (Sum.dp aoL (nX N)))(pH:(aj H).all ag=true)(hn:(aoM L)=n){Q:aY}(n0:(decide (a<s))=true→(decide (s<w))=true→(iJ [ab (ao L) 9,ab (aM S 2 0 3 4) 89,ak.abs d,ab (ap R) 3,ab (aj H) 114] n&&(ao6 n n&&(ao6 74 74&&uk (ba (ad.aD S)) (cZ (ao L)) n a s w N)))=true)(l3:(decide (a<s))=true→(decide (s<w))=true→an aoL 220 5 (Bz.drop 2) (Hi N S R H d n L a b w s e) Q)(l5:(decide (a<s))=true→(decide (s<w))=false→an aoL 220 5 (Bz.drop 2) (acx N S R H d n L a b w s e) Q)(l6:(decide (a<s))=false→an aoL 220 5 (Bz.drop 2) (acy N S R H d n L a b w s e) Q):an aoL 220 5 Bz (acz N S R H d n L a b w s e) Q:=
 aZ (G0 N hN) 2 (.fork 0 (aA [1,1,1] (.fork 0 (aA [3,1,1,1,1,1,1] (.leaf [0,3,4,18,24] [0,1,2,3,4] [0,3,4])) (.leaf [0,3,4,18,24] [0,1,2,3,4] [0,3,4]))) (aA [0,0,0] (.leaf [0,3,4,18,24] [0,1,2,3,4] [0,3,4]))) (fun u=>by kernel_rfl) (mF (c:=decide (a<s)) (fun h0=>(wg 3 h0 (mF (c:=decide (s<w)) (fun h1=>(aL L R H (mN (n0 h0 h1) (mN (aV (b9 (ba (ad.aD S)) (cZ (ao L)) (aoO a) (aoO w))) (mN (aQ R) (mN (a7 H) (mN (aV (b9 (ba (ad.aD S)) (cZ (ao L)) (aoO a) (aoO w))) (mN (aQ R) (mN (a7 H) (mQ (l3 h0 h1))))))))))) (fun h1=>(aL L R H (mQ (l5 h0 h1))))))) (fun h0=>(wg 3 h0 (aL L R H (mQ (l6 h0))))))
abbrev Hj:=fun(N:Nat) S R H d (n:Nat) L (b w e:Int)=>(⟨[],[ab (ao (b9 (ba (ad.aD S)) (cZ (ao L)) (aoO w) (aoO b))) 9,ab (aM S 2 0 3 4) 89,.abs d,ab (ap R) 3,ab (aj H) 114]⟩:ai)
noncomputable abbrev acB(N:Nat)(S:ad)(R:List Int)(H:List aq)(d:au)(n:Nat)(L:List ByteArray)(b w e:Int):ai:=⟨[],dv S R H d L⟩
noncomputable abbrev acC(N:Nat)(S:ad)(R:List Int)(H:List aq)(d:au)(n:Nat)(L:List ByteArray)(b w e:Int):ai:=⟨[],dv S R H d L⟩
abbrev acD:=fun(N:Nat) S R H d (n:Nat) L (b w e:Int)=>(⟨[(0,ah 0 n),(3,aa b),(4,.func (.func 74) #[al 1] #[]),(18,aa w),(24,aa e)],dv S R H d L⟩:ai)
theorem acE(N:Nat)(S R H d)(n:Nat)(L)(b w e:Int)(hN:bB aoL 122 (Sum.dp aoL (nX N)))(pH:(aj H).all ag=true)(hn:(aoM L)=n){Q:aY}(n0:(decide (w<e))=true→(decide (e<b))=true→(iJ [ab (ao L) 9,ab (aM S 2 0 3 4) 89,ak.abs d,ab (ap R) 3,ab (aj H) 114] n&&(ao6 n n&&(ao6 74 74&&uk (ba (ad.aD S)) (cZ (ao L)) n w e b N)))=true)(l3:(decide (w<e))=true→(decide (e<b))=true→Q .normal (Hj N S R H d n L b w e))(l5:(decide (w<e))=true→(decide (e<b))=false→Q .normal (acB N S R H d n L b w e))(l6:(decide (w<e))=false→Q .normal (acC N S R H d n L b w e)):an aoL 220 5 abK (acD N S R H d n L b w e) Q:=
 aZ (G0 N hN) 1000 (.fork 0 (aA [1,1,1] (.fork 0 (aA [3,1,1,1,1,1,1] (.leaf [] [0,1,2,3,4] [0,3,4])) (.leaf [] [0,1,2,3,4] [0,3,4]))) (aA [0,0,0] (.leaf [] [0,1,2,3,4] [0,3,4]))) (fun u=>by kernel_rfl) (mF (c:=decide (w<e)) (fun h0=>(wg 3 h0 (mF (c:=decide (e<b)) (fun h1=>(aL L R H (mN (n0 h0 h1) (mN (aV (b9 (ba (ad.aD S)) (cZ (ao L)) (aoO w) (aoO b))) (mN (aQ R) (mN (a7 H) (mN (aV (b9 (ba (ad.aD S)) (cZ (ao L)) (aoO w) (aoO b))) (mN (aQ R) (mN (a7 H) (mQ (an.done (by kernel_rfl) (l3 h0 h1)))))))))))) (fun h1=>(aL L R H (mQ (an.done (by kernel_rfl) (l5 h0 h1)))))))) (fun h0=>(wg 3 h0 (aL L R H (mQ (an.done (by kernel_rfl) (l6 h0)))))))
end
end Go.Proofs.YtnlkkgpcikkpoaaGreat
namespace Go.Proofs.YtnlkkgpcikkpoaaGreat.Vm
open Go.RowKit
def QA(N:ai→Prop)(Q:bj→ai→Prop):bj→ai→Prop
 | .normal,d=>N d
 |x,d=>Q x d
theorem an.join{P:Program}{n k:Nat}{l l':List apw}{d:ai}{Q:bj→ai→Prop}(h:an P n k l d (QA (fun d'=>an P n k l' d' Q) Q)):an P n k (l++l') d Q:=by
 intro X hn hk a w hd
 refine Fm (x6 (h X hn hk a w hd) fun e a' w' he=>?_)
 obtain⟨x,d',h1,h2,h3⟩:=he
 cases h2 with
 |normal=>exact h1 X hn hk a' w' h3
 |exit j=>exact⟨_,d',h1,.exit j,h3⟩
 |ret=>exact⟨_,d',h1,.ret,h3⟩
 |panic v v' hv=>exact⟨_,d',h1,.panic v v' hv,h3⟩
theorem an.pass{P:Program}{n k:Nat}{l:List apw}{d:ai}{Q:bj→ai→Prop}(h:an P n k l d Q):an P n k (Code.skip::l) d Q:=fun X hn hk a w hd=>wp_skip (Q:=Exit.then (jc P l _) _) (h X hn hk a w hd)
theorem QA.ret{N:ai→Prop}{Q:bj→ai→Prop}{d:ai}(h:Q .ret d):QA N Q .ret d:=h
theorem QA.normal{N:ai→Prop}{Q:bj→ai→Prop}{d:ai}(h:N d):QA N Q .normal d:=h
theorem an.Pd{P:Program}{n k:Nat}{L:List apw}{d:ai}{Q:bj→ai→Prop}(i:Nat){c:Nat}(hl:AF (L.drop i)=some c)(hi:ao9 c n=true)(hv:jx d.sl c=some (.bool false))
 (hs:bd (pE false (L.drop i))=[Code.skip])(h:an P n k (L.drop (i+1)) d Q):an P n k (L.drop i) d Q:=
 an.vG i hl hi hv (by rw[hs];exact an.pass h)
end Go.Proofs.YtnlkkgpcikkpoaaGreat.Vm
namespace Go.Proofs.YtnlkkgpcikkpoaaGreat
open Go Vm Go.RowKit
theorem km{x y:Nat}(h:x<1000000000)(h2:y<1000000000):aoN ao2 (aqi (aoN apF (aoN ao2 ((x:Int)+(y:Int)))) 2)=(((x+y)/2:Nat):Int):=by
 have h1:aoN ao2 ((x:Int)+(y:Int))=((x+y:Nat):Int):=by rw[ng (by omega) (by omega)];omega
 have h2:aoN apF ((x+y:Nat):Int)=((x+y:Nat):Int):=by
  unfold aoN
  simp only[apF,IntKind.bits,IntKind.signed,Bool.false_and,apT,if_false]
  omega
 have h3:aqi ((x+y:Nat):Int) 2=(((x+y)/2:Nat):Int):=by
  rw[Int.fdiv_eq_ediv_of_nonneg _ (by omega)];omega
 rw[h1,h2,h3]
 exact ng (by omega) (by omega)
theorem Pe{x y:Nat}(h:x<1000000000)(h2:y<1000000000):aoN ao2 (aoN ao2 (aqi (aoN apF (aoN ao2 ((x:Int)+(y:Int)))) 2)+1)=(((x+y)/2+1:Nat):Int):=by
 rw[km h h2,ng (by omega) (by omega)];omega
section
variable (S:ad) (R:List Int) (H:List aq) (d:au)
abbrev sw(a b:Nat)(L:List ByteArray):bj→ai→Prop:=aJ aoL 122 220 5 fun r o=>r=.ret (.tuple #[])∧o=cU S R H d (b9 (ba S.aD) L a b)
def yG(n a:Nat)(L:List ByteArray)(s:Nat×Nat):ai:=⟨[(0,fG n),(1,iZ a),(4,fZ),(10,iZ (a+1+s.1)),(11,iZ (a+1+s.2))],cU S R H d L⟩
def BB(n a b i:Nat)(L:List ByteArray)(x:ByteArray)(k:Nat):ai:=⟨[(0,fG n),(10,iZ (a+1+i)),(13,iZ (a+k))],cU S R H d (du (L.take a) (aR L (a+1) b) (L.drop b) x k)⟩
theorem acF{N:ai→Prop}(L:List ByteArray)(n a b:Nat)(hn:L.length=n)(hL:n≤1000000)(hb:b≤n)(jv:a+1<b)(hX:dF (ba S.aD) (aR L (a+1) b)):
 an aoL 220 5 (bd (pE true (mJ.drop 1))) ⟨[(0,fG n),(1,iZ a),(2,iZ (a+1)),(3,iZ b),(4,fZ),(28,.bool true)],cU S R H d L⟩ (QA N (sw S R H d a b L)):=by
 have pH:=a7 H
 have fT:=v8 S.aD
 obtain⟨x,hx⟩:∃x,L[a]?=some x:=⟨_,aoV (by omega)⟩
 have lT:(L.take a).length=a:=by rw[apI];omega
 have lX:(aR L (a+1) b).length=b-(a+1):=jp (by omega) (by omega)
 apply abO S R H d n L a ((a+1:Nat):Int) b pH hn
 ·
  have e:G7 S R H d n L a ((a+1:Nat):Int) b=yG S R H d n a L (0,(aR L (a+1) b).length):=by
   unfold G7 yG;dsimp only;rw[lX,show a+1+0=a+1 by omega,show a+1+(b-(a+1))=b by omega];rfl
  rw[e]
  refine an.eO 2 0 (by kernel_rfl) ?_
  refine an.fL (yG S R H d n a L) (fun s=>s.2-s.1) (fun s=>lp (ba S.aD) (aR L (a+1) b) x s.1 s.2) (0,(aR L (a+1) b).length) (by kernel_rfl) (lp.start _ _ _) ?_
  rintro⟨i,j⟩ hs
  dsimp only at hs
  have iC:=hs.iC
  have hj:=hs.hj
  rw[lX]at hj
  apply abR S R H d n L a ((a+1+i:Nat):Int) ((a+1+j:Nat):Int) pH hn
  case l4=>
   intro g
   have g:=of_decide_eq_false g
   have e:j=i:=by omega
   subst e
   with_reducible (repeat first|refine QL.ret ?_|refine QL.exit ?_|refine QB.ret ?_|refine QB.cx ?_|refine QB.normal ?_|refine QB.cG (by rfl) ?_)
   apply abU S R H d n L a ((a+1+j:Nat):Int) pH hn
   ·
    have e:G8 S R H d n L a ((a+1+j:Nat):Int)=BB S R H d n a b j L x 0:=by
     unfold G8 BB;rw[abz (by omega) hx];rfl
    rw[e,ap2]
    refine an.eO 4 2 (by kernel_rfl) ?_
    refine an.fL (BB S R H d n a b j L x) (fun k=>j-k) (fun k=>k≤j) 0 (by kernel_rfl) (apN _) ?_
    intro k hk
    have gg:(du (L.take a) (aR L (a+1) b) (L.drop b) x k).length=n:=by rw[GI (by omega),lT,lX,ap0];omega
    apply abX S R H d n (du (L.take a) (aR L (a+1) b) (L.drop b) x k) ((a+1+j:Nat):Int) ((a+k:Nat):Int) pH gg (bL (by omega) (by omega))
    case l4=>
     intro g
     rw[bL (by omega) (by omega)]at g
     have g:=of_decide_eq_false g
     have e:k=j:=by omega
     subst e
     with_reducible (repeat first|refine QL.ret ?_|refine QL.exit ?_|refine QB.ret ?_|refine QB.cx ?_|refine QB.normal ?_|refine QB.cG (by rfl) ?_)
     apply ab0 S R H d n (du (L.take a) (aR L (a+1) b) (L.drop b) x k) pH gg
     ·
      refine QA.ret ?_
      refine abZ S R H d n (du (L.take a) (aR L (a+1) b) (L.drop b) x k) ⟨rfl,?_⟩
      rw[aby fT (by omega) hx hX hs]
      rfl
    case l3=>
     intro g
     rw[bL (by omega) (by omega)]at g
     have g:=of_decide_eq_true g
     obtain⟨y,hy⟩:∃y,(aR L (a+1) b)[k]?=some y:=⟨_,aoV (by omega)⟩
     have fR:(du (L.take a) (aR L (a+1) b) (L.drop b) x k)[a+k]?=some x:=by have:=GJ (T:=L.take a) (D:=L.drop b) (x:=x) (S:=aR L (a+1) b) (j:=k) (by omega);rw[lT]at this;exact this
     have il:(du (L.take a) (aR L (a+1) b) (L.drop b) x k)[a+k+1]?=some y:=by have:=abC (T:=L.take a) (D:=L.drop b) (x:=x) (S:=aR L (a+1) b) (j:=k) (by omega);rw[lT,hy]at this;exact this
     have e1:0+aoO (aoN ao2 (((a+k:Nat):Int)+1))*1=a+k+1:=by rw[bL (by omega) (by omega)];omega
     apply abY S R H d n (du (L.take a) (aR L (a+1) b) (L.drop b) x k) ((a+1+j:Nat):Int) ((a+k:Nat):Int) pH gg (by omega) (by omega) hL (bL (by omega) (by omega))
     case aX=>simp
     case bh=>exact pH
     case n0=>rw[e1];exact(dY il).2
     case n1=>rw[gd];exact(dY fR).2
     case n2=>
      rw[e1,gd,(dY il).1,nW (by omega),yc,aql]
      exact apu (by omega)
     case l5=>
      refine QL.to (k+1) (by omega) (by omega) ?_
      unfold O2 BB
      rw[e1,gd,(dY il).1,(dY fR).1,nW (by omega),nW (by rw[aql];omega)]
      have:=abD (T:=L.take a) (D:=L.drop b) (x:=x) (S:=aR L (a+1) b) (j:=k) (by omega) hy
      rw[lT]at this
      rw[this,bL (by omega) (by omega)]
      have:(((a+k:Nat):Int)+1)=((a+(k+1):Nat):Int):=by omega
      rw[this]
      rfl
  case l3=>
   intro g
   have g:=of_decide_eq_true g
   have hm:(a+1+i+(a+1+j))/2=a+1+(i+j)/2:=by omega
   obtain⟨y,hy⟩:∃y,(aR L (a+1) b)[(i+j)/2]?=some y:=⟨_,aoV (by omega)⟩
   have il:L[a+1+(i+j)/2]?=some y:=by rw[yC (by omega)]at hy;exact hy
   refine an.eO 2 1 (by kernel_rfl) ?_
   apply abS S R H d n L a ((a+1+i:Nat):Int) ((a+1+j:Nat):Int) pH hn (by omega) (by omega) (by omega) (by omega) (bL (by omega) (by omega)) (by omega) (by omega) (by omega) (by omega) hL
   case n0=>rw[km (by omega) (by omega)];exact decide_eq_true (by omega)
   case n1=>rw[km (by omega) (by omega)];rw[avr];omega
   case n2=>rw[km (by omega) (by omega),gd,hm];exact(dY il).2
   case n3=>rw[gd];exact(dY hx).2
   case n4=>exact v7 rfl
   case l8=>
    intro g1
    rw[km (by omega) (by omega),gd,gd,hm,(dY il).1,(dY hx).1]at g1
    have g1:=of_decide_eq_true g1
    with_reducible (repeat first|refine QL.ret ?_|refine QL.exit ?_|refine QB.ret ?_|refine QB.cx ?_|refine QB.normal ?_|refine QB.cG (by rfl) ?_)
    refine an.done (by kernel_rfl) ?_
    refine QL.to ((i+j)/2+1,j) (hs.up fT hX (by omega) (by omega) hy (pS.2 (fT.asym _ _ g1))) (by dsimp only;omega) ?_
    unfold OZ yG
    rw[Pe (by omega) (by omega),hm]
    rfl
   case l9=>
    intro g1
    rw[km (by omega) (by omega),gd,gd,hm,(dY il).1,(dY hx).1]at g1
    have g1:=of_decide_eq_false g1
    with_reducible (repeat first|refine QL.ret ?_|refine QL.exit ?_|refine QB.ret ?_|refine QB.cx ?_|refine QB.normal ?_|refine QB.cG (by rfl) ?_)
    refine an.done (by kernel_rfl) ?_
    refine QL.to (i,(i+j)/2) (hs.down fT hX (by omega) (by omega) hy (pS.2 g1)) (by dsimp only;omega) ?_
    unfold O0 yG
    rw[km (by omega) (by omega),hm]
    rfl
end
end Go.Proofs.YtnlkkgpcikkpoaaGreat
namespace Go.Proofs.YtnlkkgpcikkpoaaGreat
open Go Vm Go.RowKit
section
variable (S:ad) (R:List Int) (H:List aq) (d:au)
def yH(n a m:Nat)(L:List ByteArray)(s:Nat×Nat):ai:=⟨[(0,fG n),(2,iZ m),(4,fZ),(14,iZ (a+s.1)),(15,iZ (a+s.2))],cU S R H d L⟩
def BC(n a m i:Nat)(L:List ByteArray)(x:ByteArray)(k:Nat):ai:=⟨[(0,fG n),(14,iZ (a+i)),(17,iZ (a+k))],cU S R H d (du (L.take a) (aR L a m) (L.drop (m+1)) x k)⟩
theorem acG{N:ai→Prop}(L:List ByteArray)(n a m:Nat)(hn:L.length=n)(hL:n≤1000000)(hb:m+1≤n)(jv:a<m)(hX:dF (ba S.aD) (aR L a m)):
 an aoL 220 5 (bd (pE true (mJ.drop 3))) ⟨[(0,fG n),(1,iZ a),(2,iZ m),(3,iZ (m+1)),(4,fZ),(80,.bool true)],cU S R H d L⟩ (QA N (sw S R H d a (m+1) L)):=by
 have pH:=a7 H
 have fT:=v8 S.aD
 obtain⟨x,hx⟩:∃x,L[m]?=some x:=⟨_,aoV (by omega)⟩
 have lT:(L.take a).length=a:=by rw[apI];omega
 have lX:(aR L a m).length=m-a:=jp (by omega) (by omega)
 apply ab6 S R H d n L a m ((m+1:Nat):Int) pH hn
 ·
  have e:G9 S R H d n L a m ((m+1:Nat):Int)=yH S R H d n a m L (0,(aR L a m).length):=by
   unfold G9 yH;dsimp only;rw[lX,show a+0=a by omega,show a+(m-a)=m by omega];rfl
  rw[e]
  refine an.eO 2 4 (by kernel_rfl) ?_
  refine an.fL (yH S R H d n a m L) (fun s=>s.2-s.1) (fun s=>lp (ba S.aD) (aR L a m) x s.1 s.2) (0,(aR L a m).length) (by kernel_rfl) (lp.start _ _ _) ?_
  rintro⟨i,j⟩ hs
  dsimp only at hs
  have iC:=hs.iC
  have hj:=hs.hj
  rw[lX]at hj
  apply ab9 S R H d n L m ((a+i:Nat):Int) ((a+j:Nat):Int) pH hn
  case l4=>
   intro g
   have g:=of_decide_eq_false g
   have e:j=i:=by omega
   subst e
   with_reducible (repeat first|refine QL.ret ?_|refine QL.exit ?_|refine QB.ret ?_|refine QB.cx ?_|refine QB.normal ?_|refine QB.cG (by rfl) ?_)
   apply acd S R H d n L m ((a+j:Nat):Int) pH hn
   ·
    have e:Ha S R H d n L m ((a+j:Nat):Int)=BC S R H d n a m j L x (m-a):=by
     unfold Ha BC;rw[abB (by omega) (by omega) hx,show a+(m-a)=m by omega];rfl
    rw[e,ap2]
    refine an.eO 4 6 (by kernel_rfl) ?_
    refine an.fL (BC S R H d n a m j L x) (fun k=>k) (fun k=>j≤k∧k≤m-a) (m-a) (by kernel_rfl) ⟨hj,apn _⟩ ?_
    rintro k ⟨hk,kh⟩
    have gg:(du (L.take a) (aR L a m) (L.drop (m+1)) x k).length=n:=by rw[GI (by omega),lT,lX,ap0];omega
    apply acg S R H d n (du (L.take a) (aR L a m) (L.drop (m+1)) x k) ((a+j:Nat):Int) ((a+k:Nat):Int) pH gg
    case l4=>
     intro g
     have g:=of_decide_eq_false g
     have e:k=j:=by omega
     subst e
     with_reducible (repeat first|refine QL.ret ?_|refine QL.exit ?_|refine QB.ret ?_|refine QB.cx ?_|refine QB.normal ?_|refine QB.cG (by rfl) ?_)
     apply ab2 S R H d n (du (L.take a) (aR L a m) (L.drop (m+1)) x k) pH gg
     ·
      refine QA.ret ?_
      refine ab1 S R H d n (du (L.take a) (aR L a m) (L.drop (m+1)) x k) ⟨rfl,?_⟩
      rw[abA fT (by omega) hx hX hs]
      rfl
    case l3=>
     intro g
     have g:=of_decide_eq_true g
     obtain⟨k',rfl⟩:∃k',k=k'+1:=⟨k-1,by omega⟩
     obtain⟨y,hy⟩:∃y,(aR L a m)[k']?=some y:=⟨_,aoV (by omega)⟩
     have fR:(du (L.take a) (aR L a m) (L.drop (m+1)) x (k'+1))[a+(k'+1)]?=some x:=by have:=GJ (T:=L.take a) (D:=L.drop (m+1)) (x:=x) (S:=aR L a m) (j:=k'+1) (by omega);rw[lT]at this;exact this
     have il:(du (L.take a) (aR L a m) (L.drop (m+1)) x (k'+1))[a+k']?=some y:=by have:=Ox (T:=L.take a) (D:=L.drop (m+1)) (x:=x) (S:=aR L a m) (j:=k') (by omega);rw[lT,hy]at this;exact this
     have e1:0+aoO (aoN ao2 (((a+(k'+1):Nat):Int)-1))*1=a+k':=by rw[bL (by omega) (by omega)];omega
     apply ach S R H d n (du (L.take a) (aR L a m) (L.drop (m+1)) x (k'+1)) ((a+j:Nat):Int) ((a+(k'+1):Nat):Int) pH gg (by omega) (by omega) hL (bL (by omega) (by omega))
     case aX=>simp
     case bh=>exact pH
     case n0=>rw[e1];exact(dY il).2
     case n1=>rw[gd];exact(dY fR).2
     case n2=>
      rw[e1,gd,(dY il).1,nW (by omega),yc,aql]
      exact apu (by omega)
     case l5=>
      refine QL.to k' (by omega) (by omega) ?_
      unfold Pa BC
      rw[e1,gd,(dY il).1,(dY fR).1,nW (by omega),nW (by rw[aql];omega)]
      have:=Oy (T:=L.take a) (D:=L.drop (m+1)) (x:=x) (S:=aR L a m) (j:=k') (by omega) hy
      rw[lT]at this
      rw[this,bL (by omega) (by omega)]
      have:(((a+(k'+1):Nat):Int)-1)=((a+k':Nat):Int):=by omega
      rw[this]
      rfl
  case l3=>
   intro g
   have g:=of_decide_eq_true g
   have hm:(a+i+(a+j))/2=a+(i+j)/2:=by omega
   obtain⟨y,hy⟩:∃y,(aR L a m)[(i+j)/2]?=some y:=⟨_,aoV (by omega)⟩
   have il:L[a+(i+j)/2]?=some y:=by rw[yC (by omega)]at hy;exact hy
   refine an.eO 2 5 (by kernel_rfl) ?_
   apply aca S R H d n L m ((a+i:Nat):Int) ((a+j:Nat):Int) pH hn (by omega) (by omega) (by omega) (by omega) (bL (by omega) (by omega)) (by omega) (by omega) (by omega) (by omega) hL
   case n0=>rw[gd];exact(dY hx).2
   case n1=>rw[km (by omega) (by omega)];exact decide_eq_true (by omega)
   case n2=>rw[km (by omega) (by omega),avr];omega
   case n3=>rw[km (by omega) (by omega),gd,hm];exact(dY il).2
   case n4=>exact v7 rfl
   case l8=>
    intro g1
    rw[km (by omega) (by omega),gd,gd,hm,(dY il).1,(dY hx).1]at g1
    have g1:fN (ba S.aD) y x=true:=g1
    with_reducible (repeat first|refine QL.ret ?_|refine QL.exit ?_|refine QB.ret ?_|refine QB.cx ?_|refine QB.normal ?_|refine QB.cG (by rfl) ?_)
    refine an.done (by kernel_rfl) ?_
    refine QL.to ((i+j)/2+1,j) (hs.up fT hX (by omega) (by omega) hy g1) (by dsimp only;omega) ?_
    unfold O7 yH
    rw[Pe (by omega) (by omega),hm]
    rfl
   case l9=>
    intro g1
    rw[km (by omega) (by omega),gd,gd,hm,(dY il).1,(dY hx).1]at g1
    have g1:=of_decide_eq_true (show decide (ba S.aD x y<0)=true by cases h:decide (ba S.aD x y<0)with|true=>rfl|false=>rw[h]at g1;cases g1)
    with_reducible (repeat first|refine QL.ret ?_|refine QL.exit ?_|refine QB.ret ?_|refine QB.cx ?_|refine QB.normal ?_|refine QB.cG (by rfl) ?_)
    refine an.done (by kernel_rfl) ?_
    refine QL.to (i,(i+j)/2) (hs.down fT hX (by omega) (by omega) hy (pS.2 (fT.asym _ _ g1))) (by dsimp only;omega) ?_
    unfold O8 yH
    rw[km (by omega) (by omega),hm]
    rfl
end
end Go.Proofs.YtnlkkgpcikkpoaaGreat
namespace Go.Proofs.YtnlkkgpcikkpoaaGreat
open Go Vm Go.RowKit
section
variable (S:ad) (R:List Int) (H:List aq) (d:au)
def uo(n a m b w q s r p:Nat)(L:List ByteArray):ai:=⟨[(0,fG n),(1,iZ a),(2,iZ m),(3,iZ b),(4,fZ),(18,iZ w),(19,iZ q),(20,iZ s),(21,iZ r),(22,iZ p)],cU S R H d L⟩
theorem acH(N:Nat)(hN:bB aoL 122 (Sum.dp aoL (nX N)))(L:List ByteArray)(n a m b s:Nat)(hn:L.length=n)(hL:n≤1000000)(oZ:a<m)(o5:m<b)(hb:b≤n)(BD:b-a≤N+1)(anU:a+2≤b)
 (T:OS (ba S.aD) L a m b s ((a+b)/2) ((a+b)/2+m-s)):
 an aoL 220 5 (mJ.drop 11) ⟨[(0,fG n),(1,iZ a),(2,iZ m),(3,iZ b),(4,fZ),(18,iZ ((a+b)/2)),(19,iZ ((a+b)/2+m)),(20,iZ s)],cU S R H d L⟩ (sw S R H d a b L):=by
 have pH:=a7 H
 have fT:=v8 S.aD
 obtain⟨h1,h2,h3,h4,hd,x1,x2,y1,y2,fin⟩:=T
 have he:(((a+b)/2+m:Nat):Int)-(s:Int)=(((a+b)/2+m-s:Nat):Int):=by omega
 generalize hE:(a+b)/2+m-s=e at*
 generalize hW:(a+b)/2=w at*
 have lR:(gA L s m e).length=n:=by rw[abI h2 h3 (by omega),hn]
 have lA:(b9 (ba S.aD) (gA L s m e) a w).length=n:=by rw[Ow (by omega) (by omega),lR]
 have hO:∀M:List ByteArray,M.length=n→iJ [ak.cells (ao M) 9 false,ak.cells (aM S 2 0 3 4) 89 false,ak.abs d,ak.cells (ap R) 3 false,ak.cells (aj H) 114 false] n=true:=fun M hM=>wa (S:=S) (R:=R) (H:=H) (d:=d) (L:=M) rfl hM hL
 have last:∀M:List ByteArray,M=b9 (ba S.aD) L a b→sw S R H d a b L .normal ⟨[],cU S R H d M⟩:=fun M hM=>by
  rw[hM]
  exact aJ.normal (vs:=[]) (l:=[]) (bs:=[0,1,2,3,4]) (pl:=[0,3,4]) (q:=[ao (b9 (ba S.aD) L a b),ap R,aj H]) (fun u=>by kernel_rfl) (by kernel_rfl) (aF (by simp) (aF (by simp) (aF pH bi))) ⟨rfl,rfl⟩
 have t3:an aoL 220 5 (mJ.drop 16) ⟨[(0,fG n),(3,iZ b),(4,fZ),(18,iZ w),(24,iZ e)],cU S R H d (b9 (ba S.aD) (gA L s m e) a w)⟩ (sw S R H d a b L):=by
  generalize b9 (ba S.aD) (gA L s m e) a w=M at*
  have gh:(w=e∨e=b)→M=b9 (ba S.aD) L a b:=fun h=>by rw[←fin,OU fT (by omega) (by omega) h y1 y2]
  apply acE N S R H d n M b w e hN pH lA
  case n0=>
   intro g1 g2
   have g1:=of_decide_eq_true g1
   have g2:=of_decide_eq_true g2
   rw[hO M lA,iI,yD.2 ⟨by omega,g1,g2,by omega,by omega,y1,y2⟩]
   simp only[apY,aqH]
  case l3=>
   intro g1 g2
   have e5:Hj N S R H d n M b w e=⟨[],cU S R H d (b9 (ba S.aD) M w b)⟩:=by
    unfold Hj;rw[iI];rfl
   rw[e5]
   exact last _ fin
  case l5=>
   intro g1 g2
   have g2:=of_decide_eq_false g2
   exact last M (gh (.inr (by omega)))
  case l6=>
   intro g1
   have g1:=of_decide_eq_false g1
   exact last M (gh (.inl (by omega)))
 have t2:an aoL 220 5 (mJ.drop 14) ⟨[(0,fG n),(1,iZ a),(3,iZ b),(4,fZ),(18,iZ w),(20,iZ s),(24,iZ e)],cU S R H d (gA L s m e)⟩ (sw S R H d a b L):=by
  generalize gA L s m e=M at*
  have gh:(a=s∨s=w)→b9 (ba S.aD) M a w=M:=fun h=>OU fT (by omega) (by omega) h x1 x2
  apply acA N S R H d n M a b w s e hN pH lR
  case n0=>
   intro g1 g2
   have g1:=of_decide_eq_true g1
   have g2:=of_decide_eq_true g2
   rw[hO M lR,iI,yD.2 ⟨by omega,g1,g2,by omega,by omega,x1,x2⟩]
   simp only[apY,aqH]
  case l3=>
   intro g1 g2
   have e5:Hi N S R H d n M a b w s e=⟨[(0,fG n),(3,iZ b),(4,fZ),(18,iZ w),(24,iZ e)],cU S R H d (b9 (ba S.aD) M a w)⟩:=by
    unfold Hi;rw[iI];rfl
   rw[e5,ap2]
   exact t3
  case l5=>
   intro g1 g2
   have g2:=of_decide_eq_false g2
   rw[gh (.inr (by omega))]at t3
   rw[ap2]
   exact t3
  case l6=>
   intro g1
   have g1:=of_decide_eq_false g1
   rw[gh (.inl (by omega))]at t3
   rw[ap2]
   exact t3
 have gh:(s=m∨m=e)→gA L s m e=L:=fun h=>abE h2 h3 h
 have Hk:(.int .i64 (aoN ao2 (((w+m:Nat):Int)-(s:Int))):aoP)=iZ e:=by rw[he,ng (by omega) (by omega)];rfl
 apply acw N S R H d n L a m b w ((w+m:Nat):Int) s hN pH hn (by omega) (by omega) (by omega) (by omega) (bL (by omega) (by omega))
 case n0=>
  intro g1 g2
  have g1:=of_decide_eq_true g1
  rw[bL (by omega) (by omega),he]at g2⊢
  have g2:=of_decide_eq_true g2
  rw[hO L hn]
  simp only[apY,arz,ao3,decide_eq_true_eq]
  omega
 case l3=>
  intro g1 g2
  have e5:Hf N S R H d n L a m b w ((w+m:Nat):Int) s=⟨[(0,fG n),(1,iZ a),(3,iZ b),(4,fZ),(18,iZ w),(20,iZ s),(24,iZ e)],cU S R H d (gA L s m e)⟩:=by
   unfold Hf;rw[iI,Hk,he,ng (by omega) (by omega)];rfl
  rw[e5,ap2]
  exact t2
 case l5=>
  intro g1 g2
  rw[bL (by omega) (by omega),he]at g2
  have g2:=of_decide_eq_false g2
  have e5:Hg N S R H d n L a m b w ((w+m:Nat):Int) s=⟨[(0,fG n),(1,iZ a),(3,iZ b),(4,fZ),(18,iZ w),(20,iZ s),(24,iZ e)],cU S R H d L⟩:=by
   unfold Hg;rw[Hk];rfl
  rw[gh (.inr (by omega))]at t2
  rw[e5,ap2]
  exact t2
 case l6=>
  intro g1
  have g1:=of_decide_eq_false g1
  have e5:Hh N S R H d n L a m b w ((w+m:Nat):Int) s=⟨[(0,fG n),(1,iZ a),(3,iZ b),(4,fZ),(18,iZ w),(20,iZ s),(24,iZ e)],cU S R H d L⟩:=by
   unfold Hh;rw[Hk];rfl
  rw[gh (.inl (by omega))]at t2
  rw[e5,ap2]
  exact t2
end
end Go.Proofs.YtnlkkgpcikkpoaaGreat
namespace Go.Proofs.YtnlkkgpcikkpoaaGreat
open Go Vm Go.RowKit
section
variable (S:ad) (R:List Int) (H:List aq) (d:au)
theorem acI(N:Nat)(hN:bB aoL 122 (Sum.dp aoL (nX N)))(L:List ByteArray)(n a m b:Nat)(hn:L.length=n)(hL:n≤1000000)(oZ:a<m)(o5:m<b)(hb:b≤n)(BD:b-a≤N+1)
 (hX:dF (ba S.aD) (aR L a m))(hY:dF (ba S.aD) (aR L m b)):
 an aoL 220 5 (mJ.drop 3) ⟨[(0,fG n),(1,iZ a),(2,iZ m),(3,iZ b),(4,fZ),(80,.bool false)],cU S R H d L⟩ (sw S R H d a b L):=by
 have pH:=a7 H
 have fT:=v8 S.aD
 have go:∀s0 r0,lU (ba S.aD) L a m b s0 r0→an aoL 220 5 (mJ.drop 10) (uo S R H d n a m b ((a+b)/2) ((a+b)/2+m) s0 r0 ((a+b)/2+m-1) L) (sw S R H d a b L):=fun s0 r0 tp=>by
  refine an.eO 10 8 (by kernel_rfl) ?_
  refine an.fL (fun s:Nat×Nat=>uo S R H d n a m b ((a+b)/2) ((a+b)/2+m) s.1 s.2 ((a+b)/2+m-1) L) (fun s=>s.2-s.1) (fun s=>lU (ba S.aD) L a m b s.1 s.2) (s0,r0) (by kernel_rfl) tp ?_
  rintro⟨i,j⟩ hs
  dsimp only at hs
  have q1:=hs.DZ
  have q2:=hs.qT
  have q3:=hs.rm
  have q4:=hs.me
  have q5:=hs.sb
  apply aco S R H d n L a m b ((a+b)/2:Nat) ((a+b)/2+m:Nat) i j ((a+b)/2+m-1:Nat) pH hn
  case l4=>
   intro g
   have g:=of_decide_eq_false g
   have e:j=i:=by omega
   subst e
   with_reducible (repeat first|refine QL.ret ?_|refine QL.exit ?_|refine QB.ret ?_|refine QB.cx ?_|refine QB.normal ?_|refine QB.cG (by rfl) ?_)
   exact acH S R H d N hN L n a m b j hn hL oZ o5 hb BD (by omega) (hs.three fT (by omega) oZ o5 hX hY)
  case l3=>
   intro g
   have g:=of_decide_eq_true g
   refine an.eO 2 9 (by kernel_rfl) ?_
   apply acq S R H d n L a m b ((a+b)/2:Nat) ((a+b)/2+m:Nat) i j ((a+b)/2+m-1:Nat) pH hn (by omega) (by omega) (by omega) (by omega) (bL (by omega) (by omega))
   ·
    have kW:i≤(i+j)/2:=by omega
    have gM:(i+j)/2<j:=by omega
    unfold Pb
    rw[km (by omega) (by omega)]
    generalize(i+j)/2=x at kW gM
    obtain⟨u,hu⟩:∃u,L[x]?=some u:=⟨_,aoV (by omega)⟩
    obtain⟨v,hv⟩:∃v,L[(a+b)/2+m-1-x]?=some v:=⟨_,aoV (by omega)⟩
    have e1:0+aoO (aoN ao2 ((((a+b)/2+m-1:Nat):Int)-(x:Int)))*1=(a+b)/2+m-1-x:=by rw[bL (by omega) (by omega)];omega
    apply acu S R H d n L a m b ((a+b)/2:Nat) ((a+b)/2+m:Nat) i j ((a+b)/2+m-1:Nat) x pH hn (by omega) (by omega) (by omega) (by omega) hL (bL (by omega) (by omega)) (bL (by omega) (by omega))
    case n0=>rw[e1];exact(dY hv).2
    case n1=>rw[gd];exact(dY hu).2
    case n2=>exact v7 rfl
    case l6=>
     intro g1
     rw[e1,gd,(dY hu).1,(dY hv).1]at g1
     have g1:fN (ba S.aD) u v=true:=g1
     with_reducible (repeat first|refine QL.ret ?_|refine QL.exit ?_|refine QB.ret ?_|refine QB.cx ?_|refine QB.normal ?_|refine QB.cG (by rfl) ?_)
     refine an.done (by kernel_rfl) ?_
     refine QL.to (x+1,j) (hs.up kW gM hu hv g1) (by dsimp only;omega) ?_
     unfold Pc uo
     dsimp only
     rw[ff (by omega)]
     rfl
    case l7=>
     intro g1
     rw[e1,gd,(dY hu).1,(dY hv).1]at g1
     have g1:=of_decide_eq_true (show decide (ba S.aD v u<0)=true by cases h:decide (ba S.aD v u<0)with|true=>rfl|false=>rw[h]at g1;cases g1)
     with_reducible (repeat first|refine QL.ret ?_|refine QL.exit ?_|refine QB.ret ?_|refine QB.cx ?_|refine QB.normal ?_|refine QB.cG (by rfl) ?_)
     refine an.done (by kernel_rfl) ?_
     refine QL.to (i,x) (hs.down kW gM hu hv (pS.2 (fT.asym _ _ g1))) (by dsimp only;omega) ?_
     rfl
 have dJ:=lU.start (ba S.aD) L oZ o5
 have eW:aoN ao2 ((((a+b)/2:Nat):Int)+(m:Int))=(((a+b)/2+m:Nat):Int):=by rw[ng (by omega) (by omega)];omega
 have eP:aoN ao2 ((((a+b)/2+m:Nat):Int)-1)=(((a+b)/2+m-1:Nat):Int):=by rw[bL (by omega) (by omega)];omega
 apply acj S R H d n L a m b pH hn (by omega) (by omega) (by omega) (by omega) (bL (by omega) (by omega))
 case l3=>
  intro g
  rw[km (by omega) (by omega)]at g
  have g:=of_decide_eq_true g
  have g2:m>(a+b)/2:=by omega
  rw[if_pos g2,if_pos g2]at dJ
  have e:Hb S R H d n L a m b=uo S R H d n a m b ((a+b)/2) ((a+b)/2+m) ((a+b)/2+m-b) ((a+b)/2) ((a+b)/2+m-1) L:=by
   unfold Hb uo
   rw[km (by omega) (by omega),eW,eP,show aoN ao2 ((((a+b)/2+m:Nat):Int)-(b:Int))=(((a+b)/2+m-b:Nat):Int)by rw[bL (by omega) (by omega)];omega]
   rfl
  rw[e,ap2]
  exact go _ _ dJ
 case l4=>
  intro g
  rw[km (by omega) (by omega)]at g
  have g:=of_decide_eq_false g
  have g2:¬m>(a+b)/2:=by omega
  rw[if_neg g2,if_neg g2]at dJ
  have e:He S R H d n L a m b=uo S R H d n a m b ((a+b)/2) ((a+b)/2+m) a m ((a+b)/2+m-1) L:=by
   unfold He uo
   rw[km (by omega) (by omega),eW,eP]
   rfl
  rw[e,ap2]
  exact go _ _ dJ
theorem acJ(N:Nat)(hN:bB aoL 122 (Sum.dp aoL (nX N)))(L:List ByteArray)(n a m b:Nat)(hn:L.length=n)(hL:n≤1000000)(oZ:a<m)(o5:m<b)(hb:b≤n)(BD:b-a≤N+1)
 (hX:dF (ba S.aD) (aR L a m))(hY:dF (ba S.aD) (aR L m b)):
 aI aoL 122 [fG n,iZ a,iZ m,iZ b,fZ] (cU S R H d L) fun r o=>r=.ret (.tuple #[])∧o=cU S R H d (b9 (ba S.aD) L a b):=by
 have pH:=a7 H
 refine aI.cY (n:=cp aoL 122) (by kernel_rfl) ?_
 have ez:∀x y:Nat,x<y→y≤n→(aoN ao2 ((y:Int)-(x:Int))==1)=decide (y=x+1):=fun x y h1 h2=>by
  rw[bL (by omega) (by omega),Bool.eq_iff_iff,beq_iff_eq,decide_eq_true_eq];omega
 apply abM S R H d n L a m b pH hn (bL (by omega) (by omega))
 ·
  by_cases c1:m=a+1
  ·subst c1
   have e:yE S R H d n L a ((a+1:Nat):Int) b=⟨[(0,fG n),(1,iZ a),(2,iZ (a+1)),(3,iZ b),(4,fZ),(28,.bool true)],cU S R H d L⟩:=by
    unfold yE;rw[ez _ _ (by omega) (by omega),decide_eq_true rfl];rfl
   rw[e]
   refine an.vG 1 (c:=28) (b:=true) (by kernel_rfl) (by rfl) (by rfl) ?_
   exact an.join (acF S R H d L n a b hn hL hb o5 hY)
  ·have e:yE S R H d n L a m b=⟨[(0,fG n),(1,iZ a),(2,iZ m),(3,iZ b),(4,fZ),(28,.bool false)],cU S R H d L⟩:=by
    unfold yE;rw[ez _ _ (by omega) (by omega),decide_eq_false c1];rfl
   rw[e]
   apply ab4 S R H d n L a m b pH hn (bL (by omega) (by omega))
   ·
    rw[ap2]
    by_cases c2:b=m+1
    ·subst c2
     have e:yF S R H d n L a m ((m+1:Nat):Int)=⟨[(0,fG n),(1,iZ a),(2,iZ m),(3,iZ (m+1)),(4,fZ),(80,.bool true)],cU S R H d L⟩:=by
      unfold yF;rw[ez _ _ (by omega) (by omega),decide_eq_true rfl];rfl
     rw[e]
     refine an.vG 3 (c:=80) (b:=true) (by kernel_rfl) (by rfl) (by rfl) ?_
     exact an.join (acG S R H d L n a m hn hL hb oZ hX)
    ·have e:yF S R H d n L a m b=⟨[(0,fG n),(1,iZ a),(2,iZ m),(3,iZ b),(4,fZ),(80,.bool false)],cU S R H d L⟩:=by
      unfold yF;rw[ez _ _ (by omega) (by omega),decide_eq_false c2];rfl
     rw[e]
     exact acI S R H d N hN L n a m b hn hL oZ o5 hb BD hX hY
end
theorem acK(N:Nat):bB aoL 122 (Sum.dp aoL (nX N)):=by
 induction N with
 |zero=>exact OW 0 fun S R H d L n a m b _ _ h1 h2 _ h3 _ _=>absurd h3 (by omega)
 |succ N ih=>exact OW (N+1) fun S R H d L n a m b h1 h2 h3 h4 h5 h6 h7 h8=>acJ S R H d N ih L n a m b h1 h2 h3 h4 h5 h6 h7 h8
end Go.Proofs.YtnlkkgpcikkpoaaGreat
namespace Go.Proofs.YtnlkkgpcikkpoaaGreat
section
variable {α:Type} {c:α→α→Int}
inductive iK(c:α→α→Int)(z:Nat):List α→Prop
 |last {l:List α}:l.length≤z→dF c l→iK c z l
 |cons {l l':List α}:l.length=z→dF c l→iK c z l'→iK c z (l++l')
inductive Full(c:α→α→Int)(z:Nat):List α→Prop
 |nil:Full c z []
 |snoc {T l:List α}:Full c z T→l.length=z→dF c l→Full c z (T++l)
theorem Full.aN{z:Nat}{T W:List α}(h:Full c z T):iK c z W→iK c z (T++W):=by
 induction h generalizing W with
 |nil=>exact id
 |snoc _ h1 h2 ih=>intro hw;rw[api];exact ih (.cons h1 h2 hw)
theorem iK.one{z:Nat}{l:List α}(h:iK c z l)(hl:l.length≤z):dF c l:=by
 cases h with
 |last _ h=>exact h
 |@cons x y h1 h2 h3=>
  rw[ao5]at hl
  have:y=[]:=apL (by omega)
  subst this
  rw[aqm];exact h2
theorem iK.head{z:Nat}{l:List α}(h:iK c z l)(hl:z<l.length):∃X Y,l=X++Y∧X.length=z∧dF c X∧iK c z Y:=by
 cases h with
 |last h1 _=>omega
 |cons h1 h2 h3=>exact⟨_,_,rfl,h1,h2,h3⟩
theorem iK.nil{z:Nat}:iK c z ([]:List α):=.last (apN _) .nil
theorem iK.two{z:Nat}{l:List α}(h:iK c z l)(hz:0<z)(hl:2*z≤l.length):∃X Y W,l=X++(Y++W)∧X.length=z∧Y.length=z∧dF c X∧dF c Y∧iK c z W:=by
 obtain⟨X,Y,rfl,h1,h2,h3⟩:=h.head (by omega)
 rw[ao5]at hl
 by_cases hy:z<Y.length
 ·obtain⟨X',W,rfl,g1,g2,g3⟩:=h3.head hy
  exact⟨X,X',W,rfl,h1,g1,h2,g2,g3⟩
 ·exact⟨X,Y,[],by simp,h1,by omega,h2,h3.one (by omega),iK.nil⟩
structure lV(c:α→α→Int)(L:List α)(z a:Nat)(M:List α):Prop where
 it:∃T U,M=T++U∧T.length=a∧Full c (2*z) T∧iK c z U
 perm:M.Perm L
theorem lV.start{L M:List α}{z:Nat}(h:iK c z M)(hp:M.Perm L):lV c L z 0 M:=⟨⟨[],M,rfl,rfl,.nil,h⟩,hp⟩
theorem BE{L:List α}{a b:Nat}(h:a≤b):(b9 c L a b).Perm L:=by
 unfold b9
 conv=>rhs;rw[sr L h]
 exact((kQ _).append_right _).append_left _
theorem lV.pre{L M:List α}{z a:Nat}(h:lV c L z a M)(hz:0<z)(hb:a+2*z≤M.length):dF c (aR M a (a+z))∧dF c (aR M (a+z) (a+2*z)):=by
 obtain⟨⟨T,U,rfl,hT,_,hU⟩,_⟩:=h
 rw[ao5]at hb
 obtain⟨X,Y,W,rfl,h1,h2,h3,h4,h5⟩:=hU.two hz (by omega)
 constructor
 ·rw[nV hT (by omega)];exact h3
 ·rw[←api,nV (by rw[ao5];omega) (by omega)];exact h4
theorem lV.step{L M:List α}{z a:Nat}(t:TO c)(h:lV c L z a M)(hz:0<z)(hb:a+2*z≤M.length):lV c L z (a+2*z) (b9 c M a (a+2*z)):=by
 have hp:=(BE (c:=c) (L:=M) (a:=a) (b:=a+2*z) (by omega)).trans h.perm
 obtain⟨⟨T,U,rfl,hT,hF,hU⟩,_⟩:=h
 rw[ao5]at hb
 obtain⟨X,Y,W,rfl,h1,h2,h3,h4,h5⟩:=hU.two hz (by omega)
 refine⟨?_,hp⟩
 rw[show T++(X++(Y++W))=T++((X++Y)++W)by simp,vZ hT (by omega) (by rw[ao5];omega)]
 have hl:(bK c (X++Y)).length=2*z:=by rw[nU,ao5];omega
 exact⟨T++bK c (X++Y),W,by simp,by rw[ao5];omega,.snoc hF hl (pT t _),h5⟩
theorem lV.acL{L M:List α}{z a:Nat}(h:lV c L z a M)(hb:M.length<a+2*z)(hm:a+z<M.length):dF c (aR M a (a+z))∧dF c (aR M (a+z) M.length):=by
 obtain⟨⟨T,U,rfl,hT,_,hU⟩,_⟩:=h
 simp only[ao5]at hb hm⊢
 obtain⟨X,Y,rfl,h1,h2,h3⟩:=hU.head (by omega)
 simp only[ao5]at hb hm⊢
 constructor
 ·rw[nV hT (by omega)];exact h2
 ·have:=nV (T:=T++X) (X:=Y) (D:=[]) (a:=a+z) (b:=T.length+(X.length+Y.length)) (by rw[ao5];omega) (by omega)
  rw[aqm,api]at this
  rw[this];exact h3.one (by omega)
theorem lV.acM{L M:List α}{z a:Nat}(t:TO c)(h:lV c L z a M)(ha:a≤M.length)(hb:M.length<a+2*z):iK c (2*z) (b9 c M a M.length)∧(b9 c M a M.length).Perm L:=by
 refine⟨?_,(BE ha).trans h.perm⟩
 obtain⟨⟨T,U,rfl,hT,hF,hU⟩,_⟩:=h
 simp only[ao5]at hb ha⊢
 have:=vZ (c:=c) (T:=T) (X:=U) (D:=[]) (a:=a) (b:=T.length+U.length) hT (by omega) (by omega)
 rw[aqm,aqm]at this
 rw[this]
 exact hF.aN (.last (by rw[nU];omega) (pT t _))
theorem lV.acN{L M:List α}{z a:Nat}(h:lV c L z a M)(hm:M.length≤a+z):iK c (2*z) M∧M.Perm L:=by
 refine⟨?_,h.perm⟩
 obtain⟨⟨T,U,rfl,hT,hF,hU⟩,_⟩:=h
 rw[ao5]at hm
 exact hF.aN (.last (by omega) (hU.one (by omega)))
structure qV(c:α→α→Int)(L:List α)(z a:Nat)(M:List α):Prop where
 it:∃T U,M=T++U∧T.length=a∧Full c z T
 perm:M.Perm L
theorem qV.start(c:α→α→Int)(L:List α)(z:Nat):qV c L z 0 L:=⟨⟨[],L,rfl,rfl,.nil⟩,.refl _⟩
theorem qV.step{L M:List α}{z a:Nat}(t:TO c)(h:qV c L z a M)(hb:a+z≤M.length):qV c L z (a+z) (b9 c M a (a+z)):=by
 have hp:=(BE (c:=c) (L:=M) (a:=a) (b:=a+z) (by omega)).trans h.perm
 refine⟨?_,hp⟩
 obtain⟨⟨T,U,rfl,hT,hF⟩,_⟩:=h
 rw[ao5]at hb
 have hX:(U.take z).length=z:=by rw[apI];omega
 have e:T++U=T++(U.take z++U.drop z):=by rw[ap6]
 rw[e,vZ hT (by omega) (by omega)]
 have hl:(bK c (U.take z)).length=z:=by rw[nU];exact hX
 exact⟨T++bK c (U.take z),U.drop z,by simp,by rw[ao5];omega,.snoc hF hl (pT t _)⟩
theorem qV.done{L M:List α}{z a:Nat}(t:TO c)(h:qV c L z a M)(ha:a≤M.length)(hb:M.length<a+z):iK c z (b9 c M a M.length)∧(b9 c M a M.length).Perm L:=by
 refine⟨?_,(BE ha).trans h.perm⟩
 obtain⟨⟨T,U,rfl,hT,hF⟩,_⟩:=h
 simp only[ao5]at hb ha⊢
 have:=vZ (c:=c) (T:=T) (X:=U) (D:=[]) (a:=a) (b:=T.length+U.length) hT (by omega) (by omega)
 rw[aqm,aqm]at this
 rw[this]
 exact hF.aN (.last (by rw[nU];omega) (pT t _))
theorem iK.done{L M:List α}{z:Nat}(t:TO c)(h:iK c z M)(hp:M.Perm L)(hz:M.length≤z):M=bK c L:=yy t hp (h.one hz)
end
end Go.Proofs.YtnlkkgpcikkpoaaGreat
namespace Go.Proofs.YtnlkkgpcikkpoaaGreat
open Go Vm Go.RowKit
noncomputable def Hl(a:List aoP)(o:List ak):Option (Bool×bO×List ak):=match a,o with
 | [.slice (some ⟨0,0,none⟩) n m,.int .i64 x,.int .i64 y,.func (.func f) c1 c2],ak.cells c t r::ak.cells e t2 r2::l=>match c1.toList,c2.toList with
  | [.pointer (some ⟨1,0,none⟩)],[]=>match(e[70]?:Option aoP)with
   |some (.bool fl)=>some (iJ (.cells c t r:: .cells e t2 r2::l) n&&(ao6 m n&&(ao6 f 74&&(decide (0≤x)&&(decide (x≤y)&&decide (y≤n))))),.ret (.tuple #[]),.cells (ao (b9 (ba fl) (cZ c) x.toNat y.toNat)) t r:: .cells e t2 r2::l)
   |_=>none
  |_,_=>none
 |_,_=>none
theorem acO:bB aoL 121 (Sum.dp aoL Hl):=bB.dp fun a o r o' hg=>by
 unfold Hl at hg
 split at hg
 ·rename_i n m x y f c1 c2 c t ro e t2 r2 l
  split at hg
  ·rename_i h1 h2
   split at hg
   ·rename_i fl fQ
    simp only[aoU,aoX,ao3,decide_eq_true_eq]at hg
    obtain⟨⟨g1,g2,g3,p1,p2,p3⟩,rfl,rfl⟩:=hg
    have g2:=apa g2
    have g3:=apa g3
    obtain⟨S,R,H,d,L,he,hl,hn⟩:=@of_decide_eq_true _ (apj _) g1
    have e1:c1= #[.pointer (some ⟨1,0,none⟩)]:=by rw[←ap1 (xs:=c1),h1]
    have e2:c2= #[]:=by rw[←ap1 (xs:=c2),h2]
    subst g2 g3 e1 e2
    obtain⟨x,rfl⟩:=aqn p1
    obtain⟨y,rfl⟩:=aqn (show 0≤y by omega)
    unfold cU at he
    injection he with o6 eT
    injection eT with eT qU
    injection o6 with hc ht hr
    injection eT with gM mz eL
    subst hc ht hr gM mz eL qU
    have:(aM S 2 0 3 4)[70]?=some (.bool S.aD):=rfl
    rw[this]at fQ
    cases fQ
    refine(aa1 S R H d L _ x y hl hn (by omega) (by omega)).mono ?_
    rintro r o ⟨rfl,rfl⟩
    exact⟨rfl,by rw[iI];rfl⟩
   ·cases hg
  ·cases hg
 ·cases hg
noncomputable def acP:List (apr×Sum):=[(121,Sum.dp aoL Hl),(122,Sum.dp aoL (nX 1000000))]
theorem BF:dk aoL (dB aoL (dE acP) 50 40):=dI de mixed (dR (.cons acO (.cons (acK 1000000) .nil))) 50 40
noncomputable section
noncomputable def yI:List apw:=bd (dC aoL 99)
open Tree renaming aW→mN,dn→mF,eS→mL,fA→mQ,dD→mR,fK→mE
noncomputable abbrev Hm:List apw:=(bd (inner (bd (inner (yI.drop 4)))))
noncomputable abbrev BG:List apw:=(bd (inner (Hm.drop 2)))
noncomputable abbrev Hn:List apw:=(bd (inner (bd (inner (yI.drop 2)))))
noncomputable abbrev Ho:List apw:=(bd (inner (bd (inner (BG.drop 1)))))
noncomputable abbrev Pf:List apw:=(yI.drop 3)
abbrev nq:=fun S R H d L=>([ab (ao L) 9,ab (aM S 2 0 3 4) 89,.abs d,ab (ap R) 3,ab (aj H) 114]:List ak)
abbrev Pg:=fun S R H d (n:Nat) L=>(⟨[(0,ah 0 n),(1,aa n),(2,.func (.func 74) #[al 1] #[]),(6,aa 20),(7,aa 0),(8,aa 20)],nq S R H d L⟩:ai)
abbrev acQ:=fun S R H d (n:Nat) L=>(⟨[(0,ah 0 n),(1,aa n),(2,.func (.func 74) #[al 1] #[])],nq S R H d L⟩:ai)
theorem acR(S R H d)(n:Nat)(L)(pH:(aj H).all ag=true)(hn:(aoM L)=n){Q:aY}(l3:an aoL 63 5 (yI.drop 2) (Pg S R H d n L) Q):an aoL 63 5 yI (acQ S R H d n L) Q:=
 aZ bt 2 (.leaf [0,1,2,6,7,8] [0,1,2,3,4] [0,3,4]) (fun u=>by kernel_rfl) (aL L R H (mQ l3))
abbrev acS:=fun S R H d (n:Nat) L (z a b:Int)=>(⟨[(0,ah 0 n),(1,aa n),(2,.func (.func 74) #[al 1] #[]),(6,aa z),(7,aa a),(8,aa b)],nq S R H d L⟩:ai)
abbrev acT:=fun S R H d (n:Nat) L (z a b:Int)=>(⟨[(0,ah 0 n),(1,aa n),(2,.func (.func 74) #[al 1] #[]),(6,aa z),(7,aa a)],nq S R H d L⟩:ai)
abbrev BH:=fun S R H d (n:Nat) L (z a b:Int)=>(⟨[(0,ah 0 n),(1,aa n),(2,.func (.func 74) #[al 1] #[]),(6,aa z),(7,aa a),(8,aa b)],nq S R H d L⟩:ai)
theorem acU(S R H d)(n:Nat)(L)(z a b:Int)(pH:(aj H).all ag=true)(hn:(aoM L)=n){Q:aY}(l3:(decide (b≤(↑n:Int)))=true→an aoL 63 5 (Hn.drop 2) (acS S R H d n L z a b) Q)(l4:(decide (b≤(↑n:Int)))=false→Q (.exit 0) (acT S R H d n L z a b)):an aoL 63 5 Hn (BH S R H d n L z a b) Q:=
 aZ bt 2 (.fork 0 (.leaf [0,1,2,6,7,8] [0,1,2,3,4] [0,3,4]) (.leaf [0,1,2,6,7] [0,1,2,3,4] [0,3,4])) (fun u=>by kernel_rfl) (mF (c:=decide (b≤(↑n:Int))) (fun h0=>(aL L R H (mQ (l3 h0)))) (fun h0=>(aL L R H (mE 0 (l4 h0)))))
abbrev Ph:=fun S R H d (n:Nat) L (z a b:Int)=>(⟨[(0,ah 0 n),(1,aa n),(2,.func (.func 74) #[al 1] #[]),(6,aa z),(7,aa b),(8,.int .i64 (aoN .i64 (b+z)))],[ab (ao (b9 (ba (ad.aD S)) (cZ (ao L)) (aoO a) (aoO b))) 9,ab (aM S 2 0 3 4) 89,.abs d,ab (ap R) 3,ab (aj H) 114]⟩:ai)
theorem acV(S R H d)(n:Nat)(L)(z a b:Int)(pH:(aj H).all ag=true)(hn:(aoM L)=n)(h0:0≤a)(h1:a≤b)(h2:b≤n)(h3:aoN .i64 (b+z)=b+z){Q:aY}(n0:(iJ [ab (ao L) 9,ab (aM S 2 0 3 4) 89,ak.abs d,ab (ap R) 3,ab (aj H) 114] n&&(ao6 n n&&(ao6 74 74&&(decide (0≤a)&&(decide (a≤b)&&decide (b≤(↑n:Int)))))))=true)(l3:Q .normal (Ph S R H d n L z a b)):an aoL 63 5 (Hn.drop 2) (BH S R H d n L z a b) Q:=
 aZ BF 1000 (aA [3,1,1,1,1,1,1] (.leaf [0,1,2,6,7,8] [0,1,2,3,4] [0,3,4])) (fun u=>by kernel_rfl) (aL L R H (mN n0 (mN (aV (b9 (ba (ad.aD S)) (cZ (ao L)) (aoO a) (aoO b))) (mN (aQ R) (mN (a7 H) (mN (aV (b9 (ba (ad.aD S)) (cZ (ao L)) (aoO a) (aoO b))) (mN (aQ R) (mN (a7 H) (mQ (an.done (by kernel_rfl) l3))))))))))
abbrev Hp:=fun S R H d (n:Nat) L (z a:Int)=>(⟨[(0,ah 0 n),(1,aa n),(2,.func (.func 74) #[al 1] #[]),(6,aa z)],[ab (ao (b9 (ba (ad.aD S)) (cZ (ao L)) (aoO a) (aoO (↑n:Int)))) 9,ab (aM S 2 0 3 4) 89,.abs d,ab (ap R) 3,ab (aj H) 114]⟩:ai)
abbrev Pj:=fun S R H d (n:Nat) L (z a:Int)=>(⟨[(0,ah 0 n),(1,aa n),(2,.func (.func 74) #[al 1] #[]),(6,aa z),(7,aa a)],nq S R H d L⟩:ai)
theorem acW(S R H d)(n:Nat)(L)(z a:Int)(pH:(aj H).all ag=true)(hn:(aoM L)=n)(h0:0≤a)(h1:a≤n){Q:aY}(n0:(iJ [ab (ao L) 9,ab (aM S 2 0 3 4) 89,ak.abs d,ab (ap R) 3,ab (aj H) 114] n&&(ao6 n n&&(ao6 74 74&&(decide (0≤a)&&(decide (a≤(↑n:Int))&&decide ((↑n:Int)≤(↑n:Int)))))))=true)(l3:an aoL 63 5 (Pf.drop 1) (Hp S R H d n L z a) Q):an aoL 63 5 Pf (Pj S R H d n L z a) Q:=
 aZ BF 1 (aA [3,1,1,1,1,1,1] (.leaf [0,1,2,6] [0,1,2,3,4] [0,3,4])) (fun u=>by kernel_rfl) (aL L R H (mN n0 (mN (aV (b9 (ba (ad.aD S)) (cZ (ao L)) (aoO a) (aoO (↑n:Int)))) (mN (aQ R) (mN (a7 H) (mN (aV (b9 (ba (ad.aD S)) (cZ (ao L)) (aoO a) (aoO (↑n:Int)))) (mN (aQ R) (mN (a7 H) (mQ l3)))))))))
abbrev acX:=fun S R H d (n:Nat) L (z:Int)=>(⟨[(0,ah 0 n),(1,aa n),(2,.func (.func 74) #[al 1] #[]),(6,aa z)],nq S R H d L⟩:ai)
noncomputable abbrev acY(S:ad)(R:List Int)(H:List aq)(d:au)(n:Nat)(L:List ByteArray)(z:Int):ai:=⟨[],nq S R H d L⟩
abbrev Pk:=fun S R H d (n:Nat) L (z:Int)=>(⟨[(0,ah 0 n),(1,aa n),(2,.func (.func 74) #[al 1] #[]),(6,aa z)],nq S R H d L⟩:ai)
theorem acZ(S R H d)(n:Nat)(L)(z:Int)(pH:(aj H).all ag=true)(hn:(aoM L)=n){Q:aY}(l3:(decide (z<(↑n:Int)))=true→an aoL 63 5 (Hm.drop 2) (acX S R H d n L z) Q)(l4:(decide (z<(↑n:Int)))=false→Q (.exit 2) (acY S R H d n L z)):an aoL 63 5 Hm (Pk S R H d n L z) Q:=
 aZ bt 2 (.fork 0 (.leaf [0,1,2,6] [0,1,2,3,4] [0,3,4]) (.leaf [] [0,1,2,3,4] [0,3,4])) (fun u=>by kernel_rfl) (mF (c:=decide (z<(↑n:Int))) (fun h0=>(aL L R H (mQ (l3 h0)))) (fun h0=>(aL L R H (mE 2 (l4 h0)))))
abbrev Hq:=fun S R H d (n:Nat) L (z:Int)=>(⟨[(0,ah 0 n),(1,aa n),(2,.func (.func 74) #[al 1] #[]),(6,aa z),(7,aa 0),(8,.int .i64 (aoN .i64 (2*z)))],nq S R H d L⟩:ai)
theorem ac0(S R H d)(n:Nat)(L)(z:Int)(pH:(aj H).all ag=true)(hn:(aoM L)=n)(h0:aoN .i64 (2*z)=2*z){Q:aY}(l3:an aoL 63 5 (BG.drop 1) (Hq S R H d n L z) Q):an aoL 63 5 BG (Pk S R H d n L z) Q:=
 aZ bt 1 (.leaf [0,1,2,6,7,8] [0,1,2,3,4] [0,3,4]) (fun u=>by kernel_rfl) (aL L R H (mQ l3))
abbrev ac1:=fun S R H d (n:Nat) L (z a b:Int)=>(⟨[(0,ah 0 n),(1,aa n),(2,.func (.func 74) #[al 1] #[]),(6,aa z),(7,aa a),(8,aa b)],nq S R H d L⟩:ai)
abbrev ac2:=fun S R H d (n:Nat) L (z a b:Int)=>(⟨[(0,ah 0 n),(1,aa n),(2,.func (.func 74) #[al 1] #[]),(6,aa z),(7,aa a)],nq S R H d L⟩:ai)
theorem ac3(S R H d)(n:Nat)(L)(z a b:Int)(pH:(aj H).all ag=true)(hn:(aoM L)=n){Q:aY}(l3:(decide (b≤(↑n:Int)))=true→an aoL 63 5 (Ho.drop 2) (ac1 S R H d n L z a b) Q)(l4:(decide (b≤(↑n:Int)))=false→Q (.exit 4) (ac2 S R H d n L z a b)):an aoL 63 5 Ho (BH S R H d n L z a b) Q:=
 aZ bt 2 (.fork 0 (.leaf [0,1,2,6,7,8] [0,1,2,3,4] [0,3,4]) (.leaf [0,1,2,6,7] [0,1,2,3,4] [0,3,4])) (fun u=>by kernel_rfl) (mF (c:=decide (b≤(↑n:Int))) (fun h0=>(aL L R H (mQ (l3 h0)))) (fun h0=>(aL L R H (mE 4 (l4 h0)))))
abbrev Pm:=fun S R H d (n:Nat) L (z a b:Int)=>(⟨[(0,ah 0 n),(1,aa n),(2,.func (.func 74) #[al 1] #[]),(6,aa z),(7,aa b),(8,.int .i64 (aoN .i64 (b+aoN .i64 (2*z))))],[ab (ao (b9 (ba (ad.aD S)) (cZ (ao L)) (aoO a) (aoO b))) 9,ab (aM S 2 0 3 4) 89,.abs d,ab (ap R) 3,ab (aj H) 114]⟩:ai)
theorem ac4(S R H d)(n:Nat)(L)(z a b:Int)(pH:(aj H).all ag=true)(hn:(aoM L)=n)(h0:aoN .i64 (a+z)=a+z)(h1:aoN .i64 (2*z)=2*z)(h2:aoN .i64 (b+2*z)=b+2*z){Q:aY}(n0:(iJ [ab (ao L) 9,ab (aM S 2 0 3 4) 89,ak.abs d,ab (ap R) 3,ab (aj H) 114] n&&(ao6 n n&&(ao6 74 74&&uk (ba (ad.aD S)) (cZ (ao L)) n a (aoN .i64 (a+z)) b 1000000)))=true)(l3:Q .normal (Pm S R H d n L z a b)):an aoL 63 5 (Ho.drop 2) (BH S R H d n L z a b) Q:=
 aZ BF 1000 (aA [3,1,1,1,1,1,1] (.leaf [0,1,2,6,7,8] [0,1,2,3,4] [0,3,4])) (fun u=>by kernel_rfl) (aL L R H (mN n0 (mN (aV (b9 (ba (ad.aD S)) (cZ (ao L)) (aoO a) (aoO b))) (mN (aQ R) (mN (a7 H) (mN (aV (b9 (ba (ad.aD S)) (cZ (ao L)) (aoO a) (aoO b))) (mN (aQ R) (mN (a7 H) (mQ (an.done (by kernel_rfl) l3))))))))))
abbrev Pn:=fun S R H d (n:Nat) L (z a:Int)=>(⟨[(0,ah 0 n),(1,aa n),(2,.func (.func 74) #[al 1] #[]),(6,.int .i64 (aoN .i64 (z*2)))],[ab (ao (b9 (ba (ad.aD S)) (cZ (ao L)) (aoO a) (aoO (↑n:Int)))) 9,ab (aM S 2 0 3 4) 89,.abs d,ab (ap R) 3,ab (aj H) 114]⟩:ai)
abbrev Po:=fun S R H d (n:Nat) L (z a:Int)=>(⟨[(0,ah 0 n),(1,aa n),(2,.func (.func 74) #[al 1] #[]),(6,.int .i64 (aoN .i64 (z*2)))],nq S R H d L⟩:ai)
theorem ac5(S R H d)(n:Nat)(L)(z a:Int)(pH:(aj H).all ag=true)(hn:(aoM L)=n)(h0:aoN .i64 (a+z)=a+z)(h1:aoN .i64 (z*2)=z*2){Q:aY}(n0:(decide (aoN .i64 (a+z)<(↑n:Int)))=true→(iJ [ab (ao L) 9,ab (aM S 2 0 3 4) 89,ak.abs d,ab (ap R) 3,ab (aj H) 114] n&&(ao6 n n&&(ao6 74 74&&uk (ba (ad.aD S)) (cZ (ao L)) n a (aoN .i64 (a+z)) (↑n:Int) 1000000)))=true)(l3:(decide (aoN .i64 (a+z)<(↑n:Int)))=true→Q .normal (Pn S R H d n L z a))(l5:(decide (aoN .i64 (a+z)<(↑n:Int)))=false→Q .normal (Po S R H d n L z a)):an aoL 63 5 (BG.drop 2) (Pj S R H d n L z a) Q:=
 aZ BF 1000 (.fork 0 (aA [3,1,1,1,1,1,1] (.leaf [0,1,2,6] [0,1,2,3,4] [0,3,4])) (.leaf [0,1,2,6] [0,1,2,3,4] [0,3,4])) (fun u=>by kernel_rfl) (mF (c:=decide (aoN .i64 (a+z)<(↑n:Int))) (fun h0=>(aL L R H (mN (n0 h0) (mN (aV (b9 (ba (ad.aD S)) (cZ (ao L)) (aoO a) (aoO (↑n:Int)))) (mN (aQ R) (mN (a7 H) (mN (aV (b9 (ba (ad.aD S)) (cZ (ao L)) (aoO a) (aoO (↑n:Int)))) (mN (aQ R) (mN (a7 H) (mQ (an.done (by kernel_rfl) (l3 h0)))))))))))) (fun h0=>(aL L R H (mQ (an.done (by kernel_rfl) (l5 h0))))))
end
section
variable (S:ad) (R:List Int) (H:List aq) (d:au)
def uq(n z:Nat)(s:Nat×List ByteArray)(b:Nat):ai:=⟨[(0,fG n),(1,iZ n),(2,fZ),(6,iZ z),(7,iZ s.1),(8,iZ (s.1+b))],cU S R H d s.2⟩
def yJ(n:Nat)(s:Nat×List ByteArray):ai:=⟨[(0,fG n),(1,iZ n),(2,fZ),(6,iZ s.1)],cU S R H d s.2⟩
theorem ac6(L:List ByteArray)(n:Nat)(hn:L.length=n)(hL:n≤1000000):
 aI aoL 99 [fG n,iZ n,fZ] (cU S R H d L) fun r o=>r=.ret (.tuple #[])∧o=cU S R H d (bK (ba S.aD) L):=by
 have pH:=a7 H
 have fT:=v8 S.aD
 have hO:∀M:List ByteArray,M.length=n→iJ [ak.cells (ao M) 9 false,ak.cells (aM S 2 0 3 4) 89 false,ak.abs d,ak.cells (ap R) 3 false,ak.cells (aj H) 114 false] n=true:=fun M hM=>wa (S:=S) (R:=R) (H:=H) (d:=d) (L:=M) rfl hM hL
 refine aI.cY (n:=cp aoL 99) (by kernel_rfl) ?_
 apply acR S R H d n L pH hn
 ·
  rw[show Pg S R H d n L=uq S R H d n 20 (0,L) 20 from rfl]
  refine an.eO 2 0 (by kernel_rfl) ?_
  refine an.fL (fun s=>uq S R H d n 20 s 20) (fun s=>n+20-s.1) (fun s=>s.1≤n∧qV (ba S.aD) L 20 s.1 s.2) (0,L) (by kernel_rfl) ⟨apN _,qV.start _ _ _⟩ ?_
  rintro⟨a,M⟩ ⟨ha,hF⟩
  dsimp only at ha hF
  have gg:M.length=n:=by rw[hF.perm.length_eq,hn]
  apply acU S R H d n M (20:Nat) a ((a+20:Nat):Int) pH gg
  case l3=>
   intro g
   have g:=of_decide_eq_true g
   apply acV S R H d n M (20:Nat) a ((a+20:Nat):Int) pH gg (by omega) (by omega) (by omega) (bL (by omega) (by omega))
   case n0=>
    rw[hO M gg]
    simp only[apY,arz,ao3,decide_eq_true_eq]
    omega
   case l3=>
    refine QL.to (a+20,b9 (ba S.aD) M a (a+20)) ⟨by dsimp only;omega,hF.step fT (by omega)⟩ (by dsimp only;omega) ?_
    unfold Ph uq
    rw[iI,bL (by omega) (by omega)]
    rfl
  case l4=>
   intro g
   have g:=of_decide_eq_false g
   with_reducible (repeat first|refine QL.ret ?_|refine QL.exit ?_|refine QB.ret ?_|refine QB.cx ?_|refine QB.normal ?_|refine QB.cG (by rfl) ?_)
   apply acW S R H d n M (20:Nat) a pH gg (by omega) (by omega)
   case n0=>
    rw[hO M gg]
    simp only[apY,arz,ao3,decide_eq_true_eq]
    omega
   case l3=>
    obtain⟨hB,hP⟩:=hF.done fT (by omega) (by omega)
    rw[gg]at hB hP
    have e:Hp S R H d n M (20:Nat) a=yJ S R H d n (20,b9 (ba S.aD) M a n):=by
     unfold Hp yJ;rw[iI];rfl
    rw[e,ap2]
    generalize b9 (ba S.aD) M a n=M1 at hB hP
    refine an.eO 4 2 (by kernel_rfl) ?_
    refine an.fL (yJ S R H d n) (fun s=>n-s.1) (fun s=>20≤s.1∧s.1≤2000020∧iK (ba S.aD) s.1 s.2∧s.2.Perm L) (20,M1) (by kernel_rfl) ⟨apn _,by dsimp only;omega,hB,hP⟩ ?_
    clear hB hP e hF gg
    rintro⟨z,M⟩ ⟨hz,ac7,hB,hP⟩
    dsimp only at hz ac7 hB hP
    have gg:M.length=n:=by rw[hP.length_eq,hn]
    apply acZ S R H d n M z pH gg
    case l4=>
     intro g
     have g:=of_decide_eq_false g
     have e1:M=bK (ba S.aD) L:=hB.done fT hP (by omega)
     subst e1
     with_reducible (repeat first|refine QL.ret ?_|refine QL.exit ?_|refine QB.ret ?_|refine QB.cx ?_|refine QB.normal ?_|refine QB.cG (by rfl) ?_)
     refine an.done (by kernel_rfl) ?_
     exact aJ.normal (vs:=[]) (l:=[]) (bs:=[0,1,2,3,4]) (pl:=[0,3,4]) (q:=[ao (bK (ba S.aD) L),ap R,aj H]) (fun u=>by kernel_rfl) (by kernel_rfl) (aF (by simp) (aF (by simp) (aF pH bi))) ⟨rfl,rfl⟩
    case l3=>
     intro g
     have g:=of_decide_eq_true g
     refine an.eO 2 3 (by kernel_rfl) ?_
     apply ac0 S R H d n M z pH gg (bL (by omega) (by omega))
     ·
      have e:Hq S R H d n M z=uq S R H d n z (0,M) (2*z):=by
       unfold Hq uq
       rw[bL (by omega) (by omega)]
       dsimp only
       rw[show(2*(z:Int))=((0+2*z:Nat):Int)by omega]
       rfl
      rw[e]
      refine an.eO 1 4 (by kernel_rfl) ?_
      refine an.fL (fun s=>uq S R H d n z s (2*z)) (fun s=>n+2*z-s.1) (fun s=>s.1≤n∧lV (ba S.aD) L z s.1 s.2) (0,M) (by kernel_rfl) ⟨apN _,lV.start hB hP⟩ ?_
      rintro⟨a,K⟩ ⟨ha,hK⟩
      dsimp only at ha hK
      have ur:K.length=n:=by rw[hK.perm.length_eq,hn]
      apply ac3 S R H d n K z a ((a+2*z:Nat):Int) pH ur
      case l3=>
       intro g3
       have g3:=of_decide_eq_true g3
       obtain⟨s1,s2⟩:=hK.pre (by omega) (by omega)
       have Hr:(a:Int)+(z:Int)=((a+z:Nat):Int):=by omega
       apply ac4 S R H d n K z a ((a+2*z:Nat):Int) pH ur (bL (by omega) (by omega)) (bL (by omega) (by omega)) (bL (by omega) (by omega))
       case n0=>
        rw[hO K ur,iI,bL (by omega) (by omega),Hr,yD.2 ⟨by omega,by omega,by omega,by omega,by omega,s1,s2⟩]
        simp only[apY,aqH]
       case l3=>
        refine QL.to (a+2*z,b9 (ba S.aD) K a (a+2*z)) ⟨by dsimp only;omega,hK.step fT (by omega) (by omega)⟩ (by dsimp only;omega) ?_
        unfold Pm uq
        rw[iI,bL (z:=2*(z:Int)) (by omega) (by omega),bL (by omega) (by omega)]
        dsimp only
        rw[show(((a+2*z:Nat):Int)+2*(z:Int))=((a+2*z+2*z:Nat):Int)by omega]
        rfl
      case l4=>
       intro g3
       have g3:=of_decide_eq_false g3
       have Hr:(a:Int)+(z:Int)=((a+z:Nat):Int):=by omega
       have Pp:(.int .i64 (aoN ao2 ((z:Int)*2)):aoP)=iZ (2*z):=by rw[bL (by omega) (by omega),show((z:Int)*2)=((2*z:Nat):Int)by omega];rfl
       with_reducible (repeat first|refine QL.ret ?_|refine QL.exit ?_|refine QB.ret ?_|refine QB.cx ?_|refine QB.normal ?_|refine QB.cG (by rfl) ?_)
       apply ac5 S R H d n K z a pH ur (bL (by omega) (by omega)) (bL (by omega) (by omega))
       case n0=>
        intro g4
        rw[bL (by omega) (by omega),Hr]at g4⊢
        have g4:=of_decide_eq_true g4
        obtain⟨s1,s2⟩:=hK.acL (by omega) (by omega)
        rw[ur]at s2
        rw[hO K ur,iI,yD.2 ⟨by omega,by omega,by omega,by omega,by omega,s1,s2⟩]
        simp only[apY,aqH]
       case l3=>
        intro g4
        obtain⟨b1,b2⟩:=hK.acM fT (by omega) (by omega)
        rw[ur]at b1 b2
        with_reducible (repeat first|refine QL.ret ?_|refine QL.exit ?_|refine QB.ret ?_|refine QB.cx ?_|refine QB.normal ?_|refine QB.cG (by rfl) ?_)
        refine an.done (by kernel_rfl) ?_
        refine QL.to (2*z,b9 (ba S.aD) K a n) ⟨by dsimp only;omega,by dsimp only;omega,b1,b2⟩ (by dsimp only;omega) ?_
        unfold Pn yJ
        rw[iI,Pp]
        rfl
       case l5=>
        intro g4
        rw[bL (by omega) (by omega)]at g4
        have g4:=of_decide_eq_false g4
        obtain⟨b1,b2⟩:=hK.acN (by omega)
        with_reducible (repeat first|refine QL.ret ?_|refine QL.exit ?_|refine QB.ret ?_|refine QB.cx ?_|refine QB.normal ?_|refine QB.cG (by rfl) ?_)
        refine an.done (by kernel_rfl) ?_
        refine QL.to (2*z,K) ⟨by dsimp only;omega,by dsimp only;omega,b1,b2⟩ (by dsimp only;omega) ?_
        unfold Po yJ
        rw[Pp]
        rfl
end
end Go.Proofs.YtnlkkgpcikkpoaaGreat
namespace Go.Proofs.YtnlkkgpcikkpoaaGreat
open Go Vm Go.RowKit
noncomputable def Hs(a:List aoP)(o:List ak):Option (Bool×bO×List ak):=match a,o with
 | [.slice (some ⟨0,0,none⟩) n m,.int .i64 x,.func (.func f) c1 c2],ak.cells c t r::ak.cells e t2 r2::l=>match c1.toList,c2.toList with
  | [.pointer (some ⟨1,0,none⟩)],[]=>match(e[70]?:Option aoP)with
   |some (.bool fl)=>some (iJ (.cells c t r:: .cells e t2 r2::l) n&&(ao6 m n&&(ao6 f 74&&decide (x=n))),.ret (.tuple #[]),.cells (ao (bK (ba fl) (cZ c))) t r:: .cells e t2 r2::l)
   |_=>none
  |_,_=>none
 |_,_=>none
theorem ac8:bB aoL 99 (Sum.dp aoL Hs):=bB.dp fun a o r o' hg=>by
 unfold Hs at hg
 split at hg
 ·rename_i n m x f c1 c2 c t ro e t2 r2 l
  split at hg
  ·rename_i h1 h2
   split at hg
   ·rename_i fl fQ
    simp only[aoU,aoX,ao3,decide_eq_true_eq]at hg
    obtain⟨⟨g1,g2,g3,p1⟩,rfl,rfl⟩:=hg
    have g2:=apa g2
    have g3:=apa g3
    obtain⟨S,R,H,d,L,he,hl,hn⟩:=@of_decide_eq_true _ (apj _) g1
    have e1:c1= #[.pointer (some ⟨1,0,none⟩)]:=by rw[←ap1 (xs:=c1),h1]
    have e2:c2= #[]:=by rw[←ap1 (xs:=c2),h2]
    subst g2 g3 e1 e2 p1
    unfold cU at he
    injection he with o6 eT
    injection eT with eT qU
    injection o6 with hc ht hr
    injection eT with gM mz eL
    subst hc ht hr gM mz eL qU
    have:(aM S 2 0 3 4)[70]?=some (.bool S.aD):=rfl
    rw[this]at fQ
    cases fQ
    refine(ac6 S R H d L _ hl hn).mono ?_
    rintro r o ⟨rfl,rfl⟩
    exact⟨rfl,by rw[iI];rfl⟩
   ·cases hg
  ·cases hg
 ·cases hg
noncomputable def ac9:List (apr×Sum):=[(99,Sum.dp aoL Hs)]
theorem ada:dk aoL (dB aoL (dE ac9) 50 40):=dI de mixed (dR (.cons ac8 .nil)) 50 40
noncomputable section
noncomputable def adb:List apw:=bd (dC aoL 73)
open Tree renaming aW→mN,dn→mF,eS→mL,fA→mQ,dD→mR,fK→mE
abbrev Ht:=fun S R H d (n:Nat) L=>(⟨[],[ab (ao (bK (ba (ad.aD S)) (cZ (ao L)))) 9,ab (aM S 2 0 3 4) 89,.abs d,ab (ap R) 3,ab (aj H) 114]⟩:ai)
abbrev ade:=fun S R H d (n:Nat) L=>(⟨[(0,ah 0 n),(1,.func (.func 74) #[al 1] #[])],[ab (ao L) 9,ab (aM S 2 0 3 4) 89,.abs d,ab (ap R) 3,ab (aj H) 114]⟩:ai)
theorem adf(S R H d)(n:Nat)(L)(pH:(aj H).all ag=true)(hn:(aoM L)=n){Q:aY}(n0:(iJ [ab (ao L) 9,ab (aM S 2 0 3 4) 89,ak.abs d,ab (ap R) 3,ab (aj H) 114] n&&(ao6 n n&&(ao6 74 74&&decide ((↑n:Int)=(↑n:Int)))))=true)(l3:Q .normal (Ht S R H d n L)):an aoL 9 5 adb (ade S R H d n L) Q:=
 aZ ada 1000 (aA [5,1,1,1,1,1,1] (.leaf [] [0,1,2,3,4] [0,3,4])) (fun u=>by kernel_rfl) (aL L R H (mN n0 (mN (aV (bK (ba (ad.aD S)) (cZ (ao L)))) (mN (aQ R) (mN (a7 H) (mN (aV (bK (ba (ad.aD S)) (cZ (ao L)))) (mN (aQ R) (mN (a7 H) (mQ (an.done (by kernel_rfl) l3))))))))))
end
theorem adg(S:ad)(R:List Int)(H:List aq)(d:au)(L:List ByteArray)(n:Nat)(hn:L.length=n)(hL:n≤1000000):
 aI aoL 73 [fG n,fZ] (cU S R H d L) fun r o=>r=.ret (.tuple #[])∧o=cU S R H d (bK (ba S.aD) L):=by
 have pH:=a7 H
 have hO:∀M:List ByteArray,M.length=n→iJ [ak.cells (ao M) 9 false,ak.cells (aM S 2 0 3 4) 89 false,ak.abs d,ak.cells (ap R) 3 false,ak.cells (aj H) 114 false] n=true:=fun M hM=>wa (S:=S) (R:=R) (H:=H) (d:=d) (L:=M) rfl hM hL
 refine aI.cY (n:=cp aoL 73) (by kernel_rfl) ?_
 apply adf S R H d n L pH hn
 case n0=>
  rw[hO L hn]
  simp only[apY,arz,decide_eq_true_eq]
 case l3=>
  have e:Ht S R H d n L=⟨[],cU S R H d (bK (ba S.aD) L)⟩:=by unfold Ht;rw[iI];rfl
  rw[e]
  exact aJ.normal (vs:=[]) (l:=[]) (bs:=[0,1,2,3,4]) (pl:=[0,3,4]) (q:=[ao (bK (ba S.aD) L),ap R,aj H]) (fun u=>by kernel_rfl) (by kernel_rfl) (aF (by simp) (aF (by simp) (aF pH bi))) ⟨rfl,rfl⟩
noncomputable def BI(a:List aoP)(o:List ak):Option (Bool×bO×List ak):=match a,o with
 | [.slice (some ⟨0,0,none⟩) n m,.func (.func f) c1 c2],ak.cells c t r::ak.cells e t2 r2::l=>match c1.toList,c2.toList with
  | [.pointer (some ⟨1,0,none⟩)],[]=>match(e[70]?:Option aoP)with
   |some (.bool fl)=>some (iJ (.cells c t r:: .cells e t2 r2::l) n&&(ao6 m n&&ao6 f 74),.ret (.tuple #[]),.cells (ao (bK (ba fl) (cZ c))) t r:: .cells e t2 r2::l)
   |_=>none
  |_,_=>none
 |_,_=>none
theorem Pq:bB aoL 73 (Sum.dp aoL BI):=bB.dp fun a o r o' hg=>by
 unfold BI at hg
 split at hg
 ·rename_i n m f c1 c2 c t ro e t2 r2 l
  split at hg
  ·rename_i h1 h2
   split at hg
   ·rename_i fl fQ
    simp only[aoU,aoX,ao3,decide_eq_true_eq]at hg
    obtain⟨⟨g1,g2,g3⟩,rfl,rfl⟩:=hg
    have g2:=apa g2
    have g3:=apa g3
    obtain⟨S,R,H,d,L,he,hl,hn⟩:=@of_decide_eq_true _ (apj _) g1
    have e1:c1= #[.pointer (some ⟨1,0,none⟩)]:=by rw[←ap1 (xs:=c1),h1]
    have e2:c2= #[]:=by rw[←ap1 (xs:=c2),h2]
    subst g2 g3 e1 e2
    unfold cU at he
    injection he with o6 eT
    injection eT with eT qU
    injection o6 with hc ht hr
    injection eT with gM mz eL
    subst hc ht hr gM mz eL qU
    have:(aM S 2 0 3 4)[70]?=some (.bool S.aD):=rfl
    rw[this]at fQ
    cases fQ
    refine(adg S R H d L _ hl hn).mono ?_
    rintro r o ⟨rfl,rfl⟩
    exact⟨rfl,by rw[iI];rfl⟩
   ·cases hg
  ·cases hg
 ·cases hg
def bp(c:List aoP):ByteArray:=⟨(c.map fun v=>match v with| .int _ x=>atI x|_=>0).toArray⟩
@[simp] theorem jg(b:ByteArray):bp (af b)=b:=by
 unfold bp af
 rw[arN]
 have:b.data.toList.map ((fun v:aoP=>match v with| .int _ x=>atI x|_=>0)∘fun x=>aoW .u8 x.toNat)=b.data.toList:=by
  conv=>rhs;rw[←List.map_id b.data.toList]
  refine aq0 fun x _=>?_
  show atI ((x.toNat:Nat):Int)=x
  unfold atI
  have h:=x.toNat_lt
  apply UInt8.toNat_inj.1
  simp
  omega
 rw[this]
noncomputable def BJ(a:List aoP)(o:List ak):Option (Bool×bO×List ak):=match a,o with
 | [.pointer (some ⟨0,0,none⟩)],[.abs d]=>some (lQ d,.ret (.tuple #[.int .i64 (bH d).1,.int .i64 (bH d).2.1]),[.abs (bH d).2.2])
 |_,_=>none
theorem Pr:bB aoL 97 (Sum.dp aoL BJ):=bB.dp fun a o r o' hg=>by
 unfold BJ at hg
 split at hg
 ·rename_i d
  simp only[aoU,aoX]at hg
  obtain⟨h1,rfl,rfl⟩:=hg
  exact aae d (nl.1 h1)
 ·cases hg
noncomputable def Hu(a:List aoP)(o:List ak):Option (Bool×bO×List ak):=match a,o with
 | [.pointer (some ⟨0,0,none⟩),.int .i64 no],[.abs d]=>some (lQ d,.ret (.int .i64 (cF d no).1),[.abs (cF d no).2])
 |_,_=>none
theorem adh:bB aoL 43 (Sum.dp aoL Hu):=bB.dp fun a o r o' hg=>by
 unfold Hu at hg
 split at hg
 ·rename_i no d
  simp only[aoU,aoX]at hg
  obtain⟨h1,rfl,rfl⟩:=hg
  exact aah d (nl.1 h1) no
 ·cases hg
noncomputable def yK(a:List aoP)(o:List ak):Option (Bool×bO×List ak):=match a,o with
 | [.pointer (some ⟨0,0,none⟩)],[.abs d]=>some (true,.ret (.int .i64 d.raw),[.abs d])
 |_,_=>none
theorem Hv:bB aoL 71 (Sum.dp aoL yK):=bB.dp fun a o r o' hg=>by
 unfold yK at hg
 split at hg
 ·rename_i d
  simp only[aoU,aoX,true_and]at hg
  obtain⟨rfl,rfl⟩:=hg
  exact aai d
 ·cases hg
noncomputable def yL(a:List aoP)(o:List ak):Option (Bool×bO×List ak):=match a,o with
 | [.pointer (some ⟨0,0,none⟩)],[.abs d]=>some (true,.ret (.int .i64 d.calls),[.abs d])
 |_,_=>none
theorem Hw:bB aoL 20 (Sum.dp aoL yL):=bB.dp fun a o r o' hg=>by
 unfold yL at hg
 split at hg
 ·rename_i d
  simp only[aoU,aoX,true_and]at hg
  obtain⟨rfl,rfl⟩:=hg
  exact aaj d
 ·cases hg
def Ps(d:au)(no:Int)(c:List aoP)(t:TypeId)(ro:Bool)(n m:Nat):Prop:=ca d∧∃b,c=af b∧n=b.size∧m=b.size∧t=5∧ro=false∧∀f,fileOf d.files no=some f→f.size+b.size≤1000000
noncomputable def yM(d:au)(no:Int)(c:List aoP)(t:TypeId)(ro:Bool)(n m:Nat):Bool:=@decide (Ps d no c t ro n m) (apj _)
theorem Hx{d:au}{no:Int}{c:List aoP}{t:TypeId}{ro:Bool}{n m:Nat}:yM d no c t ro n m=true↔Ps d no c t ro n m:=by
 unfold yM;exact @decide_eq_true_iff _ (apj _)
noncomputable def BK(a:List aoP)(o:List ak):Option (Bool×bO×List ak):=match a,o with
 | [.pointer (some ⟨0,0,none⟩),.int .i64 no,.slice (some ⟨1,0,none⟩) n m],[.abs d,.cells c t ro]=>some (yM d no c t ro n m,.ret (.int .i64 (bU d no (bp c)).1),[.abs (bU d no (bp c)).2,.cells c t ro])
 |_,_=>none
theorem Pt:bB aoL 98 (Sum.dp aoL BK):=bB.dp fun a o r o' hg=>by
 unfold BK at hg
 split at hg
 ·rename_i no n m d c t ro
  simp only[aoU,aoX,Hx]at hg
  obtain⟨⟨h1,b,rfl,rfl,rfl,rfl,rfl,h2⟩,rfl,rfl⟩:=hg
  rw[jg]
  exact aam d h1 no b h2
 ·cases hg
noncomputable def Hy:Sum:=⟨kN aoL,fun a o=>match a,o with
 | [.pointer (some ⟨0,0,none⟩),.int .i64 no,.int .i64 p,.int .i64 k],[.abs d]=>.tL (lQ d) (.ask ((aP d no p k).2.1==0) fun b=>match b with
  |true=>.done (.ret (.tuple #[.slice (some ⟨1,0,none⟩) (aP d no p k).1.size (aP d no p k).1.size,.int .i64 0]),[.abs (aP d no p k).2.2,.cells (af (aP d no p k).1) 5 false])
  |false=>.done (.ret (.tuple #[.slice none 0 0,.int .i64 (aP d no p k).2.1]),[.abs (aP d no p k).2.2]))
 |_,_=>.fail⟩
theorem adi:bB aoL 79 Hy:=by
 intro a o r o' hg
 unfold Hy at hg
 dsimp only at hg
 split at hg
 ·rename_i no p k d
  obtain⟨h1,hg⟩:=QT.vz hg
  have hg:(match((aP d no p k).2.1==0)with|true=>_|false=>_:QT (bO×List ak)).run=some (r,o'):=hg
  refine(aap d (nl.1 h1) no p k).mono fun r1 o1 h=>?_
  obtain⟨rfl,rfl⟩:=h
  unfold yr
  cases hk:((aP d no p k).2.1==0)with
  |true=>
   rw[hk]at hg
   cases hg
   rw[if_pos (by simpa using hk)]
   exact⟨rfl,rfl⟩
  |false=>
   rw[hk]at hg
   cases hg
   rw[if_neg (by simpa using hk)]
   exact⟨rfl,rfl⟩
 ·cases hg
def ad.z(S:ad):ad:={S with ro:=0}
def Hz(S:ad)(a:Nat)(rv tv hv:aoP):List aoP:=[.int .i64 S.at_,.bool S.more,.bool S.bE]++yv S.B++[.int .i64 S.n,.bool S.failed,.pointer (some ⟨a,0,none⟩),.bool S.aD,rv,.int .i64 S.bN,tv,hv,.bool S.dX,.int .i64 S.raw,.bool S.closed]
def jh(S:ad)(L:List ByteArray)(R:List Int)(H:List aq)(d:au):List ak:=[.cells (aM S 1 5 6 7) 89 false,.abs d,.dead,.dead,.dead,.cells (ao L) 9 false,.cells (ap R) 3 false,.cells (aj H) 114 false]
noncomputable def adj:List (apr×Sum):=[(73,Sum.dp aoL BI),(97,Sum.dp aoL BJ),(98,Sum.dp aoL BK)]
theorem Pu:dk aoL (dB aoL (dE adj) 50 40):=dI de mixed (dR (.cons Pq (.cons Pr (.cons Pt .nil)))) 50 40
noncomputable section
noncomputable def sx:List apw:=bd (dC aoL 70)
open Tree renaming aW→mN,dn→mF,eS→mL,fA→mQ,dD→mR,fK→mE
noncomputable abbrev HA:List apw:=(bd (inner (bd (inner (sx.drop 7)))))
abbrev Pv:=fun S R H d L=>(⟨[(2,aa (aoY (apG (bH d))))],[ab (aM (ad.z S) 1 5 6 7) 89,.abs (apG (apG (bH d))),.dead,.dead,.dead,ab (ao (bK (ba (ad.aD S)) (cZ (ao L)))) 9,ab (ap R) 3,ab (aj H) 114]⟩:ai)
theorem adk(S R H d L){Q:bo}(aX:aoS (ap R) ag=true)(bh:aoS (aj H) ag=true)(hq:Q (.ret (aa (aoY (apG (bH d))))) [ab (aM (ad.z S) 1 5 6 7) 89,.abs (apG (apG (bH d))),.dead,.dead,.dead,ab (ao (bK (ba (ad.aD S)) (cZ (ao L)))) 9,ab (ap R) 3,ab (aj H) 114]):aJ aoL 70 64 5 Q .ret (Pv S R H d L):=aJ.ret (vs:=[aa (aoY (apG (bH d)))]) (l:=[]) (bs:=[0,1,2,3,4,5,6,7]) (pl:=[5,6,7]) (q:=[ao (bK (ba (ad.aD S)) (cZ (ao L))),ap R,aj H]) (fun u=>by kernel_rfl) (by kernel_rfl) (aF (by simp) (aF aX (aF bh bi))) hq
abbrev Pw:=fun S R H d L=>(⟨[(0,al 0),(3,aa (aoY (bH d)))],[ab (aM (ad.z S) 1 5 6 7) 89,.abs (apG (apG (bH d))),.dead,.dead,.dead,ab (ao (bK (ba (ad.aD S)) (cZ (ao L)))) 9,ab (ap R) 3,ab (aj H) 114]⟩:ai)
abbrev BL:=fun(S:ad) R H d L=>([ab (aM S.z 1 5 6 7) 89,.abs d,.dead,.dead,.dead,ab (ao L) 9,ab (ap R) 3,ab (aj H) 114]:List ak)
abbrev Px:=fun S R H d L=>(⟨[(0,al 0)],BL S R H d L⟩:ai)
theorem adl(S:ad)(R H d L)(pH:(aj H).all ag=true)(hL:(aoM L)=S.rn)(hR:(aoM R)=S.sn){Q:aY}(n0:(iJ [ab (ao L) 9,ab (aM (ad.z S) 2 0 3 4) 89,ak.abs d,ab (ap R) 3,ab (aj H) 114] (ad.rn S)&&(ao6 (ad.rn S) (ad.rn S)&&ao6 74 74))=true)(n1:(lQ d)=true)(l4:(aoY (apG (bH d)) != 0)=true→Q .ret (Pv S R H d L))(l5:(aoY (apG (bH d)) != 0)=false→an aoL 64 5 (sx.drop 5) (Pw S R H d L) Q):an aoL 64 5 sx (Px S R H d L) Q:=
 aZ Pu 5 (aA [5,1,1,1,1,1,1,5] (.fork 0 (.leaf [2] [0,1,2,3,4,5,6,7] [5,6,7]) (.leaf [0,3] [0,1,2,3,4,5,6,7] [5,6,7]))) (fun u=>by kernel_rfl) (aL L R H (mN n0 (mN (aV (bK (ba (ad.aD S)) (cZ (ao L)))) (mN (aQ R) (mN (a7 H) (mN n1 (mF (c:=aoY (apG (bH d)) != 0) (fun h0=>(mN (aV (bK (ba (ad.aD S)) (cZ (ao L)))) (mN (aQ R) (mN (a7 H) (mR (l4 h0)))))) (fun h0=>(mN (aV (bK (ba (ad.aD S)) (cZ (ao L)))) (mN (aQ R) (mN (a7 H) (mQ (l5 h0)))))))))))))
abbrev HB:=fun S R H d L (no:Int)=>(⟨[(0,al 0),(3,aa no),(39,ah 5 (ad.rn S)),(40,aa (ad.rn S)),(41,aa 0)],[ab (aM (ad.mk (ad.at_ S) (ad.more S) (ad.bE S) (ad.B (ad.z S)) (ad.n S) (ad.failed S) (ad.aD S) 0 (ad.rn S) (ad.bN S) (ad.sn S+1) (ad.hn S) (ad.dX S) (ad.raw S) (ad.closed S)) 1 5 6 7) 89,.abs d,.dead,.dead,.dead,ab (ao L) 9,ab (ap R++[aa no]) 3,ab (aj H) 114]⟩:ai)
abbrev adm:=fun S R H d L (no:Int)=>(⟨[(0,al 0),(3,aa no)],BL S R H d L⟩:ai)
theorem adn(S:ad)(R H d L)(no:Int)(pH:(aj H).all ag=true)(hL:(aoM L)=S.rn)(hR:(aoM R)=S.sn){Q:aY}(n0:(apf (ad.sn S+1) 1000000)=true)(aX:aoS (ao L) ag=true)(bh:aoS (aj H) ag=true)(l3:an aoL 64 5 ((sx.drop 5).drop 2) (HB S R H d L no) Q):an aoL 64 5 (sx.drop 5) (adm S R H d L no) Q:=
 aZ bt 2 (aA [2,3,5,1] (.leaf [0,3,39,40,41] [0,1,2,3,4,5,9,7] [5,9,7])) (fun u=>by kernel_rfl) (mN n0 (mN (lh _:(full (ad.sn S) (ad.sn S))=true) (mN (show(ao6 (0+ad.sn S*1) (aoM (ap R)))=true by simp at pH hL hR⊢ <;>omega) (mN (aV L) (mN (show(aoS (ap R++[aa no]) ag)=true by simp) (mN (a7 H) (mQ l3)))))))
abbrev BM:=fun S R H d L=>([ab (aM (ad.z S) 1 5 6 7) 89,.abs d,.dead,.dead,.dead,ab (ao L) 9,ab (ap R) 3,ab (aj H) 114]:List ak)
abbrev ado:=fun S R H d L (no i:Int)=>(⟨[(0,al 0),(3,aa no),(39,ah 5 (ad.rn S)),(40,aa (ad.rn S)),(41,aa i)],BM S R H d L⟩:ai)
abbrev adp:=fun S R H d L (no i:Int)=>(⟨[(0,al 0)],BM S R H d L⟩:ai)
abbrev Py:=fun(S:ad) R H d L (no i:Int)=>(⟨[(0,al 0),(3,aa no),(39,ah 5 S.rn),(40,aa S.rn),(41,aa i)],BL S R H d L⟩:ai)
theorem adq(S:ad)(R H d L)(no i:Int)(pH:(aj H).all ag=true)(hL:(aoM L)=S.rn)(hR:(aoM R)=S.sn){Q:aY}(l3:(decide (i<(↑(ad.rn S):Int)))=true→an aoL 64 5 (HA.drop 2) (ado S R H d L no i) Q)(l4:(decide (i<(↑(ad.rn S):Int)))=false→Q (.exit 0) (adp S R H d L no i)):an aoL 64 5 HA (Py S R H d L no i) Q:=
 aZ bt 2 (.fork 0 (.leaf [0,3,39,40,41] [0,1,2,3,4,5,6,7] [5,6,7]) (.leaf [0] [0,1,2,3,4,5,6,7] [5,6,7])) (fun u=>by kernel_rfl) (mF (c:=decide (i<(↑(ad.rn S):Int))) (fun h0=>(aL L R H (mQ (l3 h0)))) (fun h0=>(aL L R H (mE 0 (l4 h0)))))
abbrev Pz:=fun S R H d L (no i:Int)=>(⟨[(2,aa (aoY (bU d no (bp (apv (fun b=>aoW apb (↑(apt b):Int)) (apd (aoT (bc (ao L) (0+aoO i*1))) (app (aph (bc (ao L) (0+aoO i*1)))))++[aoW apb 10])))))],[ab (aM (ad.z S) 1 5 6 7) 89,.abs (apG (bU d no (bp (apv (fun b=>aoW apb (↑(apt b):Int)) (apd (aoT (bc (ao L) (0+aoO i*1))) (app (aph (bc (ao L) (0+aoO i*1)))))++[aoW apb 10])))),.dead,.dead,.dead,ab (ao L) 9,ab (ap R) 3,ab (aj H) 114]⟩:ai)
theorem adr(S R H d L)(no i:Int){Q:bo}(hq:Q (.ret (aa (aoY (bU d no (bp (apv (fun b=>aoW apb (↑(apt b):Int)) (apd (aoT (bc (ao L) (0+aoO i*1))) (app (aph (bc (ao L) (0+aoO i*1)))))++[aoW apb 10])))))) [ab (aM (ad.z S) 1 5 6 7) 89,.abs (apG (bU d no (bp (apv (fun b=>aoW apb (↑(apt b):Int)) (apd (aoT (bc (ao L) (0+aoO i*1))) (app (aph (bc (ao L) (0+aoO i*1)))))++[aoW apb 10])))),.dead,.dead,.dead,ab (ao L) 9,ab (ap R) 3,ab (aj H) 114]):aJ aoL 70 64 5 Q .ret (Pz S R H d L no i):=aJ.ret (vs:=[aa (aoY (bU d no (bp (apv (fun b=>aoW apb (↑(apt b):Int)) (apd (aoT (bc (ao L) (0+aoO i*1))) (app (aph (bc (ao L) (0+aoO i*1)))))++[aoW apb 10]))))]) (l:=[]) (bs:=[0,1,2,3,4,5,6,7]) (pl:=[5,6,7]) (q:=[ao L,ap R,aj H]) (fun u=>by kernel_rfl) (by kernel_rfl) (fY L R H bi) hq
abbrev PA:=fun S R H d L (no i:Int)=>(⟨[(0,al 0),(3,aa no),(39,ah 5 (ad.rn S)),(40,aa (ad.rn S)),(41,.int .i64 (aoN .i64 (i+1)))],[ab (aM (ad.z S) 1 5 6 7) 89,.abs (apG (bU d no (bp (apv (fun b=>aoW apb (↑(apt b):Int)) (apd (aoT (bc (ao L) (0+aoO i*1))) (app (aph (bc (ao L) (0+aoO i*1)))))++[aoW apb 10])))),.dead,.dead,.dead,ab (ao L) 9,ab (ap R) 3,ab (aj H) 114]⟩:ai)
theorem ads(S:ad)(R H d L)(no i:Int)(pH:(aj H).all ag=true)(hL:(aoM L)=S.rn)(hR:(aoM R)=S.sn)(h0:0≤i)(h1:i<S.rn)(h2:S.rn≤1000000)(h3:aoN .i64 (i+1)=i+1){Q:aY}(n0:(eQ (ao L) (0+aoO i*1))=true)(n1:(apf (0+aoT (bc (ao L) (0+aoO i*1))) 1000000)=true)(n2:(aoS (apv (fun b=>aoW apb (↑(apt b):Int)) (apd (aoT (bc (ao L) (0+aoO i*1))) (app (aph (bc (ao L) (0+aoO i*1)))))) Value.oneCell')=true)(n3:(apf (aoT (bc (ao L) (0+aoO i*1))+1) 1000000)=true)(n4:(aoS (apv (fun b=>aoW apb (↑(apt b):Int)) (apd (aoT (bc (ao L) (0+aoO i*1))) (app (aph (bc (ao L) (0+aoO i*1)))))++[aoW apb 10]) ag)=true)(n5:(yM d no (apv (fun b=>aoW apb (↑(apt b):Int)) (apd (aoT (bc (ao L) (0+aoO i*1))) (app (aph (bc (ao L) (0+aoO i*1)))))++[aoW apb 10]) 5 false (aoT (bc (ao L) (0+aoO i*1))+1) (aoT (bc (ao L) (0+aoO i*1))+1))=true)(l9:(aoY (bU d no (bp (apv (fun b=>aoW apb (↑(apt b):Int)) (apd (aoT (bc (ao L) (0+aoO i*1))) (app (aph (bc (ao L) (0+aoO i*1)))))++[aoW apb 10]))) != 0)=true→Q .ret (Pz S R H d L no i))(jU:(aoY (bU d no (bp (apv (fun b=>aoW apb (↑(apt b):Int)) (apd (aoT (bc (ao L) (0+aoO i*1))) (app (aph (bc (ao L) (0+aoO i*1)))))++[aoW apb 10]))) != 0)=false→Q .normal (PA S R H d L no i)):an aoL 64 5 (HA.drop 2) (Py S R H d L no i) Q:=
 aZ Pu 1000 (aA [0,1,1,0,1,12,1,1,1,2,3,5,1,5,1,1] (.fork 0 (.leaf [2] [0,1,2,3,4,5,6,7] [5,6,7]) (.leaf [0,3,39,40,41] [0,1,2,3,4,5,6,7] [5,6,7]))) (fun u=>by kernel_rfl) (mN (decide_eq_true (by omega):(decide (0≤i))=true) (mN (show(ao9 (aoO i) (ad.rn S))=true by simp at pH hL hR h0 h1 h2 h3⊢ <;>omega) (mN n0 (mN n1 (mN n2 (mN (show(ao6 (aoM (apv (fun b=>aoW apb (↑(apt b):Int)) (apd (aoT (bc (ao L) (0+aoO i*1))) (app (aph (bc (ao L) (0+aoO i*1))))))) (aoT (bc (ao L) (0+aoO i*1))*1))=true by simp) (mN n3 (mN (lh _:(full (aoT (bc (ao L) (0+aoO i*1))) (aoT (bc (ao L) (0+aoO i*1))))=true) (mN (show(ao6 (0+aoT (bc (ao L) (0+aoO i*1))*1) (aoM (apv (fun b=>aoW apb (↑(apt b):Int)) (apd (aoT (bc (ao L) (0+aoO i*1))) (app (aph (bc (ao L) (0+aoO i*1))))))))=true by simp) (mN n4 (mN n5 (mN n4 (mF (c:=aoY (bU d no (bp (apv (fun b=>aoW apb (↑(apt b):Int)) (apd (aoT (bc (ao L) (0+aoO i*1))) (app (aph (bc (ao L) (0+aoO i*1)))))++[aoW apb 10]))) != 0) (fun h0=>(aL L R H (mR (l9 h0)))) (fun h0=>(aL L R H (mQ (an.done (by kernel_rfl) (jU h0))))))))))))))))))
abbrev PB:=fun S R H d (L:List ByteArray)=>(⟨[(2,aa 0)],[ab (Hz (ad.mk (ad.at_ S) (ad.more S) (ad.bE S) (ad.B (ad.z S)) (ad.n S) (ad.failed S) (ad.aD S) (ad.ro S) (ad.rn S) 0 (ad.sn S) (ad.hn S) (ad.dX S) (ad.raw S) (ad.closed S)) 1 (cm) (ah 5 (ad.sn S)) (ah 6 (ad.hn S))) 89,.abs d,.dead,.dead,.dead,ab (ap R) 3,ab (aj H) 114]⟩:ai)
theorem adt(S:ad)(R H d L)(pH:(aj H).all ag=true)(hL:(aoM L)=S.rn)(hR:(aoM R)=S.sn){Q:aY}(l2:an aoL 64 5 ((sx.drop 8).drop 2) (PB S R H d L) Q):an aoL 64 5 (sx.drop 8) (Px S R H d L) Q:=
 aZ bt 2 (.leaf [2] [0,1,2,3,4,6,7] [6,7]) (fun u=>by kernel_rfl) (mN (aQ R) (mN (a7 H) (mQ l2)))
abbrev PC:=fun S R H d L (e:Int)=>(⟨[(2,aa e)],BM S R H d L⟩:ai)
theorem adu(S R H d L)(e:Int){Q:bo}(hq:Q (.ret (aa e)) (BM S R H d L)):aJ aoL 70 64 5 Q .ret (PC S R H d L e):=aJ.ret (vs:=[aa e]) (l:=[]) (bs:=[0,1,2,3,4,5,6,7]) (pl:=[5,6,7]) (q:=[ao L,ap R,aj H]) (fun u=>by kernel_rfl) (by kernel_rfl) (fY L R H bi) hq
abbrev adv:=fun S R H d L (e:Int)=>(⟨[(2,aa e)],BL S R H d L⟩:ai)
theorem adw(S:ad)(R H d L)(e:Int)(pH:(aj H).all ag=true)(hL:(aoM L)=S.rn)(hR:(aoM R)=S.sn){Q:aY}(l3:Q .ret (PC S R H d L e)):an aoL 64 5 (sx.drop 10) (adv S R H d L e) Q:=
 aZ bt 1000 (.leaf [2] [0,1,2,3,4,5,6,7] [5,6,7]) (fun u=>by kernel_rfl) (aL L R H (mR l3))
end
theorem wh(x:Int):aoN .i64 (aoN .i64 x)=aoN .i64 x:=by
 simp only[IntKind.wrap_i64]
 omega
theorem ca.us{d:au}(h:ca d):ca (fF d):=⟨h.bW,h.made,h.keys,h.fH,h.size,wh _⟩
theorem ca.uu{d:au}(h:ca d):ca (bH d).2.2:=by
 unfold bH
 split
 ·exact h
 split
 ·exact h.us
 ·rename_i h1 _
  have hm:=h.made
  refine⟨h.bW,by show d.made+1≤64;omega,fun p hp=>?_,?_,fun p hp=>?_,wh _⟩
  ·rcases apo.1 hp with hp|hp
   ·have:=h.keys p hp;show p.1≤d.made+1;omega
   ·rw[apP.1 hp];exact apn _
  ·show((d.files++[(d.made+1,aoZ)]).map (·.1)).Nodup
   rw[apK]
   refine List.nodup_append.2 ⟨h.fH,by simp,fun a ha b hb=>?_⟩
   obtain⟨p,hp,rfl⟩:=aqv.1 ha
   have:=h.keys p hp
   simp at hb
   omega
  ·rcases apo.1 hp with hp|hp
   ·exact h.size p hp
   ·rw[apP.1 hp];exact apN _
theorem BN{d:au}(h:ca d)(he:(bH d).2.1=0):fileOf (bH d).2.2.files (bH d).1=some aoZ:=by
 unfold bH at he⊢
 split at he
 ·cases he
 ·rename_i h1
  rw[if_neg h1]
  split at he
  ·rename_i h2;exact absurd he h2
  ·rename_i h2
   rw[if_neg h2]
   unfold fileOf
   show Option.map _ (atW _ (d.files++[(d.made+1,aoZ)]))=_
   rw[List.find?_append]
   have:d.files.find? (fun p=>(p.1:Int)==((d.made:Int)+1))=none:=List.find?_eq_none.2 fun p hp=>by
    have:=h.keys p hp
    simp only[beq_iff_eq]
    omega
   rw[this]
   have e:(((d.made+1:Nat):Int)==(d.made:Int)+1)=true:=by rw[beq_iff_eq];omega
   simp[atW,e]
theorem adx{l:List (Nat×ByteArray)}{no:Int}{b:ByteArray}:fileOf (lk l no b) no=(fileOf l no).map (·++b):=by
 unfold fileOf lk
 induction l with
 |nil=>rfl
 |cons p l ih=>
  rw[apM,ary,ary]
  cases e:((p.1:Int)==no)with
  |true=>simp only[if_true,e];rfl
  |false=>simp only[apT,if_false,e];exact ih
theorem ady{l:List (Nat×ByteArray)}{no:Int}{f:ByteArray}(h:fileOf l no=some f):∃k,(k,f)∈l∧(k:Int)=no:=by
 unfold fileOf at h
 cases e:l.find? (fun p=>(p.1:Int)==no)with
 |none=>rw[e]at h;cases h
 |some p=>
  rw[e]at h
  cases h
  exact⟨p.1,List.mem_of_find?_eq_some e,by have:=List.find?_some e;simpa using this⟩
theorem adz{l:List (Nat×ByteArray)}(hn:(l.map (·.1)).Nodup){k:Nat}{f:ByteArray}(h:(k,f)∈l):fileOf l (k:Int)=some f:=by
 unfold fileOf
 induction l with
 |nil=>cases h
 |cons p l ih=>
  rw[apM,List.nodup_cons]at hn
  rw[ary]
  rcases List.mem_cons.1 h with rfl|h
  ·simp
  ·have:((p.1:Int)==(k:Int))=false:=by
    rw[beq_eq_false_iff_ne]
    intro e
    have e:p.1=k:=by omega
    exact hn.1 (aqv.2 ⟨(k,f),h,e.symm⟩)
   rw[this]
   exact ih hn.2 h
theorem ca.write{d:au}{no:Int}{b:ByteArray}(h:ca d)(hs:∀f,fileOf d.files no=some f→f.size+b.size≤1000000):ca (bU d no b).2:=by
 unfold bU
 split
 ·exact h
 split
 ·exact h
 split
 ·exact h.us
 ·refine⟨h.bW,h.made,fun p hp=>?_,?_,fun p hp=>?_,wh _⟩
  ·obtain⟨q,hq,rfl⟩:=aqv.1 hp
   have:=h.keys q hq
   dsimp only
   split<;>exact this
  ·show((lk d.files no b).map (·.1)).Nodup
   have:(lk d.files no b).map (·.1)=d.files.map (·.1):=by
    unfold lk
    rw[arN]
    refine aq0 fun q _=>?_
    show(if _ then _ else _:Nat×ByteArray).1=q.1
    split<;>rfl
   rw[this];exact h.fH
  ·obtain⟨q,hq,rfl⟩:=aqv.1 hp
   split
   ·rename_i e
    have e:(q.1:Int)=no:=by simpa using e
    have:=hs q.2 (by rw[←e];exact adz h.fH hq)
    show(q.2++b).size≤_
    rw[arx];exact this
   ·exact h.size q hq
theorem HC{d:au}{no:Int}{b f:ByteArray}(h:fileOf (bU d no b).2.files no=some f):∃g,fileOf d.files no=some g∧f.size≤g.size+b.size:=by
 unfold bU at h
 split at h
 ·rename_i e;rw[e]at h;cases h
 ·rename_i g e
  refine⟨g,e,?_⟩
  split at h
  ·rw[e]at h;cases h;omega
  split at h
  ·have h:fileOf d.files no=some f:=h
   rw[e]at h;cases h;omega
  ·have h:fileOf (lk d.files no b) no=some f:=h
   rw[adx,e]at h
   cases h
   rw[arx];exact apn _
theorem PD:b7 aoL 9=some 1:=by kernel_rfl
def cj(x:ByteArray):ByteArray:=x++⟨#[10]⟩
theorem lW(x:ByteArray):(cj x).size=x.size+1:=by unfold cj;rw[arx];rfl
def iT(no:Int):List ByteArray→au→Int×au
 | [],d=>(0,d)
 |x::l,d=>if(bU d no (cj x)).1≠0 then bU d no (cj x)else iT no l (bU d no (cj x)).2
def bV:List ByteArray→Nat
 | []=>0
 |x::l=>x.size+1+bV l
theorem wj{l l':List ByteArray}(h:l.Perm l'):bV l=bV l':=by
 induction h with
 |nil=>rfl
 |cons x _ ih=>show x.size+1+bV _=x.size+1+bV _;omega
 |swap x y l=>show y.size+1+(x.size+1+bV l)=x.size+1+(y.size+1+bV l);omega
 |trans _ _ h1 h2=>omega
theorem yN(l:List ByteArray):l.length≤bV l:=by
 induction l with
 |nil=>exact apn _
 |cons x l ih=>show l.length+1≤x.size+1+bV l;omega
def dZ(S:ad)(L:List ByteArray)(R:List Int)(d:au):Int×ad×List ByteArray×List Int×au:=
 if(bH d).2.1≠0 then((bH d).2.1,S,bK (ba S.aD) L,R,(bH d).2.2)
 else if(iT (bH d).1 (bK (ba S.aD) L) (bH d).2.2).1≠0 then((iT (bH d).1 (bK (ba S.aD) L) (bH d).2.2).1,{S with sn:=S.sn+1},bK (ba S.aD) L,R++[(bH d).1],(iT (bH d).1 (bK (ba S.aD) L) (bH d).2.2).2)
 else(0,{S with sn:=S.sn+1,rn:=0,bN:=0},[],R++[(bH d).1],(iT (bH d).1 (bK (ba S.aD) L) (bH d).2.2).2)
theorem join_eq(x:ByteArray):apv (fun b:UInt8=>aoW apb (↑(apt b):Int)) (apd (aoT x) (app (aph x)))++[aoW apb 10]=af (cj x):=by
 unfold cj
 rw[NH,ap8 (by exact apn _)]
 rfl
def BO(S:ad)(R:List Int)(H:List aq)(no:Int)(L:List ByteArray)(s:Nat×au):ai:=⟨[(0,.pointer (some ⟨0,0,none⟩)),(3,.int .i64 no),(39,.slice (some ⟨5,0,none⟩) S.rn S.rn),(40,.int .i64 S.rn),(41,iZ s.1)],jh S.z L R H s.2⟩
structure adA(no:Int)(L:List ByteArray)(d1:au)(s:Nat×au):Prop where
 i:s.1≤L.length
 e:iT no (L.drop s.1) s.2=iT no L d1
 ok:ca s.2
 sz:∀f,fileOf s.2.files no=some f→f.size+bV (L.drop s.1)≤1000000
theorem PE(S:ad)(L:List ByteArray)(R:List Int)(H:List aq)(d:au)(hL:L.length=S.rn)(hR:R.length=S.sn)(hd:ca d)(hw:bV L≤1000000)(hr:R.length≤64):
 aI aoL 70 [.pointer (some ⟨0,0,none⟩)] (aO S.z L R H d) fun r o=>r=.ret (.int .i64 (dZ S L R d).1)∧o=jh (dZ S L R d).2.1.z (dZ S L R d).2.2.1 (dZ S L R d).2.2.2.1 H (dZ S L R d).2.2.2.2:=by
 have pH:=a7 H
 have PF:=yN L
 refine aI.cY (n:=cp aoL 70) (by kernel_rfl) ?_
 refine an.move (d':=⟨[(0,.pointer (some ⟨0,0,none⟩))],jh S.z L R H d⟩) [some 0,some 1,none,none,none,some 2,some 3,some 4] [2,3,4] (q:=[ao L,ap R,aj H]) (by kernel_rfl) (aF (by simp) (aF (by simp) (aF pH bi))) (by kernel_rfl) (by kernel_rfl) ?_
 have hs:cZ (ao L)=L:=iI L
 have HD:(bK (ba S.aD) L).length=S.rn:=by rw[nU,hL]
 apply adl S R H d L pH hL hR
 case n0=>
  have hO:=wa (S:=S.z) (R:=R) (H:=H) (d:=d) (L:=L) rfl hL (by omega)
  unfold cU at hO
  rw[hO]
  simp only[apY,aqH]
 case n1=>exact nl.2 hd
 case l4=>
  intro g
  have g:(bH d).2.1≠0:=by simpa using g
  refine adk S R H d L (by simp) pH ⟨?_,?_⟩
  ·unfold dZ;rw[if_pos g]
  ·unfold dZ;rw[if_pos g,hs];rfl
 case l5=>
  intro g
  have g:(bH d).2.1=0:=by simpa using g
  unfold Pw
  rw[hs]
  have li:=hd.uu
  have rL:=BN hd g
  generalize gh:(bH d).1=no at rL
  generalize tR:(bH d).2.2=d1 at li rL
  generalize BP:bK (ba S.aD) L=L1 at HD
  have dq:dZ S L R d=if(iT no L1 d1).1≠0 then((iT no L1 d1).1,{S with sn:=S.sn+1},L1,R++[no],(iT no L1 d1).2)else(0,{S with sn:=S.sn+1,rn:=0,bN:=0},[],R++[no],(iT no L1 d1).2):=by
   unfold dZ
   rw[if_neg (by rw[g];exact fun h=>h rfl),gh,tR,BP]
  rw[dq]
  have gP:bV L1≤1000000:=by rw[←BP,wj (kQ L)];exact hw
  refine adn S R H d1 L1 no pH HD hR ?_ (by simp) pH ?_
  ·exact apu (by omega)
  have e:HB S R H d1 L1 no=BO {S with sn:=S.sn+1} (R++[no]) H no L1 (0,d1):=by
   unfold HB BO
   have:ap R++[aoW ao2 no]=ap (R++[no]):=by unfold ap;rw[apK];rfl
   rw[this]
   rfl
  rw[e,ap2]
  have BQ:(R++[no]).length=({S with sn:=S.sn+1}:ad).sn:=by rw[ao5,hR];rfl
  refine an.eO 7 0 (by kernel_rfl) ?_
  refine an.fL (BO {S with sn:=S.sn+1} (R++[no]) H no L1) (fun s=>L1.length-s.1) (adA no L1 d1) (0,d1) (by kernel_rfl) ⟨apN _,by simp,li,fun f hf=>by rw[rL]at hf;cases hf;show 0+bV (L1.drop 0)≤1000000;rw[as9];omega⟩ ?_
  rintro⟨i,d2⟩ hi
  have i1:=hi.i
  have i2:=hi.e
  have i3:=hi.ok
  have i4:=hi.sz
  dsimp only at i1 i2 i3 i4
  have jK:L1.length=({S with sn:=S.sn+1}:ad).rn:=HD
  have anV:=yN L1
  apply adq {S with sn:=S.sn+1} (R++[no]) H d2 L1 no i pH jK BQ
  case l4=>
   intro g2
   have g2:=of_decide_eq_false g2
   have g2:¬(i:Int)<(S.rn:Int):=g2
   have ei:i=L1.length:=by omega
   rw[ei,asD]at i2
   have i2:(0,d2)=iT no L1 d1:=i2
   rw[←i2]at*
   with_reducible (repeat first|refine QL.ret ?_|refine QL.exit ?_|refine QB.ret ?_|refine QB.cx ?_|refine QB.normal ?_|refine QB.cG (by rfl) ?_)
   apply adt {S with sn:=S.sn+1} (R++[no]) H d2 L1 pH jK BQ
   ·
    unfold PB
    refine an.nh 0 71 9 PD rfl rfl (by kernel_rfl) rfl ?_
    refine an.move (d':=⟨[(2,.int .i64 0)],jh (ad.z {S with sn:=S.sn+1,rn:=0,bN:=0}) [] (R++[no]) H d2⟩) [some 0,some 1,none,none,none,some 7,some 5,some 6] [5,6,7] (q:=[ao [],ap (R++[no]),aj H]) (by kernel_rfl) (aF (by simp) (aF (by simp) (aF pH bi))) (by kernel_rfl) (by kernel_rfl) ?_
    rw[ap2]
    apply adw {S with sn:=S.sn+1,rn:=0,bN:=0} (R++[no]) H d2 [] 0 pH rfl BQ
    ·
     refine adu {S with sn:=S.sn+1,rn:=0,bN:=0} (R++[no]) H d2 [] 0 ⟨?_,?_⟩
     ·rw[if_neg (fun h=>h rfl)]
     ·rw[if_neg (fun h=>h rfl)];rfl
  case l3=>
   intro g2
   have g2:=of_decide_eq_true g2
   have g2:(i:Int)<(S.rn:Int):=g2
   obtain⟨x,hx⟩:∃x,L1[i]?=some x:=⟨_,aoV (by omega)⟩
   have nr:=(pU hx).2
   rw[nr]at i2 i4
   have hex:bc (ao L1) (0+aoO (i:Int)*1)=x:=by rw[gd];exact(dY hx).1
   have Li:x.size+1+bV (L1.drop (i+1))≤bV L1:=by
    have:∀(k:Nat) (l:List ByteArray),bV (l.drop k)≤bV l:=fun k l=>by
     induction l generalizing k with
     |nil=>simp
     |cons y l ih=>cases k with
      |zero=>exact apn _
      |succ k=>have:=ih k;show bV (l.drop k)≤y.size+1+bV l;omega
    have:=this i L1
    rw[nr]at this
    exact this
   have cd:∀f,fileOf d2.files no=some f→f.size+(cj x).size≤1000000:=fun f hf=>by
    have:f.size+(x.size+1+bV (L1.drop (i+1)))≤1000000:=i4 f hf
    rw[lW];omega
   apply ads {S with sn:=S.sn+1} (R++[no]) H d2 L1 no i pH jK BQ (by omega) g2 (by show S.rn≤1000000;omega) (bL (by omega) (by omega))
   case n0=>rw[gd];exact(dY hx).2
   case n1=>rw[hex];exact apu (by omega)
   case n2=>rw[hex,ap8 (by exact apn _)];exact FO x
   case n3=>rw[hex];exact apu (by omega)
   case n4=>rw[hex,join_eq];exact aU _
   case n5=>
    rw[hex,join_eq]
    exact Hx.2 ⟨i3,cj x,rfl,(lW x).symm,(lW x).symm,rfl,rfl,cd⟩
   case l9=>
    intro g3
    rw[hex,join_eq,jg]at g3
    have g3:(bU d2 no (cj x)).1≠0:=by simpa using g3
    have i2:(if(bU d2 no (cj x)).1≠0 then bU d2 no (cj x)else iT no (L1.drop (i+1)) (bU d2 no (cj x)).2)=iT no L1 d1:=i2
    rw[if_pos g3]at i2
    rw[←i2]at*
    with_reducible (repeat first|refine QL.ret ?_|refine QL.exit ?_|refine QB.ret ?_|refine QB.cx ?_|refine QB.normal ?_|refine QB.cG (by rfl) ?_)
    refine adr {S with sn:=S.sn+1} (R++[no]) H d2 L1 no i ⟨?_,?_⟩
    ·rw[if_pos g3,hex,join_eq,jg]
    ·rw[if_pos g3,hex,join_eq,jg];rfl
   case jU=>
    intro g3
    rw[hex,join_eq,jg]at g3
    have g3:(bU d2 no (cj x)).1=0:=by simpa using g3
    have i2:(if(bU d2 no (cj x)).1≠0 then bU d2 no (cj x)else iT no (L1.drop (i+1)) (bU d2 no (cj x)).2)=iT no L1 d1:=i2
    rw[if_neg (fun h=>h g3)]at i2
    refine QL.to (i+1,(bU d2 no (cj x)).2) ⟨by dsimp only;omega,i2,i3.write cd,fun f hf=>?_⟩ (by dsimp only;omega) ?_
    ·obtain⟨f0,h1,h2⟩:=HC hf
     have:=i4 f0 h1
     have:f0.size+(x.size+1+bV (L1.drop (i+1)))≤1000000:=this
     rw[lW]at h2
     dsimp only
     omega
    ·unfold PA BO
     rw[hex,join_eq,jg,ff (by omega)]
     rfl
noncomputable section
def adB(S:ad)(L:List ByteArray)(R:List Int)(H:List aq)(d:au)(e:Int)(T:ad)(K:List ByteArray)(Rr:List Int)(dd:au):List (apr×Sum):=[(70,Sum.one (fun _ _=>some [0,1,6,7,8]) [al 0] (aO S.z L R H d) (.ret (aa e)) (jh T.z K Rr H dd))]
theorem adC(S:ad)(L:List ByteArray)(R:List Int)(H:List aq)(d:au)(e:Int)(T:ad)(K:List ByteArray)(Rr:List Int)(dd:au)(dq:aI aoL 70 [al 0] (aO S.z L R H d) fun r o=>r=.ret (aa e)∧o=jh T.z K Rr H dd):dk aoL (dB aoL (dE (adB S L R H d e T K Rr dd)) 50 40):=
 dI de mixed (dR (.cons (bB.one dq) .nil)) 50 40
noncomputable def BR:List apw:=bd (dC aoL 47)
open Tree renaming aW→mN,dn→mF,eS→mL,fA→mQ,dD→mR,fK→mE
noncomputable abbrev HE:List apw:=(bd (inner (bd (inner (BR.drop 2)))))
def PG:Nat→Bool→Bool→Tree→Tree
 |0,_,_,t=>t
 |n+1,d,b,t=>.cM d b (PG n d b t)
theorem PH{R:bj→ai→Prop}{c v:Bool}{t:Tree}(n:Nat)(h1:c=v)(h2:t.ok R):(PG n c v t).ok R:=by
 induction n with
 |zero=>exact h2
 |succ n ih=>exact⟨h1,ih⟩
abbrev BS:=fun S L R H d X (ro:Bool)=>([ab (aM (ad.z S) 1 6 7 8) 89,.abs d,.dead,.dead,.dead,.cells (ao X) 9 ro,ab (ao L) 9,ab (ap R) 3,ab (aj H) 114]:List ak)
abbrev PI:=fun S L R H d X (ro:Bool) (n:Nat)=>(⟨[(0,al 0),(8,ah 5 n),(9,aa n),(10,aa 0)],BS S L R H d X ro⟩:ai)
abbrev BT:=fun(S:ad) L R H d X (ro:Bool)=>([ab (aM S.z 1 6 7 8) 89,.abs d,.dead,.dead,.dead,.cells (ao X) 9 ro,ab (ao L) 9,ab (ap R) 3,ab (aj H) 114]:List ak)
abbrev adD:=fun S L R H d X (ro:Bool) (n:Nat)=>(⟨[(0,al 0),(1,ah 5 n)],BT S L R H d X ro⟩:ai)
theorem adE(S:ad)(L R H d X)(ro:Bool)(n:Nat)(pH:(aj H).all ag=true)(hL:(aoM L)=S.rn)(hR:(aoM R)=S.sn){Q:aY}(l4:an aoL 57 6 (BR.drop 2) (PI S L R H d X ro n) Q):an aoL 57 6 BR (adD S L R H d X ro n) Q:=
 aZ bt 2 (.leaf [0,8,9,10] [0,1,2,3,4,5,6,7,8] [5,6,7,8]) (fun u=>by kernel_rfl) (mN (aV X) (aL L R H (mQ l4)))
abbrev adF:=fun S L R H d X (ro:Bool) (n:Nat) (i:Int)=>(⟨[(0,al 0),(8,ah 5 n),(9,aa n),(10,aa i)],BS S L R H d X ro⟩:ai)
noncomputable abbrev adG(S:ad)(L:List ByteArray)(R:List Int)(H:List aq)(d:au)(X:List ByteArray)(ro:Bool)(n:Nat)(i:Int):ai:=⟨[],BS S L R H d X ro⟩
abbrev adH:=fun S L R H d X (ro:Bool) (n:Nat) (i:Int)=>(⟨[(0,al 0),(8,ah 5 n),(9,aa n),(10,aa i)],BT S L R H d X ro⟩:ai)
theorem adI(S:ad)(L R H d X)(ro:Bool)(n:Nat)(i:Int)(pH:(aj H).all ag=true)(hL:(aoM L)=S.rn)(hR:(aoM R)=S.sn){Q:aY}(l4:(decide (i<(↑n:Int)))=true→an aoL 57 6 (HE.drop 2) (adF S L R H d X ro n i) Q)(l5:(decide (i<(↑n:Int)))=false→Q (.exit 0) (adG S L R H d X ro n i)):an aoL 57 6 HE (adH S L R H d X ro n i) Q:=
 aZ bt 2 (.fork 0 (.leaf [0,8,9,10] [0,1,2,3,4,5,6,7,8] [5,6,7,8]) (.leaf [] [0,1,2,3,4,5,6,7,8] [5,6,7,8])) (fun u=>by kernel_rfl) (mF (c:=decide (i<(↑n:Int))) (fun h0=>(mN (aV X) (aL L R H (mQ (l4 h0))))) (fun h0=>(mN (aV X) (aL L R H (mE 0 (l5 h0))))))
abbrev HF:=fun(S:ad) (L:List ByteArray) (R:List Int) H (d:au) (e:Int) T K Rr dd X (ro:Bool) (n:Nat) (i:Int)=>(⟨[(4,aa e)],[ab (aM (ad.z T) 1 6 7 8) 89,.abs dd,.dead,.dead,.dead,.cells (ao X) 9 ro,ab (ao K) 9,ab (ap Rr) 3,ab (aj H) 114]⟩:ai)
theorem adJ(S L R H d)(e:Int)(T K Rr dd X)(ro:Bool)(n:Nat)(i:Int){Q:bo}(aX:aoS (ao X) ag=true)(bh:aoS (aj H) ag=true)(hq:Q (.ret (aa e)) (HF S L R H d e T K Rr dd X ro n i).objs):aJ aoL 47 57 6 Q .ret (HF S L R H d e T K Rr dd X ro n i):=aJ.ret (vs:=[aa e]) (l:=[]) (bs:=[0,1,2,3,4,5,6,7,8]) (pl:=[5,6,7,8]) (q:=[ao X,ao K,ap Rr,aj H]) (fun u=>by kernel_rfl) (by kernel_rfl) (aF aX (aF (by simp) (aF (by simp) (aF bh bi)))) hq
abbrev PJ:=fun(S:ad) (L:List ByteArray) (R:List Int) H (d:au) (e:Int) T K Rr dd X (ro:Bool) (n:Nat) (i:Int)=>(⟨[(0,al 0),(8,ah 5 n),(9,aa n),(10,.int .i64 (aoN .i64 (i+1)))],[ab (aM (ad.mk (ad.at_ T) (ad.more T) (ad.bE T) (ad.B (ad.z T)) (ad.n T) (ad.failed T) (ad.aD T) 0 (ad.rn T+1) (aoN .i64 (ad.bN T+aoN .i64 ((↑(aoT (bc (ao X) (0+aoO i*1))):Int)+1))) (ad.sn T) (ad.hn T) (ad.dX T) (ad.raw T) (ad.closed T)) 1 6 7 8) 89,.abs dd,.dead,.dead,.dead,.cells (ao X) 9 ro,ab (ao K++[apm (bc (ao X) (0+aoO i*1))]) 9,ab (ap Rr) 3,ab (aj H) 114]⟩:ai)
abbrev PK:=fun S L R H d (e:Int) (T:ad) (K:List ByteArray) (Rr:List Int) (dd:au) X (ro:Bool) (n:Nat) (i:Int)=>(⟨[(0,al 0),(8,ah 5 n),(9,aa n),(10,.int .i64 (aoN .i64 (i+1)))],[ab (aM (ad.mk (ad.at_ S) (ad.more S) (ad.bE S) (ad.B (ad.z S)) (ad.n S) (ad.failed S) (ad.aD S) 0 (ad.rn S+1) (aoN .i64 (ad.bN S+aoN .i64 ((↑(aoT (bc (ao X) (0+aoO i*1))):Int)+1))) (ad.sn S) (ad.hn S) (ad.dX S) (ad.raw S) (ad.closed S)) 1 6 7 8) 89,.abs d,.dead,.dead,.dead,.cells (ao X) 9 ro,ab (ao L++[apm (bc (ao X) (0+aoO i*1))]) 9,ab (ap R) 3,ab (aj H) 114]⟩:ai)
abbrev PL:=fun S L R H d (e:Int) (T:ad) (K:List ByteArray) (Rr:List Int) (dd:au) X (ro:Bool) (n:Nat) (i:Int)=>(⟨[(0,al 0),(8,ah 5 n),(9,aa n),(10,.int .i64 (aoN .i64 (i+1)))],[ab (aM (ad.mk (ad.at_ S) (ad.more S) (ad.bE S) (ad.B (ad.z S)) (ad.n S) (ad.failed S) (ad.aD S) 0 (ad.rn S+1) (aoN .i64 (ad.bN S+aoN .i64 ((↑(aoT (bc (ao X) (0+aoO i*1))):Int)+1))) (ad.sn S) (ad.hn S) (ad.dX S) (ad.raw S) (ad.closed S)) 1 6 7 8) 89,.abs d,.dead,.dead,.dead,.cells (ao X) 9 ro,ab (ao L++[apm (bc (ao X) (0+aoO i*1))]) 9,ab (ap R) 3,ab (aj H) 114]⟩:ai)
abbrev adK:=fun S L R H d (e:Int) (T:ad) (K:List ByteArray) (Rr:List Int) (dd:au) X (ro:Bool) (n:Nat) (i:Int)=>(⟨[(0,al 0),(8,ah 5 n),(9,aa n),(10,aa i)],BT S L R H d X ro⟩:ai)
theorem adL(S:ad)(L R H d)(e:Int)(T:ad)(K Rr dd X)(ro:Bool)(n:Nat)(i:Int)(dq:aI aoL 70 [al 0] (aO S.z L R H d) fun r o=>r=.ret (aa e)∧o=jh T.z K Rr H dd)(pH:(aj H).all ag=true)(hL:(aoM L)=S.rn)(hR:(aoM R)=S.sn)(h0:0≤i)(h1:i<n)(h2:n≤1000000)(h3:aoN .i64 (i+1)=i+1)(h4:(aoM X)=n)(h5:(aoM K)=T.rn){Q:aY}(n0:(eQ (ao X) (0+aoO i*1))=true)(n1:(decide ((↑(ad.rn S):Int)>0))=true→(decide (aoN .i64 (aoN .i64 (ad.bN S+(↑(aoT (bc (ao X) (0+aoO i*1))):Int))+1)>256))=true→(dW [al 0] [al 0] [ab (aM (ad.z S) 1 2 3 4) 89,ak.abs d,ab (ao L) 9,ab (ap R) 3,ab (aj H) 114] (aO (ad.z S) L R H d))=true)(aX:aoS (ao X) ag=true)(bh:aoS (aj H) ag=true)(l4:(decide ((↑(ad.rn S):Int)>0))=true→(decide (aoN .i64 (aoN .i64 (ad.bN S+(↑(aoT (bc (ao X) (0+aoO i*1))):Int))+1)>256))=true→(e != 0)=true→Q .ret (HF S L R H d e T K Rr dd X ro n i))(n5:(decide ((↑(ad.rn S):Int)>0))=true→(decide (aoN .i64 (aoN .i64 (ad.bN S+(↑(aoT (bc (ao X) (0+aoO i*1))):Int))+1)>256))=true→(e != 0)=false→(apf (ad.rn T+1) 1000000)=true)(l6:(decide ((↑(ad.rn S):Int)>0))=true→(decide (aoN .i64 (aoN .i64 (ad.bN S+(↑(aoT (bc (ao X) (0+aoO i*1))):Int))+1)>256))=true→(e != 0)=false→Q .normal (PJ S L R H d e T K Rr dd X ro n i))(n7:(decide ((↑(ad.rn S):Int)>0))=true→(decide (aoN .i64 (aoN .i64 (ad.bN S+(↑(aoT (bc (ao X) (0+aoO i*1))):Int))+1)>256))=false→(apf (ad.rn S+1) 1000000)=true)(bD:aoS (ap R) ag=true)(l9:(decide ((↑(ad.rn S):Int)>0))=true→(decide (aoN .i64 (aoN .i64 (ad.bN S+(↑(aoT (bc (ao X) (0+aoO i*1))):Int))+1)>256))=false→Q .normal (PK S L R H d e T K Rr dd X ro n i))(jU:(decide ((↑(ad.rn S):Int)>0))=false→Q .normal (PL S L R H d e T K Rr dd X ro n i)):an aoL 57 6 (HE.drop 2) (adK S L R H d e T K Rr dd X ro n i) Q:=
 aZ (adC S L R H d e T K Rr dd dq) 1000 (aA [0,1,1,0,1] (.fork 2 (aA [1,1,1,3,1,3,1,1,1] (.fork 0 (aA [3,1,1,1,1,1,1] (.fork 0 (.leaf [4] [0,1,2,3,4,5,9,10,11] [5,9,10,11]) (aA [2,3,5,1] (.leaf [0,8,9,10] [0,1,2,3,4,5,13,10,11] [5,13,10,11])))) (aA [2,3,5,1] (.leaf [0,8,9,10] [0,1,2,3,4,5,10,7,8] [5,10,7,8])))) (aA [0,0,0,0,0,0,0,0,0,4,3,5,1] (.leaf [0,8,9,10] [0,1,2,3,4,5,10,7,8] [5,10,7,8])))) (fun u=>by kernel_rfl) (mN (decide_eq_true (by omega):(decide (0≤i))=true) (mN (show(ao9 (aoO i) n)=true by simp at dq pH hL hR h0 h1 h2 h3 h4 h5⊢ <;>omega) (mN n0 (mF (c:=decide ((↑(ad.rn S):Int)>0)) (fun h0=>(PH 9 h0 (mF (c:=decide (aoN .i64 (aoN .i64 (ad.bN S+(↑(aoT (bc (ao X) (0+aoO i*1))):Int))+1)>256)) (fun h1=>(aL L R H (mN (n1 h0 h1) (mN (aV K) (mN (aQ Rr) (mN (a7 H) (mF (c:=e != 0) (fun h2=>(mN (aV X) (mN (aV K) (mN (aQ Rr) (mN (a7 H) (mR (l4 h0 h1 h2))))))) (fun h2=>(mN (n5 h0 h1 h2) (mN (lh _:(full (ad.rn T) (ad.rn T))=true) (mN (show(ao6 (0+ad.rn T*1) (aoM (ao K)))=true by simp at dq pH hL hR h0 h1 h2 h3 h4 h5 h0 h1 h2⊢ <;>omega) (mN (aV X) (mN (show(aoS (ao K++[apm (bc (ao X) (0+aoO i*1))]) ag)=true by first|(simp;done)|assumption|exact aC (aU _) rfl|exact aC rfl (aB (by assumption) _)|exact aE (aE (aE (by assumption) rfl _) rfl _) rfl _|exact aC (by assumption) rfl) (mN (aQ Rr) (mN (a7 H) (mQ (an.done (by kernel_rfl) (l6 h0 h1 h2)))))))))))))))))) (fun h1=>(mN (n7 h0 h1) (mN (lh _:(full (ad.rn S) (ad.rn S))=true) (mN (show(ao6 (0+ad.rn S*1) (aoM (ao L)))=true by simp at dq pH hL hR h0 h1 h2 h3 h4 h5 h0 h1⊢ <;>omega) (mN (aV X) (mN (show(aoS (ao L++[apm (bc (ao X) (0+aoO i*1))]) ag)=true by first|(simp;done)|assumption|exact aC (aU _) rfl|exact aC rfl (aB (by assumption) _)|exact aE (aE (aE (by assumption) rfl _) rfl _) rfl _|exact aC (by assumption) rfl) (mN (aQ R) (mN (a7 H) (mQ (an.done (by kernel_rfl) (l9 h0 h1)))))))))))))) (fun h0=>(PH 9 h0 (mN (show(apf (ad.rn S+1) 1000000)=true by simp at dq pH hL hR h0 h1 h2 h3 h4 h5 h0⊢ <;>omega) (mN (lh _:(full (ad.rn S) (ad.rn S))=true) (mN (show(ao6 (0+ad.rn S*1) (aoM (ao L)))=true by simp at dq pH hL hR h0 h1 h2 h3 h4 h5 h0⊢ <;>omega) (mN (aV X) (mN (show(aoS (ao L++[apm (bc (ao X) (0+aoO i*1))]) ag)=true by first|(simp;done)|assumption|exact aC (aU _) rfl|exact aC rfl (aB (by assumption) _)|exact aE (aE (aE (by assumption) rfl _) rfl _) rfl _|exact aC (by assumption) rfl) (mN (aQ R) (mN (a7 H) (mQ (an.done (by kernel_rfl) (jU h0))))))))))))))))
abbrev HG:=fun S L R H d X (ro:Bool) (n:Nat)=>(⟨[(4,aa 0)],BS S L R H d X ro⟩:ai)
theorem adM(S L R H d X)(ro:Bool)(n:Nat){Q:bo}(hq:Q (.ret (aa 0)) (HG S L R H d X ro n).objs):aJ aoL 47 57 6 Q .ret (HG S L R H d X ro n):=aJ.ret (vs:=[aa 0]) (l:=[]) (bs:=[0,1,2,3,4,5,6,7,8]) (pl:=[5,6,7,8]) (q:=[ao X,ao L,ap R,aj H]) (fun u=>by kernel_rfl) (by kernel_rfl) (aF (aV X) (fY L R H bi)) hq
noncomputable abbrev adN(S:ad)(L:List ByteArray)(R:List Int)(H:List aq)(d:au)(X:List ByteArray)(ro:Bool)(n:Nat):ai:=⟨[],BT S L R H d X ro⟩
theorem adO(S:ad)(L R H d X)(ro:Bool)(n:Nat)(pH:(aj H).all ag=true)(hL:(aoM L)=S.rn)(hR:(aoM R)=S.sn){Q:aY}(l4:Q .ret (HG S L R H d X ro n)):an aoL 57 6 (BR.drop 3) (adN S L R H d X ro n) Q:=
 aZ bt 1000 (.leaf [4] [0,1,2,3,4,5,6,7,8] [5,6,7,8]) (fun u=>by kernel_rfl) (mN (aV X) (aL L R H (mR l4)))
end
abbrev cJ:=ad×List ByteArray×List Int×au
structure jq(s:cJ):Prop where
 len:s.2.1.length=s.1.rn
 runs:s.2.2.1.length=s.1.sn
 db:ca s.2.2.2
 made:s.2.2.1.length≤s.2.2.2.made
 bN:s.1.bN=bV s.2.1
 bW:bV s.2.1≤400
theorem HH(d:au)(no:Int)(b:ByteArray):(bU d no b).2.made=d.made:=by
 unfold bU
 split
 ·rfl
 split
 ·rfl
 split
 ·rfl
 ·rfl
theorem HI(no:Int):∀(l:List ByteArray) (d:au),ca d→(∀f,fileOf d.files no=some f→f.size+bV l≤1000000)→ca (iT no l d).2∧(iT no l d).2.made=d.made
 | [],d,h,_=>⟨h,rfl⟩
 |x::l,d,h,hs=>by
  have h1:∀f,fileOf d.files no=some f→f.size+(cj x).size≤1000000:=fun f hf=>by
   have:f.size+(x.size+1+bV l)≤1000000:=hs f hf
   rw[lW];omega
  unfold iT
  split
  ·exact⟨h.write h1,HH _ _ _⟩
  ·obtain⟨a,b⟩:=HI no l (bU d no (cj x)).2 (h.write h1) fun f hf=>by
    obtain⟨g,g1,g2⟩:=HC hf
    have:g.size+(x.size+1+bV l)≤1000000:=hs g g1
    rw[lW]at g2
    omega
   exact⟨a,by rw[b,HH]⟩
theorem HJ{d:au}:(bH d).2.2.made=if(bH d).2.1=0 then d.made+1 else d.made:=by
 unfold bH
 by_cases h1:d.made=64
 ·rw[if_pos h1];rfl
 ·rw[if_neg h1]
  by_cases h2:ij d=0
  ·rw[if_neg (fun h=>h h2)];rfl
  ·rw[if_pos h2];show d.made=if ij d=0 then _ else _;rw[if_neg h2]
theorem jq.nt{s:cJ}(h:jq s):jq (dZ s.1 s.2.1 s.2.2.1 s.2.2.2).2∧((dZ s.1 s.2.1 s.2.2.1 s.2.2.2).1=0→(dZ s.1 s.2.1 s.2.2.1 s.2.2.2).2.2.1=[]):=by
 obtain⟨S,L,R,d⟩:=s
 obtain⟨h1,h2,h3,h4,h5,h6⟩:=h
 dsimp only at h1 h2 h3 h4 h5 h6⊢
 have hw:bV (bK (ba S.aD) L)=bV L:=wj (kQ L)
 have hm:=HJ (d:=d)
 unfold dZ
 by_cases g:(bH d).2.1=0
 ·rw[if_neg (fun h=>h g)]
  rw[if_pos g]at hm
  obtain⟨w1,w2⟩:=HI (bH d).1 (bK (ba S.aD) L) (bH d).2.2 h3.uu fun f hf=>by
   rw[BN h3 g]at hf
   cases hf
   show 0+_≤_
   omega
  split
  ·refine⟨⟨?_,?_,w1,?_,?_,?_⟩,fun h=>?_⟩
   ·show(bK _ L).length=S.rn;rw[nU];exact h1
   ·show(R++[(bH d).1]).length=S.sn+1;rw[ao5,h2];rfl
   ·show(R++[(bH d).1]).length≤_;rw[ao5,w2,hm];show R.length+1≤_;omega
   ·show S.bN=bV (bK _ L);rw[hw];exact h5
   ·show bV (bK _ L)≤400;rw[hw];exact h6
   ·rename_i bu;exact absurd h bu
  ·refine⟨⟨rfl,?_,w1,?_,rfl,?_⟩,fun _=>rfl⟩
   ·show(R++[(bH d).1]).length=S.sn+1;rw[ao5,h2];rfl
   ·show(R++[(bH d).1]).length≤_;rw[ao5,w2,hm];show R.length+1≤_;omega
   ·exact apN _
 ·rw[if_pos g]
  rw[if_neg g]at hm
  refine⟨⟨?_,h2,h3.uu,?_,?_,?_⟩,fun h=>absurd h g⟩
  ·show(bK _ L).length=S.rn;rw[nU];exact h1
  ·show R.length≤_;rw[hm];exact h4
  ·show S.bN=bV (bK _ L);rw[hw];exact h5
  ·show bV (bK _ L)≤400;rw[hw];exact h6
def lY(x:ByteArray)(s:cJ):cJ:=({s.1 with rn:=s.1.rn+1,bN:=s.1.bN+(x.size+1)},s.2.1++[x],s.2.2)
def eY:List ByteArray→cJ→Int×cJ
 | [],s=>(0,s)
 |x::l,s=>if 0<s.1.rn∧s.1.bN+x.size+1>256 then(if(dZ s.1 s.2.1 s.2.2.1 s.2.2.2).1≠0 then dZ s.1 s.2.1 s.2.2.1 s.2.2.2 else eY l (lY x (dZ s.1 s.2.1 s.2.2.1 s.2.2.2).2))else eY l (lY x s)
theorem yO(a b:List ByteArray):bV (a++b)=bV a+bV b:=by
 induction a with
 |nil=>show bV b=0+bV b;omega
 |cons x a ih=>show x.size+1+bV (a++b)=x.size+1+bV a+bV b;omega
theorem jq.put{s:cJ}(h:jq s)(x:ByteArray)(hx:bV s.2.1+(x.size+1)≤400):jq (lY x s):=by
 refine⟨?_,h.runs,h.db,h.made,?_,?_⟩
 ·show(s.2.1++[x]).length=s.1.rn+1;rw[ao5,h.len];rfl
 ·show s.1.bN+((x.size:Int)+1)=bV (s.2.1++[x]);rw[yO,h.bN];show _=((bV s.2.1+(x.size+1+0):Nat):Int);omega
 ·show bV (s.2.1++[x])≤400;rw[yO];exact hx
@[simp] theorem anW(S:ad)(a b c e:Nat):(aM S a b c e).length=78:=rfl
def nY(E:ak)(S:ad)(L:List ByteArray)(R:List Int)(H:List aq)(d:au):List ak:=[.cells (aM S 1 6 7 8) 89 false,.abs d,.dead,.dead,.dead,E,.cells (ao L) 9 false,.cells (ap R) 3 false,.cells (aj H) 114 false]
def HK(X:List ByteArray)(ro:Bool)(H:List aq)(s:cJ):List ak:=nY (.cells (ao X) 9 ro) s.1.z s.2.1 s.2.2.1 H s.2.2.2
def yP(X:List ByteArray)(ro:Bool)(n:Nat)(H:List aq)(s:Nat×cJ):ai:=⟨[(0,.pointer (some ⟨0,0,none⟩)),(8,.slice (some ⟨5,0,none⟩) n n),(9,iZ n),(10,iZ s.1)],HK X ro H s.2⟩
structure adP(X:List ByteArray)(s0:cJ)(s:Nat×cJ):Prop where
 i:s.1≤X.length
 e:eY (X.drop s.1) s.2=eY X s0
 ok:jq s.2
theorem PM(X:List ByteArray)(ro:Bool)(n:Nat)(hX:X.length=n)(hn:n≤1000000)(iX:∀x∈X,x.size≤64)(H:List aq)(s:cJ)(hs:jq s):
 aI aoL 47 [.pointer (some ⟨0,0,none⟩),.slice (some ⟨5,0,none⟩) n n] (aO s.1.z s.2.1 s.2.2.1 H s.2.2.2++[.cells (ao X) 9 ro]) fun r o=>r=.ret (.int .i64 (eY X s).1)∧o=HK X ro H (eY X s).2:=by
 have pH:=a7 H
 refine aI.cY (n:=cp aoL 47) (by kernel_rfl) ?_
 refine an.move (d':=⟨[(0,.pointer (some ⟨0,0,none⟩)),(1,.slice (some ⟨5,0,none⟩) n n)],HK X ro H s⟩) [some 0,some 1,none,none,none,some 5,some 2,some 3,some 4] [2,3,4,5] (q:=[ao X,ao s.2.1,ap s.2.2.1,aj H]) (by kernel_rfl) (aF (by simp) (aF (by simp) (aF (by simp) (aF pH bi)))) (by kernel_rfl) (by kernel_rfl) ?_
 apply adE s.1 s.2.1 s.2.2.1 H s.2.2.2 X ro n pH hs.len hs.runs
 ·
  rw[show PI s.1 s.2.1 s.2.2.1 H s.2.2.2 X ro n=yP X ro n H (0,s)from rfl]
  refine an.eO 2 0 (by kernel_rfl) ?_
  refine an.fL (yP X ro n H) (fun t=>n-t.1) (adP X s) (0,s) (by kernel_rfl) ⟨apN _,by simp,hs⟩ ?_
  clear hs
  rintro⟨i,t⟩ ⟨h1,h2,h3⟩
  dsimp only at h1 h2 h3
  apply adI t.1 t.2.1 t.2.2.1 H t.2.2.2 X ro n i pH h3.len h3.runs
  case l5=>
   intro g
   have g:=of_decide_eq_false g
   rw[show i=X.length by omega,asD]at h2
   have h2:(0,t)=eY X s:=h2
   rw[←h2]
   with_reducible (repeat first|refine QL.ret ?_|refine QL.exit ?_|refine QB.ret ?_|refine QB.cx ?_|refine QB.normal ?_|refine QB.cG (by rfl) ?_)
   apply adO t.1 t.2.1 t.2.2.1 H t.2.2.2 X ro n pH h3.len h3.runs
   ·
    exact adM t.1 t.2.1 t.2.2.1 H t.2.2.2 X ro n ⟨rfl,rfl⟩
  case l4=>
   intro g
   have g:=of_decide_eq_true g
   obtain⟨x,hx⟩:∃x,X[i]?=some x:=⟨_,aoV (by omega)⟩
   have anX:=iX x (List.mem_of_getElem? hx)
   rw[(pU hx).2]at h2
   have hex:bc (ao X) (0+aoO (i:Int)*1)=x:=by rw[gd];exact(dY hx).1
   have dq:=h3.nt
   have hlen:=dq.1.len
   have HL:=PE t.1 t.2.1 t.2.2.1 H t.2.2.2 h3.len h3.runs h3.db (by have:=h3.bW;omega) (by have:=h3.made;have:=h3.db.made;omega)
   have HM:=h3.bN
   have jb:=h3.bW
   have PF:=yN t.2.1
   have anY:t.1.bN=(bV t.2.1:Nat):=HM
   have ew:aoN ao2 (aoN ao2 (t.1.bN+(x.size:Int))+1)=t.1.bN+x.size+1:=by rw[bL (z:=t.1.bN+(x.size:Int)) (by omega) (by omega),bL (by omega) (by omega)]
   have es:∀w:Int,0≤w→w≤1000→aoN ao2 (w+aoN ao2 ((x.size:Int)+1))=w+((x.size:Int)+1):=fun w w1 w2=>by rw[bL (z:=(x.size:Int)+1) (by omega) (by omega),bL (by omega) (by omega)]
   generalize hR:dZ t.1 t.2.1 t.2.2.1 t.2.2.2=r at dq hlen HL
   obtain⟨e,u⟩:=r
   dsimp only at dq hlen HL
   have HN:∀l:List ByteArray,ao l++[apm x]=ao (l++[x]):=fun l=>by unfold ao;rw[apK];rfl
   have stay:∀l:List ByteArray,¬(0<t.1.rn∧t.1.bN+x.size+1>256)→eY (X.drop (i+1)) (lY x t)=eY X s∧jq (lY x t):=fun l hc=>by
    refine⟨?_,h3.put x ?_⟩
    ·rw[←h2];show _=eY (x::X.drop (i+1)) t;rw[eY,if_neg hc]
    ·have hl:=h3.len
     by_cases h0:0<t.1.rn
     ·have:¬t.1.bN+x.size+1>256:=fun h=>hc ⟨h0,h⟩
      omega
     ·have:t.2.1=[]:=apL (by omega)
      rw[this];show 0+_≤400;omega
   apply adL t.1 t.2.1 t.2.2.1 H t.2.2.2 e u.1 u.2.1 u.2.2.1 u.2.2.2 X ro n i HL pH h3.len h3.runs (by omega) g hn (bL (by omega) (by omega)) hX hlen
   case aX=>simp
   case bh=>exact pH
   case bD=>simp
   case n0=>rw[gd];exact(dY hx).2
   case n1=>intro _ _;exact e8 rfl rfl
   case n5=>
    intro _ _ ge
    have ge:e=0:=by simpa using ge
    have:=dq.2 ge
    have hl:u.2.1.length=u.1.rn:=hlen
    rw[this]at hl
    exact apu (by have:u.1.rn=0:=hl.symm;omega)
   case n7=>intro _ _;exact apu (by have:=h3.len;omega)
   case l4=>
    intro g1 g2 ge
    have g1:=of_decide_eq_true g1
    rw[hex,ew]at g2
    have g2:=of_decide_eq_true g2
    have ge:e≠0:=by simpa using ge
    have h2:eY (x::X.drop (i+1)) t=eY X s:=h2
    rw[eY,if_pos ⟨by omega,g2⟩,hR,if_pos ge]at h2
    rw[←h2]
    with_reducible (repeat first|refine QL.ret ?_|refine QL.exit ?_|refine QB.ret ?_|refine QB.cx ?_|refine QB.normal ?_|refine QB.cG (by rfl) ?_)
    exact adJ t.1 t.2.1 t.2.2.1 H t.2.2.2 e u.1 u.2.1 u.2.2.1 u.2.2.2 X ro n i (by simp) pH ⟨rfl,rfl⟩
   case l6=>
    intro g1 g2 ge
    have g1:=of_decide_eq_true g1
    rw[hex,ew]at g2
    have g2:=of_decide_eq_true g2
    have ge:e=0:=by simpa using ge
    have h2:eY (x::X.drop (i+1)) t=eY X s:=h2
    rw[eY,if_pos ⟨by omega,g2⟩,hR,if_neg (fun h=>h ge)]at h2
    have PN:=dq.2 ge
    have HO:=dq.1.bN
    rw[PN]at HO
    have HO:u.1.bN=0:=HO
    refine QL.to (i+1,lY x u) ⟨by dsimp only;omega,h2,dq.1.put x (by rw[PN];show 0+_≤400;omega)⟩ (by dsimp only;omega) ?_
    unfold PJ yP
    rw[hex,HN,es _ (by omega) (by omega),ff (by omega)]
    rfl
   case l9=>
    intro g1 g2
    rw[hex,ew]at g2
    have g2:=of_decide_eq_false g2
    obtain⟨k1,k2⟩:=stay [] (fun h=>g2 h.2)
    refine QL.to (i+1,lY x t) ⟨by dsimp only;omega,k1,k2⟩ (by dsimp only;omega) ?_
    unfold PK yP
    rw[hex,HN,es _ (by omega) (by omega),ff (by omega)]
    rfl
   case jU=>
    intro g1
    have g1:=of_decide_eq_false g1
    obtain⟨k1,k2⟩:=stay [] (fun h=>g1 (by have:=h.1;omega))
    refine QL.to (i+1,lY x t) ⟨by dsimp only;omega,k1,k2⟩ (by dsimp only;omega) ?_
    unfold PL yP
    rw[hex,HN,es _ (by omega) (by omega),ff (by omega)]
    rfl
end Go.Proofs.YtnlkkgpcikkpoaaGreat
