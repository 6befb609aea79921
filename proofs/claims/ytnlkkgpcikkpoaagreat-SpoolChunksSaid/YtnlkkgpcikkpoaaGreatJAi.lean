/- Part of the proof: StW, SoA, Sst, SoB, SoC, Sss, SoD, Zoa, Zob, Zoc, Zoe, Zod, Zof, Zog, Zoh, Zpa. -/
import Derived.Test.YtnlkkgpcikkpoaaGreatJAh
import Derived.KernelRfl
import Derived.Test.YtnlkkgpcikkpoaaGreatJAg
import Derived.Lib.Bytealg
import Derived.Lib.IndexLaws
open Array renaming toArray_toList→aqq,toList→apO
open Bool renaming and_eq_true→apt,and_self→aq7,false_eq_true→aqi,true_and→arJ
open ByteArray renaming data→apH,empty→apj,size→apk,size_append→arX,size_extract→arQ
open Classical renaming propDecidable→apF
open Decidable renaming not_not→aq2
open Go renaming Code→apV,FuncId→apQ,TypeId→apq,Value→ape
open Go.IntKind renaming i64→apr,u8→apA,wrap→apc
open Go.Proofs.Tryz renaming prog→av9
open Go.Value renaming int→apm,string→apJ
open Int renaming eq_ofNat_of_zero_le→aqL,toNat→apd
open List renaming all→aph,append_assoc→apK,append_nil→aqF,drop_drop→aqu,drop_length→as3,eq_nil_of_length_eq_zero→aqf,find?→aus,find?_cons→arY,find?_eq_none→asj,getElem?_eq_getElem→apl,length→apb,length_append→apv,map→apS,map_append→aqa,map_congr_left→arc,map_cons→aqb,map_map→arT,mem_append→apN,mem_filter→ath,mem_map→aq0,mem_singleton→aqd,take→apE,take_of_length_le→aqy
open List.Sublist renaming map→av8
open Nat renaming beq→apw,beq_refl→aqn,ble→apG,ble_eq_true_of_le→apU,eq_of_beq_eq_true→apz,le_refl→apI,zero_le→ap7
open Option.some renaming injEq→api
open Prod renaming fst→apo,snd→ap6
open Prod.mk renaming injEq→apn
open UInt8 renaming ofInt→auf,toNat→apT
set_option linter.unusedVariables false
set_option linter.unusedSimpArgs false
set_option maxRecDepth 100000
namespace Go.Proofs.YtnlkkgpcikkpoaaGreat
section
variable {α:Type} {c:α→α→Int}
inductive iR(c:α→α→Int)(z:Nat):List α→Prop
 |last {l:List α}:l.length≤z→dC c l→iR c z l
 |cons {l l':List α}:l.length=z→dC c l→iR c z l'→iR c z (l++l')
inductive Full(c:α→α→Int)(z:Nat):List α→Prop
 |nil:Full c z []
 |snoc {T l:List α}:Full c z T→l.length=z→dC c l→Full c z (T++l)
theorem Full.aI{z:Nat}{T W:List α}(h:Full c z T):iR c z W→iR c z (T++W):=by
 induction h generalizing W with
 |nil=>exact id
 |snoc _ h1 h2 ih=>intro hw;rw[apK];exact ih (.cons h1 h2 hw)
theorem iR.one{z:Nat}{l:List α}(h:iR c z l)(hl:l.length≤z):dC c l:=by
 cases h with
 |last _ h=>exact h
 |@cons x y h1 h2 h3=>
  rw[apv]at hl
  have:y=[]:=aqf (by omega)
  subst this
  rw[aqF];exact h2
theorem iR.head{z:Nat}{l:List α}(h:iR c z l)(hl:z<l.length):∃X Y,l=X++Y∧X.length=z∧dC c X∧iR c z Y:=by
 cases h with
 |last h1 _=>omega
 |cons h1 h2 h3=>exact⟨_,_,rfl,h1,h2,h3⟩
theorem iR.nil{z:Nat}:iR c z ([]:List α):=.last (ap7 _) .nil
theorem iR.two{z:Nat}{l:List α}(h:iR c z l)(hz:0<z)(hl:2*z≤l.length):∃X Y W,l=X++(Y++W)∧X.length=z∧Y.length=z∧dC c X∧dC c Y∧iR c z W:=by
 obtain⟨X,Y,rfl,h1,h2,h3⟩:=h.head (by omega)
 rw[apv]at hl
 by_cases hy:z<Y.length
 ·obtain⟨X',W,rfl,g1,g2,g3⟩:=h3.head hy
  exact⟨X,X',W,rfl,h1,g1,h2,g2,g3⟩
 ·exact⟨X,Y,[],by simp,h1,by omega,h2,h3.one (by omega),iR.nil⟩
structure ma(c:α→α→Int)(L:List α)(z a:Nat)(M:List α):Prop where
 it:∃T U,M=T++U∧T.length=a∧Full c (2*z) T∧iR c z U
 perm:M.Perm L
theorem ma.start{L M:List α}{z:Nat}(h:iR c z M)(hp:M.Perm L):ma c L z 0 M:=⟨⟨[],M,rfl,rfl,.nil,h⟩,hp⟩
theorem BP{L:List α}{a b:Nat}(h:a≤b):(bV c L a b).Perm L:=by
 unfold bV
 conv=>rhs;rw[su L h]
 exact((kR _).append_right _).append_left _
theorem ma.pre{L M:List α}{z a:Nat}(h:ma c L z a M)(hz:0<z)(hb:a+2*z≤M.length):dC c (aL M a (a+z))∧dC c (aL M (a+z) (a+2*z)):=by
 obtain⟨⟨T,U,rfl,hT,_,hU⟩,_⟩:=h
 rw[apv]at hb
 obtain⟨X,Y,W,rfl,h1,h2,h3,h4,h5⟩:=hU.two hz (by omega)
 constructor
 ·rw[nT hT (by omega)];exact h3
 ·rw[←apK,nT (by rw[apv];omega) (by omega)];exact h4
theorem ma.step{L M:List α}{z a:Nat}(t:TO c)(h:ma c L z a M)(hz:0<z)(hb:a+2*z≤M.length):ma c L z (a+2*z) (bV c M a (a+2*z)):=by
 have hp:=(BP (c:=c) (L:=M) (a:=a) (b:=a+2*z) (by omega)).trans h.perm
 obtain⟨⟨T,U,rfl,hT,hF,hU⟩,_⟩:=h
 rw[apv]at hb
 obtain⟨X,Y,W,rfl,h1,h2,h3,h4,h5⟩:=hU.two hz (by omega)
 refine⟨?_,hp⟩
 rw[show T++(X++(Y++W))=T++((X++Y)++W)by simp,wg hT (by omega) (by rw[apv];omega)]
 have hl:(bE c (X++Y)).length=2*z:=by rw[nS,apv];omega
 exact⟨T++bE c (X++Y),W,by simp,by rw[apv];omega,.snoc hF hl (pV t _),h5⟩
theorem ma.ac3{L M:List α}{z a:Nat}(h:ma c L z a M)(hb:M.length<a+2*z)(hm:a+z<M.length):dC c (aL M a (a+z))∧dC c (aL M (a+z) M.length):=by
 obtain⟨⟨T,U,rfl,hT,_,hU⟩,_⟩:=h
 simp only[apv]at hb hm⊢
 obtain⟨X,Y,rfl,h1,h2,h3⟩:=hU.head (by omega)
 simp only[apv]at hb hm⊢
 constructor
 ·rw[nT hT (by omega)];exact h2
 ·have:=nT (T:=T++X) (X:=Y) (D:=[]) (a:=a+z) (b:=T.length+(X.length+Y.length)) (by rw[apv];omega) (by omega)
  rw[aqF,apK]at this
  rw[this];exact h3.one (by omega)
theorem ma.ac4{L M:List α}{z a:Nat}(t:TO c)(h:ma c L z a M)(ha:a≤M.length)(hb:M.length<a+2*z):iR c (2*z) (bV c M a M.length)∧(bV c M a M.length).Perm L:=by
 refine⟨?_,(BP ha).trans h.perm⟩
 obtain⟨⟨T,U,rfl,hT,hF,hU⟩,_⟩:=h
 simp only[apv]at hb ha⊢
 have:=wg (c:=c) (T:=T) (X:=U) (D:=[]) (a:=a) (b:=T.length+U.length) hT (by omega) (by omega)
 rw[aqF,aqF]at this
 rw[this]
 exact hF.aI (.last (by rw[nS];omega) (pV t _))
theorem ma.ac5{L M:List α}{z a:Nat}(h:ma c L z a M)(hm:M.length≤a+z):iR c (2*z) M∧M.Perm L:=by
 refine⟨?_,h.perm⟩
 obtain⟨⟨T,U,rfl,hT,hF,hU⟩,_⟩:=h
 rw[apv]at hm
 exact hF.aI (.last (by omega) (hU.one (by omega)))
structure qU(c:α→α→Int)(L:List α)(z a:Nat)(M:List α):Prop where
 it:∃T U,M=T++U∧T.length=a∧Full c z T
 perm:M.Perm L
theorem qU.start(c:α→α→Int)(L:List α)(z:Nat):qU c L z 0 L:=⟨⟨[],L,rfl,rfl,.nil⟩,.refl _⟩
theorem qU.step{L M:List α}{z a:Nat}(t:TO c)(h:qU c L z a M)(hb:a+z≤M.length):qU c L z (a+z) (bV c M a (a+z)):=by
 have hp:=(BP (c:=c) (L:=M) (a:=a) (b:=a+z) (by omega)).trans h.perm
 refine⟨?_,hp⟩
 obtain⟨⟨T,U,rfl,hT,hF⟩,_⟩:=h
 rw[apv]at hb
 have hX:(U.take z).length=z:=by rw[List.length_take];omega
 have e:T++U=T++(U.take z++U.drop z):=by rw[List.take_append_drop]
 rw[e,wg hT (by omega) (by omega)]
 have hl:(bE c (U.take z)).length=z:=by rw[nS];exact hX
 exact⟨T++bE c (U.take z),U.drop z,by simp,by rw[apv];omega,.snoc hF hl (pV t _)⟩
theorem qU.done{L M:List α}{z a:Nat}(t:TO c)(h:qU c L z a M)(ha:a≤M.length)(hb:M.length<a+z):iR c z (bV c M a M.length)∧(bV c M a M.length).Perm L:=by
 refine⟨?_,(BP ha).trans h.perm⟩
 obtain⟨⟨T,U,rfl,hT,hF⟩,_⟩:=h
 simp only[apv]at hb ha⊢
 have:=wg (c:=c) (T:=T) (X:=U) (D:=[]) (a:=a) (b:=T.length+U.length) hT (by omega) (by omega)
 rw[aqF,aqF]at this
 rw[this]
 exact hF.aI (.last (by rw[nS];omega) (pV t _))
theorem iR.done{L M:List α}{z:Nat}(t:TO c)(h:iR c z M)(hp:M.Perm L)(hz:M.length≤z):M=bE c L:=yF t hp (h.one hz)
end
end Go.Proofs.YtnlkkgpcikkpoaaGreat
namespace Go.Proofs.YtnlkkgpcikkpoaaGreat
open Go Vm Go.RowKit
noncomputable def HD(a:List ape)(o:List ag):Option (Bool×bx×List ag):=match a,o with
 | [.slice (some ⟨0,0,none⟩) n m,.int .i64 x,.int .i64 y,.func (.func f) c1 c2],ag.cells c t r::ag.cells e t2 r2::l=>match c1.toList,c2.toList with
  | [.pointer (some ⟨1,0,none⟩)],[]=>match(e[70]?:Option ape)with
   |some (.bool fl)=>some (iQ (.cells c t r:: .cells e t2 r2::l) n&&(apw m n&&(apw f 74&&(decide (0≤x)&&(decide (x≤y)&&decide (y≤n))))),.ret (.tuple #[]),.cells (ap (bV (aV fl) (cU c) x.toNat y.toNat)) t r:: .cells e t2 r2::l)
   |_=>none
  |_,_=>none
 |_,_=>none
theorem ac6:bp av9 121 (Sum.dq av9 HD):=bp.dq fun a o r o' hg=>by
 unfold HD at hg
 split at hg
 ·rename_i n m x y f c1 c2 c t ro e t2 r2 l
  split at hg
  ·rename_i h1 h2
   split at hg
   ·rename_i fl fP
    simp only[api,apn,apt,decide_eq_true_eq]at hg
    obtain⟨⟨g1,g2,g3,p1,p2,p3⟩,rfl,rfl⟩:=hg
    have g2:=apz g2
    have g3:=apz g3
    obtain⟨S,R,H,d,L,he,hl,hn⟩:=@of_decide_eq_true _ (apF _) g1
    have e1:c1= #[.pointer (some ⟨1,0,none⟩)]:=by rw[←aqq (xs:=c1),h1]
    have e2:c2= #[]:=by rw[←aqq (xs:=c2),h2]
    subst g2 g3 e1 e2
    obtain⟨x,rfl⟩:=aqL p1
    obtain⟨y,rfl⟩:=aqL (show 0≤y by omega)
    unfold cL at he
    injection he with oZ dY
    injection dY with dY qT
    injection oZ with hc ht hr
    injection dY with iU mC eO
    subst hc ht hr iU mC eO qT
    have:(aJ S 2 0 3 4)[70]?=some (.bool S.aB):=rfl
    rw[this]at fP
    cases fP
    refine(abi S R H d L _ x y hl hn (by omega) (by omega)).mono ?_
    rintro r o ⟨rfl,rfl⟩
    exact⟨rfl,by rw[iP];rfl⟩
   ·cases hg
  ·cases hg
 ·cases hg
noncomputable def ac7:List (apQ×Sum):=[(121,Sum.dq av9 HD),(122,Sum.dq av9 (nV 1000000))]
theorem BQ:dw av9 (dM av9 (dN ac7) 50 40):=dR du mixed (ed (.cons ac6 (.cons (ac2 1000000) .nil))) 50 40
noncomputable section
noncomputable def yP:List apV:=aY (dz av9 99)
open Tree renaming aN→mN,dj→mF,eT→mL,fz→mQ,dB→mR,fH→mE
noncomputable abbrev HE:List apV:=(aY (inner (aY (inner (yP.drop 4)))))
noncomputable abbrev BR:List apV:=(aY (inner (HE.drop 2)))
noncomputable abbrev HF:List apV:=(aY (inner (aY (inner (yP.drop 2)))))
noncomputable abbrev HG:List apV:=(aY (inner (aY (inner (BR.drop 1)))))
noncomputable abbrev Ps:List apV:=(yP.drop 3)
abbrev nr:=fun S R H d L=>([ab (ap L) 9,ab (aJ S 2 0 3 4) 89,.abs d,ab (aq R) 3,ab (ak H) 114]:List ag)
abbrev Pt:=fun S R H d (n:Nat) L=>(⟨[(0,ah 0 n),(1,aa n),(2,.func (.func 74) #[ao 1] #[]),(6,aa 20),(7,aa 0),(8,aa 20)],nr S R H d L⟩:aj)
abbrev ac8:=fun S R H d (n:Nat) L=>(⟨[(0,ah 0 n),(1,aa n),(2,.func (.func 74) #[ao 1] #[])],nr S R H d L⟩:aj)
theorem ac9(S R H d)(n:Nat)(L)(pH:(ak H).all af=true)(hn:(apb L)=n){Q:aQ}(l3:an av9 63 5 (yP.drop 2) (Pt S R H d n L) Q):an av9 63 5 yP (ac8 S R H d n L) Q:=
 aS bo 2 (.leaf [0,1,2,6,7,8] [0,1,2,3,4] [0,3,4]) (fun u=>by kernel_rfl) (aM L R H (mQ l3))
abbrev ada:=fun S R H d (n:Nat) L (z a b:Int)=>(⟨[(0,ah 0 n),(1,aa n),(2,.func (.func 74) #[ao 1] #[]),(6,aa z),(7,aa a),(8,aa b)],nr S R H d L⟩:aj)
abbrev adb:=fun S R H d (n:Nat) L (z a b:Int)=>(⟨[(0,ah 0 n),(1,aa n),(2,.func (.func 74) #[ao 1] #[]),(6,aa z),(7,aa a)],nr S R H d L⟩:aj)
abbrev BS:=fun S R H d (n:Nat) L (z a b:Int)=>(⟨[(0,ah 0 n),(1,aa n),(2,.func (.func 74) #[ao 1] #[]),(6,aa z),(7,aa a),(8,aa b)],nr S R H d L⟩:aj)
theorem ade(S R H d)(n:Nat)(L)(z a b:Int)(pH:(ak H).all af=true)(hn:(apb L)=n){Q:aQ}(l3:(decide (b≤(↑n:Int)))=true→an av9 63 5 (HF.drop 2) (ada S R H d n L z a b) Q)(l4:(decide (b≤(↑n:Int)))=false→Q (.exit 0) (adb S R H d n L z a b)):an av9 63 5 HF (BS S R H d n L z a b) Q:=
 aS bo 2 (.fork 0 (.leaf [0,1,2,6,7,8] [0,1,2,3,4] [0,3,4]) (.leaf [0,1,2,6,7] [0,1,2,3,4] [0,3,4])) (fun u=>by kernel_rfl) (mF (c:=decide (b≤(↑n:Int))) (fun h0=>(aM L R H (mQ (l3 h0)))) (fun h0=>(aM L R H (mE 0 (l4 h0)))))
abbrev Pu:=fun S R H d (n:Nat) L (z a b:Int)=>(⟨[(0,ah 0 n),(1,aa n),(2,.func (.func 74) #[ao 1] #[]),(6,aa z),(7,aa b),(8,.int .i64 (apc .i64 (b+z)))],[ab (ap (bV (aV (ad.aB S)) (cU (ap L)) (apd a) (apd b))) 9,ab (aJ S 2 0 3 4) 89,.abs d,ab (aq R) 3,ab (ak H) 114]⟩:aj)
theorem adf(S R H d)(n:Nat)(L)(z a b:Int)(pH:(ak H).all af=true)(hn:(apb L)=n)(h0:0≤a)(h1:a≤b)(h2:b≤n)(h3:apc .i64 (b+z)=b+z){Q:aQ}(n0:(iQ [ab (ap L) 9,ab (aJ S 2 0 3 4) 89,ag.abs d,ab (aq R) 3,ab (ak H) 114] n&&(apw n n&&(apw 74 74&&(decide (0≤a)&&(decide (a≤b)&&decide (b≤(↑n:Int)))))))=true)(l3:Q .normal (Pu S R H d n L z a b)):an av9 63 5 (HF.drop 2) (BS S R H d n L z a b) Q:=
 aS BQ 1000 (aA [3,1,1,1,1,1,1] (.leaf [0,1,2,6,7,8] [0,1,2,3,4] [0,3,4])) (fun u=>by kernel_rfl) (aM L R H (mN n0 (mN (aZ (bV (aV (ad.aB S)) (cU (ap L)) (apd a) (apd b))) (mN (aG R) (mN (aU H) (mN (aZ (bV (aV (ad.aB S)) (cU (ap L)) (apd a) (apd b))) (mN (aG R) (mN (aU H) (mQ (an.done (by kernel_rfl) l3))))))))))
abbrev HH:=fun S R H d (n:Nat) L (z a:Int)=>(⟨[(0,ah 0 n),(1,aa n),(2,.func (.func 74) #[ao 1] #[]),(6,aa z)],[ab (ap (bV (aV (ad.aB S)) (cU (ap L)) (apd a) (apd (↑n:Int)))) 9,ab (aJ S 2 0 3 4) 89,.abs d,ab (aq R) 3,ab (ak H) 114]⟩:aj)
abbrev Pv:=fun S R H d (n:Nat) L (z a:Int)=>(⟨[(0,ah 0 n),(1,aa n),(2,.func (.func 74) #[ao 1] #[]),(6,aa z),(7,aa a)],nr S R H d L⟩:aj)
theorem adg(S R H d)(n:Nat)(L)(z a:Int)(pH:(ak H).all af=true)(hn:(apb L)=n)(h0:0≤a)(h1:a≤n){Q:aQ}(n0:(iQ [ab (ap L) 9,ab (aJ S 2 0 3 4) 89,ag.abs d,ab (aq R) 3,ab (ak H) 114] n&&(apw n n&&(apw 74 74&&(decide (0≤a)&&(decide (a≤(↑n:Int))&&decide ((↑n:Int)≤(↑n:Int)))))))=true)(l3:an av9 63 5 (Ps.drop 1) (HH S R H d n L z a) Q):an av9 63 5 Ps (Pv S R H d n L z a) Q:=
 aS BQ 1 (aA [3,1,1,1,1,1,1] (.leaf [0,1,2,6] [0,1,2,3,4] [0,3,4])) (fun u=>by kernel_rfl) (aM L R H (mN n0 (mN (aZ (bV (aV (ad.aB S)) (cU (ap L)) (apd a) (apd (↑n:Int)))) (mN (aG R) (mN (aU H) (mN (aZ (bV (aV (ad.aB S)) (cU (ap L)) (apd a) (apd (↑n:Int)))) (mN (aG R) (mN (aU H) (mQ l3)))))))))
abbrev adh:=fun S R H d (n:Nat) L (z:Int)=>(⟨[(0,ah 0 n),(1,aa n),(2,.func (.func 74) #[ao 1] #[]),(6,aa z)],nr S R H d L⟩:aj)
noncomputable abbrev adi(S:ad)(R:List Int)(H:List au)(d:ay)(n:Nat)(L:List ByteArray)(z:Int):aj:=⟨[],nr S R H d L⟩
abbrev Pw:=fun S R H d (n:Nat) L (z:Int)=>(⟨[(0,ah 0 n),(1,aa n),(2,.func (.func 74) #[ao 1] #[]),(6,aa z)],nr S R H d L⟩:aj)
theorem adj(S R H d)(n:Nat)(L)(z:Int)(pH:(ak H).all af=true)(hn:(apb L)=n){Q:aQ}(l3:(decide (z<(↑n:Int)))=true→an av9 63 5 (HE.drop 2) (adh S R H d n L z) Q)(l4:(decide (z<(↑n:Int)))=false→Q (.exit 2) (adi S R H d n L z)):an av9 63 5 HE (Pw S R H d n L z) Q:=
 aS bo 2 (.fork 0 (.leaf [0,1,2,6] [0,1,2,3,4] [0,3,4]) (.leaf [] [0,1,2,3,4] [0,3,4])) (fun u=>by kernel_rfl) (mF (c:=decide (z<(↑n:Int))) (fun h0=>(aM L R H (mQ (l3 h0)))) (fun h0=>(aM L R H (mE 2 (l4 h0)))))
abbrev HI:=fun S R H d (n:Nat) L (z:Int)=>(⟨[(0,ah 0 n),(1,aa n),(2,.func (.func 74) #[ao 1] #[]),(6,aa z),(7,aa 0),(8,.int .i64 (apc .i64 (2*z)))],nr S R H d L⟩:aj)
theorem adk(S R H d)(n:Nat)(L)(z:Int)(pH:(ak H).all af=true)(hn:(apb L)=n)(h0:apc .i64 (2*z)=2*z){Q:aQ}(l3:an av9 63 5 (BR.drop 1) (HI S R H d n L z) Q):an av9 63 5 BR (Pw S R H d n L z) Q:=
 aS bo 1 (.leaf [0,1,2,6,7,8] [0,1,2,3,4] [0,3,4]) (fun u=>by kernel_rfl) (aM L R H (mQ l3))
abbrev adl:=fun S R H d (n:Nat) L (z a b:Int)=>(⟨[(0,ah 0 n),(1,aa n),(2,.func (.func 74) #[ao 1] #[]),(6,aa z),(7,aa a),(8,aa b)],nr S R H d L⟩:aj)
abbrev adm:=fun S R H d (n:Nat) L (z a b:Int)=>(⟨[(0,ah 0 n),(1,aa n),(2,.func (.func 74) #[ao 1] #[]),(6,aa z),(7,aa a)],nr S R H d L⟩:aj)
theorem adn(S R H d)(n:Nat)(L)(z a b:Int)(pH:(ak H).all af=true)(hn:(apb L)=n){Q:aQ}(l3:(decide (b≤(↑n:Int)))=true→an av9 63 5 (HG.drop 2) (adl S R H d n L z a b) Q)(l4:(decide (b≤(↑n:Int)))=false→Q (.exit 4) (adm S R H d n L z a b)):an av9 63 5 HG (BS S R H d n L z a b) Q:=
 aS bo 2 (.fork 0 (.leaf [0,1,2,6,7,8] [0,1,2,3,4] [0,3,4]) (.leaf [0,1,2,6,7] [0,1,2,3,4] [0,3,4])) (fun u=>by kernel_rfl) (mF (c:=decide (b≤(↑n:Int))) (fun h0=>(aM L R H (mQ (l3 h0)))) (fun h0=>(aM L R H (mE 4 (l4 h0)))))
abbrev Px:=fun S R H d (n:Nat) L (z a b:Int)=>(⟨[(0,ah 0 n),(1,aa n),(2,.func (.func 74) #[ao 1] #[]),(6,aa z),(7,aa b),(8,.int .i64 (apc .i64 (b+apc .i64 (2*z))))],[ab (ap (bV (aV (ad.aB S)) (cU (ap L)) (apd a) (apd b))) 9,ab (aJ S 2 0 3 4) 89,.abs d,ab (aq R) 3,ab (ak H) 114]⟩:aj)
theorem ado(S R H d)(n:Nat)(L)(z a b:Int)(pH:(ak H).all af=true)(hn:(apb L)=n)(h0:apc .i64 (a+z)=a+z)(h1:apc .i64 (2*z)=2*z)(h2:apc .i64 (b+2*z)=b+2*z){Q:aQ}(n0:(iQ [ab (ap L) 9,ab (aJ S 2 0 3 4) 89,ag.abs d,ab (aq R) 3,ab (ak H) 114] n&&(apw n n&&(apw 74 74&&uw (aV (ad.aB S)) (cU (ap L)) n a (apc .i64 (a+z)) b 1000000)))=true)(l3:Q .normal (Px S R H d n L z a b)):an av9 63 5 (HG.drop 2) (BS S R H d n L z a b) Q:=
 aS BQ 1000 (aA [3,1,1,1,1,1,1] (.leaf [0,1,2,6,7,8] [0,1,2,3,4] [0,3,4])) (fun u=>by kernel_rfl) (aM L R H (mN n0 (mN (aZ (bV (aV (ad.aB S)) (cU (ap L)) (apd a) (apd b))) (mN (aG R) (mN (aU H) (mN (aZ (bV (aV (ad.aB S)) (cU (ap L)) (apd a) (apd b))) (mN (aG R) (mN (aU H) (mQ (an.done (by kernel_rfl) l3))))))))))
abbrev Py:=fun S R H d (n:Nat) L (z a:Int)=>(⟨[(0,ah 0 n),(1,aa n),(2,.func (.func 74) #[ao 1] #[]),(6,.int .i64 (apc .i64 (z*2)))],[ab (ap (bV (aV (ad.aB S)) (cU (ap L)) (apd a) (apd (↑n:Int)))) 9,ab (aJ S 2 0 3 4) 89,.abs d,ab (aq R) 3,ab (ak H) 114]⟩:aj)
abbrev Pz:=fun S R H d (n:Nat) L (z a:Int)=>(⟨[(0,ah 0 n),(1,aa n),(2,.func (.func 74) #[ao 1] #[]),(6,.int .i64 (apc .i64 (z*2)))],nr S R H d L⟩:aj)
theorem adp(S R H d)(n:Nat)(L)(z a:Int)(pH:(ak H).all af=true)(hn:(apb L)=n)(h0:apc .i64 (a+z)=a+z)(h1:apc .i64 (z*2)=z*2){Q:aQ}(n0:(decide (apc .i64 (a+z)<(↑n:Int)))=true→(iQ [ab (ap L) 9,ab (aJ S 2 0 3 4) 89,ag.abs d,ab (aq R) 3,ab (ak H) 114] n&&(apw n n&&(apw 74 74&&uw (aV (ad.aB S)) (cU (ap L)) n a (apc .i64 (a+z)) (↑n:Int) 1000000)))=true)(l3:(decide (apc .i64 (a+z)<(↑n:Int)))=true→Q .normal (Py S R H d n L z a))(l5:(decide (apc .i64 (a+z)<(↑n:Int)))=false→Q .normal (Pz S R H d n L z a)):an av9 63 5 (BR.drop 2) (Pv S R H d n L z a) Q:=
 aS BQ 1000 (.fork 0 (aA [3,1,1,1,1,1,1] (.leaf [0,1,2,6] [0,1,2,3,4] [0,3,4])) (.leaf [0,1,2,6] [0,1,2,3,4] [0,3,4])) (fun u=>by kernel_rfl) (mF (c:=decide (apc .i64 (a+z)<(↑n:Int))) (fun h0=>(aM L R H (mN (n0 h0) (mN (aZ (bV (aV (ad.aB S)) (cU (ap L)) (apd a) (apd (↑n:Int)))) (mN (aG R) (mN (aU H) (mN (aZ (bV (aV (ad.aB S)) (cU (ap L)) (apd a) (apd (↑n:Int)))) (mN (aG R) (mN (aU H) (mQ (an.done (by kernel_rfl) (l3 h0)))))))))))) (fun h0=>(aM L R H (mQ (an.done (by kernel_rfl) (l5 h0))))))
end
section
variable (S:ad) (R:List Int) (H:List au) (d:ay)
def uA(n z:Nat)(s:Nat×List ByteArray)(b:Nat):aj:=⟨[(0,fF n),(1,iZ n),(2,gg),(6,iZ z),(7,iZ s.1),(8,iZ (s.1+b))],cL S R H d s.2⟩
def yQ(n:Nat)(s:Nat×List ByteArray):aj:=⟨[(0,fF n),(1,iZ n),(2,gg),(6,iZ s.1)],cL S R H d s.2⟩
theorem adq(L:List ByteArray)(n:Nat)(hn:L.length=n)(hL:n≤1000000):
 aE av9 99 [fF n,iZ n,gg] (cL S R H d L) fun r o=>r=.ret (.tuple #[])∧o=cL S R H d (bE (aV S.aB) L):=by
 have pH:=aU H
 have fT:=wj S.aB
 have hO:∀M:List ByteArray,M.length=n→iQ [ag.cells (ap M) 9 false,ag.cells (aJ S 2 0 3 4) 89 false,ag.abs d,ag.cells (aq R) 3 false,ag.cells (ak H) 114 false] n=true:=fun M hM=>wl (S:=S) (R:=R) (H:=H) (d:=d) (L:=M) rfl hM hL
 refine aE.cT (n:=cn av9 99) (by kernel_rfl) ?_
 apply ac9 S R H d n L pH hn
 ·
  rw[show Pt S R H d n L=uA S R H d n 20 (0,L) 20 from rfl]
  refine an.eU 2 0 (by kernel_rfl) ?_
  refine an.fS (fun s=>uA S R H d n 20 s 20) (fun s=>n+20-s.1) (fun s=>s.1≤n∧qU (aV S.aB) L 20 s.1 s.2) (0,L) (by kernel_rfl) ⟨ap7 _,qU.start _ _ _⟩ ?_
  rintro⟨a,M⟩ ⟨ha,hF⟩
  dsimp only at ha hF
  have gi:M.length=n:=by rw[hF.perm.length_eq,hn]
  apply ade S R H d n M (20:Nat) a ((a+20:Nat):Int) pH gi
  case l3=>
   intro g
   have g:=of_decide_eq_true g
   apply adf S R H d n M (20:Nat) a ((a+20:Nat):Int) pH gi (by omega) (by omega) (by omega) (bI (by omega) (by omega))
   case n0=>
    rw[hO M gi]
    simp only[aqn,arJ,apt,decide_eq_true_eq]
    omega
   case l3=>
    refine QL.to (a+20,bV (aV S.aB) M a (a+20)) ⟨by dsimp only;omega,hF.step fT (by omega)⟩ (by dsimp only;omega) ?_
    unfold Pu uA
    rw[iP,bI (by omega) (by omega)]
    rfl
  case l4=>
   intro g
   have g:=of_decide_eq_false g
   with_reducible (repeat first|refine QL.ret ?_|refine QL.exit ?_|refine QB.ret ?_|refine QB.cp ?_|refine QB.normal ?_|refine QB.cy (by rfl) ?_)
   apply adg S R H d n M (20:Nat) a pH gi (by omega) (by omega)
   case n0=>
    rw[hO M gi]
    simp only[aqn,arJ,apt,decide_eq_true_eq]
    omega
   case l3=>
    obtain⟨hB,hP⟩:=hF.done fT (by omega) (by omega)
    rw[gi]at hB hP
    have e:HH S R H d n M (20:Nat) a=yQ S R H d n (20,bV (aV S.aB) M a n):=by
     unfold HH yQ;rw[iP];rfl
    rw[e,aqu]
    generalize bV (aV S.aB) M a n=M1 at hB hP
    refine an.eU 4 2 (by kernel_rfl) ?_
    refine an.fS (yQ S R H d n) (fun s=>n-s.1) (fun s=>20≤s.1∧s.1≤2000020∧iR (aV S.aB) s.1 s.2∧s.2.Perm L) (20,M1) (by kernel_rfl) ⟨apI _,by dsimp only;omega,hB,hP⟩ ?_
    clear hB hP e hF gi
    rintro⟨z,M⟩ ⟨hz,adr,hB,hP⟩
    dsimp only at hz adr hB hP
    have gi:M.length=n:=by rw[hP.length_eq,hn]
    apply adj S R H d n M z pH gi
    case l4=>
     intro g
     have g:=of_decide_eq_false g
     have e1:M=bE (aV S.aB) L:=hB.done fT hP (by omega)
     subst e1
     with_reducible (repeat first|refine QL.ret ?_|refine QL.exit ?_|refine QB.ret ?_|refine QB.cp ?_|refine QB.normal ?_|refine QB.cy (by rfl) ?_)
     refine an.done (by kernel_rfl) ?_
     exact aF.normal (vs:=[]) (l:=[]) (bs:=[0,1,2,3,4]) (pl:=[0,3,4]) (q:=[ap (bE (aV S.aB) L),aq R,ak H]) (fun u=>by kernel_rfl) (by kernel_rfl) (aC (by simp) (aC (by simp) (aC pH bc))) ⟨rfl,rfl⟩
    case l3=>
     intro g
     have g:=of_decide_eq_true g
     refine an.eU 2 3 (by kernel_rfl) ?_
     apply adk S R H d n M z pH gi (bI (by omega) (by omega))
     ·
      have e:HI S R H d n M z=uA S R H d n z (0,M) (2*z):=by
       unfold HI uA
       rw[bI (by omega) (by omega)]
       dsimp only
       rw[show(2*(z:Int))=((0+2*z:Nat):Int)by omega]
       rfl
      rw[e]
      refine an.eU 1 4 (by kernel_rfl) ?_
      refine an.fS (fun s=>uA S R H d n z s (2*z)) (fun s=>n+2*z-s.1) (fun s=>s.1≤n∧ma (aV S.aB) L z s.1 s.2) (0,M) (by kernel_rfl) ⟨ap7 _,ma.start hB hP⟩ ?_
      rintro⟨a,K⟩ ⟨ha,hK⟩
      dsimp only at ha hK
      have uB:K.length=n:=by rw[hK.perm.length_eq,hn]
      apply adn S R H d n K z a ((a+2*z:Nat):Int) pH uB
      case l3=>
       intro g3
       have g3:=of_decide_eq_true g3
       obtain⟨s1,s2⟩:=hK.pre (by omega) (by omega)
       have HJ:(a:Int)+(z:Int)=((a+z:Nat):Int):=by omega
       apply ado S R H d n K z a ((a+2*z:Nat):Int) pH uB (bI (by omega) (by omega)) (bI (by omega) (by omega)) (bI (by omega) (by omega))
       case n0=>
        rw[hO K uB,iP,bI (by omega) (by omega),HJ,yK.2 ⟨by omega,by omega,by omega,by omega,by omega,s1,s2⟩]
        simp only[aqn,aq7]
       case l3=>
        refine QL.to (a+2*z,bV (aV S.aB) K a (a+2*z)) ⟨by dsimp only;omega,hK.step fT (by omega) (by omega)⟩ (by dsimp only;omega) ?_
        unfold Px uA
        rw[iP,bI (z:=2*(z:Int)) (by omega) (by omega),bI (by omega) (by omega)]
        dsimp only
        rw[show(((a+2*z:Nat):Int)+2*(z:Int))=((a+2*z+2*z:Nat):Int)by omega]
        rfl
      case l4=>
       intro g3
       have g3:=of_decide_eq_false g3
       have HJ:(a:Int)+(z:Int)=((a+z:Nat):Int):=by omega
       have PA:(.int .i64 (apc apr ((z:Int)*2)):ape)=iZ (2*z):=by rw[bI (by omega) (by omega),show((z:Int)*2)=((2*z:Nat):Int)by omega];rfl
       with_reducible (repeat first|refine QL.ret ?_|refine QL.exit ?_|refine QB.ret ?_|refine QB.cp ?_|refine QB.normal ?_|refine QB.cy (by rfl) ?_)
       apply adp S R H d n K z a pH uB (bI (by omega) (by omega)) (bI (by omega) (by omega))
       case n0=>
        intro g4
        rw[bI (by omega) (by omega),HJ]at g4⊢
        have g4:=of_decide_eq_true g4
        obtain⟨s1,s2⟩:=hK.ac3 (by omega) (by omega)
        rw[uB]at s2
        rw[hO K uB,iP,yK.2 ⟨by omega,by omega,by omega,by omega,by omega,s1,s2⟩]
        simp only[aqn,aq7]
       case l3=>
        intro g4
        obtain⟨b1,b2⟩:=hK.ac4 fT (by omega) (by omega)
        rw[uB]at b1 b2
        with_reducible (repeat first|refine QL.ret ?_|refine QL.exit ?_|refine QB.ret ?_|refine QB.cp ?_|refine QB.normal ?_|refine QB.cy (by rfl) ?_)
        refine an.done (by kernel_rfl) ?_
        refine QL.to (2*z,bV (aV S.aB) K a n) ⟨by dsimp only;omega,by dsimp only;omega,b1,b2⟩ (by dsimp only;omega) ?_
        unfold Py yQ
        rw[iP,PA]
        rfl
       case l5=>
        intro g4
        rw[bI (by omega) (by omega)]at g4
        have g4:=of_decide_eq_false g4
        obtain⟨b1,b2⟩:=hK.ac5 (by omega)
        with_reducible (repeat first|refine QL.ret ?_|refine QL.exit ?_|refine QB.ret ?_|refine QB.cp ?_|refine QB.normal ?_|refine QB.cy (by rfl) ?_)
        refine an.done (by kernel_rfl) ?_
        refine QL.to (2*z,K) ⟨by dsimp only;omega,by dsimp only;omega,b1,b2⟩ (by dsimp only;omega) ?_
        unfold Pz yQ
        rw[PA]
        rfl
end
end Go.Proofs.YtnlkkgpcikkpoaaGreat
namespace Go.Proofs.YtnlkkgpcikkpoaaGreat
open Go Vm Go.RowKit
noncomputable def HK(a:List ape)(o:List ag):Option (Bool×bx×List ag):=match a,o with
 | [.slice (some ⟨0,0,none⟩) n m,.int .i64 x,.func (.func f) c1 c2],ag.cells c t r::ag.cells e t2 r2::l=>match c1.toList,c2.toList with
  | [.pointer (some ⟨1,0,none⟩)],[]=>match(e[70]?:Option ape)with
   |some (.bool fl)=>some (iQ (.cells c t r:: .cells e t2 r2::l) n&&(apw m n&&(apw f 74&&decide (x=n))),.ret (.tuple #[]),.cells (ap (bE (aV fl) (cU c))) t r:: .cells e t2 r2::l)
   |_=>none
  |_,_=>none
 |_,_=>none
theorem ads:bp av9 99 (Sum.dq av9 HK):=bp.dq fun a o r o' hg=>by
 unfold HK at hg
 split at hg
 ·rename_i n m x f c1 c2 c t ro e t2 r2 l
  split at hg
  ·rename_i h1 h2
   split at hg
   ·rename_i fl fP
    simp only[api,apn,apt,decide_eq_true_eq]at hg
    obtain⟨⟨g1,g2,g3,p1⟩,rfl,rfl⟩:=hg
    have g2:=apz g2
    have g3:=apz g3
    obtain⟨S,R,H,d,L,he,hl,hn⟩:=@of_decide_eq_true _ (apF _) g1
    have e1:c1= #[.pointer (some ⟨1,0,none⟩)]:=by rw[←aqq (xs:=c1),h1]
    have e2:c2= #[]:=by rw[←aqq (xs:=c2),h2]
    subst g2 g3 e1 e2 p1
    unfold cL at he
    injection he with oZ dY
    injection dY with dY qT
    injection oZ with hc ht hr
    injection dY with iU mC eO
    subst hc ht hr iU mC eO qT
    have:(aJ S 2 0 3 4)[70]?=some (.bool S.aB):=rfl
    rw[this]at fP
    cases fP
    refine(adq S R H d L _ hl hn).mono ?_
    rintro r o ⟨rfl,rfl⟩
    exact⟨rfl,by rw[iP];rfl⟩
   ·cases hg
  ·cases hg
 ·cases hg
noncomputable def adt:List (apQ×Sum):=[(99,Sum.dq av9 HK)]
theorem adu:dw av9 (dM av9 (dN adt) 50 40):=dR du mixed (ed (.cons ads .nil)) 50 40
noncomputable section
noncomputable def adv:List apV:=aY (dz av9 73)
open Tree renaming aN→mN,dj→mF,eT→mL,fz→mQ,dB→mR,fH→mE
abbrev HL:=fun S R H d (n:Nat) L=>(⟨[],[ab (ap (bE (aV (ad.aB S)) (cU (ap L)))) 9,ab (aJ S 2 0 3 4) 89,.abs d,ab (aq R) 3,ab (ak H) 114]⟩:aj)
abbrev adw:=fun S R H d (n:Nat) L=>(⟨[(0,ah 0 n),(1,.func (.func 74) #[ao 1] #[])],[ab (ap L) 9,ab (aJ S 2 0 3 4) 89,.abs d,ab (aq R) 3,ab (ak H) 114]⟩:aj)
theorem adx(S R H d)(n:Nat)(L)(pH:(ak H).all af=true)(hn:(apb L)=n){Q:aQ}(n0:(iQ [ab (ap L) 9,ab (aJ S 2 0 3 4) 89,ag.abs d,ab (aq R) 3,ab (ak H) 114] n&&(apw n n&&(apw 74 74&&decide ((↑n:Int)=(↑n:Int)))))=true)(l3:Q .normal (HL S R H d n L)):an av9 9 5 adv (adw S R H d n L) Q:=
 aS adu 1000 (aA [5,1,1,1,1,1,1] (.leaf [] [0,1,2,3,4] [0,3,4])) (fun u=>by kernel_rfl) (aM L R H (mN n0 (mN (aZ (bE (aV (ad.aB S)) (cU (ap L)))) (mN (aG R) (mN (aU H) (mN (aZ (bE (aV (ad.aB S)) (cU (ap L)))) (mN (aG R) (mN (aU H) (mQ (an.done (by kernel_rfl) l3))))))))))
end
theorem ady(S:ad)(R:List Int)(H:List au)(d:ay)(L:List ByteArray)(n:Nat)(hn:L.length=n)(hL:n≤1000000):
 aE av9 73 [fF n,gg] (cL S R H d L) fun r o=>r=.ret (.tuple #[])∧o=cL S R H d (bE (aV S.aB) L):=by
 have pH:=aU H
 have hO:∀M:List ByteArray,M.length=n→iQ [ag.cells (ap M) 9 false,ag.cells (aJ S 2 0 3 4) 89 false,ag.abs d,ag.cells (aq R) 3 false,ag.cells (ak H) 114 false] n=true:=fun M hM=>wl (S:=S) (R:=R) (H:=H) (d:=d) (L:=M) rfl hM hL
 refine aE.cT (n:=cn av9 73) (by kernel_rfl) ?_
 apply adx S R H d n L pH hn
 case n0=>
  rw[hO L hn]
  simp only[aqn,arJ,decide_eq_true_eq]
 case l3=>
  have e:HL S R H d n L=⟨[],cL S R H d (bE (aV S.aB) L)⟩:=by unfold HL;rw[iP];rfl
  rw[e]
  exact aF.normal (vs:=[]) (l:=[]) (bs:=[0,1,2,3,4]) (pl:=[0,3,4]) (q:=[ap (bE (aV S.aB) L),aq R,ak H]) (fun u=>by kernel_rfl) (by kernel_rfl) (aC (by simp) (aC (by simp) (aC pH bc))) ⟨rfl,rfl⟩
noncomputable def BT(a:List ape)(o:List ag):Option (Bool×bx×List ag):=match a,o with
 | [.slice (some ⟨0,0,none⟩) n m,.func (.func f) c1 c2],ag.cells c t r::ag.cells e t2 r2::l=>match c1.toList,c2.toList with
  | [.pointer (some ⟨1,0,none⟩)],[]=>match(e[70]?:Option ape)with
   |some (.bool fl)=>some (iQ (.cells c t r:: .cells e t2 r2::l) n&&(apw m n&&apw f 74),.ret (.tuple #[]),.cells (ap (bE (aV fl) (cU c))) t r:: .cells e t2 r2::l)
   |_=>none
  |_,_=>none
 |_,_=>none
theorem PB:bp av9 73 (Sum.dq av9 BT):=bp.dq fun a o r o' hg=>by
 unfold BT at hg
 split at hg
 ·rename_i n m f c1 c2 c t ro e t2 r2 l
  split at hg
  ·rename_i h1 h2
   split at hg
   ·rename_i fl fP
    simp only[api,apn,apt,decide_eq_true_eq]at hg
    obtain⟨⟨g1,g2,g3⟩,rfl,rfl⟩:=hg
    have g2:=apz g2
    have g3:=apz g3
    obtain⟨S,R,H,d,L,he,hl,hn⟩:=@of_decide_eq_true _ (apF _) g1
    have e1:c1= #[.pointer (some ⟨1,0,none⟩)]:=by rw[←aqq (xs:=c1),h1]
    have e2:c2= #[]:=by rw[←aqq (xs:=c2),h2]
    subst g2 g3 e1 e2
    unfold cL at he
    injection he with oZ dY
    injection dY with dY qT
    injection oZ with hc ht hr
    injection dY with iU mC eO
    subst hc ht hr iU mC eO qT
    have:(aJ S 2 0 3 4)[70]?=some (.bool S.aB):=rfl
    rw[this]at fP
    cases fP
    refine(ady S R H d L _ hl hn).mono ?_
    rintro r o ⟨rfl,rfl⟩
    exact⟨rfl,by rw[iP];rfl⟩
   ·cases hg
  ·cases hg
 ·cases hg
def bh(c:List ape):ByteArray:=⟨(c.map fun v=>match v with| .int _ x=>auf x|_=>0).toArray⟩
@[simp] theorem jl(b:ByteArray):bh (ai b)=b:=by
 unfold bh ai
 rw[arT]
 have:b.data.toList.map ((fun v:ape=>match v with| .int _ x=>auf x|_=>0)∘fun x=>apm .u8 x.toNat)=b.data.toList:=by
  conv=>rhs;rw[←List.map_id b.data.toList]
  refine arc fun x _=>?_
  show auf ((x.toNat:Nat):Int)=x
  unfold auf
  have h:=x.toNat_lt
  apply UInt8.toNat_inj.1
  simp
  omega
 rw[this]
noncomputable def BU(a:List ape)(o:List ag):Option (Bool×bx×List ag):=match a,o with
 | [.pointer (some ⟨0,0,none⟩)],[.abs d]=>some (nQ d,.ret (.tuple #[.int .i64 (bu d).1,.int .i64 (bu d).2.1]),[.abs (bu d).2.2])
 |_,_=>none
theorem PC:bp av9 97 (Sum.dq av9 BU):=bp.dq fun a o r o' hg=>by
 unfold BU at hg
 split at hg
 ·rename_i d
  simp only[api,apn]at hg
  obtain⟨h1,rfl,rfl⟩:=hg
  exact aav d (pT.1 h1)
 ·cases hg
noncomputable def HM(a:List ape)(o:List ag):Option (Bool×bx×List ag):=match a,o with
 | [.pointer (some ⟨0,0,none⟩),.int .i64 no],[.abs d]=>some (nQ d,.ret (.int .i64 (eY d no).1),[.abs (eY d no).2])
 |_,_=>none
theorem adz:bp av9 43 (Sum.dq av9 HM):=bp.dq fun a o r o' hg=>by
 unfold HM at hg
 split at hg
 ·rename_i no d
  simp only[api,apn]at hg
  obtain⟨h1,rfl,rfl⟩:=hg
  exact aay d (pT.1 h1) no
 ·cases hg
noncomputable def yR(a:List ape)(o:List ag):Option (Bool×bx×List ag):=match a,o with
 | [.pointer (some ⟨0,0,none⟩)],[.abs d]=>some (true,.ret (.int .i64 d.raw),[.abs d])
 |_,_=>none
theorem HN:bp av9 71 (Sum.dq av9 yR):=bp.dq fun a o r o' hg=>by
 unfold yR at hg
 split at hg
 ·rename_i d
  simp only[api,apn,true_and]at hg
  obtain⟨rfl,rfl⟩:=hg
  exact aaz d
 ·cases hg
noncomputable def HO(a:List ape)(o:List ag):Option (Bool×bx×List ag):=match a,o with
 | [.pointer (some ⟨0,0,none⟩)],[.abs d]=>some (true,.ret (.int .i64 d.calls),[.abs d])
 |_,_=>none
theorem adA:bp av9 20 (Sum.dq av9 HO):=bp.dq fun a o r o' hg=>by
 unfold HO at hg
 split at hg
 ·rename_i d
  simp only[api,apn,true_and]at hg
  obtain⟨rfl,rfl⟩:=hg
  exact aaA d
 ·cases hg
def PD(d:ay)(no:Int)(c:List ape)(t:apq)(ro:Bool)(n m:Nat):Prop:=cj d∧∃b,c=ai b∧n=b.size∧m=b.size∧t=5∧ro=false∧∀f,fileOf d.files no=some f→f.size+b.size≤1000000
noncomputable def yS(d:ay)(no:Int)(c:List ape)(t:apq)(ro:Bool)(n m:Nat):Bool:=@decide (PD d no c t ro n m) (apF _)
theorem HP{d:ay}{no:Int}{c:List ape}{t:apq}{ro:Bool}{n m:Nat}:yS d no c t ro n m=true↔PD d no c t ro n m:=by
 unfold yS;exact @decide_eq_true_iff _ (apF _)
noncomputable def BV(a:List ape)(o:List ag):Option (Bool×bx×List ag):=match a,o with
 | [.pointer (some ⟨0,0,none⟩),.int .i64 no,.slice (some ⟨1,0,none⟩) n m],[.abs d,.cells c t ro]=>some (yS d no c t ro n m,.ret (.int .i64 (bO d no (bh c)).1),[.abs (bO d no (bh c)).2,.cells c t ro])
 |_,_=>none
theorem PE:bp av9 98 (Sum.dq av9 BV):=bp.dq fun a o r o' hg=>by
 unfold BV at hg
 split at hg
 ·rename_i no n m d c t ro
  simp only[api,apn,HP]at hg
  obtain⟨⟨h1,b,rfl,rfl,rfl,rfl,rfl,h2⟩,rfl,rfl⟩:=hg
  rw[jl]
  exact aaD d h1 no b h2
 ·cases hg
noncomputable def HQ:Sum:=⟨lP av9,fun a o=>match a,o with
 | [.pointer (some ⟨0,0,none⟩),.int .i64 no,.int .i64 p,.int .i64 k],[.abs d]=>.rS (nQ d) (.ask ((aK d no p k).2.1==0) fun b=>match b with
  |true=>.done (.ret (.tuple #[.slice (some ⟨1,0,none⟩) (aK d no p k).1.size (aK d no p k).1.size,.int .i64 0]),[.abs (aK d no p k).2.2,.cells (ai (aK d no p k).1) 5 false])
  |false=>.done (.ret (.tuple #[.slice none 0 0,.int .i64 (aK d no p k).2.1]),[.abs (aK d no p k).2.2]))
 |_,_=>.fail⟩
theorem adB:bp av9 79 HQ:=by
 intro a o r o' hg
 unfold HQ at hg
 dsimp only at hg
 split at hg
 ·rename_i no p k d
  obtain⟨h1,hg⟩:=QT.tT hg
  have hg:(match((aK d no p k).2.1==0)with|true=>_|false=>_:QT (bx×List ag)).run=some (r,o'):=hg
  refine(aaG d (pT.1 h1) no p k).mono fun r1 o1 h=>?_
  obtain⟨rfl,rfl⟩:=h
  unfold yA
  cases hk:((aK d no p k).2.1==0)with
  |true=>
   rw[hk]at hg
   cases hg
   rw[if_pos (by simpa using hk)]
   exact⟨rfl,rfl⟩
  |false=>
   rw[hk]at hg
   cases hg
   rw[if_neg (by simpa using hk)]
   exact⟨rfl,rfl⟩
 ·cases hg
def ad.z(S:ad):ad:={S with ro:=0}
def HR(S:ad)(a:Nat)(rv tv hv:ape):List ape:=[.int .i64 S.at_,.bool S.more,.bool S.bq]++yC S.B++[.int .i64 S.n,.bool S.failed,.pointer (some ⟨a,0,none⟩),.bool S.aB,rv,.int .i64 S.bH,tv,hv,.bool S.ee,.int .i64 S.raw,.bool S.closed]
def jm(S:ad)(L:List ByteArray)(R:List Int)(H:List au)(d:ay):List ag:=[.cells (aJ S 1 5 6 7) 89 false,.abs d,.dead,.dead,.dead,.cells (ap L) 9 false,.cells (aq R) 3 false,.cells (ak H) 114 false]
noncomputable def adC:List (apQ×Sum):=[(73,Sum.dq av9 BT),(97,Sum.dq av9 BU),(98,Sum.dq av9 BV)]
theorem PF:dw av9 (dM av9 (dN adC) 50 40):=dR du mixed (ed (.cons PB (.cons PC (.cons PE .nil)))) 50 40
noncomputable section
noncomputable def sy:List apV:=aY (dz av9 70)
open Tree renaming aN→mN,dj→mF,eT→mL,fz→mQ,dB→mR,fH→mE
noncomputable abbrev HS:List apV:=(aY (inner (aY (inner (sy.drop 7)))))
abbrev PG:=fun S R H d L=>(⟨[(2,aa (apo (ap6 (bu d))))],[ab (aJ (ad.z S) 1 5 6 7) 89,.abs (ap6 (ap6 (bu d))),.dead,.dead,.dead,ab (ap (bE (aV (ad.aB S)) (cU (ap L)))) 9,ab (aq R) 3,ab (ak H) 114]⟩:aj)
theorem adD(S R H d L){Q:bg}(aR:aph (aq R) af=true)(be:aph (ak H) af=true)(hq:Q (.ret (aa (apo (ap6 (bu d))))) [ab (aJ (ad.z S) 1 5 6 7) 89,.abs (ap6 (ap6 (bu d))),.dead,.dead,.dead,ab (ap (bE (aV (ad.aB S)) (cU (ap L)))) 9,ab (aq R) 3,ab (ak H) 114]):aF av9 70 64 5 Q .ret (PG S R H d L):=aF.ret (vs:=[aa (apo (ap6 (bu d)))]) (l:=[]) (bs:=[0,1,2,3,4,5,6,7]) (pl:=[5,6,7]) (q:=[ap (bE (aV (ad.aB S)) (cU (ap L))),aq R,ak H]) (fun u=>by kernel_rfl) (by kernel_rfl) (aC (by simp) (aC aR (aC be bc))) hq
abbrev PH:=fun S R H d L=>(⟨[(0,ao 0),(3,aa (apo (bu d)))],[ab (aJ (ad.z S) 1 5 6 7) 89,.abs (ap6 (ap6 (bu d))),.dead,.dead,.dead,ab (ap (bE (aV (ad.aB S)) (cU (ap L)))) 9,ab (aq R) 3,ab (ak H) 114]⟩:aj)
abbrev BW:=fun(S:ad) R H d L=>([ab (aJ S.z 1 5 6 7) 89,.abs d,.dead,.dead,.dead,ab (ap L) 9,ab (aq R) 3,ab (ak H) 114]:List ag)
abbrev PI:=fun S R H d L=>(⟨[(0,ao 0)],BW S R H d L⟩:aj)
theorem adE(S:ad)(R H d L)(pH:(ak H).all af=true)(hL:(apb L)=S.rn)(hR:(apb R)=S.sn){Q:aQ}(n0:(iQ [ab (ap L) 9,ab (aJ (ad.z S) 2 0 3 4) 89,ag.abs d,ab (aq R) 3,ab (ak H) 114] (ad.rn S)&&(apw (ad.rn S) (ad.rn S)&&apw 74 74))=true)(n1:(nQ d)=true)(l4:(apo (ap6 (bu d)) != 0)=true→Q .ret (PG S R H d L))(l5:(apo (ap6 (bu d)) != 0)=false→an av9 64 5 (sy.drop 5) (PH S R H d L) Q):an av9 64 5 sy (PI S R H d L) Q:=
 aS PF 5 (aA [5,1,1,1,1,1,1,5] (.fork 0 (.leaf [2] [0,1,2,3,4,5,6,7] [5,6,7]) (.leaf [0,3] [0,1,2,3,4,5,6,7] [5,6,7]))) (fun u=>by kernel_rfl) (aM L R H (mN n0 (mN (aZ (bE (aV (ad.aB S)) (cU (ap L)))) (mN (aG R) (mN (aU H) (mN n1 (mF (c:=apo (ap6 (bu d)) != 0) (fun h0=>(mN (aZ (bE (aV (ad.aB S)) (cU (ap L)))) (mN (aG R) (mN (aU H) (mR (l4 h0)))))) (fun h0=>(mN (aZ (bE (aV (ad.aB S)) (cU (ap L)))) (mN (aG R) (mN (aU H) (mQ (l5 h0)))))))))))))
abbrev HT:=fun S R H d L (no:Int)=>(⟨[(0,ao 0),(3,aa no),(39,ah 5 (ad.rn S)),(40,aa (ad.rn S)),(41,aa 0)],[ab (aJ (ad.mk (ad.at_ S) (ad.more S) (ad.bq S) (ad.B (ad.z S)) (ad.n S) (ad.failed S) (ad.aB S) 0 (ad.rn S) (ad.bH S) (ad.sn S+1) (ad.hn S) (ad.ee S) (ad.raw S) (ad.closed S)) 1 5 6 7) 89,.abs d,.dead,.dead,.dead,ab (ap L) 9,ab (aq R++[aa no]) 3,ab (ak H) 114]⟩:aj)
abbrev adF:=fun S R H d L (no:Int)=>(⟨[(0,ao 0),(3,aa no)],BW S R H d L⟩:aj)
theorem adG(S:ad)(R H d L)(no:Int)(pH:(ak H).all af=true)(hL:(apb L)=S.rn)(hR:(apb R)=S.sn){Q:aQ}(n0:(apG (ad.sn S+1) 1000000)=true)(aR:aph (ap L) af=true)(be:aph (ak H) af=true)(l3:an av9 64 5 ((sy.drop 5).drop 2) (HT S R H d L no) Q):an av9 64 5 (sy.drop 5) (adF S R H d L no) Q:=
 aS bo 2 (aA [2,3,5,1] (.leaf [0,3,39,40,41] [0,1,2,3,4,5,9,7] [5,9,7])) (fun u=>by kernel_rfl) (mN n0 (mN (ln _:(full (ad.sn S) (ad.sn S))=true) (mN (show(apw (0+ad.sn S*1) (apb (aq R)))=true by simp at pH hL hR⊢ <;>omega) (mN (aZ L) (mN (show(aph (aq R++[aa no]) af)=true by simp) (mN (aU H) (mQ l3)))))))
abbrev BX:=fun S R H d L=>([ab (aJ (ad.z S) 1 5 6 7) 89,.abs d,.dead,.dead,.dead,ab (ap L) 9,ab (aq R) 3,ab (ak H) 114]:List ag)
abbrev adH:=fun S R H d L (no i:Int)=>(⟨[(0,ao 0),(3,aa no),(39,ah 5 (ad.rn S)),(40,aa (ad.rn S)),(41,aa i)],BX S R H d L⟩:aj)
abbrev adI:=fun S R H d L (no i:Int)=>(⟨[(0,ao 0)],BX S R H d L⟩:aj)
abbrev PJ:=fun(S:ad) R H d L (no i:Int)=>(⟨[(0,ao 0),(3,aa no),(39,ah 5 S.rn),(40,aa S.rn),(41,aa i)],BW S R H d L⟩:aj)
theorem adJ(S:ad)(R H d L)(no i:Int)(pH:(ak H).all af=true)(hL:(apb L)=S.rn)(hR:(apb R)=S.sn){Q:aQ}(l3:(decide (i<(↑(ad.rn S):Int)))=true→an av9 64 5 (HS.drop 2) (adH S R H d L no i) Q)(l4:(decide (i<(↑(ad.rn S):Int)))=false→Q (.exit 0) (adI S R H d L no i)):an av9 64 5 HS (PJ S R H d L no i) Q:=
 aS bo 2 (.fork 0 (.leaf [0,3,39,40,41] [0,1,2,3,4,5,6,7] [5,6,7]) (.leaf [0] [0,1,2,3,4,5,6,7] [5,6,7])) (fun u=>by kernel_rfl) (mF (c:=decide (i<(↑(ad.rn S):Int))) (fun h0=>(aM L R H (mQ (l3 h0)))) (fun h0=>(aM L R H (mE 0 (l4 h0)))))
abbrev PK:=fun S R H d L (no i:Int)=>(⟨[(2,aa (apo (bO d no (bh (apS (fun b=>apm apA (↑(apT b):Int)) (apE (apk (aX (ap L) (0+apd i*1))) (apO (apH (aX (ap L) (0+apd i*1)))))++[apm apA 10])))))],[ab (aJ (ad.z S) 1 5 6 7) 89,.abs (ap6 (bO d no (bh (apS (fun b=>apm apA (↑(apT b):Int)) (apE (apk (aX (ap L) (0+apd i*1))) (apO (apH (aX (ap L) (0+apd i*1)))))++[apm apA 10])))),.dead,.dead,.dead,ab (ap L) 9,ab (aq R) 3,ab (ak H) 114]⟩:aj)
theorem adK(S R H d L)(no i:Int){Q:bg}(hq:Q (.ret (aa (apo (bO d no (bh (apS (fun b=>apm apA (↑(apT b):Int)) (apE (apk (aX (ap L) (0+apd i*1))) (apO (apH (aX (ap L) (0+apd i*1)))))++[apm apA 10])))))) [ab (aJ (ad.z S) 1 5 6 7) 89,.abs (ap6 (bO d no (bh (apS (fun b=>apm apA (↑(apT b):Int)) (apE (apk (aX (ap L) (0+apd i*1))) (apO (apH (aX (ap L) (0+apd i*1)))))++[apm apA 10])))),.dead,.dead,.dead,ab (ap L) 9,ab (aq R) 3,ab (ak H) 114]):aF av9 70 64 5 Q .ret (PK S R H d L no i):=aF.ret (vs:=[aa (apo (bO d no (bh (apS (fun b=>apm apA (↑(apT b):Int)) (apE (apk (aX (ap L) (0+apd i*1))) (apO (apH (aX (ap L) (0+apd i*1)))))++[apm apA 10]))))]) (l:=[]) (bs:=[0,1,2,3,4,5,6,7]) (pl:=[5,6,7]) (q:=[ap L,aq R,ak H]) (fun u=>by kernel_rfl) (by kernel_rfl) (gL L R H bc) hq
abbrev PL:=fun S R H d L (no i:Int)=>(⟨[(0,ao 0),(3,aa no),(39,ah 5 (ad.rn S)),(40,aa (ad.rn S)),(41,.int .i64 (apc .i64 (i+1)))],[ab (aJ (ad.z S) 1 5 6 7) 89,.abs (ap6 (bO d no (bh (apS (fun b=>apm apA (↑(apT b):Int)) (apE (apk (aX (ap L) (0+apd i*1))) (apO (apH (aX (ap L) (0+apd i*1)))))++[apm apA 10])))),.dead,.dead,.dead,ab (ap L) 9,ab (aq R) 3,ab (ak H) 114]⟩:aj)
theorem adL(S:ad)(R H d L)(no i:Int)(pH:(ak H).all af=true)(hL:(apb L)=S.rn)(hR:(apb R)=S.sn)(h0:0≤i)(h1:i<S.rn)(h2:S.rn≤1000000)(h3:apc .i64 (i+1)=i+1){Q:aQ}(n0:(eS (ap L) (0+apd i*1))=true)(n1:(apG (0+apk (aX (ap L) (0+apd i*1))) 1000000)=true)(n2:(aph (apS (fun b=>apm apA (↑(apT b):Int)) (apE (apk (aX (ap L) (0+apd i*1))) (apO (apH (aX (ap L) (0+apd i*1)))))) Value.oneCell')=true)(n3:(apG (apk (aX (ap L) (0+apd i*1))+1) 1000000)=true)(n4:(aph (apS (fun b=>apm apA (↑(apT b):Int)) (apE (apk (aX (ap L) (0+apd i*1))) (apO (apH (aX (ap L) (0+apd i*1)))))++[apm apA 10]) af)=true)(n5:(yS d no (apS (fun b=>apm apA (↑(apT b):Int)) (apE (apk (aX (ap L) (0+apd i*1))) (apO (apH (aX (ap L) (0+apd i*1)))))++[apm apA 10]) 5 false (apk (aX (ap L) (0+apd i*1))+1) (apk (aX (ap L) (0+apd i*1))+1))=true)(l9:(apo (bO d no (bh (apS (fun b=>apm apA (↑(apT b):Int)) (apE (apk (aX (ap L) (0+apd i*1))) (apO (apH (aX (ap L) (0+apd i*1)))))++[apm apA 10]))) != 0)=true→Q .ret (PK S R H d L no i))(j4:(apo (bO d no (bh (apS (fun b=>apm apA (↑(apT b):Int)) (apE (apk (aX (ap L) (0+apd i*1))) (apO (apH (aX (ap L) (0+apd i*1)))))++[apm apA 10]))) != 0)=false→Q .normal (PL S R H d L no i)):an av9 64 5 (HS.drop 2) (PJ S R H d L no i) Q:=
 aS PF 1000 (aA [0,1,1,0,1,12,1,1,1,2,3,5,1,5,1,1] (.fork 0 (.leaf [2] [0,1,2,3,4,5,6,7] [5,6,7]) (.leaf [0,3,39,40,41] [0,1,2,3,4,5,6,7] [5,6,7]))) (fun u=>by kernel_rfl) (mN (decide_eq_true (by omega):(decide (0≤i))=true) (mN (show(Nat.blt (apd i) (ad.rn S))=true by simp at pH hL hR h0 h1 h2 h3⊢ <;>omega) (mN n0 (mN n1 (mN n2 (mN (show(apw (apb (apS (fun b=>apm apA (↑(apT b):Int)) (apE (apk (aX (ap L) (0+apd i*1))) (apO (apH (aX (ap L) (0+apd i*1))))))) (apk (aX (ap L) (0+apd i*1))*1))=true by simp) (mN n3 (mN (ln _:(full (apk (aX (ap L) (0+apd i*1))) (apk (aX (ap L) (0+apd i*1))))=true) (mN (show(apw (0+apk (aX (ap L) (0+apd i*1))*1) (apb (apS (fun b=>apm apA (↑(apT b):Int)) (apE (apk (aX (ap L) (0+apd i*1))) (apO (apH (aX (ap L) (0+apd i*1))))))))=true by simp) (mN n4 (mN n5 (mN n4 (mF (c:=apo (bO d no (bh (apS (fun b=>apm apA (↑(apT b):Int)) (apE (apk (aX (ap L) (0+apd i*1))) (apO (apH (aX (ap L) (0+apd i*1)))))++[apm apA 10]))) != 0) (fun h0=>(aM L R H (mR (l9 h0)))) (fun h0=>(aM L R H (mQ (an.done (by kernel_rfl) (j4 h0))))))))))))))))))
abbrev PM:=fun S R H d (L:List ByteArray)=>(⟨[(2,aa 0)],[ab (HR (ad.mk (ad.at_ S) (ad.more S) (ad.bq S) (ad.B (ad.z S)) (ad.n S) (ad.failed S) (ad.aB S) (ad.ro S) (ad.rn S) 0 (ad.sn S) (ad.hn S) (ad.ee S) (ad.raw S) (ad.closed S)) 1 (b8) (ah 5 (ad.sn S)) (ah 6 (ad.hn S))) 89,.abs d,.dead,.dead,.dead,ab (aq R) 3,ab (ak H) 114]⟩:aj)
theorem adM(S:ad)(R H d L)(pH:(ak H).all af=true)(hL:(apb L)=S.rn)(hR:(apb R)=S.sn){Q:aQ}(l2:an av9 64 5 ((sy.drop 8).drop 2) (PM S R H d L) Q):an av9 64 5 (sy.drop 8) (PI S R H d L) Q:=
 aS bo 2 (.leaf [2] [0,1,2,3,4,6,7] [6,7]) (fun u=>by kernel_rfl) (mN (aG R) (mN (aU H) (mQ l2)))
abbrev PN:=fun S R H d L (e:Int)=>(⟨[(2,aa e)],BX S R H d L⟩:aj)
theorem adN(S R H d L)(e:Int){Q:bg}(hq:Q (.ret (aa e)) (BX S R H d L)):aF av9 70 64 5 Q .ret (PN S R H d L e):=aF.ret (vs:=[aa e]) (l:=[]) (bs:=[0,1,2,3,4,5,6,7]) (pl:=[5,6,7]) (q:=[ap L,aq R,ak H]) (fun u=>by kernel_rfl) (by kernel_rfl) (gL L R H bc) hq
abbrev adO:=fun S R H d L (e:Int)=>(⟨[(2,aa e)],BW S R H d L⟩:aj)
theorem adP(S:ad)(R H d L)(e:Int)(pH:(ak H).all af=true)(hL:(apb L)=S.rn)(hR:(apb R)=S.sn){Q:aQ}(l3:Q .ret (PN S R H d L e)):an av9 64 5 (sy.drop 10) (adO S R H d L e) Q:=
 aS bo 1000 (.leaf [2] [0,1,2,3,4,5,6,7] [5,6,7]) (fun u=>by kernel_rfl) (aM L R H (mR l3))
end
theorem BZ(x:Int):apc .i64 (apc .i64 x)=apc .i64 x:=by
 simp only[IntKind.wrap_i64]
 omega
theorem cj.yT{d:ay}(h:cj d):cj (gT d):=⟨h.bQ,h.made,h.keys,h.fX,h.size,BZ _⟩
theorem cj.uC{d:ay}(h:cj d):cj (bu d).2.2:=by
 unfold bu
 split
 ·exact h
 split
 ·exact h.yT
 ·rename_i h1 _
  have hm:=h.made
  refine⟨h.bQ,by show d.made+1≤64;omega,fun p hp=>?_,?_,fun p hp=>?_,BZ _⟩
  ·rcases apN.1 hp with hp|hp
   ·have:=h.keys p hp;show p.1≤d.made+1;omega
   ·rw[aqd.1 hp];exact apI _
  ·show((d.files++[(d.made+1,apj)]).map (·.1)).Nodup
   rw[aqa]
   refine List.nodup_append.2 ⟨h.fX,by simp,fun a ha b hb=>?_⟩
   obtain⟨p,hp,rfl⟩:=aq0.1 ha
   have:=h.keys p hp
   simp at hb
   omega
  ·rcases apN.1 hp with hp|hp
   ·exact h.size p hp
   ·rw[aqd.1 hp];exact ap7 _
theorem B0{d:ay}(h:cj d)(he:(bu d).2.1=0):fileOf (bu d).2.2.files (bu d).1=some apj:=by
 unfold bu at he⊢
 split at he
 ·cases he
 ·rename_i h1
  rw[if_neg h1]
  split at he
  ·rename_i h2;exact absurd he h2
  ·rename_i h2
   rw[if_neg h2]
   unfold fileOf
   show Option.map _ (aus _ (d.files++[(d.made+1,apj)]))=_
   rw[List.find?_append]
   have:d.files.find? (fun p=>(p.1:Int)==((d.made:Int)+1))=none:=asj.2 fun p hp=>by
    have:=h.keys p hp
    simp only[beq_iff_eq]
    omega
   rw[this]
   have e:(((d.made+1:Nat):Int)==(d.made:Int)+1)=true:=by rw[beq_iff_eq];omega
   simp[aus,e]
theorem adQ{l:List (Nat×ByteArray)}{no:Int}{b:ByteArray}:fileOf (lq l no b) no=(fileOf l no).map (·++b):=by
 unfold fileOf lq
 induction l with
 |nil=>rfl
 |cons p l ih=>
  rw[aqb,arY,arY]
  cases e:((p.1:Int)==no)with
  |true=>simp only[if_true,e];rfl
  |false=>simp only[aqi,if_false,e];exact ih
theorem adR{l:List (Nat×ByteArray)}{no:Int}{f:ByteArray}(h:fileOf l no=some f):∃k,(k,f)∈l∧(k:Int)=no:=by
 unfold fileOf at h
 cases e:l.find? (fun p=>(p.1:Int)==no)with
 |none=>rw[e]at h;cases h
 |some p=>
  rw[e]at h
  cases h
  exact⟨p.1,List.mem_of_find?_eq_some e,by have:=List.find?_some e;simpa using this⟩
theorem adS{l:List (Nat×ByteArray)}(hn:(l.map (·.1)).Nodup){k:Nat}{f:ByteArray}(h:(k,f)∈l):fileOf l (k:Int)=some f:=by
 unfold fileOf
 induction l with
 |nil=>cases h
 |cons p l ih=>
  rw[aqb,List.nodup_cons]at hn
  rw[arY]
  rcases List.mem_cons.1 h with rfl|h
  ·simp
  ·have:((p.1:Int)==(k:Int))=false:=by
    rw[beq_eq_false_iff_ne]
    intro e
    have e:p.1=k:=by omega
    exact hn.1 (aq0.2 ⟨(k,f),h,e.symm⟩)
   rw[this]
   exact ih hn.2 h
theorem cj.write{d:ay}{no:Int}{b:ByteArray}(h:cj d)(hs:∀f,fileOf d.files no=some f→f.size+b.size≤1000000):cj (bO d no b).2:=by
 unfold bO
 split
 ·exact h
 split
 ·exact h
 split
 ·exact h.yT
 ·refine⟨h.bQ,h.made,fun p hp=>?_,?_,fun p hp=>?_,BZ _⟩
  ·obtain⟨q,hq,rfl⟩:=aq0.1 hp
   have:=h.keys q hq
   dsimp only
   split<;>exact this
  ·show((lq d.files no b).map (·.1)).Nodup
   have:(lq d.files no b).map (·.1)=d.files.map (·.1):=by
    unfold lq
    rw[arT]
    refine arc fun q _=>?_
    show(if _ then _ else _:Nat×ByteArray).1=q.1
    split<;>rfl
   rw[this];exact h.fX
  ·obtain⟨q,hq,rfl⟩:=aq0.1 hp
   split
   ·rename_i e
    have e:(q.1:Int)=no:=by simpa using e
    have:=hs q.2 (by rw[←e];exact adS h.fX hq)
    show(q.2++b).size≤_
    rw[arX];exact this
   ·exact h.size q hq
theorem HU{d:ay}{no:Int}{b f:ByteArray}(h:fileOf (bO d no b).2.files no=some f):∃g,fileOf d.files no=some g∧f.size≤g.size+b.size:=by
 unfold bO at h
 split at h
 ·rename_i e;rw[e]at h;cases h
 ·rename_i g e
  refine⟨g,e,?_⟩
  split at h
  ·rw[e]at h;cases h;omega
  split at h
  ·have h:fileOf d.files no=some f:=h
   rw[e]at h;cases h;omega
  ·have h:fileOf (lq d.files no b) no=some f:=h
   rw[adQ,e]at h
   cases h
   rw[arX];exact apI _
theorem PO:bR av9 9=some 1:=by kernel_rfl
def cd(x:ByteArray):ByteArray:=x++⟨#[10]⟩
theorem mc(x:ByteArray):(cd x).size=x.size+1:=by unfold cd;rw[arX];rfl
def ja(no:Int):List ByteArray→ay→Int×ay
 | [],d=>(0,d)
 |x::l,d=>if(bO d no (cd x)).1≠0 then bO d no (cd x)else ja no l (bO d no (cd x)).2
def bP:List ByteArray→Nat
 | []=>0
 |x::l=>x.size+1+bP l
theorem wu{l l':List ByteArray}(h:l.Perm l'):bP l=bP l':=by
 induction h with
 |nil=>rfl
 |cons x _ ih=>show x.size+1+bP _=x.size+1+bP _;omega
 |swap x y l=>show y.size+1+(x.size+1+bP l)=x.size+1+(y.size+1+bP l);omega
 |trans _ _ h1 h2=>omega
theorem wv(l:List ByteArray):l.length≤bP l:=by
 induction l with
 |nil=>exact apI _
 |cons x l ih=>show l.length+1≤x.size+1+bP l;omega
def cM(S:ad)(L:List ByteArray)(R:List Int)(d:ay):Int×ad×List ByteArray×List Int×ay:=
 if(bu d).2.1≠0 then((bu d).2.1,S,bE (aV S.aB) L,R,(bu d).2.2)
 else if(ja (bu d).1 (bE (aV S.aB) L) (bu d).2.2).1≠0 then((ja (bu d).1 (bE (aV S.aB) L) (bu d).2.2).1,{S with sn:=S.sn+1},bE (aV S.aB) L,R++[(bu d).1],(ja (bu d).1 (bE (aV S.aB) L) (bu d).2.2).2)
 else(0,{S with sn:=S.sn+1,rn:=0,bH:=0},[],R++[(bu d).1],(ja (bu d).1 (bE (aV S.aB) L) (bu d).2.2).2)
theorem join_eq(x:ByteArray):apS (fun b:UInt8=>apm apA (↑(apT b):Int)) (apE (apk x) (apO (apH x)))++[apm apA 10]=ai (cd x):=by
 unfold cd
 rw[NT,aqy (by exact apI _)]
 rfl
def B2(S:ad)(R:List Int)(H:List au)(no:Int)(L:List ByteArray)(s:Nat×ay):aj:=⟨[(0,.pointer (some ⟨0,0,none⟩)),(3,.int .i64 no),(39,.slice (some ⟨5,0,none⟩) S.rn S.rn),(40,.int .i64 S.rn),(41,iZ s.1)],jm S.z L R H s.2⟩
structure adT(no:Int)(L:List ByteArray)(d1:ay)(s:Nat×ay):Prop where
 i:s.1≤L.length
 e:ja no (L.drop s.1) s.2=ja no L d1
 ok:cj s.2
 sz:∀f,fileOf s.2.files no=some f→f.size+bP (L.drop s.1)≤1000000
theorem PP(S:ad)(L:List ByteArray)(R:List Int)(H:List au)(d:ay)(hL:L.length=S.rn)(hR:R.length=S.sn)(hd:cj d)(hw:bP L≤1000000)(hr:R.length≤64):
 aE av9 70 [.pointer (some ⟨0,0,none⟩)] (aO S.z L R H d) fun r o=>r=.ret (.int .i64 (cM S L R d).1)∧o=jm (cM S L R d).2.1.z (cM S L R d).2.2.1 (cM S L R d).2.2.2.1 H (cM S L R d).2.2.2.2:=by
 have pH:=aU H
 have PQ:=wv L
 refine aE.cT (n:=cn av9 70) (by kernel_rfl) ?_
 refine an.move (d':=⟨[(0,.pointer (some ⟨0,0,none⟩))],jm S.z L R H d⟩) [some 0,some 1,none,none,none,some 2,some 3,some 4] [2,3,4] (q:=[ap L,aq R,ak H]) (by kernel_rfl) (aC (by simp) (aC (by simp) (aC pH bc))) (by kernel_rfl) (by kernel_rfl) ?_
 have hs:cU (ap L)=L:=iP L
 have HV:(bE (aV S.aB) L).length=S.rn:=by rw[nS,hL]
 apply adE S R H d L pH hL hR
 case n0=>
  have hO:=wl (S:=S.z) (R:=R) (H:=H) (d:=d) (L:=L) rfl hL (by omega)
  unfold cL at hO
  rw[hO]
  simp only[aqn,aq7]
 case n1=>exact pT.2 hd
 case l4=>
  intro g
  have g:(bu d).2.1≠0:=by simpa using g
  refine adD S R H d L (by simp) pH ⟨?_,?_⟩
  ·unfold cM;rw[if_pos g]
  ·unfold cM;rw[if_pos g,hs];rfl
 case l5=>
  intro g
  have g:(bu d).2.1=0:=by simpa using g
  unfold PH
  rw[hs]
  have jT:=hd.uC
  have rO:=B0 hd g
  generalize gj:(bu d).1=no at rO
  generalize ua:(bu d).2.2=d1 at jT rO
  generalize B3:bE (aV S.aB) L=L1 at HV
  have dk:cM S L R d=if(ja no L1 d1).1≠0 then((ja no L1 d1).1,{S with sn:=S.sn+1},L1,R++[no],(ja no L1 d1).2)else(0,{S with sn:=S.sn+1,rn:=0,bH:=0},[],R++[no],(ja no L1 d1).2):=by
   unfold cM
   rw[if_neg (by rw[g];exact fun h=>h rfl),gj,ua,B3]
  rw[dk]
  have gQ:bP L1≤1000000:=by rw[←B3,wu (kR L)];exact hw
  refine adG S R H d1 L1 no pH HV hR ?_ (by simp) pH ?_
  ·exact apU (by omega)
  have e:HT S R H d1 L1 no=B2 {S with sn:=S.sn+1} (R++[no]) H no L1 (0,d1):=by
   unfold HT B2
   have:aq R++[apm apr no]=aq (R++[no]):=by unfold aq;rw[aqa];rfl
   rw[this]
   rfl
  rw[e,aqu]
  have B4:(R++[no]).length=({S with sn:=S.sn+1}:ad).sn:=by rw[apv,hR];rfl
  refine an.eU 7 0 (by kernel_rfl) ?_
  refine an.fS (B2 {S with sn:=S.sn+1} (R++[no]) H no L1) (fun s=>L1.length-s.1) (adT no L1 d1) (0,d1) (by kernel_rfl) ⟨ap7 _,by simp,jT,fun f hf=>by rw[rO]at hf;cases hf;show 0+bP (L1.drop 0)≤1000000;rw[List.drop_zero];omega⟩ ?_
  rintro⟨i,d2⟩ hi
  have i1:=hi.i
  have i2:=hi.e
  have i3:=hi.ok
  have i4:=hi.sz
  dsimp only at i1 i2 i3 i4
  have jP:L1.length=({S with sn:=S.sn+1}:ad).rn:=HV
  have aol:=wv L1
  apply adJ {S with sn:=S.sn+1} (R++[no]) H d2 L1 no i pH jP B4
  case l4=>
   intro g2
   have g2:=of_decide_eq_false g2
   have g2:¬(i:Int)<(S.rn:Int):=g2
   have ei:i=L1.length:=by omega
   rw[ei,as3]at i2
   have i2:(0,d2)=ja no L1 d1:=i2
   rw[←i2]at*
   with_reducible (repeat first|refine QL.ret ?_|refine QL.exit ?_|refine QB.ret ?_|refine QB.cp ?_|refine QB.normal ?_|refine QB.cy (by rfl) ?_)
   apply adM {S with sn:=S.sn+1} (R++[no]) H d2 L1 pH jP B4
   ·
    unfold PM
    refine an.lp 0 71 9 PO rfl rfl (by kernel_rfl) rfl ?_
    refine an.move (d':=⟨[(2,.int .i64 0)],jm (ad.z {S with sn:=S.sn+1,rn:=0,bH:=0}) [] (R++[no]) H d2⟩) [some 0,some 1,none,none,none,some 7,some 5,some 6] [5,6,7] (q:=[ap [],aq (R++[no]),ak H]) (by kernel_rfl) (aC (by simp) (aC (by simp) (aC pH bc))) (by kernel_rfl) (by kernel_rfl) ?_
    rw[aqu]
    apply adP {S with sn:=S.sn+1,rn:=0,bH:=0} (R++[no]) H d2 [] 0 pH rfl B4
    ·
     refine adN {S with sn:=S.sn+1,rn:=0,bH:=0} (R++[no]) H d2 [] 0 ⟨?_,?_⟩
     ·rw[if_neg (fun h=>h rfl)]
     ·rw[if_neg (fun h=>h rfl)];rfl
  case l3=>
   intro g2
   have g2:=of_decide_eq_true g2
   have g2:(i:Int)<(S.rn:Int):=g2
   obtain⟨x,hx⟩:∃x,L1[i]?=some x:=⟨_,apl (by omega)⟩
   have ww:=(pW hx).2
   rw[ww]at i2 i4
   have hex:aX (ap L1) (0+apd (i:Int)*1)=x:=by rw[gh];exact(dU hx).1
   have Lw:x.size+1+bP (L1.drop (i+1))≤bP L1:=by
    have:∀(k:Nat) (l:List ByteArray),bP (l.drop k)≤bP l:=fun k l=>by
     induction l generalizing k with
     |nil=>simp
     |cons y l ih=>cases k with
      |zero=>exact apI _
      |succ k=>have:=ih k;show bP (l.drop k)≤y.size+1+bP l;omega
    have:=this i L1
    rw[ww]at this
    exact this
   have cf:∀f,fileOf d2.files no=some f→f.size+(cd x).size≤1000000:=fun f hf=>by
    have:f.size+(x.size+1+bP (L1.drop (i+1)))≤1000000:=i4 f hf
    rw[mc];omega
   apply adL {S with sn:=S.sn+1} (R++[no]) H d2 L1 no i pH jP B4 (by omega) g2 (by show S.rn≤1000000;omega) (bI (by omega) (by omega))
   case n0=>rw[gh];exact(dU hx).2
   case n1=>rw[hex];exact apU (by omega)
   case n2=>rw[hex,aqy (by exact apI _)];exact F9 x
   case n3=>rw[hex];exact apU (by omega)
   case n4=>rw[hex,join_eq];exact lj _
   case n5=>
    rw[hex,join_eq]
    exact HP.2 ⟨i3,cd x,rfl,(mc x).symm,(mc x).symm,rfl,rfl,cf⟩
   case l9=>
    intro g3
    rw[hex,join_eq,jl]at g3
    have g3:(bO d2 no (cd x)).1≠0:=by simpa using g3
    have i2:(if(bO d2 no (cd x)).1≠0 then bO d2 no (cd x)else ja no (L1.drop (i+1)) (bO d2 no (cd x)).2)=ja no L1 d1:=i2
    rw[if_pos g3]at i2
    rw[←i2]at*
    with_reducible (repeat first|refine QL.ret ?_|refine QL.exit ?_|refine QB.ret ?_|refine QB.cp ?_|refine QB.normal ?_|refine QB.cy (by rfl) ?_)
    refine adK {S with sn:=S.sn+1} (R++[no]) H d2 L1 no i ⟨?_,?_⟩
    ·rw[if_pos g3,hex,join_eq,jl]
    ·rw[if_pos g3,hex,join_eq,jl];rfl
   case j4=>
    intro g3
    rw[hex,join_eq,jl]at g3
    have g3:(bO d2 no (cd x)).1=0:=by simpa using g3
    have i2:(if(bO d2 no (cd x)).1≠0 then bO d2 no (cd x)else ja no (L1.drop (i+1)) (bO d2 no (cd x)).2)=ja no L1 d1:=i2
    rw[if_neg (fun h=>h g3)]at i2
    refine QL.to (i+1,(bO d2 no (cd x)).2) ⟨by dsimp only;omega,i2,i3.write cf,fun f hf=>?_⟩ (by dsimp only;omega) ?_
    ·obtain⟨f0,h1,h2⟩:=HU hf
     have:=i4 f0 h1
     have:f0.size+(x.size+1+bP (L1.drop (i+1)))≤1000000:=this
     rw[mc]at h2
     dsimp only
     omega
    ·unfold PL B2
     rw[hex,join_eq,jl,fA (by omega)]
     rfl
noncomputable section
def adU(S:ad)(L:List ByteArray)(R:List Int)(H:List au)(d:ay)(e:Int)(T:ad)(K:List ByteArray)(Rr:List Int)(dd:ay):List (apQ×Sum):=[(70,Sum.one (fun _ _=>some [0,1,6,7,8]) [ao 0] (aO S.z L R H d) (.ret (aa e)) (jm T.z K Rr H dd))]
theorem adV(S:ad)(L:List ByteArray)(R:List Int)(H:List au)(d:ay)(e:Int)(T:ad)(K:List ByteArray)(Rr:List Int)(dd:ay)(dk:aE av9 70 [ao 0] (aO S.z L R H d) fun r o=>r=.ret (aa e)∧o=jm T.z K Rr H dd):dw av9 (dM av9 (dN (adU S L R H d e T K Rr dd)) 50 40):=
 dR du mixed (ed (.cons (bp.one dk) .nil)) 50 40
noncomputable def B5:List apV:=aY (dz av9 47)
open Tree renaming aN→mN,dj→mF,eT→mL,fz→mQ,dB→mR,fH→mE
noncomputable abbrev HW:List apV:=(aY (inner (aY (inner (B5.drop 2)))))
def PS:Nat→Bool→Bool→Tree→Tree
 |0,_,_,t=>t
 |n+1,d,b,t=>.cD d b (PS n d b t)
theorem PT{R:bd→aj→Prop}{c v:Bool}{t:Tree}(n:Nat)(h1:c=v)(h2:t.ok R):(PS n c v t).ok R:=by
 induction n with
 |zero=>exact h2
 |succ n ih=>exact⟨h1,ih⟩
abbrev B6:=fun S L R H d X (ro:Bool)=>([ab (aJ (ad.z S) 1 6 7 8) 89,.abs d,.dead,.dead,.dead,.cells (ap X) 9 ro,ab (ap L) 9,ab (aq R) 3,ab (ak H) 114]:List ag)
abbrev PU:=fun S L R H d X (ro:Bool) (n:Nat)=>(⟨[(0,ao 0),(8,ah 5 n),(9,aa n),(10,aa 0)],B6 S L R H d X ro⟩:aj)
abbrev B7:=fun(S:ad) L R H d X (ro:Bool)=>([ab (aJ S.z 1 6 7 8) 89,.abs d,.dead,.dead,.dead,.cells (ap X) 9 ro,ab (ap L) 9,ab (aq R) 3,ab (ak H) 114]:List ag)
abbrev adW:=fun S L R H d X (ro:Bool) (n:Nat)=>(⟨[(0,ao 0),(1,ah 5 n)],B7 S L R H d X ro⟩:aj)
theorem adX(S:ad)(L R H d X)(ro:Bool)(n:Nat)(pH:(ak H).all af=true)(hL:(apb L)=S.rn)(hR:(apb R)=S.sn){Q:aQ}(l4:an av9 57 6 (B5.drop 2) (PU S L R H d X ro n) Q):an av9 57 6 B5 (adW S L R H d X ro n) Q:=
 aS bo 2 (.leaf [0,8,9,10] [0,1,2,3,4,5,6,7,8] [5,6,7,8]) (fun u=>by kernel_rfl) (mN (aZ X) (aM L R H (mQ l4)))
abbrev adY:=fun S L R H d X (ro:Bool) (n:Nat) (i:Int)=>(⟨[(0,ao 0),(8,ah 5 n),(9,aa n),(10,aa i)],B6 S L R H d X ro⟩:aj)
noncomputable abbrev adZ(S:ad)(L:List ByteArray)(R:List Int)(H:List au)(d:ay)(X:List ByteArray)(ro:Bool)(n:Nat)(i:Int):aj:=⟨[],B6 S L R H d X ro⟩
abbrev ad0:=fun S L R H d X (ro:Bool) (n:Nat) (i:Int)=>(⟨[(0,ao 0),(8,ah 5 n),(9,aa n),(10,aa i)],B7 S L R H d X ro⟩:aj)
theorem ad1(S:ad)(L R H d X)(ro:Bool)(n:Nat)(i:Int)(pH:(ak H).all af=true)(hL:(apb L)=S.rn)(hR:(apb R)=S.sn){Q:aQ}(l4:(decide (i<(↑n:Int)))=true→an av9 57 6 (HW.drop 2) (adY S L R H d X ro n i) Q)(l5:(decide (i<(↑n:Int)))=false→Q (.exit 0) (adZ S L R H d X ro n i)):an av9 57 6 HW (ad0 S L R H d X ro n i) Q:=
 aS bo 2 (.fork 0 (.leaf [0,8,9,10] [0,1,2,3,4,5,6,7,8] [5,6,7,8]) (.leaf [] [0,1,2,3,4,5,6,7,8] [5,6,7,8])) (fun u=>by kernel_rfl) (mF (c:=decide (i<(↑n:Int))) (fun h0=>(mN (aZ X) (aM L R H (mQ (l4 h0))))) (fun h0=>(mN (aZ X) (aM L R H (mE 0 (l5 h0))))))
abbrev HX:=fun(S:ad) (L:List ByteArray) (R:List Int) H (d:ay) (e:Int) T K Rr dd X (ro:Bool) (n:Nat) (i:Int)=>(⟨[(4,aa e)],[ab (aJ (ad.z T) 1 6 7 8) 89,.abs dd,.dead,.dead,.dead,.cells (ap X) 9 ro,ab (ap K) 9,ab (aq Rr) 3,ab (ak H) 114]⟩:aj)
theorem ad2(S L R H d)(e:Int)(T K Rr dd X)(ro:Bool)(n:Nat)(i:Int){Q:bg}(aR:aph (ap X) af=true)(be:aph (ak H) af=true)(hq:Q (.ret (aa e)) (HX S L R H d e T K Rr dd X ro n i).objs):aF av9 47 57 6 Q .ret (HX S L R H d e T K Rr dd X ro n i):=aF.ret (vs:=[aa e]) (l:=[]) (bs:=[0,1,2,3,4,5,6,7,8]) (pl:=[5,6,7,8]) (q:=[ap X,ap K,aq Rr,ak H]) (fun u=>by kernel_rfl) (by kernel_rfl) (aC aR (aC (by simp) (aC (by simp) (aC be bc)))) hq
abbrev PV:=fun(S:ad) (L:List ByteArray) (R:List Int) H (d:ay) (e:Int) T K Rr dd X (ro:Bool) (n:Nat) (i:Int)=>(⟨[(0,ao 0),(8,ah 5 n),(9,aa n),(10,.int .i64 (apc .i64 (i+1)))],[ab (aJ (ad.mk (ad.at_ T) (ad.more T) (ad.bq T) (ad.B (ad.z T)) (ad.n T) (ad.failed T) (ad.aB T) 0 (ad.rn T+1) (apc .i64 (ad.bH T+apc .i64 ((↑(apk (aX (ap X) (0+apd i*1))):Int)+1))) (ad.sn T) (ad.hn T) (ad.ee T) (ad.raw T) (ad.closed T)) 1 6 7 8) 89,.abs dd,.dead,.dead,.dead,.cells (ap X) 9 ro,ab (ap K++[apJ (aX (ap X) (0+apd i*1))]) 9,ab (aq Rr) 3,ab (ak H) 114]⟩:aj)
abbrev PW:=fun S L R H d (e:Int) (T:ad) (K:List ByteArray) (Rr:List Int) (dd:ay) X (ro:Bool) (n:Nat) (i:Int)=>(⟨[(0,ao 0),(8,ah 5 n),(9,aa n),(10,.int .i64 (apc .i64 (i+1)))],[ab (aJ (ad.mk (ad.at_ S) (ad.more S) (ad.bq S) (ad.B (ad.z S)) (ad.n S) (ad.failed S) (ad.aB S) 0 (ad.rn S+1) (apc .i64 (ad.bH S+apc .i64 ((↑(apk (aX (ap X) (0+apd i*1))):Int)+1))) (ad.sn S) (ad.hn S) (ad.ee S) (ad.raw S) (ad.closed S)) 1 6 7 8) 89,.abs d,.dead,.dead,.dead,.cells (ap X) 9 ro,ab (ap L++[apJ (aX (ap X) (0+apd i*1))]) 9,ab (aq R) 3,ab (ak H) 114]⟩:aj)
abbrev PX:=fun S L R H d (e:Int) (T:ad) (K:List ByteArray) (Rr:List Int) (dd:ay) X (ro:Bool) (n:Nat) (i:Int)=>(⟨[(0,ao 0),(8,ah 5 n),(9,aa n),(10,.int .i64 (apc .i64 (i+1)))],[ab (aJ (ad.mk (ad.at_ S) (ad.more S) (ad.bq S) (ad.B (ad.z S)) (ad.n S) (ad.failed S) (ad.aB S) 0 (ad.rn S+1) (apc .i64 (ad.bH S+apc .i64 ((↑(apk (aX (ap X) (0+apd i*1))):Int)+1))) (ad.sn S) (ad.hn S) (ad.ee S) (ad.raw S) (ad.closed S)) 1 6 7 8) 89,.abs d,.dead,.dead,.dead,.cells (ap X) 9 ro,ab (ap L++[apJ (aX (ap X) (0+apd i*1))]) 9,ab (aq R) 3,ab (ak H) 114]⟩:aj)
abbrev ad3:=fun S L R H d (e:Int) (T:ad) (K:List ByteArray) (Rr:List Int) (dd:ay) X (ro:Bool) (n:Nat) (i:Int)=>(⟨[(0,ao 0),(8,ah 5 n),(9,aa n),(10,aa i)],B7 S L R H d X ro⟩:aj)
theorem ad4(S:ad)(L R H d)(e:Int)(T:ad)(K Rr dd X)(ro:Bool)(n:Nat)(i:Int)(dk:aE av9 70 [ao 0] (aO S.z L R H d) fun r o=>r=.ret (aa e)∧o=jm T.z K Rr H dd)(pH:(ak H).all af=true)(hL:(apb L)=S.rn)(hR:(apb R)=S.sn)(h0:0≤i)(h1:i<n)(h2:n≤1000000)(h3:apc .i64 (i+1)=i+1)(h4:(apb X)=n)(h5:(apb K)=T.rn){Q:aQ}(n0:(eS (ap X) (0+apd i*1))=true)(n1:(decide ((↑(ad.rn S):Int)>0))=true→(decide (apc .i64 (apc .i64 (ad.bH S+(↑(apk (aX (ap X) (0+apd i*1))):Int))+1)>256))=true→(eD [ao 0] [ao 0] [ab (aJ (ad.z S) 1 2 3 4) 89,ag.abs d,ab (ap L) 9,ab (aq R) 3,ab (ak H) 114] (aO (ad.z S) L R H d))=true)(aR:aph (ap X) af=true)(be:aph (ak H) af=true)(l4:(decide ((↑(ad.rn S):Int)>0))=true→(decide (apc .i64 (apc .i64 (ad.bH S+(↑(apk (aX (ap X) (0+apd i*1))):Int))+1)>256))=true→(e != 0)=true→Q .ret (HX S L R H d e T K Rr dd X ro n i))(n5:(decide ((↑(ad.rn S):Int)>0))=true→(decide (apc .i64 (apc .i64 (ad.bH S+(↑(apk (aX (ap X) (0+apd i*1))):Int))+1)>256))=true→(e != 0)=false→(apG (ad.rn T+1) 1000000)=true)(l6:(decide ((↑(ad.rn S):Int)>0))=true→(decide (apc .i64 (apc .i64 (ad.bH S+(↑(apk (aX (ap X) (0+apd i*1))):Int))+1)>256))=true→(e != 0)=false→Q .normal (PV S L R H d e T K Rr dd X ro n i))(n7:(decide ((↑(ad.rn S):Int)>0))=true→(decide (apc .i64 (apc .i64 (ad.bH S+(↑(apk (aX (ap X) (0+apd i*1))):Int))+1)>256))=false→(apG (ad.rn S+1) 1000000)=true)(bB:aph (aq R) af=true)(l9:(decide ((↑(ad.rn S):Int)>0))=true→(decide (apc .i64 (apc .i64 (ad.bH S+(↑(apk (aX (ap X) (0+apd i*1))):Int))+1)>256))=false→Q .normal (PW S L R H d e T K Rr dd X ro n i))(j4:(decide ((↑(ad.rn S):Int)>0))=false→Q .normal (PX S L R H d e T K Rr dd X ro n i)):an av9 57 6 (HW.drop 2) (ad3 S L R H d e T K Rr dd X ro n i) Q:=
 aS (adV S L R H d e T K Rr dd dk) 1000 (aA [0,1,1,0,1] (.fork 2 (aA [1,1,1,3,1,3,1,1,1] (.fork 0 (aA [3,1,1,1,1,1,1] (.fork 0 (.leaf [4] [0,1,2,3,4,5,9,10,11] [5,9,10,11]) (aA [2,3,5,1] (.leaf [0,8,9,10] [0,1,2,3,4,5,13,10,11] [5,13,10,11])))) (aA [2,3,5,1] (.leaf [0,8,9,10] [0,1,2,3,4,5,10,7,8] [5,10,7,8])))) (aA [0,0,0,0,0,0,0,0,0,4,3,5,1] (.leaf [0,8,9,10] [0,1,2,3,4,5,10,7,8] [5,10,7,8])))) (fun u=>by kernel_rfl) (mN (decide_eq_true (by omega):(decide (0≤i))=true) (mN (show(Nat.blt (apd i) n)=true by simp at dk pH hL hR h0 h1 h2 h3 h4 h5⊢ <;>omega) (mN n0 (mF (c:=decide ((↑(ad.rn S):Int)>0)) (fun h0=>(PT 9 h0 (mF (c:=decide (apc .i64 (apc .i64 (ad.bH S+(↑(apk (aX (ap X) (0+apd i*1))):Int))+1)>256)) (fun h1=>(aM L R H (mN (n1 h0 h1) (mN (aZ K) (mN (aG Rr) (mN (aU H) (mF (c:=e != 0) (fun h2=>(mN (aZ X) (mN (aZ K) (mN (aG Rr) (mN (aU H) (mR (l4 h0 h1 h2))))))) (fun h2=>(mN (n5 h0 h1 h2) (mN (ln _:(full (ad.rn T) (ad.rn T))=true) (mN (show(apw (0+ad.rn T*1) (apb (ap K)))=true by simp at dk pH hL hR h0 h1 h2 h3 h4 h5 h0 h1 h2⊢ <;>omega) (mN (aZ X) (mN (show(aph (ap K++[apJ (aX (ap X) (0+apd i*1))]) af)=true by first|(simp;done)|assumption|exact iq (lj _) rfl|exact iq rfl (oL (by assumption) _)|exact li (li (li (by assumption) rfl _) rfl _) rfl _|exact iq (by assumption) rfl) (mN (aG Rr) (mN (aU H) (mQ (an.done (by kernel_rfl) (l6 h0 h1 h2)))))))))))))))))) (fun h1=>(mN (n7 h0 h1) (mN (ln _:(full (ad.rn S) (ad.rn S))=true) (mN (show(apw (0+ad.rn S*1) (apb (ap L)))=true by simp at dk pH hL hR h0 h1 h2 h3 h4 h5 h0 h1⊢ <;>omega) (mN (aZ X) (mN (show(aph (ap L++[apJ (aX (ap X) (0+apd i*1))]) af)=true by first|(simp;done)|assumption|exact iq (lj _) rfl|exact iq rfl (oL (by assumption) _)|exact li (li (li (by assumption) rfl _) rfl _) rfl _|exact iq (by assumption) rfl) (mN (aG R) (mN (aU H) (mQ (an.done (by kernel_rfl) (l9 h0 h1)))))))))))))) (fun h0=>(PT 9 h0 (mN (show(apG (ad.rn S+1) 1000000)=true by simp at dk pH hL hR h0 h1 h2 h3 h4 h5 h0⊢ <;>omega) (mN (ln _:(full (ad.rn S) (ad.rn S))=true) (mN (show(apw (0+ad.rn S*1) (apb (ap L)))=true by simp at dk pH hL hR h0 h1 h2 h3 h4 h5 h0⊢ <;>omega) (mN (aZ X) (mN (show(aph (ap L++[apJ (aX (ap X) (0+apd i*1))]) af)=true by first|(simp;done)|assumption|exact iq (lj _) rfl|exact iq rfl (oL (by assumption) _)|exact li (li (li (by assumption) rfl _) rfl _) rfl _|exact iq (by assumption) rfl) (mN (aG R) (mN (aU H) (mQ (an.done (by kernel_rfl) (j4 h0))))))))))))))))
abbrev HY:=fun S L R H d X (ro:Bool) (n:Nat)=>(⟨[(4,aa 0)],B6 S L R H d X ro⟩:aj)
theorem ad5(S L R H d X)(ro:Bool)(n:Nat){Q:bg}(hq:Q (.ret (aa 0)) (HY S L R H d X ro n).objs):aF av9 47 57 6 Q .ret (HY S L R H d X ro n):=aF.ret (vs:=[aa 0]) (l:=[]) (bs:=[0,1,2,3,4,5,6,7,8]) (pl:=[5,6,7,8]) (q:=[ap X,ap L,aq R,ak H]) (fun u=>by kernel_rfl) (by kernel_rfl) (aC (aZ X) (gL L R H bc)) hq
noncomputable abbrev ad6(S:ad)(L:List ByteArray)(R:List Int)(H:List au)(d:ay)(X:List ByteArray)(ro:Bool)(n:Nat):aj:=⟨[],B7 S L R H d X ro⟩
theorem ad7(S:ad)(L R H d X)(ro:Bool)(n:Nat)(pH:(ak H).all af=true)(hL:(apb L)=S.rn)(hR:(apb R)=S.sn){Q:aQ}(l4:Q .ret (HY S L R H d X ro n)):an av9 57 6 (B5.drop 3) (ad6 S L R H d X ro n) Q:=
 aS bo 1000 (.leaf [4] [0,1,2,3,4,5,6,7,8] [5,6,7,8]) (fun u=>by kernel_rfl) (mN (aZ X) (aM L R H (mR l4)))
end
abbrev ci:=ad×List ByteArray×List Int×ay
structure ju(s:ci):Prop where
 len:s.2.1.length=s.1.rn
 runs:s.2.2.1.length=s.1.sn
 cF:cj s.2.2.2
 made:s.2.2.1.length≤s.2.2.2.made
 bH:s.1.bH=bP s.2.1
 bQ:bP s.2.1≤400
theorem HZ(d:ay)(no:Int)(b:ByteArray):(bO d no b).2.made=d.made:=by
 unfold bO
 split
 ·rfl
 split
 ·rfl
 split
 ·rfl
 ·rfl
theorem H0(no:Int):∀(l:List ByteArray) (d:ay),cj d→(∀f,fileOf d.files no=some f→f.size+bP l≤1000000)→cj (ja no l d).2∧(ja no l d).2.made=d.made
 | [],d,h,_=>⟨h,rfl⟩
 |x::l,d,h,hs=>by
  have h1:∀f,fileOf d.files no=some f→f.size+(cd x).size≤1000000:=fun f hf=>by
   have:f.size+(x.size+1+bP l)≤1000000:=hs f hf
   rw[mc];omega
  unfold ja
  split
  ·exact⟨h.write h1,HZ _ _ _⟩
  ·obtain⟨a,b⟩:=H0 no l (bO d no (cd x)).2 (h.write h1) fun f hf=>by
    obtain⟨g,g1,g2⟩:=HU hf
    have:g.size+(x.size+1+bP l)≤1000000:=hs g g1
    rw[mc]at g2
    omega
   exact⟨a,by rw[b,HZ]⟩
theorem H2{d:ay}:(bu d).2.2.made=if(bu d).2.1=0 then d.made+1 else d.made:=by
 unfold bu
 by_cases h1:d.made=64
 ·rw[if_pos h1];rfl
 ·rw[if_neg h1]
  by_cases h2:jZ d=0
  ·rw[if_neg (fun h=>h h2)];rfl
  ·rw[if_pos h2];show d.made=if jZ d=0 then _ else _;rw[if_neg h2]
theorem ju.mf{s:ci}(h:ju s):ju (cM s.1 s.2.1 s.2.2.1 s.2.2.2).2∧((cM s.1 s.2.1 s.2.2.1 s.2.2.2).1=0→(cM s.1 s.2.1 s.2.2.1 s.2.2.2).2.2.1=[]):=by
 obtain⟨S,L,R,d⟩:=s
 obtain⟨h1,h2,h3,h4,h5,h6⟩:=h
 dsimp only at h1 h2 h3 h4 h5 h6⊢
 have hw:bP (bE (aV S.aB) L)=bP L:=wu (kR L)
 have hm:=H2 (d:=d)
 unfold cM
 by_cases g:(bu d).2.1=0
 ·rw[if_neg (fun h=>h g)]
  rw[if_pos g]at hm
  obtain⟨w1,w2⟩:=H0 (bu d).1 (bE (aV S.aB) L) (bu d).2.2 h3.uC fun f hf=>by
   rw[B0 h3 g]at hf
   cases hf
   show 0+_≤_
   omega
  split
  ·refine⟨⟨?_,?_,w1,?_,?_,?_⟩,fun h=>?_⟩
   ·show(bE _ L).length=S.rn;rw[nS];exact h1
   ·show(R++[(bu d).1]).length=S.sn+1;rw[apv,h2];rfl
   ·show(R++[(bu d).1]).length≤_;rw[apv,w2,hm];show R.length+1≤_;omega
   ·show S.bH=bP (bE _ L);rw[hw];exact h5
   ·show bP (bE _ L)≤400;rw[hw];exact h6
   ·rename_i bk;exact absurd h bk
  ·refine⟨⟨rfl,?_,w1,?_,rfl,?_⟩,fun _=>rfl⟩
   ·show(R++[(bu d).1]).length=S.sn+1;rw[apv,h2];rfl
   ·show(R++[(bu d).1]).length≤_;rw[apv,w2,hm];show R.length+1≤_;omega
   ·exact ap7 _
 ·rw[if_pos g]
  rw[if_neg g]at hm
  refine⟨⟨?_,h2,h3.uC,?_,?_,?_⟩,fun h=>absurd h g⟩
  ·show(bE _ L).length=S.rn;rw[nS];exact h1
  ·show R.length≤_;rw[hm];exact h4
  ·show S.bH=bP (bE _ L);rw[hw];exact h5
  ·show bP (bE _ L)≤400;rw[hw];exact h6
def jI(x:ByteArray)(s:ci):ci:=({s.1 with rn:=s.1.rn+1,bH:=s.1.bH+(x.size+1)},s.2.1++[x],s.2.2)
def cY:List ByteArray→ci→Int×ci
 | [],s=>(0,s)
 |x::l,s=>if 0<s.1.rn∧s.1.bH+x.size+1>256 then(if(cM s.1 s.2.1 s.2.2.1 s.2.2.2).1≠0 then cM s.1 s.2.1 s.2.2.1 s.2.2.2 else cY l (jI x (cM s.1 s.2.1 s.2.2.1 s.2.2.2).2))else cY l (jI x s)
theorem yU(a b:List ByteArray):bP (a++b)=bP a+bP b:=by
 induction a with
 |nil=>show bP b=0+bP b;omega
 |cons x a ih=>show x.size+1+bP (a++b)=x.size+1+bP a+bP b;omega
theorem ju.put{s:ci}(h:ju s)(x:ByteArray)(hx:bP s.2.1+(x.size+1)≤400):ju (jI x s):=by
 refine⟨?_,h.runs,h.cF,h.made,?_,?_⟩
 ·show(s.2.1++[x]).length=s.1.rn+1;rw[apv,h.len];rfl
 ·show s.1.bH+((x.size:Int)+1)=bP (s.2.1++[x]);rw[yU,h.bH];show _=((bP s.2.1+(x.size+1+0):Nat):Int);omega
 ·show bP (s.2.1++[x])≤400;rw[yU];exact hx
@[simp] theorem aom(S:ad)(a b c e:Nat):(aJ S a b c e).length=78:=rfl
def nW(E:ag)(S:ad)(L:List ByteArray)(R:List Int)(H:List au)(d:ay):List ag:=[.cells (aJ S 1 6 7 8) 89 false,.abs d,.dead,.dead,.dead,E,.cells (ap L) 9 false,.cells (aq R) 3 false,.cells (ak H) 114 false]
def H3(X:List ByteArray)(ro:Bool)(H:List au)(s:ci):List ag:=nW (.cells (ap X) 9 ro) s.1.z s.2.1 s.2.2.1 H s.2.2.2
def yV(X:List ByteArray)(ro:Bool)(n:Nat)(H:List au)(s:Nat×ci):aj:=⟨[(0,.pointer (some ⟨0,0,none⟩)),(8,.slice (some ⟨5,0,none⟩) n n),(9,iZ n),(10,iZ s.1)],H3 X ro H s.2⟩
structure ad8(X:List ByteArray)(s0:ci)(s:Nat×ci):Prop where
 i:s.1≤X.length
 e:cY (X.drop s.1) s.2=cY X s0
 ok:ju s.2
theorem PY(X:List ByteArray)(ro:Bool)(n:Nat)(hX:X.length=n)(hn:n≤1000000)(je:∀x∈X,x.size≤64)(H:List au)(s:ci)(hs:ju s):
 aE av9 47 [.pointer (some ⟨0,0,none⟩),.slice (some ⟨5,0,none⟩) n n] (aO s.1.z s.2.1 s.2.2.1 H s.2.2.2++[.cells (ap X) 9 ro]) fun r o=>r=.ret (.int .i64 (cY X s).1)∧o=H3 X ro H (cY X s).2:=by
 have pH:=aU H
 refine aE.cT (n:=cn av9 47) (by kernel_rfl) ?_
 refine an.move (d':=⟨[(0,.pointer (some ⟨0,0,none⟩)),(1,.slice (some ⟨5,0,none⟩) n n)],H3 X ro H s⟩) [some 0,some 1,none,none,none,some 5,some 2,some 3,some 4] [2,3,4,5] (q:=[ap X,ap s.2.1,aq s.2.2.1,ak H]) (by kernel_rfl) (aC (by simp) (aC (by simp) (aC (by simp) (aC pH bc)))) (by kernel_rfl) (by kernel_rfl) ?_
 apply adX s.1 s.2.1 s.2.2.1 H s.2.2.2 X ro n pH hs.len hs.runs
 ·
  rw[show PU s.1 s.2.1 s.2.2.1 H s.2.2.2 X ro n=yV X ro n H (0,s)from rfl]
  refine an.eU 2 0 (by kernel_rfl) ?_
  refine an.fS (yV X ro n H) (fun t=>n-t.1) (ad8 X s) (0,s) (by kernel_rfl) ⟨ap7 _,by simp,hs⟩ ?_
  clear hs
  rintro⟨i,t⟩ ⟨h1,h2,h3⟩
  dsimp only at h1 h2 h3
  apply ad1 t.1 t.2.1 t.2.2.1 H t.2.2.2 X ro n i pH h3.len h3.runs
  case l5=>
   intro g
   have g:=of_decide_eq_false g
   rw[show i=X.length by omega,as3]at h2
   have h2:(0,t)=cY X s:=h2
   rw[←h2]
   with_reducible (repeat first|refine QL.ret ?_|refine QL.exit ?_|refine QB.ret ?_|refine QB.cp ?_|refine QB.normal ?_|refine QB.cy (by rfl) ?_)
   apply ad7 t.1 t.2.1 t.2.2.1 H t.2.2.2 X ro n pH h3.len h3.runs
   ·
    exact ad5 t.1 t.2.1 t.2.2.1 H t.2.2.2 X ro n ⟨rfl,rfl⟩
  case l4=>
   intro g
   have g:=of_decide_eq_true g
   obtain⟨x,hx⟩:∃x,X[i]?=some x:=⟨_,apl (by omega)⟩
   have aon:=je x (List.mem_of_getElem? hx)
   rw[(pW hx).2]at h2
   have hex:aX (ap X) (0+apd (i:Int)*1)=x:=by rw[gh];exact(dU hx).1
   have dk:=h3.mf
   have hlen:=dk.1.len
   have H4:=PP t.1 t.2.1 t.2.2.1 H t.2.2.2 h3.len h3.runs h3.cF (by have:=h3.bQ;omega) (by have:=h3.made;have:=h3.cF.made;omega)
   have H5:=h3.bH
   have iL:=h3.bQ
   have PQ:=wv t.2.1
   have aoo:t.1.bH=(bP t.2.1:Nat):=H5
   have ew:apc apr (apc apr (t.1.bH+(x.size:Int))+1)=t.1.bH+x.size+1:=by rw[bI (z:=t.1.bH+(x.size:Int)) (by omega) (by omega),bI (by omega) (by omega)]
   have es:∀w:Int,0≤w→w≤1000→apc apr (w+apc apr ((x.size:Int)+1))=w+((x.size:Int)+1):=fun w w1 w2=>by rw[bI (z:=(x.size:Int)+1) (by omega) (by omega),bI (by omega) (by omega)]
   generalize hR:cM t.1 t.2.1 t.2.2.1 t.2.2.2=r at dk hlen H4
   obtain⟨e,u⟩:=r
   dsimp only at dk hlen H4
   have H6:∀l:List ByteArray,ap l++[apJ x]=ap (l++[x]):=fun l=>by unfold ap;rw[aqa];rfl
   have stay:∀l:List ByteArray,¬(0<t.1.rn∧t.1.bH+x.size+1>256)→cY (X.drop (i+1)) (jI x t)=cY X s∧ju (jI x t):=fun l hc=>by
    refine⟨?_,h3.put x ?_⟩
    ·rw[←h2];show _=cY (x::X.drop (i+1)) t;rw[cY,if_neg hc]
    ·have hl:=h3.len
     by_cases h0:0<t.1.rn
     ·have:¬t.1.bH+x.size+1>256:=fun h=>hc ⟨h0,h⟩
      omega
     ·have:t.2.1=[]:=aqf (by omega)
      rw[this];show 0+_≤400;omega
   apply ad4 t.1 t.2.1 t.2.2.1 H t.2.2.2 e u.1 u.2.1 u.2.2.1 u.2.2.2 X ro n i H4 pH h3.len h3.runs (by omega) g hn (bI (by omega) (by omega)) hX hlen
   case aR=>simp
   case be=>exact pH
   case bB=>simp
   case n0=>rw[gh];exact(dU hx).2
   case n1=>intro _ _;exact fo rfl rfl
   case n5=>
    intro _ _ ge
    have ge:e=0:=by simpa using ge
    have:=dk.2 ge
    have hl:u.2.1.length=u.1.rn:=hlen
    rw[this]at hl
    exact apU (by have:u.1.rn=0:=hl.symm;omega)
   case n7=>intro _ _;exact apU (by have:=h3.len;omega)
   case l4=>
    intro g1 g2 ge
    have g1:=of_decide_eq_true g1
    rw[hex,ew]at g2
    have g2:=of_decide_eq_true g2
    have ge:e≠0:=by simpa using ge
    have h2:cY (x::X.drop (i+1)) t=cY X s:=h2
    rw[cY,if_pos ⟨by omega,g2⟩,hR,if_pos ge]at h2
    rw[←h2]
    with_reducible (repeat first|refine QL.ret ?_|refine QL.exit ?_|refine QB.ret ?_|refine QB.cp ?_|refine QB.normal ?_|refine QB.cy (by rfl) ?_)
    exact ad2 t.1 t.2.1 t.2.2.1 H t.2.2.2 e u.1 u.2.1 u.2.2.1 u.2.2.2 X ro n i (by simp) pH ⟨rfl,rfl⟩
   case l6=>
    intro g1 g2 ge
    have g1:=of_decide_eq_true g1
    rw[hex,ew]at g2
    have g2:=of_decide_eq_true g2
    have ge:e=0:=by simpa using ge
    have h2:cY (x::X.drop (i+1)) t=cY X s:=h2
    rw[cY,if_pos ⟨by omega,g2⟩,hR,if_neg (fun h=>h ge)]at h2
    have PZ:=dk.2 ge
    have H7:=dk.1.bH
    rw[PZ]at H7
    have H7:u.1.bH=0:=H7
    refine QL.to (i+1,jI x u) ⟨by dsimp only;omega,h2,dk.1.put x (by rw[PZ];show 0+_≤400;omega)⟩ (by dsimp only;omega) ?_
    unfold PV yV
    rw[hex,H6,es _ (by omega) (by omega),fA (by omega)]
    rfl
   case l9=>
    intro g1 g2
    rw[hex,ew]at g2
    have g2:=of_decide_eq_false g2
    obtain⟨k1,k2⟩:=stay [] (fun h=>g2 h.2)
    refine QL.to (i+1,jI x t) ⟨by dsimp only;omega,k1,k2⟩ (by dsimp only;omega) ?_
    unfold PW yV
    rw[hex,H6,es _ (by omega) (by omega),fA (by omega)]
    rfl
   case j4=>
    intro g1
    have g1:=of_decide_eq_false g1
    obtain⟨k1,k2⟩:=stay [] (fun h=>g1 (by have:=h.1;omega))
    refine QL.to (i+1,jI x t) ⟨by dsimp only;omega,k1,k2⟩ (by dsimp only;omega) ?_
    unfold PX yV
    rw[hex,H6,es _ (by omega) (by omega),fA (by omega)]
    rfl
theorem P0(b:ByteArray)(c:Int): -1≤a7 b c:=Lib.indexByte_ge _ _
theorem B8(b:ByteArray)(c:Int)(h:0≤a7 b c):(a7 b c).toNat<b.size:=by
 obtain⟨o,ho⟩:∃o:Nat,a7 b c=o:=⟨(a7 b c).toNat,by omega⟩
 have:=(Lib.indexByte_some (l:=b.data.toList) (c:=c.toNat.toUInt8) (o:=o) ho).1
 have:=(List.getElem?_eq_some_iff.1 this).1
 rw[ho]
 simpa using this
def P1(cs:List ape)(t:apq)(n m:Nat):Prop:=∃b,cs=ai b∧n=b.size∧m=b.size∧t=5
noncomputable def yW(cs:List ape)(t:apq)(n m:Nat):Bool:=@decide (P1 cs t n m) (apF _)
theorem H8{cs:List ape}{t:apq}{n m:Nat}:yW cs t n m=true↔P1 cs t n m:=by unfold yW;exact @decide_eq_true_iff _ (apF _)
noncomputable def H9(a:List ape)(o:List ag):Option (Bool×bx×List ag):=match a,o with
 | [.slice (some ⟨0,0,none⟩) n m,.int .u8 c],[.cells cs t ro]=>some (yW cs t n m,.ret (.int .i64 (a7 (bh cs) c)),[.cells cs t ro])
 |_,_=>none
theorem ad9:bp av9 80 (Sum.of H9):=bp.of fun a o r o' hg=>by
 unfold H9 at hg
 split at hg
 ·rename_i n m c cs t ro
  simp only[api,apn,H8]at hg
  obtain⟨⟨b,rfl,rfl,rfl,rfl⟩,rfl,rfl⟩:=hg
  rw[jl]
  exact aaR b c ro
 ·cases hg
def B9(h:au)(b:ByteArray):au:=⟨h.no,h.at_+(a7 b 10+1),b.extract 0 (max (a7 b 10) 0).toNat,decide (0≤a7 b 10)⟩
def bW(h:au)(d:ay):Int×au×ay:=
 if(aK d h.no h.at_ 65).2.1≠0 then((aK d h.no h.at_ 65).2.1,h,(aK d h.no h.at_ 65).2.2)else(0,B9 h (aK d h.no h.at_ 65).1,(aK d h.no h.at_ 65).2.2)
def dS:List Int→List au→ay→Int×List au×ay
 | [],H,d=>(0,H,d)
 |no::l,H,d=>if(bW ⟨no,0,apj,false⟩ d).1≠0 then((bW ⟨no,0,apj,false⟩ d).1,[],(bW ⟨no,0,apj,false⟩ d).2.2)else dS l (H++[(bW ⟨no,0,apj,false⟩ d).2.1]) (bW ⟨no,0,apj,false⟩ d).2.2
def aP(H:List au)(k:Nat):au:=H.getD k ⟨0,0,apj,false⟩
def jn(f:Bool)(H:List au)(h:au):Option Nat→Bool
 |none=>h.there
 |some j=>h.there&&decide (aV f h.line (aP H j).line<0)
def kw(f:Bool)(H:List au):List au→Nat→Option Nat→Option Nat
 | [],_,k=>k
 |h::l,i,k=>kw f H l (i+1) (if jn f H h k then some i else k)
def eI(f:Bool)(H:List au):Option Nat:=kw f H H 0 none
def kI:Option Nat→Int
 |none=> -1
 |some k=>k
def fK:List Int→ay→Int×ay
 | [],d=>(0,d)
 |no::l,d=>if(eY d no).1≠0 then eY d no else fK l (eY d no).2
def mg(f:Bool)(no:Int):Nat→List au→ay→Int×ay
 |0,_,d=>(0,d)
 |n+1,H,d=>match eI f H with
  |none=>(0,d)
  |some k=>
   if(bO d no (cd (aP H k).line)).1≠0 then bO d no (cd (aP H k).line)
   else if(bW (aP H k) (bO d no (cd (aP H k).line)).2).1≠0 then((bW (aP H k) (bO d no (cd (aP H k).line)).2).1,(bW (aP H k) (bO d no (cd (aP H k).line)).2).2.2)
   else mg f no n (H.set k (bW (aP H k) (bO d no (cd (aP H k).line)).2).2.1) (bW (aP H k) (bO d no (cd (aP H k).line)).2).2.2
noncomputable def sA:Nat:=Classical.choose (⟨1000001,rfl⟩:∃n:Nat,n=1000001)
theorem aea:sA=1000001:=Classical.choose_spec (⟨1000001,rfl⟩:∃n:Nat,n=1000001)
noncomputable def g9(f:Bool)(l:List Int)(d:ay):Int×Int×ay:=
 match bu d with
 |(no,e,d1)=>if e≠0 then(0,e,d1)else match dS l [] d1 with
  |(e,H,d2)=>if e≠0 then(0,e,d2)else match mg f no sA H d2 with
   |(e,d3)=>if e≠0 then(0,e,d3)else(no,fK l d3)
def b7(d:ay)(no:Int):Nat:=((fileOf d.files no).map apk).getD 0
def sB(h:au):Nat:=if h.there then h.line.size+1 else 0
def eJ(d:ay)(h:au):Nat:=b7 d h.no-h.at_.toNat+sB h
def db(d:ay):List au→Nat
 | []=>0
 |h::l=>eJ d h+db d l
structure o5(h:au):Prop where
 iX:0≤h.at_
 lU:h.at_≤1000000
 line:h.line.size≤64
theorem P2(d:ay)(no p k:Int):(aK d no p k).2.2.files=d.files∧(aK d no p k).2.2.made=d.made∧(aK d no p k).2.2.bM=d.bM:=by
 unfold aK
 split
 ·exact⟨rfl,rfl,rfl⟩
 split
 ·exact⟨rfl,rfl,rfl⟩
 split
 ·exact⟨rfl,rfl,rfl⟩
 ·exact⟨rfl,rfl,rfl⟩
theorem cj.read{d:ay}(h:cj d)(no p k:Int):cj (aK d no p k).2.2:=by
 unfold aK
 split
 ·exact h
 split
 ·exact h
 split
 ·exact h.yT
 ·exact h.yT
theorem yX(h:au)(d:ay):(bW h d).2.2.files=d.files∧(bW h d).2.2.made=d.made∧(bW h d).2.2.bM=d.bM:=by
 unfold bW
 split
 ·exact P2 _ _ _ _
 ·exact P2 _ _ _ _
theorem cj.bW{d:ay}(hd:cj d)(h:au):cj (bW h d).2.2:=by
 unfold Go.Proofs.YtnlkkgpcikkpoaaGreat.bW
 split
 ·exact hd.read _ _ _
 ·exact hd.read _ _ _
theorem P3{d:ay}{no p:Int}(h:(aK d no p 65).2.1=0):0≤p∧p.toNat≤b7 d no∧(aK d no p 65).1.size=min (b7 d no-p.toNat) 65:=by
 unfold aK b7 at*
 split at h
 ·cases h
 rename_i f e
 simp only[e]at h⊢
 split at h
 ·cases h
 rename_i h1
 split at h
 ·rename_i h2;exact absurd h h2
 rename_i h2
 rw[if_neg h1,if_neg h2]
 show 0≤p∧p.toNat≤f.size∧(f.extract p.toNat (p.toNat+min (f.size-p.toNat) (65:Int).toNat)).size=_
 refine⟨by omega,by omega,?_⟩
 rw[arQ]
 show _=min (f.size-p.toNat) 65
 have:(65:Int).toNat=65:=rfl
 omega
theorem aeb{d:ay}(hd:cj d)(no:Int):b7 d no≤1000000:=by
 unfold b7
 cases e:fileOf d.files no with
 |none=>simp
 |some f=>
  obtain⟨k,h1,_⟩:=adR e
  exact hd.size _ h1
theorem yY{h:au}{d:ay}(hd:cj d)(he:(bW h d).1=0):(bW h d).2.1.no=h.no∧o5 (bW h d).2.1∧b7 d h.no-(bW h d).2.1.at_.toNat+sB (bW h d).2.1=b7 d h.no-h.at_.toNat:=by
 unfold bW at he⊢
 split at he
 ·rename_i h1;exact absurd he h1
 rename_i h1
 rw[if_neg h1]
 have h1:(aK d h.no h.at_ 65).2.1=0:=aq2.1 h1
 obtain⟨p0,p1,p2⟩:=P3 h1
 have p3:b7 d h.no≤1000000:=aeb hd _
 dsimp only
 generalize(aK d h.no h.at_ 65).1=b at p2⊢
 have k0:=P0 b 10
 have k1:=B8 b 10
 refine⟨rfl,⟨?_,?_,?_⟩,?_⟩
 ·show 0≤h.at_+(a7 b 10+1);omega
 ·show h.at_+(a7 b 10+1)≤1000000
  by_cases hk:0≤a7 b 10
  ·have:=k1 hk;omega
  ·omega
 ·show(b.extract 0 (max (a7 b 10) 0).toNat).size≤64
  rw[arQ]
  by_cases hk:0≤a7 b 10
  ·have:=k1 hk;omega
  ·omega
 ·unfold B9 sB
  by_cases hk:0≤a7 b 10
  ·have:=k1 hk
   simp only[hk,decide_true,if_true,arQ]
   omega
  ·simp only[hk,decide_false,aqi,if_false]
   omega
theorem qV{d d':ay}(h:d'.files=d.files)(no:Int):b7 d' no=b7 d no:=by unfold b7;rw[h]
def eK(d:ay):List Int→Nat
 | []=>0
 |no::l=>b7 d no+eK d l
theorem wx(d:ay)(a b:List Int):eK d (a++b)=eK d a+eK d b:=by
 induction a with
 |nil=>show eK d b=0+eK d b;omega
 |cons x a ih=>show b7 d x+eK d (a++b)=b7 d x+eK d a+eK d b;omega
theorem Ca{d d':ay}(h:d'.files=d.files)(l:List au):db d' l=db d l:=by
 induction l with
 |nil=>rfl
 |cons x l ih=>unfold db eJ;rw[ih,qV h]
theorem aec(d:ay)(a b:List au):db d (a++b)=db d a+db d b:=by
 induction a with
 |nil=>show db d b=0+db d b;omega
 |cons x a ih=>show eJ d x+db d (a++b)=eJ d x+db d a+db d b;omega
theorem aed{d d':ay}{l:List au}(h:∀x∈l,b7 d' x.no≤b7 d x.no):db d' l≤db d l:=by
 induction l with
 |nil=>exact apI _
 |cons x l ih=>
  have h1:=h x List.mem_cons_self
  have h2:=ih fun y hy=>h y (List.mem_cons_of_mem _ hy)
  unfold db eJ
  omega
structure P4(d:ay)(l:List Int)(H:List au):Prop where
 Cb:H.map (·.no)=l
 ok:∀h∈H,o5 h
 eJ:db d H≤eK d l
theorem wy:∀(l:List Int) (H:List au) (d:ay),cj d→cj (dS l H d).2.2∧(dS l H d).2.2.files=d.files∧(dS l H d).2.2.made=d.made∧(dS l H d).2.2.bM=d.bM
 | [],H,d,h=>⟨h,rfl,rfl,rfl⟩
 |no::l,H,d,h=>by
  unfold dS
  obtain⟨f1,f2,f3⟩:=yX ⟨no,0,apj,false⟩ d
  have hd:=h.bW ⟨no,0,apj,false⟩
  split
  ·exact⟨hd,f1,f2,f3⟩
  ·obtain⟨g0,g1,g2,g3⟩:=wy l (H++[(bW ⟨no,0,apj,false⟩ d).2.1]) (bW ⟨no,0,apj,false⟩ d).2.2 hd
   exact⟨g0,g1.trans f1,g2.trans f2,g3.trans f3⟩
theorem yZ:∀(l l0:List Int) (H:List au) (d d0:ay),cj d→d.files=d0.files→P4 d0 l0 H→(dS l H d).1=0→P4 d0 (l0++l) (dS l H d).2.1
 | [],l0,H,d,d0,hd,hf,ho,he=>by rw[aqF];exact ho
 |no::l,l0,H,d,d0,hd,hf,ho,he=>by
  unfold dS at he⊢
  split at he
  ·rename_i h1;exact absurd he h1
  rename_i h1
  rw[if_neg h1]
  obtain⟨f1,f2,f3⟩:=yX ⟨no,0,apj,false⟩ d
  obtain⟨r1,r2,r3⟩:=yY hd (aq2.1 h1)
  have:=yZ l (l0++[no]) (H++[(bW ⟨no,0,apj,false⟩ d).2.1]) (bW ⟨no,0,apj,false⟩ d).2.2 d0 (hd.bW _) (f1.trans hf) ⟨?_,?_,?_⟩ he
  ·rw[apK]at this;exact this
  ·rw[aqa,ho.Cb];exact congrArg (fun z=>l0++[z]) r1
  ·intro h hh
   rcases apN.1 hh with hh|hh
   ·exact ho.ok h hh
   ·rw[aqd.1 hh];exact r2
  ·rw[aec,wx]
   have h2:=ho.eJ
   have h3:db d0 [(bW ⟨no,0,apj,false⟩ d).2.1]=eJ d0 (bW ⟨no,0,apj,false⟩ d).2.1+0:=rfl
   have h4:eK d0 [no]=b7 d0 no+0:=rfl
   have h5:eJ d0 (bW ⟨no,0,apj,false⟩ d).2.1≤b7 d0 no:=by
    unfold eJ
    rw[r1]
    have h6:b7 d no=b7 d0 no:=qV hf no
    rw[h6]at r3
    show b7 d0 no-_+_≤_
    omega
   omega
theorem P5(f:Bool)(H:List au):∀(l:List au) (i:Nat) (k:Option Nat),H.drop i=l→(∀j,k=some j→j<H.length∧(aP H j).there=true)→∀j,kw f H l i k=some j→j<H.length∧(aP H j).there=true
 | [],i,k,hl,hk,j,h=>hk j h
 |h::l,i,k,hl,hk,j,hj=>by
  unfold kw at hj
  have hi:i<H.length:=by
   have:=congrArg apb hl
   rw[List.length_drop,List.length_cons]at this
   omega
  refine P5 f H l (i+1) _ (by rw[←List.tail_drop,hl];rfl) ?_ j hj
  intro j' kH
  split at kH
  ·rename_i hc
   cases kH
   refine⟨hi,?_⟩
   have e:aP H i=h:=by
    unfold aP
    rw[List.getD_eq_getElem?_getD]
    have:(H.drop i)[0]?=some h:=by rw[hl];rfl
    rw[List.getElem?_drop,Nat.add_zero]at this
    rw[this];rfl
   rw[e]
   unfold jn at hc
   split at hc
   ·exact hc
   ·rw[apt]at hc;exact hc.1
  ·exact hk j' kH
theorem wz{f:Bool}{H:List au}{k:Nat}(h:eI f H=some k):k<H.length∧(aP H k).there=true:=
 P5 f H H 0 none rfl (fun j hj=>by cases hj) k h
theorem P6(d:ay)(no:Int)(b:ByteArray):b7 (bO d no b).2 no≤b7 d no+b.size:=by
 cases e:fileOf (bO d no b).2.files no with
 |none=>unfold b7;rw[e];simp
 |some f=>
  obtain⟨g,g1,g2⟩:=HU e
  unfold b7;rw[e,g1];exact g2
theorem aee{l:List (Nat×ByteArray)}{no m:Int}{b:ByteArray}(h:m≠no):fileOf (lq l no b) m=fileOf l m:=by
 unfold fileOf lq
 induction l with
 |nil=>rfl
 |cons p l ih=>
  rw[aqb,arY,arY]
  by_cases e:(p.1:Int)=no
  ·have e1:((p.1:Int)==no)=true:=by simpa using e
   have e2:((p.1:Int)==m)=false:=by rw[beq_eq_false_iff_ne];omega
   simp only[e1,if_true,e2]
   exact ih
  ·have e1:((p.1:Int)==no)=false:=by simpa using e
   simp only[e1,aqi,if_false]
   cases e2:((p.1:Int)==m)with
   |true=>rfl
   |false=>exact ih
theorem Ia(d:ay){no m:Int}(b:ByteArray)(h:m≠no):b7 (bO d no b).2 m=b7 d m:=by
 unfold bO
 split
 ·rfl
 split
 ·rfl
 split
 ·rfl
 ·unfold b7;rw[show(ay.files {gT d with files:=lq d.files no b})=lq d.files no b from rfl,aee h]
theorem P7(d:ay)(no m:Int):b7 (eY d no).2 m≤b7 d m:=by
 unfold eY
 split
 ·exact apI _
 split
 ·exact apI _
 ·unfold b7
  show((fileOf (oW d.files no) m).map apk).getD 0≤_
  by_cases e:m=no
  ·subst e
   have:fileOf (oW d.files m) m=none:=by
    unfold fileOf oW
    rw[Option.map_eq_none_iff,asj]
    intro p hp
    rw[ath]at hp
    simpa using hp.2
   rw[this];exact ap7 _
  ·have:fileOf (oW d.files no) m=fileOf d.files m:=by
    unfold fileOf oW
    induction d.files with
    |nil=>rfl
    |cons p l ih=>
     rw[List.filter_cons,arY]
     by_cases e1:(p.1:Int)=no
     ·have e2:((p.1:Int)==m)=false:=by rw[beq_eq_false_iff_ne];omega
      have e3:((p.1:Int)==no)=true:=by simpa using e1
      simp only[e3,Bool.not_true,aqi,if_false,e2]
      exact ih
     ·have e3:((p.1:Int)==no)=false:=by simpa using e1
      simp only[e3,Bool.not_false,if_true,arY]
      cases e2:((p.1:Int)==m)with
      |true=>rfl
      |false=>exact ih
   rw[this];exact apI _
theorem cj.remove{d:ay}(h:cj d)(no:Int):cj (eY d no).2∧(eY d no).2.made=d.made:=by
 unfold eY
 split
 ·exact⟨h,rfl⟩
 split
 ·exact⟨h.yT,rfl⟩
 ·refine⟨⟨h.bQ,h.made,fun p hp=>h.keys p (ath.1 hp).1,?_,fun p hp=>h.size p (ath.1 hp).1,BZ _⟩,rfl⟩
  exact h.fX.sublist (av8 _ List.filter_sublist)
theorem Cc:∀(l:List Int) (d:ay),cj d→cj (fK l d).2∧(fK l d).2.made=d.made∧∀m,b7 (fK l d).2 m≤b7 d m
 | [],d,h=>⟨h,rfl,fun m=>apI _⟩
 |no::l,d,h=>by
  unfold fK
  obtain⟨h1,h2⟩:=h.remove no
  split
  ·exact⟨h1,h2,fun m=>P7 d no m⟩
  ·obtain⟨g1,g2,g3⟩:=Cc l (eY d no).2 h1
   exact⟨g1,g2.trans h2,fun m=>Nat.le_trans (g3 m) (P7 d no m)⟩
end Go.Proofs.YtnlkkgpcikkpoaaGreat
