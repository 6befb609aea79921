/- Part of the proof: StW, SoA, Sst, SoB, SoC, Sss, SoD, Zoa, Zob, Zoc, Zoe, Zod, Zof, Zog, Zoh, Zpa. -/
import Derived.Test.YtnlkkgpcikkpoaaGreatJAh
import Derived.KernelRfl
import Derived.Test.YtnlkkgpcikkpoaaGreatJAg
import Derived.Lib.Bytealg
import Derived.Lib.IndexLaws
open Array renaming toArray_toList->asB,toList->arN
open Bool renaming and_eq_true->BV,and_self->atn,false_eq_true->asv,true_and->at2
open ByteArray renaming data->arK,empty->KI,size->DD,size_append->atS,size_extract->at8
open Classical renaming propDecidable->arT
open Decidable renaming not_not->ate
open Go renaming Code->ar3,FuncId->arY,TypeId->KS,Value->Dy
open Go.IntKind renaming i64->Ul,u8->Um,wrap->m6
open Go.Proofs.Tryz renaming prog->fK
open Go.Value renaming int->KJ,string->arS
open Int renaming eq_ofNat_of_zero_le->asV,toNat->m5
open List renaming all->DC,append_assoc->arI,append_nil->asg,drop_drop->asI,drop_length->avu,eq_nil_of_length_eq_zero->ar5,find?->awe,find?_cons->atz,find?_eq_none->aub,getElem?_eq_getElem->KH,length->nG,length_append->KO,map->arV,map_append->asm,map_congr_left->atc,map_cons->asn,map_map->at1,mem_append->arL,mem_filter->auX,mem_map->as8,mem_singleton->ar0,take->arP,take_of_length_le->asN
open List.Sublist renaming map->ayy
open Nat renaming beq->arE,beq_refl->asx,ble->arM,ble_eq_true_of_le->arZ,eq_of_beq_eq_true->arJ,le_refl->arO,zero_le->asb
open Option.some renaming injEq->DE
open Prod renaming fst->KM,snd->arQ
open Prod.mk renaming injEq->KN
open UInt8 renaming ofInt->awG,toNat->arR
set_option linter.unusedVariables false
set_option linter.unusedSimpArgs false
set_option maxRecDepth 100000
namespace Go.Proofs.YtnlkkgpcikkpoaaGreat
section
variable {α:Type} {c:α->α->Int}
inductive jg(c:α->α->Int)(z:Nat):List α->Prop
 |last {l:List α}:l.length<=z->dp c l->jg c z l
 |cons {l l':List α}:l.length=z->dp c l->jg c z l'->jg c z (l++l')
inductive Full(c:α->α->Int)(z:Nat):List α->Prop
 |nil:Full c z []
 |snoc {T l:List α}:Full c z T->l.length=z->dp c l->Full c z (T++l)
theorem Full.aH{z:Nat}{T W:List α}(h:Full c z T):jg c z W->jg c z (T++W):=by
 induction h generalizing W with
 |nil=>exact id
 |snoc _ h1 h2 ih=>intro hw;rw[arI];exact ih (.cons h1 h2 hw)
theorem jg.one{z:Nat}{l:List α}(h:jg c z l)(hl:l.length<=z):dp c l:=by
 cases h with
 |last _ h=>exact h
 |@cons x y h1 h2 h3=>
  rw[KO]at hl
  have:y=[]:=ar5 (by omega)
  subst this
  rw[asg];exact h2
theorem jg.head{z:Nat}{l:List α}(h:jg c z l)(hl:z<l.length):∃X Y,l=X++Y/\X.length=z/\dp c X/\jg c z Y:=by
 cases h with
 |last h1 _=>omega
 |cons h1 h2 h3=>exact⟨_,_,rfl,h1,h2,h3⟩
theorem jg.nil{z:Nat}:jg c z ([]:List α):=.last (asb _) .nil
theorem jg.two{z:Nat}{l:List α}(h:jg c z l)(hz:0<z)(hl:2*z<=l.length):∃X Y W,l=X++(Y++W)/\X.length=z/\Y.length=z/\dp c X/\dp c Y/\jg c z W:=by
 obtain⟨X,Y,rfl,h1,h2,h3⟩:=h.head (by omega)
 rw[KO]at hl
 by_cases hy:z<Y.length
 ·obtain⟨X',W,rfl,g1,g2,g3⟩:=h3.head hy
  exact⟨X,X',W,rfl,h1,g1,h2,g2,g3⟩
 ·exact⟨X,Y,[],by simp,h1,by omega,h2,h3.one (by omega),jg.nil⟩
structure mO(c:α->α->Int)(L:List α)(z a:Nat)(M:List α):Prop where
 it:∃T U,M=T++U/\T.length=a/\Full c (2*z) T/\jg c z U
 perm:M.Perm L
theorem mO.start{L M:List α}{z:Nat}(h:jg c z M)(hp:M.Perm L):mO c L z 0 M:=⟨⟨[],M,rfl,rfl,.nil,h⟩,hp⟩
theorem Cy{L:List α}{a b:Nat}(h:a<=b):(b9 c L a b).Perm L:=by
 unfold b9
 conv=>rhs;rw[th L h]
 exact((ib _).append_right _).append_left _
theorem mO.pre{L M:List α}{z a:Nat}(h:mO c L z a M)(hz:0<z)(hb:a+2*z<=M.length):dp c (aM M a (a+z))/\dp c (aM M (a+z) (a+2*z)):=by
 obtain⟨⟨T,U,rfl,hT,_,hU⟩,_⟩:=h
 rw[KO]at hb
 obtain⟨X,Y,W,rfl,h1,h2,h3,h4,h5⟩:=hU.two hz (by omega)
 constructor
 ·rw[oU hT (by omega)];exact h3
 ·rw[<-arI,oU (by rw[KO];omega) (by omega)];exact h4
theorem mO.step{L M:List α}{z a:Nat}(t:TO c)(h:mO c L z a M)(hz:0<z)(hb:a+2*z<=M.length):mO c L z (a+2*z) (b9 c M a (a+2*z)):=by
 have hp:=(Cy (c:=c) (L:=M) (a:=a) (b:=a+2*z) (by omega)).trans h.perm
 obtain⟨⟨T,U,rfl,hT,hF,hU⟩,_⟩:=h
 rw[KO]at hb
 obtain⟨X,Y,W,rfl,h1,h2,h3,h4,h5⟩:=hU.two hz (by omega)
 refine⟨?_,hp⟩
 rw[show T++(X++(Y++W))=T++((X++Y)++W)by simp,wY hT (by omega) (by rw[KO];omega)]
 have hl:(bb c (X++Y)).length=2*z:=by rw[lG,KO];omega
 exact⟨T++bb c (X++Y),W,by simp,by rw[KO];omega,.snoc hF hl (ny t _),h5⟩
theorem mO.aeO{L M:List α}{z a:Nat}(h:mO c L z a M)(hb:M.length<a+2*z)(hm:a+z<M.length):dp c (aM M a (a+z))/\dp c (aM M (a+z) M.length):=by
 obtain⟨⟨T,U,rfl,hT,_,hU⟩,_⟩:=h
 simp only[KO]at hb hm⊢
 obtain⟨X,Y,rfl,h1,h2,h3⟩:=hU.head (by omega)
 simp only[KO]at hb hm⊢
 constructor
 ·rw[oU hT (by omega)];exact h2
 ·have:=oU (T:=T++X) (X:=Y) (D:=[]) (a:=a+z) (b:=T.length+(X.length+Y.length)) (by rw[KO];omega) (by omega)
  rw[asg,arI]at this
  rw[this];exact h3.one (by omega)
theorem mO.aeP{L M:List α}{z a:Nat}(t:TO c)(h:mO c L z a M)(ha:a<=M.length)(hb:M.length<a+2*z):jg c (2*z) (b9 c M a M.length)/\(b9 c M a M.length).Perm L:=by
 refine⟨?_,(Cy ha).trans h.perm⟩
 obtain⟨⟨T,U,rfl,hT,hF,hU⟩,_⟩:=h
 simp only[KO]at hb ha⊢
 have:=wY (c:=c) (T:=T) (X:=U) (D:=[]) (a:=a) (b:=T.length+U.length) hT (by omega) (by omega)
 rw[asg,asg]at this
 rw[this]
 exact hF.aH (.last (by rw[lG];omega) (ny t _))
theorem mO.aeQ{L M:List α}{z a:Nat}(h:mO c L z a M)(hm:M.length<=a+z):jg c (2*z) M/\M.Perm L:=by
 refine⟨?_,h.perm⟩
 obtain⟨⟨T,U,rfl,hT,hF,hU⟩,_⟩:=h
 rw[KO]at hm
 exact hF.aH (.last (by omega) (hU.one (by omega)))
structure rN(c:α->α->Int)(L:List α)(z a:Nat)(M:List α):Prop where
 it:∃T U,M=T++U/\T.length=a/\Full c z T
 perm:M.Perm L
theorem rN.start(c:α->α->Int)(L:List α)(z:Nat):rN c L z 0 L:=⟨⟨[],L,rfl,rfl,.nil⟩,.refl _⟩
theorem rN.step{L M:List α}{z a:Nat}(t:TO c)(h:rN c L z a M)(hb:a+z<=M.length):rN c L z (a+z) (b9 c M a (a+z)):=by
 have hp:=(Cy (c:=c) (L:=M) (a:=a) (b:=a+z) (by omega)).trans h.perm
 refine⟨?_,hp⟩
 obtain⟨⟨T,U,rfl,hT,hF⟩,_⟩:=h
 rw[KO]at hb
 have hX:(U.take z).length=z:=by rw[List.length_take];omega
 have e:T++U=T++(U.take z++U.drop z):=by rw[List.take_append_drop]
 rw[e,wY hT (by omega) (by omega)]
 have hl:(bb c (U.take z)).length=z:=by rw[lG];exact hX
 exact⟨T++bb c (U.take z),U.drop z,by simp,by rw[KO];omega,.snoc hF hl (ny t _)⟩
theorem rN.done{L M:List α}{z a:Nat}(t:TO c)(h:rN c L z a M)(ha:a<=M.length)(hb:M.length<a+z):jg c z (b9 c M a M.length)/\(b9 c M a M.length).Perm L:=by
 refine⟨?_,(Cy ha).trans h.perm⟩
 obtain⟨⟨T,U,rfl,hT,hF⟩,_⟩:=h
 simp only[KO]at hb ha⊢
 have:=wY (c:=c) (T:=T) (X:=U) (D:=[]) (a:=a) (b:=T.length+U.length) hT (by omega) (by omega)
 rw[asg,asg]at this
 rw[this]
 exact hF.aH (.last (by rw[lG];omega) (ny t _))
theorem jg.done{L M:List α}{z:Nat}(t:TO c)(h:jg c z M)(hp:M.Perm L)(hz:M.length<=z):M=bb c L:=wX t hp (h.one hz)
end
end Go.Proofs.YtnlkkgpcikkpoaaGreat
namespace Go.Proofs.YtnlkkgpcikkpoaaGreat
open Go Vm Go.RowKit
noncomputable def IK(a:List Dy)(o:List ak):Option (Bool×bD×List ak):=match a,o with
 | [.slice (some ⟨0,0,none⟩) n m,.int .i64 x,.int .i64 y,.func (.func f) c1 c2],ak.cells c t r::ak.cells e t2 r2::l=>match c1.toList,c2.toList with
  | [.pointer (some ⟨1,0,none⟩)],[]=>match(e[70]?:Option Dy)with
   |some (.bool fl)=>some (jf (.cells c t r:: .cells e t2 r2::l) n&&(arE m n&&(arE f 74&&(decide (0<=x)&&(decide (x<=y)&&decide (y<=n))))),.ret (.tuple #[]),.cells (ah (b9 (aN fl) (di c) x.toNat y.toNat)) t r:: .cells e t2 r2::l)
   |_=>none
  |_,_=>none
 |_,_=>none
theorem aeR:bB fK 121 (Sum.dQ fK IK):=bB.dQ λa o r o' hg=>by
 unfold IK at hg
 split at hg
 ·rename_i n m x y f c1 c2 c t ro e t2 r2 l
  split at hg
  ·rename_i h1 h2
   split at hg
   ·rename_i fl gE
    simp only[DE,KN,BV,decide_eq_true_eq]at hg
    obtain⟨⟨g1,g2,g3,p1,p2,p3⟩,rfl,rfl⟩:=hg
    have g2:=arJ g2
    have g3:=arJ g3
    obtain⟨S,R,H,d,L,he,hl,hn⟩:=@of_decide_eq_true _ (arT _) g1
    have e1:c1= #[.pointer (some ⟨1,0,none⟩)]:=by rw[<-asB (xs:=c1),h1]
    have e2:c2= #[]:=by rw[<-asB (xs:=c2),h2]
    subst g2 g3 e1 e2
    obtain⟨x,rfl⟩:=asV p1
    obtain⟨y,rfl⟩:=asV (show 0<=y by omega)
    unfold da at he
    injection he with pN eH
    injection eH with eH rM
    injection pN with hc ht hr
    injection eH with jj kv eT
    subst hc ht hr jj kv eT rM
    have:(aL S 2 0 3 4)[70]?=some (.bool S.aC):=rfl
    rw[this]at gE
    cases gE
    refine(ac5 S R H d L _ x y hl hn (by omega) (by omega)).mono ?_
    rintro r o ⟨rfl,rfl⟩
    exact⟨rfl,by rw[je];rfl⟩
   ·cases hg
  ·cases hg
 ·cases hg
noncomputable def aeS:List (arY×Sum):=[(121,Sum.dQ fK IK),(122,Sum.dQ fK (oW 1000000))]
theorem Cz:dD fK (dM fK (dP aeS) 50 40):=dU dC mixed (ee (.cons aeR (.cons (aeN 1000000) .nil))) 50 40
noncomputable section
def zp:List ar3:=a7 (dI fK 99)
open Tree renaming aQ->mN,dE->mF,fj->mL,fY->mQ,dN->mR,gH->mE
abbrev IL:List ar3:=(a7 (inner (a7 (inner (zp.drop 4)))))
abbrev CA:List ar3:=(a7 (inner (IL.drop 2)))
abbrev IM:List ar3:=(a7 (inner (a7 (inner (zp.drop 2)))))
abbrev IP:List ar3:=(a7 (inner (a7 (inner (CA.drop 1)))))
abbrev Qz:List ar3:=(zp.drop 3)
abbrev ol:=λS R H d L=>([ab (ah L) 9,ab (aL S 2 0 3 4) 89,.abs d,ab (ay R) 3,ab (an H) 114]:List ak)
abbrev QC:=λS R H d (n:Nat) L=>(⟨[(0,aq 0 n),(1,aa n),(2,.func (.func 74) #[ap 1] #[]),(6,aa 20),(7,aa 0),(8,aa 20)],ol S R H d L⟩:ai)
abbrev aeT:=λS R H d (n:Nat) L=>(⟨[(0,aq 0 n),(1,aa n),(2,.func (.func 74) #[ap 1] #[])],ol S R H d L⟩:ai)
theorem aeU(S R H d)(n:Nat)(L)(pH:(an H).all ag=true)(hn:(nG L)=n){Q:aU}(l3:ao fK 63 5 (zp.drop 2) (QC S R H d n L) Q):ao fK 63 5 zp (aeT S R H d n L) Q:=
 aV bp 2 (.leaf [0,1,2,6,7,8] [0,1,2,3,4] [0,3,4]) (λu=>by kernel_rfl) (aO L R H (mQ l3))
abbrev aeV:=λS R H d (n:Nat) L (z a b:Int)=>(⟨[(0,aq 0 n),(1,aa n),(2,.func (.func 74) #[ap 1] #[]),(6,aa z),(7,aa a),(8,aa b)],ol S R H d L⟩:ai)
abbrev aeW:=λS R H d (n:Nat) L (z a b:Int)=>(⟨[(0,aq 0 n),(1,aa n),(2,.func (.func 74) #[ap 1] #[]),(6,aa z),(7,aa a)],ol S R H d L⟩:ai)
abbrev CB:=λS R H d (n:Nat) L (z a b:Int)=>(⟨[(0,aq 0 n),(1,aa n),(2,.func (.func 74) #[ap 1] #[]),(6,aa z),(7,aa a),(8,aa b)],ol S R H d L⟩:ai)
theorem aeX(S R H d)(n:Nat)(L)(z a b:Int)(pH:(an H).all ag=true)(hn:(nG L)=n){Q:aU}(l3:(decide (b<=(↑n:Int)))->ao fK 63 5 (IM.drop 2) (aeV S R H d n L z a b) Q)(l4:(decide (b<=(↑n:Int)))=false->Q (.exit 0) (aeW S R H d n L z a b)):ao fK 63 5 IM (CB S R H d n L z a b) Q:=
 aV bp 2 (.fork 0 (.leaf [0,1,2,6,7,8] [0,1,2,3,4] [0,3,4]) (.leaf [0,1,2,6,7] [0,1,2,3,4] [0,3,4])) (λu=>by kernel_rfl) (mF (c:=decide (b<=(↑n:Int))) (λh0=>(aO L R H (mQ (l3 h0)))) (λh0=>(aO L R H (mE 0 (l4 h0)))))
abbrev QD:=λS R H d (n:Nat) L (z a b:Int)=>(⟨[(0,aq 0 n),(1,aa n),(2,.func (.func 74) #[ap 1] #[]),(6,aa z),(7,aa b),(8,.int .i64 (m6 .i64 (b+z)))],[ab (ah (b9 (aN (ad.aC S)) (di (ah L)) (m5 a) (m5 b))) 9,ab (aL S 2 0 3 4) 89,.abs d,ab (ay R) 3,ab (an H) 114]⟩:ai)
theorem aeY(S R H d)(n:Nat)(L)(z a b:Int)(pH:(an H).all ag=true)(hn:(nG L)=n)(h0:0<=a)(h1:a<=b)(h2:b<=n)(h3:m6 .i64 (b+z)=b+z){Q:aU}(n0:(jf [ab (ah L) 9,ab (aL S 2 0 3 4) 89,ak.abs d,ab (ay R) 3,ab (an H) 114] n&&(arE n n&&(arE 74 74&&(decide (0<=a)&&(decide (a<=b)&&decide (b<=(↑n:Int)))))))=true)(l3:Q .normal (QD S R H d n L z a b)):ao fK 63 5 (IM.drop 2) (CB S R H d n L z a b) Q:=
 aV Cz 1000 (aB [3,1,1,1,1,1,1] (.leaf [0,1,2,6,7,8] [0,1,2,3,4] [0,3,4])) (λu=>by kernel_rfl) (aO L R H (mN n0 (mN (aW (b9 (aN (ad.aC S)) (di (ah L)) (m5 a) (m5 b))) (mN (aS R) (mN (aZ H) (mN (aW (b9 (aN (ad.aC S)) (di (ah L)) (m5 a) (m5 b))) (mN (aS R) (mN (aZ H) (mQ (ao.done (by kernel_rfl) l3))))))))))
abbrev IQ:=λS R H d (n:Nat) L (z a:Int)=>(⟨[(0,aq 0 n),(1,aa n),(2,.func (.func 74) #[ap 1] #[]),(6,aa z)],[ab (ah (b9 (aN (ad.aC S)) (di (ah L)) (m5 a) (m5 (↑n:Int)))) 9,ab (aL S 2 0 3 4) 89,.abs d,ab (ay R) 3,ab (an H) 114]⟩:ai)
abbrev QF:=λS R H d (n:Nat) L (z a:Int)=>(⟨[(0,aq 0 n),(1,aa n),(2,.func (.func 74) #[ap 1] #[]),(6,aa z),(7,aa a)],ol S R H d L⟩:ai)
theorem aeZ(S R H d)(n:Nat)(L)(z a:Int)(pH:(an H).all ag=true)(hn:(nG L)=n)(h0:0<=a)(h1:a<=n){Q:aU}(n0:(jf [ab (ah L) 9,ab (aL S 2 0 3 4) 89,ak.abs d,ab (ay R) 3,ab (an H) 114] n&&(arE n n&&(arE 74 74&&(decide (0<=a)&&(decide (a<=(↑n:Int))&&decide ((↑n:Int)<=(↑n:Int)))))))=true)(l3:ao fK 63 5 (Qz.drop 1) (IQ S R H d n L z a) Q):ao fK 63 5 Qz (QF S R H d n L z a) Q:=
 aV Cz 1 (aB [3,1,1,1,1,1,1] (.leaf [0,1,2,6] [0,1,2,3,4] [0,3,4])) (λu=>by kernel_rfl) (aO L R H (mN n0 (mN (aW (b9 (aN (ad.aC S)) (di (ah L)) (m5 a) (m5 (↑n:Int)))) (mN (aS R) (mN (aZ H) (mN (aW (b9 (aN (ad.aC S)) (di (ah L)) (m5 a) (m5 (↑n:Int)))) (mN (aS R) (mN (aZ H) (mQ l3)))))))))
abbrev ae0:=λS R H d (n:Nat) L (z:Int)=>(⟨[(0,aq 0 n),(1,aa n),(2,.func (.func 74) #[ap 1] #[]),(6,aa z)],ol S R H d L⟩:ai)
abbrev ae1(S:ad)(R:List Int)(H:List au)(d:aA)(n:Nat)(L:List ByteArray)(z:Int):ai:=⟨[],ol S R H d L⟩
abbrev QG:=λS R H d (n:Nat) L (z:Int)=>(⟨[(0,aq 0 n),(1,aa n),(2,.func (.func 74) #[ap 1] #[]),(6,aa z)],ol S R H d L⟩:ai)
theorem ae2(S R H d)(n:Nat)(L)(z:Int)(pH:(an H).all ag=true)(hn:(nG L)=n){Q:aU}(l3:(decide (z<(↑n:Int)))->ao fK 63 5 (IL.drop 2) (ae0 S R H d n L z) Q)(l4:(decide (z<(↑n:Int)))=false->Q (.exit 2) (ae1 S R H d n L z)):ao fK 63 5 IL (QG S R H d n L z) Q:=
 aV bp 2 (.fork 0 (.leaf [0,1,2,6] [0,1,2,3,4] [0,3,4]) (.leaf [] [0,1,2,3,4] [0,3,4])) (λu=>by kernel_rfl) (mF (c:=decide (z<(↑n:Int))) (λh0=>(aO L R H (mQ (l3 h0)))) (λh0=>(aO L R H (mE 2 (l4 h0)))))
abbrev IR:=λS R H d (n:Nat) L (z:Int)=>(⟨[(0,aq 0 n),(1,aa n),(2,.func (.func 74) #[ap 1] #[]),(6,aa z),(7,aa 0),(8,.int .i64 (m6 .i64 (2*z)))],ol S R H d L⟩:ai)
theorem ae3(S R H d)(n:Nat)(L)(z:Int)(pH:(an H).all ag=true)(hn:(nG L)=n)(h0:m6 .i64 (2*z)=2*z){Q:aU}(l3:ao fK 63 5 (CA.drop 1) (IR S R H d n L z) Q):ao fK 63 5 CA (QG S R H d n L z) Q:=
 aV bp 1 (.leaf [0,1,2,6,7,8] [0,1,2,3,4] [0,3,4]) (λu=>by kernel_rfl) (aO L R H (mQ l3))
abbrev ae4:=λS R H d (n:Nat) L (z a b:Int)=>(⟨[(0,aq 0 n),(1,aa n),(2,.func (.func 74) #[ap 1] #[]),(6,aa z),(7,aa a),(8,aa b)],ol S R H d L⟩:ai)
abbrev ae5:=λS R H d (n:Nat) L (z a b:Int)=>(⟨[(0,aq 0 n),(1,aa n),(2,.func (.func 74) #[ap 1] #[]),(6,aa z),(7,aa a)],ol S R H d L⟩:ai)
theorem ae6(S R H d)(n:Nat)(L)(z a b:Int)(pH:(an H).all ag=true)(hn:(nG L)=n){Q:aU}(l3:(decide (b<=(↑n:Int)))->ao fK 63 5 (IP.drop 2) (ae4 S R H d n L z a b) Q)(l4:(decide (b<=(↑n:Int)))=false->Q (.exit 4) (ae5 S R H d n L z a b)):ao fK 63 5 IP (CB S R H d n L z a b) Q:=
 aV bp 2 (.fork 0 (.leaf [0,1,2,6,7,8] [0,1,2,3,4] [0,3,4]) (.leaf [0,1,2,6,7] [0,1,2,3,4] [0,3,4])) (λu=>by kernel_rfl) (mF (c:=decide (b<=(↑n:Int))) (λh0=>(aO L R H (mQ (l3 h0)))) (λh0=>(aO L R H (mE 4 (l4 h0)))))
abbrev QH:=λS R H d (n:Nat) L (z a b:Int)=>(⟨[(0,aq 0 n),(1,aa n),(2,.func (.func 74) #[ap 1] #[]),(6,aa z),(7,aa b),(8,.int .i64 (m6 .i64 (b+m6 .i64 (2*z))))],[ab (ah (b9 (aN (ad.aC S)) (di (ah L)) (m5 a) (m5 b))) 9,ab (aL S 2 0 3 4) 89,.abs d,ab (ay R) 3,ab (an H) 114]⟩:ai)
theorem ae7(S R H d)(n:Nat)(L)(z a b:Int)(pH:(an H).all ag=true)(hn:(nG L)=n)(h0:m6 .i64 (a+z)=a+z)(h1:m6 .i64 (2*z)=2*z)(h2:m6 .i64 (b+2*z)=b+2*z){Q:aU}(n0:(jf [ab (ah L) 9,ab (aL S 2 0 3 4) 89,ak.abs d,ab (ay R) 3,ab (an H) 114] n&&(arE n n&&(arE 74 74&&u0 (aN (ad.aC S)) (di (ah L)) n a (m6 .i64 (a+z)) b 1000000))))(l3:Q .normal (QH S R H d n L z a b)):ao fK 63 5 (IP.drop 2) (CB S R H d n L z a b) Q:=
 aV Cz 1000 (aB [3,1,1,1,1,1,1] (.leaf [0,1,2,6,7,8] [0,1,2,3,4] [0,3,4])) (λu=>by kernel_rfl) (aO L R H (mN n0 (mN (aW (b9 (aN (ad.aC S)) (di (ah L)) (m5 a) (m5 b))) (mN (aS R) (mN (aZ H) (mN (aW (b9 (aN (ad.aC S)) (di (ah L)) (m5 a) (m5 b))) (mN (aS R) (mN (aZ H) (mQ (ao.done (by kernel_rfl) l3))))))))))
abbrev QI:=λS R H d (n:Nat) L (z a:Int)=>(⟨[(0,aq 0 n),(1,aa n),(2,.func (.func 74) #[ap 1] #[]),(6,.int .i64 (m6 .i64 (z*2)))],[ab (ah (b9 (aN (ad.aC S)) (di (ah L)) (m5 a) (m5 (↑n:Int)))) 9,ab (aL S 2 0 3 4) 89,.abs d,ab (ay R) 3,ab (an H) 114]⟩:ai)
abbrev QJ:=λS R H d (n:Nat) L (z a:Int)=>(⟨[(0,aq 0 n),(1,aa n),(2,.func (.func 74) #[ap 1] #[]),(6,.int .i64 (m6 .i64 (z*2)))],ol S R H d L⟩:ai)
theorem ae8(S R H d)(n:Nat)(L)(z a:Int)(pH:(an H).all ag=true)(hn:(nG L)=n)(h0:m6 .i64 (a+z)=a+z)(h1:m6 .i64 (z*2)=z*2){Q:aU}(n0:(decide (m6 .i64 (a+z)<(↑n:Int)))->(jf [ab (ah L) 9,ab (aL S 2 0 3 4) 89,ak.abs d,ab (ay R) 3,ab (an H) 114] n&&(arE n n&&(arE 74 74&&u0 (aN (ad.aC S)) (di (ah L)) n a (m6 .i64 (a+z)) (↑n:Int) 1000000)))=true)(l3:(decide (m6 .i64 (a+z)<(↑n:Int)))->Q .normal (QI S R H d n L z a))(l5:(decide (m6 .i64 (a+z)<(↑n:Int)))=false->Q .normal (QJ S R H d n L z a)):ao fK 63 5 (CA.drop 2) (QF S R H d n L z a) Q:=
 aV Cz 1000 (.fork 0 (aB [3,1,1,1,1,1,1] (.leaf [0,1,2,6] [0,1,2,3,4] [0,3,4])) (.leaf [0,1,2,6] [0,1,2,3,4] [0,3,4])) (λu=>by kernel_rfl) (mF (c:=decide (m6 .i64 (a+z)<(↑n:Int))) (λh0=>(aO L R H (mN (n0 h0) (mN (aW (b9 (aN (ad.aC S)) (di (ah L)) (m5 a) (m5 (↑n:Int)))) (mN (aS R) (mN (aZ H) (mN (aW (b9 (aN (ad.aC S)) (di (ah L)) (m5 a) (m5 (↑n:Int)))) (mN (aS R) (mN (aZ H) (mQ (ao.done (by kernel_rfl) (l3 h0)))))))))))) (λh0=>(aO L R H (mQ (ao.done (by kernel_rfl) (l5 h0))))))
end
section
variable (S:ad) (R:List Int) (H:List au) (d:aA)
def u9(n z:Nat)(s:Nat×List ByteArray)(b:Nat):ai:=⟨[(0,gh n),(1,iZ n),(2,gN),(6,iZ z),(7,iZ s.1),(8,iZ (s.1+b))],da S R H d s.2⟩
def zq(n:Nat)(s:Nat×List ByteArray):ai:=⟨[(0,gh n),(1,iZ n),(2,gN),(6,iZ s.1)],da S R H d s.2⟩
theorem ae9(L:List ByteArray)(n:Nat)(hn:L.length=n)(hL:n<=1000000):
 aF fK 99 [gh n,iZ n,gN] (da S R H d L) λr o=>r=.ret (.tuple #[])/\o=da S R H d (bb (aN S.aC) L):=by
 have pH:=aZ H
 have fQ:=og S.aC
 have hO:∀M:List ByteArray,M.length=n->jf [ak.cells (ah M) 9 false,ak.cells (aL S 2 0 3 4) 89 false,ak.abs d,ak.cells (ay R) 3 false,ak.cells (an H) 114 false] n=true:=λM hM=>w0 (S:=S) (R:=R) (H:=H) (d:=d) (L:=M) rfl hM hL
 refine aF.dv (n:=cp fK 99) (by kernel_rfl) ?_
 apply aeU S R H d n L pH hn
 ·
  rw[show QC S R H d n L=u9 S R H d n 20 (0,L) 20 from rfl]
  refine ao.eX 2 0 (by kernel_rfl) ?_
  refine ao.gu (λs=>u9 S R H d n 20 s 20) (λs=>n+20-s.1) (λs=>s.1<=n/\rN (aN S.aC) L 20 s.1 s.2) (0,L) (by kernel_rfl) ⟨asb _,rN.start _ _ _⟩ ?_
  rintro⟨a,M⟩ ⟨ha,hF⟩
  dsimp only at ha hF
  have gP:M.length=n:=by rw[hF.perm.length_eq,hn]
  apply aeX S R H d n M (20:Nat) a ((a+20:Nat):Int) pH gP
  case l3=>
   intro g
   have g:=of_decide_eq_true g
   apply aeY S R H d n M (20:Nat) a ((a+20:Nat):Int) pH gP (by omega) (by omega) (by omega) (bK (by omega) (by omega))
   case n0=>
    rw[hO M gP]
    simp only[asx,at2,BV,decide_eq_true_eq]
    omega
   case l3=>
    refine QL.to (a+20,b9 (aN S.aC) M a (a+20)) ⟨by dsimp only;omega,hF.step fQ (by omega)⟩ (by dsimp only;omega) ?_
    unfold QD u9
    rw[je,bK (by omega) (by omega)]
    rfl
  case l4=>
   intro g
   have g:=of_decide_eq_false g
   with_reducible (repeat first|refine QL.ret ?_|refine QL.exit ?_|refine QB.ret ?_|refine QB.cw ?_|refine QB.normal ?_|refine QB.cJ (by rfl) ?_)
   apply aeZ S R H d n M (20:Nat) a pH gP (by omega) (by omega)
   case n0=>
    rw[hO M gP]
    simp only[asx,at2,BV,decide_eq_true_eq]
    omega
   case l3=>
    obtain⟨hB,hP⟩:=hF.done fQ (by omega) (by omega)
    rw[gP]at hB hP
    have e:IQ S R H d n M (20:Nat) a=zq S R H d n (20,b9 (aN S.aC) M a n):=by
     unfold IQ zq;rw[je];rfl
    rw[e,asI]
    generalize b9 (aN S.aC) M a n=M1 at hB hP
    refine ao.eX 4 2 (by kernel_rfl) ?_
    refine ao.gu (zq S R H d n) (λs=>n-s.1) (λs=>20<=s.1/\s.1<=2000020/\jg (aN S.aC) s.1 s.2/\s.2.Perm L) (20,M1) (by kernel_rfl) ⟨arO _,by dsimp only;omega,hB,hP⟩ ?_
    clear hB hP e hF gP
    rintro⟨z,M⟩ ⟨hz,afa,hB,hP⟩
    dsimp only at hz afa hB hP
    have gP:M.length=n:=by rw[hP.length_eq,hn]
    apply ae2 S R H d n M z pH gP
    case l4=>
     intro g
     have g:=of_decide_eq_false g
     have e1:M=bb (aN S.aC) L:=hB.done fQ hP (by omega)
     subst e1
     with_reducible (repeat first|refine QL.ret ?_|refine QL.exit ?_|refine QB.ret ?_|refine QB.cw ?_|refine QB.normal ?_|refine QB.cJ (by rfl) ?_)
     refine ao.done (by kernel_rfl) ?_
     exact aG.normal (vs:=[]) (l:=[]) (bs:=[0,1,2,3,4]) (pl:=[0,3,4]) (q:=[ah (bb (aN S.aC) L),ay R,an H]) (λu=>by kernel_rfl) (by kernel_rfl) (aD (by simp) (aD (by simp) (aD pH be))) ⟨rfl,rfl⟩
    case l3=>
     intro g
     have g:=of_decide_eq_true g
     refine ao.eX 2 3 (by kernel_rfl) ?_
     apply ae3 S R H d n M z pH gP (bK (by omega) (by omega))
     ·
      have e:IR S R H d n M z=u9 S R H d n z (0,M) (2*z):=by
       unfold IR u9
       rw[bK (by omega) (by omega)]
       dsimp only
       rw[show(2*(z:Int))=((0+2*z:Nat):Int)by omega]
       rfl
      rw[e]
      refine ao.eX 1 4 (by kernel_rfl) ?_
      refine ao.gu (λs=>u9 S R H d n z s (2*z)) (λs=>n+2*z-s.1) (λs=>s.1<=n/\mO (aN S.aC) L z s.1 s.2) (0,M) (by kernel_rfl) ⟨asb _,mO.start hB hP⟩ ?_
      rintro⟨a,K⟩ ⟨ha,hK⟩
      dsimp only at ha hK
      have va:K.length=n:=by rw[hK.perm.length_eq,hn]
      apply ae6 S R H d n K z a ((a+2*z:Nat):Int) pH va
      case l3=>
       intro g3
       have g3:=of_decide_eq_true g3
       obtain⟨s1,s2⟩:=hK.pre (by omega) (by omega)
       have IT:(a:Int)+(z:Int)=((a+z:Nat):Int):=by omega
       apply ae7 S R H d n K z a ((a+2*z:Nat):Int) pH va (bK (by omega) (by omega)) (bK (by omega) (by omega)) (bK (by omega) (by omega))
       case n0=>
        rw[hO K va,je,bK (by omega) (by omega),IT,zk.2 ⟨by omega,by omega,by omega,by omega,by omega,s1,s2⟩]
        simp only[asx,atn]
       case l3=>
        refine QL.to (a+2*z,b9 (aN S.aC) K a (a+2*z)) ⟨by dsimp only;omega,hK.step fQ (by omega) (by omega)⟩ (by dsimp only;omega) ?_
        unfold QH u9
        rw[je,bK (z:=2*(z:Int)) (by omega) (by omega),bK (by omega) (by omega)]
        dsimp only
        rw[show(((a+2*z:Nat):Int)+2*(z:Int))=((a+2*z+2*z:Nat):Int)by omega]
        rfl
      case l4=>
       intro g3
       have g3:=of_decide_eq_false g3
       have IT:(a:Int)+(z:Int)=((a+z:Nat):Int):=by omega
       have QK:(.int .i64 (m6 Ul ((z:Int)*2)):Dy)=iZ (2*z):=by rw[bK (by omega) (by omega),show((z:Int)*2)=((2*z:Nat):Int)by omega];rfl
       with_reducible (repeat first|refine QL.ret ?_|refine QL.exit ?_|refine QB.ret ?_|refine QB.cw ?_|refine QB.normal ?_|refine QB.cJ (by rfl) ?_)
       apply ae8 S R H d n K z a pH va (bK (by omega) (by omega)) (bK (by omega) (by omega))
       case n0=>
        intro g4
        rw[bK (by omega) (by omega),IT]at g4⊢
        have g4:=of_decide_eq_true g4
        obtain⟨s1,s2⟩:=hK.aeO (by omega) (by omega)
        rw[va]at s2
        rw[hO K va,je,zk.2 ⟨by omega,by omega,by omega,by omega,by omega,s1,s2⟩]
        simp only[asx,atn]
       case l3=>
        intro g4
        obtain⟨b1,b2⟩:=hK.aeP fQ (by omega) (by omega)
        rw[va]at b1 b2
        with_reducible (repeat first|refine QL.ret ?_|refine QL.exit ?_|refine QB.ret ?_|refine QB.cw ?_|refine QB.normal ?_|refine QB.cJ (by rfl) ?_)
        refine ao.done (by kernel_rfl) ?_
        refine QL.to (2*z,b9 (aN S.aC) K a n) ⟨by dsimp only;omega,by dsimp only;omega,b1,b2⟩ (by dsimp only;omega) ?_
        unfold QI zq
        rw[je,QK]
        rfl
       case l5=>
        intro g4
        rw[bK (by omega) (by omega)]at g4
        have g4:=of_decide_eq_false g4
        obtain⟨b1,b2⟩:=hK.aeQ (by omega)
        with_reducible (repeat first|refine QL.ret ?_|refine QL.exit ?_|refine QB.ret ?_|refine QB.cw ?_|refine QB.normal ?_|refine QB.cJ (by rfl) ?_)
        refine ao.done (by kernel_rfl) ?_
        refine QL.to (2*z,K) ⟨by dsimp only;omega,by dsimp only;omega,b1,b2⟩ (by dsimp only;omega) ?_
        unfold QJ zq
        rw[QK]
        rfl
end
end Go.Proofs.YtnlkkgpcikkpoaaGreat
namespace Go.Proofs.YtnlkkgpcikkpoaaGreat
open Go Vm Go.RowKit
noncomputable def IU(a:List Dy)(o:List ak):Option (Bool×bD×List ak):=match a,o with
 | [.slice (some ⟨0,0,none⟩) n m,.int .i64 x,.func (.func f) c1 c2],ak.cells c t r::ak.cells e t2 r2::l=>match c1.toList,c2.toList with
  | [.pointer (some ⟨1,0,none⟩)],[]=>match(e[70]?:Option Dy)with
   |some (.bool fl)=>some (jf (.cells c t r:: .cells e t2 r2::l) n&&(arE m n&&(arE f 74&&decide (x=n))),.ret (.tuple #[]),.cells (ah (bb (aN fl) (di c))) t r:: .cells e t2 r2::l)
   |_=>none
  |_,_=>none
 |_,_=>none
theorem afb:bB fK 99 (Sum.dQ fK IU):=bB.dQ λa o r o' hg=>by
 unfold IU at hg
 split at hg
 ·rename_i n m x f c1 c2 c t ro e t2 r2 l
  split at hg
  ·rename_i h1 h2
   split at hg
   ·rename_i fl gE
    simp only[DE,KN,BV,decide_eq_true_eq]at hg
    obtain⟨⟨g1,g2,g3,p1⟩,rfl,rfl⟩:=hg
    have g2:=arJ g2
    have g3:=arJ g3
    obtain⟨S,R,H,d,L,he,hl,hn⟩:=@of_decide_eq_true _ (arT _) g1
    have e1:c1= #[.pointer (some ⟨1,0,none⟩)]:=by rw[<-asB (xs:=c1),h1]
    have e2:c2= #[]:=by rw[<-asB (xs:=c2),h2]
    subst g2 g3 e1 e2 p1
    unfold da at he
    injection he with pN eH
    injection eH with eH rM
    injection pN with hc ht hr
    injection eH with jj kv eT
    subst hc ht hr jj kv eT rM
    have:(aL S 2 0 3 4)[70]?=some (.bool S.aC):=rfl
    rw[this]at gE
    cases gE
    refine(ae9 S R H d L _ hl hn).mono ?_
    rintro r o ⟨rfl,rfl⟩
    exact⟨rfl,by rw[je];rfl⟩
   ·cases hg
  ·cases hg
 ·cases hg
noncomputable def afc:List (arY×Sum):=[(99,Sum.dQ fK IU)]
theorem afd:dD fK (dM fK (dP afc) 50 40):=dU dC mixed (ee (.cons afb .nil)) 50 40
noncomputable section
def afe:List ar3:=a7 (dI fK 73)
open Tree renaming aQ->mN,dE->mF,fj->mL,fY->mQ,dN->mR,gH->mE
abbrev IV:=λS R H d (n:Nat) L=>(⟨[],[ab (ah (bb (aN (ad.aC S)) (di (ah L)))) 9,ab (aL S 2 0 3 4) 89,.abs d,ab (ay R) 3,ab (an H) 114]⟩:ai)
abbrev aff:=λS R H d (n:Nat) L=>(⟨[(0,aq 0 n),(1,.func (.func 74) #[ap 1] #[])],[ab (ah L) 9,ab (aL S 2 0 3 4) 89,.abs d,ab (ay R) 3,ab (an H) 114]⟩:ai)
theorem afg(S R H d)(n:Nat)(L)(pH:(an H).all ag=true)(hn:(nG L)=n){Q:aU}(n0:(jf [ab (ah L) 9,ab (aL S 2 0 3 4) 89,ak.abs d,ab (ay R) 3,ab (an H) 114] n&&(arE n n&&(arE 74 74&&decide ((↑n:Int)=(↑n:Int)))))=true)(l3:Q .normal (IV S R H d n L)):ao fK 9 5 afe (aff S R H d n L) Q:=
 aV afd 1000 (aB [5,1,1,1,1,1,1] (.leaf [] [0,1,2,3,4] [0,3,4])) (λu=>by kernel_rfl) (aO L R H (mN n0 (mN (aW (bb (aN (ad.aC S)) (di (ah L)))) (mN (aS R) (mN (aZ H) (mN (aW (bb (aN (ad.aC S)) (di (ah L)))) (mN (aS R) (mN (aZ H) (mQ (ao.done (by kernel_rfl) l3))))))))))
end
theorem afh(S:ad)(R:List Int)(H:List au)(d:aA)(L:List ByteArray)(n:Nat)(hn:L.length=n)(hL:n<=1000000):
 aF fK 73 [gh n,gN] (da S R H d L) λr o=>r=.ret (.tuple #[])/\o=da S R H d (bb (aN S.aC) L):=by
 have pH:=aZ H
 have hO:∀M:List ByteArray,M.length=n->jf [ak.cells (ah M) 9 false,ak.cells (aL S 2 0 3 4) 89 false,ak.abs d,ak.cells (ay R) 3 false,ak.cells (an H) 114 false] n=true:=λM hM=>w0 (S:=S) (R:=R) (H:=H) (d:=d) (L:=M) rfl hM hL
 refine aF.dv (n:=cp fK 73) (by kernel_rfl) ?_
 apply afg S R H d n L pH hn
 case n0=>
  rw[hO L hn]
  simp only[asx,at2,decide_eq_true_eq]
 case l3=>
  have e:IV S R H d n L=⟨[],da S R H d (bb (aN S.aC) L)⟩:=by unfold IV;rw[je];rfl
  rw[e]
  exact aG.normal (vs:=[]) (l:=[]) (bs:=[0,1,2,3,4]) (pl:=[0,3,4]) (q:=[ah (bb (aN S.aC) L),ay R,an H]) (λu=>by kernel_rfl) (by kernel_rfl) (aD (by simp) (aD (by simp) (aD pH be))) ⟨rfl,rfl⟩
noncomputable def CC(a:List Dy)(o:List ak):Option (Bool×bD×List ak):=match a,o with
 | [.slice (some ⟨0,0,none⟩) n m,.func (.func f) c1 c2],ak.cells c t r::ak.cells e t2 r2::l=>match c1.toList,c2.toList with
  | [.pointer (some ⟨1,0,none⟩)],[]=>match(e[70]?:Option Dy)with
   |some (.bool fl)=>some (jf (.cells c t r:: .cells e t2 r2::l) n&&(arE m n&&arE f 74),.ret (.tuple #[]),.cells (ah (bb (aN fl) (di c))) t r:: .cells e t2 r2::l)
   |_=>none
  |_,_=>none
 |_,_=>none
theorem QM:bB fK 73 (Sum.dQ fK CC):=bB.dQ λa o r o' hg=>by
 unfold CC at hg
 split at hg
 ·rename_i n m f c1 c2 c t ro e t2 r2 l
  split at hg
  ·rename_i h1 h2
   split at hg
   ·rename_i fl gE
    simp only[DE,KN,BV,decide_eq_true_eq]at hg
    obtain⟨⟨g1,g2,g3⟩,rfl,rfl⟩:=hg
    have g2:=arJ g2
    have g3:=arJ g3
    obtain⟨S,R,H,d,L,he,hl,hn⟩:=@of_decide_eq_true _ (arT _) g1
    have e1:c1= #[.pointer (some ⟨1,0,none⟩)]:=by rw[<-asB (xs:=c1),h1]
    have e2:c2= #[]:=by rw[<-asB (xs:=c2),h2]
    subst g2 g3 e1 e2
    unfold da at he
    injection he with pN eH
    injection eH with eH rM
    injection pN with hc ht hr
    injection eH with jj kv eT
    subst hc ht hr jj kv eT rM
    have:(aL S 2 0 3 4)[70]?=some (.bool S.aC):=rfl
    rw[this]at gE
    cases gE
    refine(afh S R H d L _ hl hn).mono ?_
    rintro r o ⟨rfl,rfl⟩
    exact⟨rfl,by rw[je];rfl⟩
   ·cases hg
  ·cases hg
 ·cases hg
def bk(c:List Dy):ByteArray:=⟨(c.map λv=>match v with| .int _ x=>awG x|_=>0).toArray⟩
@[simp] theorem jH(b:ByteArray):bk (af b)=b:=by
 unfold bk af
 rw[at1]
 have:b.data.toList.map ((λv:Dy=>match v with| .int _ x=>awG x|_=>0)∘λx=>KJ .u8 x.toNat)=b.data.toList:=by
  conv=>rhs;rw[<-List.map_id b.data.toList]
  refine atc λx _=>?_
  show awG ((x.toNat:Nat):Int)=x
  unfold awG
  have h:=x.toNat_lt
  apply UInt8.toNat_inj.1
  simp
  omega
 rw[this]
noncomputable def CD(a:List Dy)(o:List ak):Option (Bool×bD×List ak):=match a,o with
 | [.pointer (some ⟨0,0,none⟩)],[.abs d]=>some (oS d,.ret (.tuple #[.int .i64 (bj d).1,.int .i64 (bj d).2.1]),[.abs (bj d).2.2])
 |_,_=>none
theorem QN:bB fK 97 (Sum.dQ fK CD):=bB.dQ λa o r o' hg=>by
 unfold CD at hg
 split at hg
 ·rename_i d
  simp only[DE,KN]at hg
  obtain⟨h1,rfl,rfl⟩:=hg
  exact aci d (qz.1 h1)
 ·cases hg
noncomputable def IW(a:List Dy)(o:List ak):Option (Bool×bD×List ak):=match a,o with
 | [.pointer (some ⟨0,0,none⟩),.int .i64 no],[.abs d]=>some (oS d,.ret (.int .i64 (dZ d no).1),[.abs (dZ d no).2])
 |_,_=>none
theorem afi:bB fK 43 (Sum.dQ fK IW):=bB.dQ λa o r o' hg=>by
 unfold IW at hg
 split at hg
 ·rename_i no d
  simp only[DE,KN]at hg
  obtain⟨h1,rfl,rfl⟩:=hg
  exact acm d (qz.1 h1) no
 ·cases hg
noncomputable def zr(a:List Dy)(o:List ak):Option (Bool×bD×List ak):=match a,o with
 | [.pointer (some ⟨0,0,none⟩)],[.abs d]=>some (true,.ret (.int .i64 d.raw),[.abs d])
 |_,_=>none
theorem IX:bB fK 71 (Sum.dQ fK zr):=bB.dQ λa o r o' hg=>by
 unfold zr at hg
 split at hg
 ·rename_i d
  simp only[DE,KN,true_and]at hg
  obtain⟨rfl,rfl⟩:=hg
  exact acn d
 ·cases hg
def QO(d:aA)(no:Int)(c:List Dy)(t:KS)(ro:Bool)(n m:Nat):Prop:=ct d/\∃b,c=af b/\n=b.size/\m=b.size/\t=5/\ro=false/\∀f,fileOf d.files no=some f->f.size+b.size<=1000000
noncomputable def zt(d:aA)(no:Int)(c:List Dy)(t:KS)(ro:Bool)(n m:Nat):Bool:=@decide (QO d no c t ro n m) (arT _)
theorem IY{d:aA}{no:Int}{c:List Dy}{t:KS}{ro:Bool}{n m:Nat}:zt d no c t ro n m=true↔QO d no c t ro n m:=by
 unfold zt;exact @decide_eq_true_iff _ (arT _)
noncomputable def CE(a:List Dy)(o:List ak):Option (Bool×bD×List ak):=match a,o with
 | [.pointer (some ⟨0,0,none⟩),.int .i64 no,.slice (some ⟨1,0,none⟩) n m],[.abs d,.cells c t ro]=>some (zt d no c t ro n m,.ret (.int .i64 (bP d no (bk c)).1),[.abs (bP d no (bk c)).2,.cells c t ro])
 |_,_=>none
theorem QP:bB fK 98 (Sum.dQ fK CE):=bB.dQ λa o r o' hg=>by
 unfold CE at hg
 split at hg
 ·rename_i no n m d c t ro
  simp only[DE,KN,IY]at hg
  obtain⟨⟨h1,b,rfl,rfl,rfl,rfl,rfl,h2⟩,rfl,rfl⟩:=hg
  rw[jH]
  exact acq d h1 no b h2
 ·cases hg
noncomputable def IZ:Sum:=⟨nY fK,λa o=>match a,o with
 | [.pointer (some ⟨0,0,none⟩),.int .i64 no,.int .i64 p,.int .i64 k],[.abs d]=>.sP (oS d) (.ask ((aJ d no p k).2.1==0) λb=>match b with
  |true=>.done (.ret (.tuple #[.slice (some ⟨1,0,none⟩) (aJ d no p k).1.size (aJ d no p k).1.size,.int .i64 0]),[.abs (aJ d no p k).2.2,.cells (af (aJ d no p k).1) 5 false])
  |false=>.done (.ret (.tuple #[.slice none 0 0,.int .i64 (aJ d no p k).2.1]),[.abs (aJ d no p k).2.2]))
 |_,_=>.fail⟩
theorem afj:bB fK 79 IZ:=by
 intro a o r o' hg
 unfold IZ at hg
 dsimp only at hg
 split at hg
 ·rename_i no p k d
  obtain⟨h1,hg⟩:=QT.uB hg
  have hg:(match((aJ d no p k).2.1==0)with|true=>_|false=>_:QT (bD×List ak)).run=some (r,o'):=hg
  refine(acu d (qz.1 h1) no p k).mono λr1 o1 h=>?_
  obtain⟨rfl,rfl⟩:=h
  unfold y9
  cases hk:((aJ d no p k).2.1==0)with
  |true=>
   rw[hk]at hg
   cases hg
   rw[if_pos (by simpa using hk)]
   exact⟨rfl,rfl⟩
  |false=>
   rw[hk]at hg
   cases hg
   rw[if_neg (by simpa using hk)]
   exact⟨rfl,rfl⟩
 ·cases hg
def ad.z(S:ad):ad:={S with ro:=0}
def QQ(S:ad)(a:Nat)(rv tv hv:Dy):List Dy:=[.int .i64 S.at_,.bool S.more,.bool S.bi]++zb S.B++[.int .i64 S.n,.bool S.failed,.pointer (some ⟨a,0,none⟩),.bool S.aC,rv,.int .i64 S.bJ,tv,hv,.bool S.eL,.int .i64 S.raw,.bool S.closed]
def jI(S:ad)(L:List ByteArray)(R:List Int)(H:List au)(d:aA):List ak:=[.cells (aL S 1 5 6 7) 89 false,.abs d,.dead,.dead,.dead,.cells (ah L) 9 false,.cells (ay R) 3 false,.cells (an H) 114 false]
noncomputable def afk:List (arY×Sum):=[(73,Sum.dQ fK CC),(97,Sum.dQ fK CD),(98,Sum.dQ fK CE)]
theorem QR:dD fK (dM fK (dP afk) 50 40):=dU dC mixed (ee (.cons QM (.cons QN (.cons QP .nil)))) 50 40
noncomputable section
def tk:List ar3:=a7 (dI fK 70)
open Tree renaming aQ->mN,dE->mF,fj->mL,fY->mQ,dN->mR,gH->mE
abbrev I0:List ar3:=(a7 (inner (a7 (inner (tk.drop 7)))))
abbrev QS:=λS R H d L=>(⟨[(2,aa (KM (arQ (bj d))))],[ab (aL (ad.z S) 1 5 6 7) 89,.abs (arQ (arQ (bj d))),.dead,.dead,.dead,ab (ah (bb (aN (ad.aC S)) (di (ah L)))) 9,ab (ay R) 3,ab (an H) 114]⟩:ai)
theorem afl(S R H d L){Q:bu}(aY:DC (ay R) ag)(bh:DC (an H) ag)(hq:Q (.ret (aa (KM (arQ (bj d))))) [ab (aL (ad.z S) 1 5 6 7) 89,.abs (arQ (arQ (bj d))),.dead,.dead,.dead,ab (ah (bb (aN (ad.aC S)) (di (ah L)))) 9,ab (ay R) 3,ab (an H) 114]):aG fK 70 64 5 Q .ret (QS S R H d L):=aG.ret (vs:=[aa (KM (arQ (bj d)))]) (l:=[]) (bs:=[0,1,2,3,4,5,6,7]) (pl:=[5,6,7]) (q:=[ah (bb (aN (ad.aC S)) (di (ah L))),ay R,an H]) (λu=>by kernel_rfl) (by kernel_rfl) (aD (by simp) (aD aY (aD bh be))) hq
abbrev QU:=λS R H d L=>(⟨[(0,ap 0),(3,aa (KM (bj d)))],[ab (aL (ad.z S) 1 5 6 7) 89,.abs (arQ (arQ (bj d))),.dead,.dead,.dead,ab (ah (bb (aN (ad.aC S)) (di (ah L)))) 9,ab (ay R) 3,ab (an H) 114]⟩:ai)
abbrev CF:=λ(S:ad) R H d L=>([ab (aL S.z 1 5 6 7) 89,.abs d,.dead,.dead,.dead,ab (ah L) 9,ab (ay R) 3,ab (an H) 114]:List ak)
abbrev QV:=λS R H d L=>(⟨[(0,ap 0)],CF S R H d L⟩:ai)
theorem afm(S:ad)(R H d L)(pH:(an H).all ag=true)(hL:(nG L)=S.rn)(hR:(nG R)=S.sn){Q:aU}(n0:(jf [ab (ah L) 9,ab (aL S.z 2 0 3 4) 89,ak.abs d,ab (ay R) 3,ab (an H) 114] S.rn&&(arE S.rn S.rn&&arE 74 74)))(n1:(oS d))(l4:(KM (arQ (bj d)) != 0)->Q .ret (QS S R H d L))(l5:(KM (arQ (bj d)) != 0)=false->ao fK 64 5 (tk.drop 5) (QU S R H d L) Q):ao fK 64 5 tk (QV S R H d L) Q:=
 aV QR 5 (aB [5,1,1,1,1,1,1,5] (.fork 0 (.leaf [2] [0,1,2,3,4,5,6,7] [5,6,7]) (.leaf [0,3] [0,1,2,3,4,5,6,7] [5,6,7]))) (λu=>by kernel_rfl) (aO L R H (mN n0 (mN (aW (bb (aN (ad.aC S)) (di (ah L)))) (mN (aS R) (mN (aZ H) (mN n1 (mF (c:=KM (arQ (bj d)) != 0) (λh0=>(mN (aW (bb (aN (ad.aC S)) (di (ah L)))) (mN (aS R) (mN (aZ H) (mR (l4 h0)))))) (λh0=>(mN (aW (bb (aN (ad.aC S)) (di (ah L)))) (mN (aS R) (mN (aZ H) (mQ (l5 h0)))))))))))))
abbrev I1:=λS R H d L (no:Int)=>(⟨[(0,ap 0),(3,aa no),(39,aq 5 (ad.rn S)),(40,aa (ad.rn S)),(41,aa 0)],[ab (aL (ad.mk (ad.at_ S) (ad.more S) (ad.bi S) (ad.B (ad.z S)) (ad.n S) (ad.failed S) (ad.aC S) 0 (ad.rn S) (ad.bJ S) (ad.sn S+1) (ad.hn S) (ad.eL S) (ad.raw S) (ad.closed S)) 1 5 6 7) 89,.abs d,.dead,.dead,.dead,ab (ah L) 9,ab (ay R++[aa no]) 3,ab (an H) 114]⟩:ai)
abbrev afn:=λS R H d L (no:Int)=>(⟨[(0,ap 0),(3,aa no)],CF S R H d L⟩:ai)
theorem afo(S:ad)(R H d L)(no:Int)(pH:(an H).all ag=true)(hL:(nG L)=S.rn)(hR:(nG R)=S.sn){Q:aU}(n0:(arM (ad.sn S+1) 1000000))(aY:DC (ah L) ag)(bh:DC (an H) ag)(l3:ao fK 64 5 ((tk.drop 5).drop 2) (I1 S R H d L no) Q):ao fK 64 5 (tk.drop 5) (afn S R H d L no) Q:=
 aV bp 2 (aB [2,3,5,1] (.leaf [0,3,39,40,41] [0,1,2,3,4,5,9,7] [5,9,7])) (λu=>by kernel_rfl) (mN n0 (mN (kY _:(full (ad.sn S) (ad.sn S))=true) (mN (show(arE (0+ad.sn S*1) (nG (ay R)))=true by simp at pH hL hR⊢ <;>omega) (mN (aW L) (mN (show(DC (ay R++[aa no]) ag)=true by simp) (mN (aZ H) (mQ l3)))))))
abbrev CG:=λS R H d L=>([ab (aL (ad.z S) 1 5 6 7) 89,.abs d,.dead,.dead,.dead,ab (ah L) 9,ab (ay R) 3,ab (an H) 114]:List ak)
abbrev afp:=λS R H d L (no i:Int)=>(⟨[(0,ap 0),(3,aa no),(39,aq 5 (ad.rn S)),(40,aa (ad.rn S)),(41,aa i)],CG S R H d L⟩:ai)
abbrev afq:=λS R H d L (no i:Int)=>(⟨[(0,ap 0)],CG S R H d L⟩:ai)
abbrev QW:=λ(S:ad) R H d L (no i:Int)=>(⟨[(0,ap 0),(3,aa no),(39,aq 5 S.rn),(40,aa S.rn),(41,aa i)],CF S R H d L⟩:ai)
theorem afr(S:ad)(R H d L)(no i:Int)(pH:(an H).all ag=true)(hL:(nG L)=S.rn)(hR:(nG R)=S.sn){Q:aU}(l3:(decide (i<(↑S.rn:Int)))->ao fK 64 5 (I0.drop 2) (afp S R H d L no i) Q)(l4:(decide (i<(↑S.rn:Int)))=false->Q (.exit 0) (afq S R H d L no i)):ao fK 64 5 I0 (QW S R H d L no i) Q:=
 aV bp 2 (.fork 0 (.leaf [0,3,39,40,41] [0,1,2,3,4,5,6,7] [5,6,7]) (.leaf [0] [0,1,2,3,4,5,6,7] [5,6,7])) (λu=>by kernel_rfl) (mF (c:=decide (i<(↑(ad.rn S):Int))) (λh0=>(aO L R H (mQ (l3 h0)))) (λh0=>(aO L R H (mE 0 (l4 h0)))))
abbrev QX:=λS R H d L (no i:Int)=>(⟨[(2,aa (KM (bP d no (bk (arV (λb=>KJ Um (↑(arR b):Int)) (arP (DD (aR (ah L) (0+m5 i*1))) (arN (arK (aR (ah L) (0+m5 i*1)))))++[KJ Um 10])))))],[ab (aL (ad.z S) 1 5 6 7) 89,.abs (arQ (bP d no (bk (arV (λb=>KJ Um (↑(arR b):Int)) (arP (DD (aR (ah L) (0+m5 i*1))) (arN (arK (aR (ah L) (0+m5 i*1)))))++[KJ Um 10])))),.dead,.dead,.dead,ab (ah L) 9,ab (ay R) 3,ab (an H) 114]⟩:ai)
theorem afs(S R H d L)(no i:Int){Q:bu}(hq:Q (.ret (aa (KM (bP d no (bk (arV (λb=>KJ Um (↑(arR b):Int)) (arP (DD (aR (ah L) (0+m5 i*1))) (arN (arK (aR (ah L) (0+m5 i*1)))))++[KJ Um 10])))))) [ab (aL (ad.z S) 1 5 6 7) 89,.abs (arQ (bP d no (bk (arV (λb=>KJ Um (↑(arR b):Int)) (arP (DD (aR (ah L) (0+m5 i*1))) (arN (arK (aR (ah L) (0+m5 i*1)))))++[KJ Um 10])))),.dead,.dead,.dead,ab (ah L) 9,ab (ay R) 3,ab (an H) 114]):aG fK 70 64 5 Q .ret (QX S R H d L no i):=aG.ret (vs:=[aa (KM (bP d no (bk (arV (λb=>KJ Um (↑(arR b):Int)) (arP (DD (aR (ah L) (0+m5 i*1))) (arN (arK (aR (ah L) (0+m5 i*1)))))++[KJ Um 10]))))]) (l:=[]) (bs:=[0,1,2,3,4,5,6,7]) (pl:=[5,6,7]) (q:=[ah L,ay R,an H]) (λu=>by kernel_rfl) (by kernel_rfl) (ia L R H be) hq
abbrev QY:=λS R H d L (no i:Int)=>(⟨[(0,ap 0),(3,aa no),(39,aq 5 (ad.rn S)),(40,aa (ad.rn S)),(41,.int .i64 (m6 .i64 (i+1)))],[ab (aL (ad.z S) 1 5 6 7) 89,.abs (arQ (bP d no (bk (arV (λb=>KJ Um (↑(arR b):Int)) (arP (DD (aR (ah L) (0+m5 i*1))) (arN (arK (aR (ah L) (0+m5 i*1)))))++[KJ Um 10])))),.dead,.dead,.dead,ab (ah L) 9,ab (ay R) 3,ab (an H) 114]⟩:ai)
theorem aft(S:ad)(R H d L)(no i:Int)(pH:(an H).all ag=true)(hL:(nG L)=S.rn)(hR:(nG R)=S.sn)(h0:0<=i)(h1:i<S.rn)(h2:S.rn<=1000000)(h3:m6 .i64 (i+1)=i+1){Q:aU}(n0:(dY (ah L) (0+m5 i*1)))(n1:(arM (0+DD (aR (ah L) (0+m5 i*1))) 1000000))(n2:(DC (arV (λb=>KJ Um (↑(arR b):Int)) (arP (DD (aR (ah L) (0+m5 i*1))) (arN (arK (aR (ah L) (0+m5 i*1)))))) Value.oneCell')=true)(n3:(arM (DD (aR (ah L) (0+m5 i*1))+1) 1000000))(n4:(DC (arV (λb=>KJ Um (↑(arR b):Int)) (arP (DD (aR (ah L) (0+m5 i*1))) (arN (arK (aR (ah L) (0+m5 i*1)))))++[KJ Um 10]) ag)=true)(n5:(zt d no (arV (λb=>KJ Um (↑(arR b):Int)) (arP (DD (aR (ah L) (0+m5 i*1))) (arN (arK (aR (ah L) (0+m5 i*1)))))++[KJ Um 10]) 5 false (DD (aR (ah L) (0+m5 i*1))+1) (DD (aR (ah L) (0+m5 i*1))+1))=true)(l9:(KM (bP d no (bk (arV (λb=>KJ Um (↑(arR b):Int)) (arP (DD (aR (ah L) (0+m5 i*1))) (arN (arK (aR (ah L) (0+m5 i*1)))))++[KJ Um 10]))) != 0)->Q .ret (QX S R H d L no i))(jJ:(KM (bP d no (bk (arV (λb=>KJ Um (↑(arR b):Int)) (arP (DD (aR (ah L) (0+m5 i*1))) (arN (arK (aR (ah L) (0+m5 i*1)))))++[KJ Um 10]))) != 0)=false->Q .normal (QY S R H d L no i)):ao fK 64 5 (I0.drop 2) (QW S R H d L no i) Q:=
 aV QR 1000 (aB [0,1,1,0,1,12,1,1,1,2,3,5,1,5,1,1] (.fork 0 (.leaf [2] [0,1,2,3,4,5,6,7] [5,6,7]) (.leaf [0,3,39,40,41] [0,1,2,3,4,5,6,7] [5,6,7]))) (λu=>by kernel_rfl) (mN (decide_eq_true (by omega):(decide (0<=i))=true) (mN (show(Nat.blt (m5 i) (ad.rn S))=true by simp at pH hL hR h0 h1 h2 h3⊢ <;>omega) (mN n0 (mN n1 (mN n2 (mN (show(arE (nG (arV (λb=>KJ Um (↑(arR b):Int)) (arP (DD (aR (ah L) (0+m5 i*1))) (arN (arK (aR (ah L) (0+m5 i*1))))))) (DD (aR (ah L) (0+m5 i*1))*1))=true by simp) (mN n3 (mN (kY _:(full (DD (aR (ah L) (0+m5 i*1))) (DD (aR (ah L) (0+m5 i*1))))=true) (mN (show(arE (0+DD (aR (ah L) (0+m5 i*1))*1) (nG (arV (λb=>KJ Um (↑(arR b):Int)) (arP (DD (aR (ah L) (0+m5 i*1))) (arN (arK (aR (ah L) (0+m5 i*1))))))))=true by simp) (mN n4 (mN n5 (mN n4 (mF (c:=KM (bP d no (bk (arV (λb=>KJ Um (↑(arR b):Int)) (arP (DD (aR (ah L) (0+m5 i*1))) (arN (arK (aR (ah L) (0+m5 i*1)))))++[KJ Um 10]))) != 0) (λh0=>(aO L R H (mR (l9 h0)))) (λh0=>(aO L R H (mQ (ao.done (by kernel_rfl) (jJ h0))))))))))))))))))
abbrev QZ:=λS R H d (L:List ByteArray)=>(⟨[(2,aa 0)],[ab (QQ (ad.mk (ad.at_ S) (ad.more S) (ad.bi S) (ad.B (ad.z S)) (ad.n S) (ad.failed S) (ad.aC S) (ad.ro S) (ad.rn S) 0 (ad.sn S) (ad.hn S) (ad.eL S) (ad.raw S) (ad.closed S)) 1 (ci) (aq 5 (ad.sn S)) (aq 6 (ad.hn S))) 89,.abs d,.dead,.dead,.dead,ab (ay R) 3,ab (an H) 114]⟩:ai)
theorem afu(S:ad)(R H d L)(pH:(an H).all ag=true)(hL:(nG L)=S.rn)(hR:(nG R)=S.sn){Q:aU}(l2:ao fK 64 5 ((tk.drop 8).drop 2) (QZ S R H d L) Q):ao fK 64 5 (tk.drop 8) (QV S R H d L) Q:=
 aV bp 2 (.leaf [2] [0,1,2,3,4,6,7] [6,7]) (λu=>by kernel_rfl) (mN (aS R) (mN (aZ H) (mQ l2)))
abbrev Q0:=λS R H d L (e:Int)=>(⟨[(2,aa e)],CG S R H d L⟩:ai)
theorem afv(S R H d L)(e:Int){Q:bu}(hq:Q (.ret (aa e)) (CG S R H d L)):aG fK 70 64 5 Q .ret (Q0 S R H d L e):=aG.ret (vs:=[aa e]) (l:=[]) (bs:=[0,1,2,3,4,5,6,7]) (pl:=[5,6,7]) (q:=[ah L,ay R,an H]) (λu=>by kernel_rfl) (by kernel_rfl) (ia L R H be) hq
abbrev afw:=λS R H d L (e:Int)=>(⟨[(2,aa e)],CF S R H d L⟩:ai)
theorem afx(S:ad)(R H d L)(e:Int)(pH:(an H).all ag=true)(hL:(nG L)=S.rn)(hR:(nG R)=S.sn){Q:aU}(l3:Q .ret (Q0 S R H d L e)):ao fK 64 5 (tk.drop 10) (afw S R H d L e) Q:=
 aV bp 1000 (.leaf [2] [0,1,2,3,4,5,6,7] [5,6,7]) (λu=>by kernel_rfl) (aO L R H (mR l3))
end
theorem CH(x:Int):m6 .i64 (m6 .i64 x)=m6 .i64 x:=by
 simp only[IntKind.wrap_i64]
 omega
theorem ct.w8{d:aA}(h:ct d):ct (fz d):=⟨h.bR,h.made,h.keys,h.gR,h.size,CH _⟩
theorem ct.vb{d:aA}(h:ct d):ct (bj d).2.2:=by
 unfold bj
 split
 ·exact h
 split
 ·exact h.w8
 ·rename_i h1 _
  have hm:=h.made
  refine⟨h.bR,by show d.made+1<=64;omega,λp hp=>?_,?_,λp hp=>?_,CH _⟩
  ·rcases arL.1 hp with hp|hp
   ·have:=h.keys p hp;show p.1<=d.made+1;omega
   ·rw[ar0.1 hp];exact arO _
  ·show((d.files++[(d.made+1,KI)]).map (·.1)).Nodup
   rw[asm]
   refine List.nodup_append.2 ⟨h.gR,by simp,λa ha b hb=>?_⟩
   obtain⟨p,hp,rfl⟩:=as8.1 ha
   have:=h.keys p hp
   simp at hb
   omega
  ·rcases arL.1 hp with hp|hp
   ·exact h.size p hp
   ·rw[ar0.1 hp];exact asb _
theorem zu{d:aA}(h:ct d)(he:(bj d).2.1=0):fileOf (bj d).2.2.files (bj d).1=some KI:=by
 unfold bj at he⊢
 split at he
 ·cases he
 ·rename_i h1
  rw[if_neg h1]
  split at he
  ·rename_i h2;exact absurd he h2
  ·rename_i h2
   rw[if_neg h2]
   unfold fileOf
   show Option.map _ (awe _ (d.files++[(d.made+1,KI)]))=_
   rw[List.find?_append]
   have:d.files.find? (λp=>(p.1:Int)==((d.made:Int)+1))=none:=aub.2 λp hp=>by
    have:=h.keys p hp
    simp only[beq_iff_eq]
    omega
   rw[this]
   have e:(((d.made+1:Nat):Int)==(d.made:Int)+1)=true:=by rw[beq_iff_eq];omega
   simp[awe,e]
theorem Q2{l:List (Nat×ByteArray)}{no:Int}{b:ByteArray}:fileOf (ka l no b) no=(fileOf l no).map (·++b):=by
 unfold fileOf ka
 induction l with
 |nil=>rfl
 |cons p l ih=>
  rw[asn,atz,atz]
  cases e:((p.1:Int)==no)with
  |true=>simp only[if_true,e];rfl
  |false=>simp only[asv,if_false,e];exact ih
theorem afy{l:List (Nat×ByteArray)}{no:Int}{f:ByteArray}(h:fileOf l no=some f):∃k,(k,f)∈l/\(k:Int)=no:=by
 unfold fileOf at h
 cases e:l.find? (λp=>(p.1:Int)==no)with
 |none=>rw[e]at h;cases h
 |some p=>
  rw[e]at h
  cases h
  exact⟨p.1,List.mem_of_find?_eq_some e,by have:=List.find?_some e;simpa using this⟩
theorem afz{l:List (Nat×ByteArray)}(hn:(l.map (·.1)).Nodup){k:Nat}{f:ByteArray}(h:(k,f)∈l):fileOf l (k:Int)=some f:=by
 unfold fileOf
 induction l with
 |nil=>cases h
 |cons p l ih=>
  rw[asn,List.nodup_cons]at hn
  rw[atz]
  rcases List.mem_cons.1 h with rfl|h
  ·simp
  ·have:((p.1:Int)==(k:Int))=false:=by
    rw[beq_eq_false_iff_ne]
    intro e
    have e:p.1=k:=by omega
    exact hn.1 (as8.2 ⟨(k,f),h,e.symm⟩)
   rw[this]
   exact ih hn.2 h
theorem ct.write{d:aA}{no:Int}{b:ByteArray}(h:ct d)(hs:∀f,fileOf d.files no=some f->f.size+b.size<=1000000):ct (bP d no b).2:=by
 unfold bP
 split
 ·exact h
 split
 ·exact h
 split
 ·exact h.w8
 ·refine⟨h.bR,h.made,λp hp=>?_,?_,λp hp=>?_,CH _⟩
  ·obtain⟨q,hq,rfl⟩:=as8.1 hp
   have:=h.keys q hq
   dsimp only
   split<;>exact this
  ·show((ka d.files no b).map (·.1)).Nodup
   have:(ka d.files no b).map (·.1)=d.files.map (·.1):=by
    unfold ka
    rw[at1]
    refine atc λq _=>?_
    show(if _ then _ else _:Nat×ByteArray).1=q.1
    split<;>rfl
   rw[this];exact h.gR
  ·obtain⟨q,hq,rfl⟩:=as8.1 hp
   split
   ·rename_i e
    have e:(q.1:Int)=no:=by simpa using e
    have:=hs q.2 (by rw[<-e];exact afz h.gR hq)
    show(q.2++b).size<=_
    rw[atS];exact this
   ·exact h.size q hq
theorem I2{d:aA}{no:Int}{b f:ByteArray}(h:fileOf (bP d no b).2.files no=some f):∃g,fileOf d.files no=some g/\f.size<=g.size+b.size:=by
 unfold bP at h
 split at h
 ·rename_i e;rw[e]at h;cases h
 ·rename_i g e
  refine⟨g,e,?_⟩
  split at h
  ·rw[e]at h;cases h;omega
  split at h
  ·have h:fileOf d.files no=some f:=h
   rw[e]at h;cases h;omega
  ·have h:fileOf (ka d.files no b) no=some f:=h
   rw[Q2,e]at h
   cases h
   rw[atS];exact arO _
theorem Q3:bZ fK 9=some 1:=by kernel_rfl
def bM(x:ByteArray):ByteArray:=x++⟨#[10]⟩
theorem lH(x:ByteArray):(bM x).size=x.size+1:=by unfold bM;rw[atS];rfl
def ic(no:Int):List ByteArray->aA->Int×aA
 | [],d=>(0,d)
 |x::l,d=>if(bP d no (bM x)).1≠0 then bP d no (bM x)else ic no l (bP d no (bM x)).2
def a8:List ByteArray->Nat
 | []=>0
 |x::l=>x.size+1+a8 l
theorem pO{l l':List ByteArray}(h:l.Perm l'):a8 l=a8 l':=by
 induction h with
 |nil=>rfl
 |cons x _ ih=>show x.size+1+a8 _=x.size+1+a8 _;omega
 |swap x y l=>show y.size+1+(x.size+1+a8 l)=x.size+1+(y.size+1+a8 l);omega
 |trans _ _ h1 h2=>omega
theorem rO(l:List ByteArray):l.length<=a8 l:=by
 induction l with
 |nil=>exact arO _
 |cons x l ih=>show l.length+1<=x.size+1+a8 l;omega
def cM(S:ad)(L:List ByteArray)(R:List Int)(d:aA):Int×ad×List ByteArray×List Int×aA:=
 if(bj d).2.1≠0 then((bj d).2.1,S,bb (aN S.aC) L,R,(bj d).2.2)
 else if(ic (bj d).1 (bb (aN S.aC) L) (bj d).2.2).1≠0 then((ic (bj d).1 (bb (aN S.aC) L) (bj d).2.2).1,{S with sn:=S.sn+1},bb (aN S.aC) L,R++[(bj d).1],(ic (bj d).1 (bb (aN S.aC) L) (bj d).2.2).2)
 else(0,{S with sn:=S.sn+1,rn:=0,bJ:=0},[],R++[(bj d).1],(ic (bj d).1 (bb (aN S.aC) L) (bj d).2.2).2)
theorem join_eq(x:ByteArray):arV (λb:UInt8=>KJ Um (↑(arR b):Int)) (arP (DD x) (arN (arK x)))++[KJ Um 10]=af (bM x):=by
 unfold bM
 rw[O5,asN (by exact arO _)]
 rfl
def CI(S:ad)(R:List Int)(H:List au)(no:Int)(L:List ByteArray)(s:Nat×aA):ai:=⟨[(0,.pointer (some ⟨0,0,none⟩)),(3,.int .i64 no),(39,.slice (some ⟨5,0,none⟩) S.rn S.rn),(40,.int .i64 S.rn),(41,iZ s.1)],jI S.z L R H s.2⟩
structure afA(no:Int)(L:List ByteArray)(d1:aA)(s:Nat×aA):Prop where
 i:s.1<=L.length
 e:ic no (L.drop s.1) s.2=ic no L d1
 ok:ct s.2
 sz:∀f,fileOf s.2.files no=some f->f.size+a8 (L.drop s.1)<=1000000
theorem Q4(S:ad)(L:List ByteArray)(R:List Int)(H:List au)(d:aA)(hL:L.length=S.rn)(hR:R.length=S.sn)(hd:ct d)(hw:a8 L<=1000000)(hr:R.length<=64):
 aF fK 70 [.pointer (some ⟨0,0,none⟩)] (aP S.z L R H d) λr o=>r=.ret (.int .i64 (cM S L R d).1)/\o=jI (cM S L R d).2.1.z (cM S L R d).2.2.1 (cM S L R d).2.2.2.1 H (cM S L R d).2.2.2.2:=by
 have pH:=aZ H
 have CJ:=rO L
 refine aF.dv (n:=cp fK 70) (by kernel_rfl) ?_
 refine ao.move (d':=⟨[(0,.pointer (some ⟨0,0,none⟩))],jI S.z L R H d⟩) [some 0,some 1,none,none,none,some 2,some 3,some 4] [2,3,4] (q:=[ah L,ay R,an H]) (by kernel_rfl) (aD (by simp) (aD (by simp) (aD pH be))) (by kernel_rfl) (by kernel_rfl) ?_
 have hs:di (ah L)=L:=je L
 have I3:(bb (aN S.aC) L).length=S.rn:=by rw[lG,hL]
 apply afm S R H d L pH hL hR
 case n0=>
  have hO:=w0 (S:=S.z) (R:=R) (H:=H) (d:=d) (L:=L) rfl hL (by omega)
  unfold da at hO
  rw[hO]
  simp only[asx,atn]
 case n1=>exact qz.2 hd
 case l4=>
  intro g
  have g:(bj d).2.1≠0:=by simpa using g
  refine afl S R H d L (by simp) pH ⟨?_,?_⟩
  ·unfold cM;rw[if_pos g]
  ·unfold cM;rw[if_pos g,hs];rfl
 case l5=>
  intro g
  have g:(bj d).2.1=0:=by simpa using g
  unfold QU
  rw[hs]
  have lY:=hd.vb
  have sL:=zu hd g
  generalize fk:(bj d).1=no at sL
  generalize uI:(bj d).2.2=d1 at lY sL
  generalize w9:bb (aN S.aC) L=L1 at I3
  have cZ:cM S L R d=if(ic no L1 d1).1≠0 then((ic no L1 d1).1,{S with sn:=S.sn+1},L1,R++[no],(ic no L1 d1).2)else(0,{S with sn:=S.sn+1,rn:=0,bJ:=0},[],R++[no],(ic no L1 d1).2):=by
   unfold cM
   rw[if_neg (by rw[g];exact λh=>h rfl),fk,uI,w9]
  rw[cZ]
  have fV:a8 L1<=1000000:=by rw[<-w9,pO (ib L)];exact hw
  refine afo S R H d1 L1 no pH I3 hR ?_ (by simp) pH ?_
  ·exact arZ (by omega)
  have e:I1 S R H d1 L1 no=CI {S with sn:=S.sn+1} (R++[no]) H no L1 (0,d1):=by
   unfold I1 CI
   have:ay R++[KJ Ul no]=ay (R++[no]):=by unfold ay;rw[asm];rfl
   rw[this]
   rfl
  rw[e,asI]
  have CK:(R++[no]).length=({S with sn:=S.sn+1}:ad).sn:=by rw[KO,hR];rfl
  refine ao.eX 7 0 (by kernel_rfl) ?_
  refine ao.gu (CI {S with sn:=S.sn+1} (R++[no]) H no L1) (λs=>L1.length-s.1) (afA no L1 d1) (0,d1) (by kernel_rfl) ⟨asb _,by simp,lY,λf hf=>by rw[sL]at hf;cases hf;show 0+a8 (L1.drop 0)<=1000000;rw[List.drop_zero];omega⟩ ?_
  rintro⟨i,d2⟩ hi
  have i1:=hi.i
  have i2:=hi.e
  have i3:=hi.ok
  have i4:=hi.sz
  dsimp only at i1 i2 i3 i4
  have jx:L1.length=({S with sn:=S.sn+1}:ad).rn:=I3
  have aqt:=rO L1
  apply afr {S with sn:=S.sn+1} (R++[no]) H d2 L1 no i pH jx CK
  case l4=>
   intro g2
   have g2:=of_decide_eq_false g2
   have g2:¬(i:Int)<(S.rn:Int):=g2
   have ei:i=L1.length:=by omega
   rw[ei,avu]at i2
   have i2:(0,d2)=ic no L1 d1:=i2
   rw[<-i2]at*
   with_reducible (repeat first|refine QL.ret ?_|refine QL.exit ?_|refine QB.ret ?_|refine QB.cw ?_|refine QB.normal ?_|refine QB.cJ (by rfl) ?_)
   apply afu {S with sn:=S.sn+1} (R++[no]) H d2 L1 pH jx CK
   ·
    unfold QZ
    refine ao.nr 0 71 9 Q3 rfl rfl (by kernel_rfl) rfl ?_
    refine ao.move (d':=⟨[(2,.int .i64 0)],jI (ad.z {S with sn:=S.sn+1,rn:=0,bJ:=0}) [] (R++[no]) H d2⟩) [some 0,some 1,none,none,none,some 7,some 5,some 6] [5,6,7] (q:=[ah [],ay (R++[no]),an H]) (by kernel_rfl) (aD (by simp) (aD (by simp) (aD pH be))) (by kernel_rfl) (by kernel_rfl) ?_
    rw[asI]
    apply afx {S with sn:=S.sn+1,rn:=0,bJ:=0} (R++[no]) H d2 [] 0 pH rfl CK
    ·
     refine afv {S with sn:=S.sn+1,rn:=0,bJ:=0} (R++[no]) H d2 [] 0 ⟨?_,?_⟩
     ·rw[if_neg (λh=>h rfl)]
     ·rw[if_neg (λh=>h rfl)];rfl
  case l3=>
   intro g2
   have g2:=of_decide_eq_true g2
   have g2:(i:Int)<(S.rn:Int):=g2
   obtain⟨x,hx⟩:∃x,L1[i]?=some x:=⟨_,KH (by omega)⟩
   have om:=(qA hx).2
   rw[om]at i2 i4
   have hex:aR (ah L1) (0+m5 (i:Int)*1)=x:=by rw[gO];exact(eh hx).1
   have rh:x.size+1+a8 (L1.drop (i+1))<=a8 L1:=by
    have:∀(k:Nat) (l:List ByteArray),a8 (l.drop k)<=a8 l:=λk l=>by
     induction l generalizing k with
     |nil=>simp
     |cons y l ih=>cases k with
      |zero=>exact arO _
      |succ k=>have:=ih k;show a8 (l.drop k)<=y.size+1+a8 l;omega
    have:=this i L1
    rw[om]at this
    exact this
   have cc:∀f,fileOf d2.files no=some f->f.size+(bM x).size<=1000000:=λf hf=>by
    have:f.size+(x.size+1+a8 (L1.drop (i+1)))<=1000000:=i4 f hf
    rw[lH];omega
   apply aft {S with sn:=S.sn+1} (R++[no]) H d2 L1 no i pH jx CK (by omega) g2 (by show S.rn<=1000000;omega) (bK (by omega) (by omega))
   case n0=>rw[gO];exact(eh hx).2
   case n1=>rw[hex];exact arZ (by omega)
   case n2=>rw[hex,asN (by exact arO _)];exact G6 x
   case n3=>rw[hex];exact arZ (by omega)
   case n4=>rw[hex,join_eq];exact kA _
   case n5=>
    rw[hex,join_eq]
    exact IY.2 ⟨i3,bM x,rfl,(lH x).symm,(lH x).symm,rfl,rfl,cc⟩
   case l9=>
    intro g3
    rw[hex,join_eq,jH]at g3
    have g3:(bP d2 no (bM x)).1≠0:=by simpa using g3
    have i2:(if(bP d2 no (bM x)).1≠0 then bP d2 no (bM x)else ic no (L1.drop (i+1)) (bP d2 no (bM x)).2)=ic no L1 d1:=i2
    rw[if_pos g3]at i2
    rw[<-i2]at*
    with_reducible (repeat first|refine QL.ret ?_|refine QL.exit ?_|refine QB.ret ?_|refine QB.cw ?_|refine QB.normal ?_|refine QB.cJ (by rfl) ?_)
    refine afs {S with sn:=S.sn+1} (R++[no]) H d2 L1 no i ⟨?_,?_⟩
    ·rw[if_pos g3,hex,join_eq,jH]
    ·rw[if_pos g3,hex,join_eq,jH];rfl
   case jJ=>
    intro g3
    rw[hex,join_eq,jH]at g3
    have g3:(bP d2 no (bM x)).1=0:=by simpa using g3
    have i2:(if(bP d2 no (bM x)).1≠0 then bP d2 no (bM x)else ic no (L1.drop (i+1)) (bP d2 no (bM x)).2)=ic no L1 d1:=i2
    rw[if_neg (λh=>h g3)]at i2
    refine QL.to (i+1,(bP d2 no (bM x)).2) ⟨by dsimp only;omega,i2,i3.write cc,λf hf=>?_⟩ (by dsimp only;omega) ?_
    ·obtain⟨f0,h1,h2⟩:=I2 hf
     have:=i4 f0 h1
     have:f0.size+(x.size+1+a8 (L1.drop (i+1)))<=1000000:=this
     rw[lH]at h2
     dsimp only
     omega
    ·unfold QY CI
     rw[hex,join_eq,jH,fP (by omega)]
     rfl
noncomputable section
def afB(S:ad)(L:List ByteArray)(R:List Int)(H:List au)(d:aA)(e:Int)(T:ad)(K:List ByteArray)(Rr:List Int)(dd:aA):List (arY×Sum):=[(70,Sum.one (λ_ _=>some [0,1,6,7,8]) [ap 0] (aP S.z L R H d) (.ret (aa e)) (jI T.z K Rr H dd))]
theorem afC(S:ad)(L:List ByteArray)(R:List Int)(H:List au)(d:aA)(e:Int)(T:ad)(K:List ByteArray)(Rr:List Int)(dd:aA)(cZ:aF fK 70 [ap 0] (aP S.z L R H d) λr o=>r=.ret (aa e)/\o=jI T.z K Rr H dd):dD fK (dM fK (dP (afB S L R H d e T K Rr dd)) 50 40):=
 dU dC mixed (ee (.cons (bB.one cZ) .nil)) 50 40
def CL:List ar3:=a7 (dI fK 47)
open Tree renaming aQ->mN,dE->mF,fj->mL,fY->mQ,dN->mR,gH->mE
abbrev I4:List ar3:=(a7 (inner (a7 (inner (CL.drop 2)))))
def Q5:Nat->Bool->Bool->Tree->Tree
 |0,_,_,t=>t
 |n+1,d,b,t=>.cY d b (Q5 n d b t)
theorem Q6{R:bf->ai->Prop}{c v:Bool}{t:Tree}(n:Nat)(h1:c=v)(h2:t.ok R):(Q5 n c v t).ok R:=by
 induction n with
 |zero=>exact h2
 |succ n ih=>exact⟨h1,ih⟩
abbrev CM:=λS L R H d X (ro:Bool)=>([ab (aL (ad.z S) 1 6 7 8) 89,.abs d,.dead,.dead,.dead,.cells (ah X) 9 ro,ab (ah L) 9,ab (ay R) 3,ab (an H) 114]:List ak)
abbrev Q7:=λS L R H d X (ro:Bool) (n:Nat)=>(⟨[(0,ap 0),(8,aq 5 n),(9,aa n),(10,aa 0)],CM S L R H d X ro⟩:ai)
abbrev CN:=λ(S:ad) L R H d X (ro:Bool)=>([ab (aL S.z 1 6 7 8) 89,.abs d,.dead,.dead,.dead,.cells (ah X) 9 ro,ab (ah L) 9,ab (ay R) 3,ab (an H) 114]:List ak)
abbrev afD:=λS L R H d X (ro:Bool) (n:Nat)=>(⟨[(0,ap 0),(1,aq 5 n)],CN S L R H d X ro⟩:ai)
theorem afE(S:ad)(L R H d X)(ro:Bool)(n:Nat)(pH:(an H).all ag=true)(hL:(nG L)=S.rn)(hR:(nG R)=S.sn){Q:aU}(l4:ao fK 57 6 (CL.drop 2) (Q7 S L R H d X ro n) Q):ao fK 57 6 CL (afD S L R H d X ro n) Q:=
 aV bp 2 (.leaf [0,8,9,10] [0,1,2,3,4,5,6,7,8] [5,6,7,8]) (λu=>by kernel_rfl) (mN (aW X) (aO L R H (mQ l4)))
abbrev afF:=λS L R H d X (ro:Bool) (n:Nat) (i:Int)=>(⟨[(0,ap 0),(8,aq 5 n),(9,aa n),(10,aa i)],CM S L R H d X ro⟩:ai)
abbrev afG(S:ad)(L:List ByteArray)(R:List Int)(H:List au)(d:aA)(X:List ByteArray)(ro:Bool)(n:Nat)(i:Int):ai:=⟨[],CM S L R H d X ro⟩
abbrev afH:=λS L R H d X (ro:Bool) (n:Nat) (i:Int)=>(⟨[(0,ap 0),(8,aq 5 n),(9,aa n),(10,aa i)],CN S L R H d X ro⟩:ai)
theorem afI(S:ad)(L R H d X)(ro:Bool)(n:Nat)(i:Int)(pH:(an H).all ag=true)(hL:(nG L)=S.rn)(hR:(nG R)=S.sn){Q:aU}(l4:(decide (i<(↑n:Int)))->ao fK 57 6 (I4.drop 2) (afF S L R H d X ro n i) Q)(l5:(decide (i<(↑n:Int)))=false->Q (.exit 0) (afG S L R H d X ro n i)):ao fK 57 6 I4 (afH S L R H d X ro n i) Q:=
 aV bp 2 (.fork 0 (.leaf [0,8,9,10] [0,1,2,3,4,5,6,7,8] [5,6,7,8]) (.leaf [] [0,1,2,3,4,5,6,7,8] [5,6,7,8])) (λu=>by kernel_rfl) (mF (c:=decide (i<(↑n:Int))) (λh0=>(mN (aW X) (aO L R H (mQ (l4 h0))))) (λh0=>(mN (aW X) (aO L R H (mE 0 (l5 h0))))))
abbrev I5:=λ(S:ad) (L:List ByteArray) (R:List Int) H (d:aA) (e:Int) T K Rr dd X (ro:Bool) (n:Nat) (i:Int)=>(⟨[(4,aa e)],[ab (aL (ad.z T) 1 6 7 8) 89,.abs dd,.dead,.dead,.dead,.cells (ah X) 9 ro,ab (ah K) 9,ab (ay Rr) 3,ab (an H) 114]⟩:ai)
theorem afJ(S L R H d)(e:Int)(T K Rr dd X)(ro:Bool)(n:Nat)(i:Int){Q:bu}(aY:DC (ah X) ag)(bh:DC (an H) ag)(hq:Q (.ret (aa e)) (I5 S L R H d e T K Rr dd X ro n i).objs):aG fK 47 57 6 Q .ret (I5 S L R H d e T K Rr dd X ro n i):=aG.ret (vs:=[aa e]) (l:=[]) (bs:=[0,1,2,3,4,5,6,7,8]) (pl:=[5,6,7,8]) (q:=[ah X,ah K,ay Rr,an H]) (λu=>by kernel_rfl) (by kernel_rfl) (aD aY (aD (by simp) (aD (by simp) (aD bh be)))) hq
abbrev Q8:=λ(S:ad) (L:List ByteArray) (R:List Int) H (d:aA) (e:Int) T K Rr dd X (ro:Bool) (n:Nat) (i:Int)=>(⟨[(0,ap 0),(8,aq 5 n),(9,aa n),(10,.int .i64 (m6 .i64 (i+1)))],[ab (aL (ad.mk (ad.at_ T) (ad.more T) (ad.bi T) (ad.B (ad.z T)) (ad.n T) (ad.failed T) (ad.aC T) 0 (ad.rn T+1) (m6 .i64 (ad.bJ T+m6 .i64 ((↑(DD (aR (ah X) (0+m5 i*1))):Int)+1))) (ad.sn T) (ad.hn T) (ad.eL T) (ad.raw T) (ad.closed T)) 1 6 7 8) 89,.abs dd,.dead,.dead,.dead,.cells (ah X) 9 ro,ab (ah K++[arS (aR (ah X) (0+m5 i*1))]) 9,ab (ay Rr) 3,ab (an H) 114]⟩:ai)
abbrev Q9:=λS L R H d (e:Int) (T:ad) (K:List ByteArray) (Rr:List Int) (dd:aA) X (ro:Bool) (n:Nat) (i:Int)=>(⟨[(0,ap 0),(8,aq 5 n),(9,aa n),(10,.int .i64 (m6 .i64 (i+1)))],[ab (aL (ad.mk (ad.at_ S) (ad.more S) (ad.bi S) (ad.B (ad.z S)) (ad.n S) (ad.failed S) (ad.aC S) 0 (ad.rn S+1) (m6 .i64 (ad.bJ S+m6 .i64 ((↑(DD (aR (ah X) (0+m5 i*1))):Int)+1))) (ad.sn S) (ad.hn S) (ad.eL S) (ad.raw S) (ad.closed S)) 1 6 7 8) 89,.abs d,.dead,.dead,.dead,.cells (ah X) 9 ro,ab (ah L++[arS (aR (ah X) (0+m5 i*1))]) 9,ab (ay R) 3,ab (an H) 114]⟩:ai)
abbrev Ra:=λS L R H d (e:Int) (T:ad) (K:List ByteArray) (Rr:List Int) (dd:aA) X (ro:Bool) (n:Nat) (i:Int)=>(⟨[(0,ap 0),(8,aq 5 n),(9,aa n),(10,.int .i64 (m6 .i64 (i+1)))],[ab (aL (ad.mk (ad.at_ S) (ad.more S) (ad.bi S) (ad.B (ad.z S)) (ad.n S) (ad.failed S) (ad.aC S) 0 (ad.rn S+1) (m6 .i64 (ad.bJ S+m6 .i64 ((↑(DD (aR (ah X) (0+m5 i*1))):Int)+1))) (ad.sn S) (ad.hn S) (ad.eL S) (ad.raw S) (ad.closed S)) 1 6 7 8) 89,.abs d,.dead,.dead,.dead,.cells (ah X) 9 ro,ab (ah L++[arS (aR (ah X) (0+m5 i*1))]) 9,ab (ay R) 3,ab (an H) 114]⟩:ai)
abbrev afK:=λS L R H d (e:Int) (T:ad) (K:List ByteArray) (Rr:List Int) (dd:aA) X (ro:Bool) (n:Nat) (i:Int)=>(⟨[(0,ap 0),(8,aq 5 n),(9,aa n),(10,aa i)],CN S L R H d X ro⟩:ai)
theorem afL(S:ad)(L R H d)(e:Int)(T:ad)(K Rr dd X)(ro:Bool)(n:Nat)(i:Int)(cZ:aF fK 70 [ap 0] (aP S.z L R H d) λr o=>r=.ret (aa e)/\o=jI T.z K Rr H dd)(pH:(an H).all ag=true)(hL:(nG L)=S.rn)(hR:(nG R)=S.sn)(h0:0<=i)(h1:i<n)(h2:n<=1000000)(h3:m6 .i64 (i+1)=i+1)(h4:(nG X)=n)(h5:(nG K)=T.rn){Q:aU}(n0:(dY (ah X) (0+m5 i*1)))(n1:(decide ((↑S.rn:Int)>0))->(decide (m6 .i64 (m6 .i64 (ad.bJ S+(↑(DD (aR (ah X) (0+m5 i*1))):Int))+1)>256))->(fZ [ap 0] [ap 0] [ab (aL S.z 1 2 3 4) 89,ak.abs d,ab (ah L) 9,ab (ay R) 3,ab (an H) 114] (aP S.z L R H d))=true)(aY:DC (ah X) ag)(bh:DC (an H) ag)(l4:(decide ((↑S.rn:Int)>0))->(decide (m6 .i64 (m6 .i64 (ad.bJ S+(↑(DD (aR (ah X) (0+m5 i*1))):Int))+1)>256))->(e != 0)->Q .ret (I5 S L R H d e T K Rr dd X ro n i))(n5:(decide ((↑S.rn:Int)>0))->(decide (m6 .i64 (m6 .i64 (ad.bJ S+(↑(DD (aR (ah X) (0+m5 i*1))):Int))+1)>256))->(e != 0)=false->(arM (ad.rn T+1) 1000000)=true)(l6:(decide ((↑S.rn:Int)>0))->(decide (m6 .i64 (m6 .i64 (ad.bJ S+(↑(DD (aR (ah X) (0+m5 i*1))):Int))+1)>256))->(e != 0)=false->Q .normal (Q8 S L R H d e T K Rr dd X ro n i))(n7:(decide ((↑S.rn:Int)>0))->(decide (m6 .i64 (m6 .i64 (ad.bJ S+(↑(DD (aR (ah X) (0+m5 i*1))):Int))+1)>256))=false->(arM (ad.rn S+1) 1000000)=true)(bT:DC (ay R) ag)(l9:(decide ((↑S.rn:Int)>0))->(decide (m6 .i64 (m6 .i64 (ad.bJ S+(↑(DD (aR (ah X) (0+m5 i*1))):Int))+1)>256))=false->Q .normal (Q9 S L R H d e T K Rr dd X ro n i))(jJ:(decide ((↑S.rn:Int)>0))=false->Q .normal (Ra S L R H d e T K Rr dd X ro n i)):ao fK 57 6 (I4.drop 2) (afK S L R H d e T K Rr dd X ro n i) Q:=
 aV (afC S L R H d e T K Rr dd cZ) 1000 (aB [0,1,1,0,1] (.fork 2 (aB [1,1,1,3,1,3,1,1,1] (.fork 0 (aB [3,1,1,1,1,1,1] (.fork 0 (.leaf [4] [0,1,2,3,4,5,9,10,11] [5,9,10,11]) (aB [2,3,5,1] (.leaf [0,8,9,10] [0,1,2,3,4,5,13,10,11] [5,13,10,11])))) (aB [2,3,5,1] (.leaf [0,8,9,10] [0,1,2,3,4,5,10,7,8] [5,10,7,8])))) (aB [0,0,0,0,0,0,0,0,0,4,3,5,1] (.leaf [0,8,9,10] [0,1,2,3,4,5,10,7,8] [5,10,7,8])))) (λu=>by kernel_rfl) (mN (decide_eq_true (by omega):(decide (0<=i))=true) (mN (show(Nat.blt (m5 i) n)=true by simp at cZ pH hL hR h0 h1 h2 h3 h4 h5⊢ <;>omega) (mN n0 (mF (c:=decide ((↑(ad.rn S):Int)>0)) (λh0=>(Q6 9 h0 (mF (c:=decide (m6 .i64 (m6 .i64 (ad.bJ S+(↑(DD (aR (ah X) (0+m5 i*1))):Int))+1)>256)) (λh1=>(aO L R H (mN (n1 h0 h1) (mN (aW K) (mN (aS Rr) (mN (aZ H) (mF (c:=e != 0) (λh2=>(mN (aW X) (mN (aW K) (mN (aS Rr) (mN (aZ H) (mR (l4 h0 h1 h2))))))) (λh2=>(mN (n5 h0 h1 h2) (mN (kY _:(full (ad.rn T) (ad.rn T))=true) (mN (show(arE (0+ad.rn T*1) (nG (ah K)))=true by simp at cZ pH hL hR h0 h1 h2 h3 h4 h5 h0 h1 h2⊢ <;>omega) (mN (aW X) (mN (show(DC (ah K++[arS (aR (ah X) (0+m5 i*1))]) ag)=true by first|(simp;done)|assumption|exact fO (kA _) rfl|exact fO rfl (nq (by assumption) _)|exact iH (iH (iH (by assumption) rfl _) rfl _) rfl _|exact fO (by assumption) rfl) (mN (aS Rr) (mN (aZ H) (mQ (ao.done (by kernel_rfl) (l6 h0 h1 h2)))))))))))))))))) (λh1=>(mN (n7 h0 h1) (mN (kY _:(full (ad.rn S) (ad.rn S))=true) (mN (show(arE (0+ad.rn S*1) (nG (ah L)))=true by simp at cZ pH hL hR h0 h1 h2 h3 h4 h5 h0 h1⊢ <;>omega) (mN (aW X) (mN (show(DC (ah L++[arS (aR (ah X) (0+m5 i*1))]) ag)=true by first|(simp;done)|assumption|exact fO (kA _) rfl|exact fO rfl (nq (by assumption) _)|exact iH (iH (iH (by assumption) rfl _) rfl _) rfl _|exact fO (by assumption) rfl) (mN (aS R) (mN (aZ H) (mQ (ao.done (by kernel_rfl) (l9 h0 h1)))))))))))))) (λh0=>(Q6 9 h0 (mN (show(arM (ad.rn S+1) 1000000)=true by simp at cZ pH hL hR h0 h1 h2 h3 h4 h5 h0⊢ <;>omega) (mN (kY _:(full (ad.rn S) (ad.rn S))=true) (mN (show(arE (0+ad.rn S*1) (nG (ah L)))=true by simp at cZ pH hL hR h0 h1 h2 h3 h4 h5 h0⊢ <;>omega) (mN (aW X) (mN (show(DC (ah L++[arS (aR (ah X) (0+m5 i*1))]) ag)=true by first|(simp;done)|assumption|exact fO (kA _) rfl|exact fO rfl (nq (by assumption) _)|exact iH (iH (iH (by assumption) rfl _) rfl _) rfl _|exact fO (by assumption) rfl) (mN (aS R) (mN (aZ H) (mQ (ao.done (by kernel_rfl) (jJ h0))))))))))))))))
abbrev I6:=λS L R H d X (ro:Bool) (n:Nat)=>(⟨[(4,aa 0)],CM S L R H d X ro⟩:ai)
theorem afM(S L R H d X)(ro:Bool)(n:Nat){Q:bu}(hq:Q (.ret (aa 0)) (I6 S L R H d X ro n).objs):aG fK 47 57 6 Q .ret (I6 S L R H d X ro n):=aG.ret (vs:=[aa 0]) (l:=[]) (bs:=[0,1,2,3,4,5,6,7,8]) (pl:=[5,6,7,8]) (q:=[ah X,ah L,ay R,an H]) (λu=>by kernel_rfl) (by kernel_rfl) (aD (aW X) (ia L R H be)) hq
abbrev afN(S:ad)(L:List ByteArray)(R:List Int)(H:List au)(d:aA)(X:List ByteArray)(ro:Bool)(n:Nat):ai:=⟨[],CN S L R H d X ro⟩
theorem afO(S:ad)(L R H d X)(ro:Bool)(n:Nat)(pH:(an H).all ag=true)(hL:(nG L)=S.rn)(hR:(nG R)=S.sn){Q:aU}(l4:Q .ret (I6 S L R H d X ro n)):ao fK 57 6 (CL.drop 3) (afN S L R H d X ro n) Q:=
 aV bp 1000 (.leaf [4] [0,1,2,3,4,5,6,7,8] [5,6,7,8]) (λu=>by kernel_rfl) (mN (aW X) (aO L R H (mR l4)))
end
abbrev cm:=ad×List ByteArray×List Int×aA
structure jK(s:cm):Prop where
 len:s.2.1.length=s.1.rn
 runs:s.2.2.1.length=s.1.sn
 cL:ct s.2.2.2
 made:s.2.2.1.length<=s.2.2.2.made
 bJ:s.1.bJ=a8 s.2.1
 bR:a8 s.2.1<=400
theorem I7(d:aA)(no:Int)(b:ByteArray):(bP d no b).2.made=d.made:=by
 unfold bP
 split
 ·rfl
 split
 ·rfl
 split
 ·rfl
 ·rfl
theorem I8(no:Int):∀(l:List ByteArray) (d:aA),ct d->(∀f,fileOf d.files no=some f->f.size+a8 l<=1000000)->ct (ic no l d).2/\(ic no l d).2.made=d.made
 | [],d,h,_=>⟨h,rfl⟩
 |x::l,d,h,hs=>by
  have h1:∀f,fileOf d.files no=some f->f.size+(bM x).size<=1000000:=λf hf=>by
   have:f.size+(x.size+1+a8 l)<=1000000:=hs f hf
   rw[lH];omega
  unfold ic
  split
  ·exact⟨h.write h1,I7 _ _ _⟩
  ·obtain⟨a,b⟩:=I8 no l (bP d no (bM x)).2 (h.write h1) λf hf=>by
    obtain⟨g,g1,g2⟩:=I2 hf
    have:g.size+(x.size+1+a8 l)<=1000000:=hs g g1
    rw[lH]at g2
    omega
   exact⟨a,by rw[b,I7]⟩
theorem I9{d:aA}:(bj d).2.2.made=if(bj d).2.1=0 then d.made+1 else d.made:=by
 unfold bj
 by_cases h1:d.made=64
 ·rw[if_pos h1];rfl
 ·rw[if_neg h1]
  by_cases h2:j9 d=0
  ·rw[if_neg (λh=>h h2)];rfl
  ·rw[if_pos h2];show d.made=if j9 d=0 then _ else _;rw[if_neg h2]
theorem jK.jp{s:cm}(h:jK s):jK (cM s.1 s.2.1 s.2.2.1 s.2.2.2).2/\((cM s.1 s.2.1 s.2.2.1 s.2.2.2).1=0->(cM s.1 s.2.1 s.2.2.1 s.2.2.2).2.2.1=[]):=by
 obtain⟨S,L,R,d⟩:=s
 obtain⟨h1,h2,h3,h4,h5,h6⟩:=h
 dsimp only at h1 h2 h3 h4 h5 h6⊢
 have hw:a8 (bb (aN S.aC) L)=a8 L:=pO (ib L)
 have hm:=I9 (d:=d)
 unfold cM
 by_cases g:(bj d).2.1=0
 ·rw[if_neg (λh=>h g)]
  rw[if_pos g]at hm
  obtain⟨w1,w2⟩:=I8 (bj d).1 (bb (aN S.aC) L) (bj d).2.2 h3.vb λf hf=>by
   rw[zu h3 g]at hf
   cases hf
   show 0+_<=_
   omega
  split
  ·refine⟨⟨?_,?_,w1,?_,?_,?_⟩,λh=>?_⟩
   ·show(bb _ L).length=S.rn;rw[lG];exact h1
   ·show(R++[(bj d).1]).length=S.sn+1;rw[KO,h2];rfl
   ·show(R++[(bj d).1]).length<=_;rw[KO,w2,hm];show R.length+1<=_;omega
   ·show S.bJ=a8 (bb _ L);rw[hw];exact h5
   ·show a8 (bb _ L)<=400;rw[hw];exact h6
   ·rename_i br;exact absurd h br
  ·refine⟨⟨rfl,?_,w1,?_,rfl,?_⟩,λ_=>rfl⟩
   ·show(R++[(bj d).1]).length=S.sn+1;rw[KO,h2];rfl
   ·show(R++[(bj d).1]).length<=_;rw[KO,w2,hm];show R.length+1<=_;omega
   ·exact asb _
 ·rw[if_pos g]
  rw[if_neg g]at hm
  refine⟨⟨?_,h2,h3.vb,?_,?_,?_⟩,λh=>absurd h g⟩
  ·show(bb _ L).length=S.rn;rw[lG];exact h1
  ·show R.length<=_;rw[hm];exact h4
  ·show S.bJ=a8 (bb _ L);rw[hw];exact h5
  ·show a8 (bb _ L)<=400;rw[hw];exact h6
def jT(x:ByteArray)(s:cm):cm:=({s.1 with rn:=s.1.rn+1,bJ:=s.1.bJ+(x.size+1)},s.2.1++[x],s.2.2)
def cx:List ByteArray->cm->Int×cm
 | [],s=>(0,s)
 |x::l,s=>if 0<s.1.rn/\s.1.bJ+x.size+1>256 then(if(cM s.1 s.2.1 s.2.2.1 s.2.2.2).1≠0 then cM s.1 s.2.1 s.2.2.1 s.2.2.2 else cx l (jT x (cM s.1 s.2.1 s.2.2.1 s.2.2.2).2))else cx l (jT x s)
theorem lg(a b:List ByteArray):a8 (a++b)=a8 a+a8 b:=by
 induction a with
 |nil=>show a8 b=0+a8 b;omega
 |cons x a ih=>show x.size+1+a8 (a++b)=x.size+1+a8 a+a8 b;omega
theorem jK.put{s:cm}(h:jK s)(x:ByteArray)(hx:a8 s.2.1+(x.size+1)<=400):jK (jT x s):=by
 refine⟨?_,h.runs,h.cL,h.made,?_,?_⟩
 ·show(s.2.1++[x]).length=s.1.rn+1;rw[KO,h.len];rfl
 ·show s.1.bJ+((x.size:Int)+1)=a8 (s.2.1++[x]);rw[lg,h.bJ];show _=((a8 s.2.1+(x.size+1+0):Nat):Int);omega
 ·show a8 (s.2.1++[x])<=400;rw[lg];exact hx
@[simp] theorem aqu(S:ad)(a b c e:Nat):(aL S a b c e).length=78:=rfl
def oX(E:ak)(S:ad)(L:List ByteArray)(R:List Int)(H:List au)(d:aA):List ak:=[.cells (aL S 1 6 7 8) 89 false,.abs d,.dead,.dead,.dead,E,.cells (ah L) 9 false,.cells (ay R) 3 false,.cells (an H) 114 false]
def Ja(X:List ByteArray)(ro:Bool)(H:List au)(s:cm):List ak:=oX (.cells (ah X) 9 ro) s.1.z s.2.1 s.2.2.1 H s.2.2.2
def zv(X:List ByteArray)(ro:Bool)(n:Nat)(H:List au)(s:Nat×cm):ai:=⟨[(0,.pointer (some ⟨0,0,none⟩)),(8,.slice (some ⟨5,0,none⟩) n n),(9,iZ n),(10,iZ s.1)],Ja X ro H s.2⟩
structure afP(X:List ByteArray)(s0:cm)(s:Nat×cm):Prop where
 i:s.1<=X.length
 e:cx (X.drop s.1) s.2=cx X s0
 ok:jK s.2
theorem Rb(X:List ByteArray)(ro:Bool)(n:Nat)(hX:X.length=n)(hn:n<=1000000)(jy:∀x∈X,x.size<=64)(H:List au)(s:cm)(hs:jK s):
 aF fK 47 [.pointer (some ⟨0,0,none⟩),.slice (some ⟨5,0,none⟩) n n] (aP s.1.z s.2.1 s.2.2.1 H s.2.2.2++[.cells (ah X) 9 ro]) λr o=>r=.ret (.int .i64 (cx X s).1)/\o=Ja X ro H (cx X s).2:=by
 have pH:=aZ H
 refine aF.dv (n:=cp fK 47) (by kernel_rfl) ?_
 refine ao.move (d':=⟨[(0,.pointer (some ⟨0,0,none⟩)),(1,.slice (some ⟨5,0,none⟩) n n)],Ja X ro H s⟩) [some 0,some 1,none,none,none,some 5,some 2,some 3,some 4] [2,3,4,5] (q:=[ah X,ah s.2.1,ay s.2.2.1,an H]) (by kernel_rfl) (aD (by simp) (aD (by simp) (aD (by simp) (aD pH be)))) (by kernel_rfl) (by kernel_rfl) ?_
 apply afE s.1 s.2.1 s.2.2.1 H s.2.2.2 X ro n pH hs.len hs.runs
 ·
  rw[show Q7 s.1 s.2.1 s.2.2.1 H s.2.2.2 X ro n=zv X ro n H (0,s)from rfl]
  refine ao.eX 2 0 (by kernel_rfl) ?_
  refine ao.gu (zv X ro n H) (λt=>n-t.1) (afP X s) (0,s) (by kernel_rfl) ⟨asb _,by simp,hs⟩ ?_
  clear hs
  rintro⟨i,t⟩ ⟨h1,h2,h3⟩
  dsimp only at h1 h2 h3
  apply afI t.1 t.2.1 t.2.2.1 H t.2.2.2 X ro n i pH h3.len h3.runs
  case l5=>
   intro g
   have g:=of_decide_eq_false g
   rw[show i=X.length by omega,avu]at h2
   have h2:(0,t)=cx X s:=h2
   rw[<-h2]
   with_reducible (repeat first|refine QL.ret ?_|refine QL.exit ?_|refine QB.ret ?_|refine QB.cw ?_|refine QB.normal ?_|refine QB.cJ (by rfl) ?_)
   apply afO t.1 t.2.1 t.2.2.1 H t.2.2.2 X ro n pH h3.len h3.runs
   ·
    exact afM t.1 t.2.1 t.2.2.1 H t.2.2.2 X ro n ⟨rfl,rfl⟩
  case l4=>
   intro g
   have g:=of_decide_eq_true g
   obtain⟨x,hx⟩:∃x,X[i]?=some x:=⟨_,KH (by omega)⟩
   have aqv:=jy x (List.mem_of_getElem? hx)
   rw[(qA hx).2]at h2
   have hex:aR (ah X) (0+m5 (i:Int)*1)=x:=by rw[gO];exact(eh hx).1
   have cZ:=h3.jp
   have hlen:=cZ.1.len
   have Jb:=Q4 t.1 t.2.1 t.2.2.1 H t.2.2.2 h3.len h3.runs h3.cL (by have:=h3.bR;omega) (by have:=h3.made;have:=h3.cL.made;omega)
   have CP:=h3.bJ
   have iq:=h3.bR
   have CJ:=rO t.2.1
   have aqw:t.1.bJ=(a8 t.2.1:Nat):=CP
   have ew:m6 Ul (m6 Ul (t.1.bJ+(x.size:Int))+1)=t.1.bJ+x.size+1:=by rw[bK (z:=t.1.bJ+(x.size:Int)) (by omega) (by omega),bK (by omega) (by omega)]
   have es:∀w:Int,0<=w->w<=1000->m6 Ul (w+m6 Ul ((x.size:Int)+1))=w+((x.size:Int)+1):=λw w1 w2=>by rw[bK (z:=(x.size:Int)+1) (by omega) (by omega),bK (by omega) (by omega)]
   generalize hR:cM t.1 t.2.1 t.2.2.1 t.2.2.2=r at cZ hlen Jb
   obtain⟨e,u⟩:=r
   dsimp only at cZ hlen Jb
   have Jc:∀l:List ByteArray,ah l++[arS x]=ah (l++[x]):=λl=>by unfold ah;rw[asm];rfl
   have stay:∀l:List ByteArray,¬(0<t.1.rn/\t.1.bJ+x.size+1>256)->cx (X.drop (i+1)) (jT x t)=cx X s/\jK (jT x t):=λl hc=>by
    refine⟨?_,h3.put x ?_⟩
    ·rw[<-h2];show _=cx (x::X.drop (i+1)) t;rw[cx,if_neg hc]
    ·have hl:=h3.len
     by_cases h0:0<t.1.rn
     ·have:¬t.1.bJ+x.size+1>256:=λh=>hc ⟨h0,h⟩
      omega
     ·have:t.2.1=[]:=ar5 (by omega)
      rw[this];show 0+_<=400;omega
   apply afL t.1 t.2.1 t.2.2.1 H t.2.2.2 e u.1 u.2.1 u.2.2.1 u.2.2.2 X ro n i Jb pH h3.len h3.runs (by omega) g hn (bK (by omega) (by omega)) hX hlen
   case aY=>simp
   case bh=>exact pH
   case bT=>simp
   case n0=>rw[gO];exact(eh hx).2
   case n1=>intro _ _;exact iI rfl rfl
   case n5=>
    intro _ _ ge
    have ge:e=0:=by simpa using ge
    have:=cZ.2 ge
    have hl:u.2.1.length=u.1.rn:=hlen
    rw[this]at hl
    exact arZ (by have:u.1.rn=0:=hl.symm;omega)
   case n7=>intro _ _;exact arZ (by have:=h3.len;omega)
   case l4=>
    intro g1 g2 ge
    have g1:=of_decide_eq_true g1
    rw[hex,ew]at g2
    have g2:=of_decide_eq_true g2
    have ge:e≠0:=by simpa using ge
    have h2:cx (x::X.drop (i+1)) t=cx X s:=h2
    rw[cx,if_pos ⟨by omega,g2⟩,hR,if_pos ge]at h2
    rw[<-h2]
    with_reducible (repeat first|refine QL.ret ?_|refine QL.exit ?_|refine QB.ret ?_|refine QB.cw ?_|refine QB.normal ?_|refine QB.cJ (by rfl) ?_)
    exact afJ t.1 t.2.1 t.2.2.1 H t.2.2.2 e u.1 u.2.1 u.2.2.1 u.2.2.2 X ro n i (by simp) pH ⟨rfl,rfl⟩
   case l6=>
    intro g1 g2 ge
    have g1:=of_decide_eq_true g1
    rw[hex,ew]at g2
    have g2:=of_decide_eq_true g2
    have ge:e=0:=by simpa using ge
    have h2:cx (x::X.drop (i+1)) t=cx X s:=h2
    rw[cx,if_pos ⟨by omega,g2⟩,hR,if_neg (λh=>h ge)]at h2
    have Rc:=cZ.2 ge
    have Jd:=cZ.1.bJ
    rw[Rc]at Jd
    have Jd:u.1.bJ=0:=Jd
    refine QL.to (i+1,jT x u) ⟨by dsimp only;omega,h2,cZ.1.put x (by rw[Rc];show 0+_<=400;omega)⟩ (by dsimp only;omega) ?_
    unfold Q8 zv
    rw[hex,Jc,es _ (by omega) (by omega),fP (by omega)]
    rfl
   case l9=>
    intro g1 g2
    rw[hex,ew]at g2
    have g2:=of_decide_eq_false g2
    obtain⟨k1,k2⟩:=stay [] (λh=>g2 h.2)
    refine QL.to (i+1,jT x t) ⟨by dsimp only;omega,k1,k2⟩ (by dsimp only;omega) ?_
    unfold Q9 zv
    rw[hex,Jc,es _ (by omega) (by omega),fP (by omega)]
    rfl
   case jJ=>
    intro g1
    have g1:=of_decide_eq_false g1
    obtain⟨k1,k2⟩:=stay [] (λh=>g1 (by have:=h.1;omega))
    refine QL.to (i+1,jT x t) ⟨by dsimp only;omega,k1,k2⟩ (by dsimp only;omega) ?_
    unfold Ra zv
    rw[hex,Jc,es _ (by omega) (by omega),fP (by omega)]
    rfl
theorem Re(b:ByteArray)(c:Int): -1<=ba b c:=Lib.indexByte_ge _ _
theorem CQ(b:ByteArray)(c:Int)(h:0<=ba b c):(ba b c).toNat<b.size:=by
 obtain⟨o,ho⟩:∃o:Nat,ba b c=o:=⟨(ba b c).toNat,by omega⟩
 have:=(Lib.indexByte_some (l:=b.data.toList) (c:=c.toNat.toUInt8) (o:=o) ho).1
 have:=(List.getElem?_eq_some_iff.1 this).1
 rw[ho]
 simpa using this
def Rf(cs:List Dy)(t:KS)(n m:Nat):Prop:=∃b,cs=af b/\n=b.size/\m=b.size/\t=5
noncomputable def zw(cs:List Dy)(t:KS)(n m:Nat):Bool:=@decide (Rf cs t n m) (arT _)
theorem Je{cs:List Dy}{t:KS}{n m:Nat}:zw cs t n m=true↔Rf cs t n m:=by unfold zw;exact @decide_eq_true_iff _ (arT _)
noncomputable def Jf(a:List Dy)(o:List ak):Option (Bool×bD×List ak):=match a,o with
 | [.slice (some ⟨0,0,none⟩) n m,.int .u8 c],[.cells cs t ro]=>some (zw cs t n m,.ret (.int .i64 (ba (bk cs) c)),[.cells cs t ro])
 |_,_=>none
theorem afQ:bB fK 80 (Sum.of Jf):=bB.of λa o r o' hg=>by
 unfold Jf at hg
 split at hg
 ·rename_i n m c cs t ro
  simp only[DE,KN,Je]at hg
  obtain⟨⟨b,rfl,rfl,rfl,rfl⟩,rfl,rfl⟩:=hg
  rw[jH]
  exact acF b c ro
 ·cases hg
def xa(h:au)(b:ByteArray):au:=⟨h.no,h.at_+(ba b 10+1),b.extract 0 (max (ba b 10) 0).toNat,decide (0<=ba b 10)⟩
def bE(h:au)(d:aA):Int×au×aA:=
 if(aJ d h.no h.at_ 65).2.1≠0 then((aJ d h.no h.at_ 65).2.1,h,(aJ d h.no h.at_ 65).2.2)else(0,xa h (aJ d h.no h.at_ 65).1,(aJ d h.no h.at_ 65).2.2)
def dB:List Int->List au->aA->Int×List au×aA
 | [],H,d=>(0,H,d)
 |no::l,H,d=>if(bE ⟨no,0,KI,false⟩ d).1≠0 then((bE ⟨no,0,KI,false⟩ d).1,[],(bE ⟨no,0,KI,false⟩ d).2.2)else dB l (H++[(bE ⟨no,0,KI,false⟩ d).2.1]) (bE ⟨no,0,KI,false⟩ d).2.2
def aK(H:List au)(k:Nat):au:=H.getD k ⟨0,0,KI,false⟩
def jq(f:Bool)(H:List au)(h:au):Option Nat->Bool
 |none=>h.there
 |some j=>h.there&&decide (aN f h.line (aK H j).line<0)
def ke(f:Bool)(H:List au):List au->Nat->Option Nat->Option Nat
 | [],_,k=>k
 |h::l,i,k=>ke f H l (i+1) (if jq f H h k then some i else k)
def eo(f:Bool)(H:List au):Option Nat:=ke f H H 0 none
def kI:Option Nat->Int
 |none=> -1
 |some k=>k
def eN:List Int->aA->Int×aA
 | [],d=>(0,d)
 |no::l,d=>if(dZ d no).1≠0 then dZ d no else eN l (dZ d no).2
def jU(f:Bool)(no:Int):Nat->List au->aA->Int×aA
 |0,_,d=>(0,d)
 |n+1,H,d=>match eo f H with
  |none=>(0,d)
  |some k=>
   if(bP d no (bM (aK H k).line)).1≠0 then bP d no (bM (aK H k).line)
   else if(bE (aK H k) (bP d no (bM (aK H k).line)).2).1≠0 then((bE (aK H k) (bP d no (bM (aK H k).line)).2).1,(bE (aK H k) (bP d no (bM (aK H k).line)).2).2.2)
   else jU f no n (H.set k (bE (aK H k) (bP d no (bM (aK H k).line)).2).2.1) (bE (aK H k) (bP d no (bM (aK H k).line)).2).2.2
noncomputable def qC:Nat:=Classical.choose (⟨1000001,rfl⟩:∃n:Nat,n=1000001)
theorem Rg:qC=1000001:=Classical.choose_spec (⟨1000001,rfl⟩:∃n:Nat,n=1000001)
noncomputable def gi(f:Bool)(l:List Int)(d:aA):Int×Int×aA:=
 match bj d with
 |(no,e,d1)=>if e≠0 then(0,e,d1)else match dB l [] d1 with
  |(e,H,d2)=>if e≠0 then(0,e,d2)else match jU f no qC H d2 with
   |(e,d3)=>if e≠0 then(0,e,d3)else(no,eN l d3)
def cg(d:aA)(no:Int):Nat:=((fileOf d.files no).map DD).getD 0
def tl(h:au):Nat:=if h.there then h.line.size+1 else 0
def eY(d:aA)(h:au):Nat:=cg d h.no-h.at_.toNat+tl h
def dx(d:aA):List au->Nat
 | []=>0
 |h::l=>eY d h+dx d l
structure pP(h:au):Prop where
 jb:0<=h.at_
 mH:h.at_<=1000000
 line:h.line.size<=64
theorem Rh(d:aA)(no p k:Int):(aJ d no p k).2.2.files=d.files/\(aJ d no p k).2.2.made=d.made/\(aJ d no p k).2.2.bG=d.bG:=by
 unfold aJ
 split
 ·exact⟨rfl,rfl,rfl⟩
 split
 ·exact⟨rfl,rfl,rfl⟩
 split
 ·exact⟨rfl,rfl,rfl⟩
 ·exact⟨rfl,rfl,rfl⟩
theorem ct.read{d:aA}(h:ct d)(no p k:Int):ct (aJ d no p k).2.2:=by
 unfold aJ
 split
 ·exact h
 split
 ·exact h
 split
 ·exact h.w8
 ·exact h.w8
theorem zx(h:au)(d:aA):(bE h d).2.2.files=d.files/\(bE h d).2.2.made=d.made/\(bE h d).2.2.bG=d.bG:=by
 unfold bE
 split
 ·exact Rh _ _ _ _
 ·exact Rh _ _ _ _
theorem ct.bE{d:aA}(hd:ct d)(h:au):ct (bE h d).2.2:=by
 unfold Go.Proofs.YtnlkkgpcikkpoaaGreat.bE
 split
 ·exact hd.read _ _ _
 ·exact hd.read _ _ _
theorem Ri{d:aA}{no p:Int}(h:(aJ d no p 65).2.1=0):0<=p/\p.toNat<=cg d no/\(aJ d no p 65).1.size=min (cg d no-p.toNat) 65:=by
 unfold aJ cg at*
 split at h
 ·cases h
 rename_i f e
 simp only[e]at h⊢
 split at h
 ·cases h
 rename_i h1
 split at h
 ·rename_i h2;exact absurd h h2
 rename_i h2
 rw[if_neg h1,if_neg h2]
 show 0<=p/\p.toNat<=f.size/\(f.extract p.toNat (p.toNat+min (f.size-p.toNat) (65:Int).toNat)).size=_
 refine⟨by omega,by omega,?_⟩
 rw[at8]
 show _=min (f.size-p.toNat) 65
 have:(65:Int).toNat=65:=rfl
 omega
theorem afR{d:aA}(hd:ct d)(no:Int):cg d no<=1000000:=by
 unfold cg
 cases e:fileOf d.files no with
 |none=>simp
 |some f=>
  obtain⟨k,h1,_⟩:=afy e
  exact hd.size _ h1
theorem zy{h:au}{d:aA}(hd:ct d)(he:(bE h d).1=0):(bE h d).2.1.no=h.no/\pP (bE h d).2.1/\cg d h.no-(bE h d).2.1.at_.toNat+tl (bE h d).2.1=cg d h.no-h.at_.toNat:=by
 unfold bE at he⊢
 split at he
 ·rename_i h1;exact absurd he h1
 rename_i h1
 rw[if_neg h1]
 have h1:(aJ d h.no h.at_ 65).2.1=0:=ate.1 h1
 obtain⟨p0,p1,p2⟩:=Ri h1
 have p3:cg d h.no<=1000000:=afR hd _
 dsimp only
 generalize(aJ d h.no h.at_ 65).1=b at p2⊢
 have k0:=Re b 10
 have k1:=CQ b 10
 refine⟨rfl,⟨?_,?_,?_⟩,?_⟩
 ·show 0<=h.at_+(ba b 10+1);omega
 ·show h.at_+(ba b 10+1)<=1000000
  by_cases hk:0<=ba b 10
  ·have:=k1 hk;omega
  ·omega
 ·show(b.extract 0 (max (ba b 10) 0).toNat).size<=64
  rw[at8]
  by_cases hk:0<=ba b 10
  ·have:=k1 hk;omega
  ·omega
 ·unfold xa tl
  by_cases hk:0<=ba b 10
  ·have:=k1 hk
   simp only[hk,decide_true,if_true,at8]
   omega
  ·simp only[hk,decide_false,asv,if_false]
   omega
theorem rP{d d':aA}(h:d'.files=d.files)(no:Int):cg d' no=cg d no:=by unfold cg;rw[h]
def eO(d:aA):List Int->Nat
 | []=>0
 |no::l=>cg d no+eO d l
theorem xc(d:aA)(a b:List Int):eO d (a++b)=eO d a+eO d b:=by
 induction a with
 |nil=>show eO d b=0+eO d b;omega
 |cons x a ih=>show cg d x+eO d (a++b)=cg d x+eO d a+eO d b;omega
theorem CS{d d':aA}(h:d'.files=d.files)(l:List au):dx d' l=dx d l:=by
 induction l with
 |nil=>rfl
 |cons x l ih=>unfold dx eY;rw[ih,rP h]
theorem afS(d:aA)(a b:List au):dx d (a++b)=dx d a+dx d b:=by
 induction a with
 |nil=>show dx d b=0+dx d b;omega
 |cons x a ih=>show eY d x+dx d (a++b)=eY d x+dx d a+dx d b;omega
structure Rj(d:aA)(l:List Int)(H:List au):Prop where
 CU:H.map (·.no)=l
 ok:∀h∈H,pP h
 eY:dx d H<=eO d l
theorem vc:∀(l:List Int) (H:List au) (d:aA),ct d->ct (dB l H d).2.2/\(dB l H d).2.2.files=d.files/\(dB l H d).2.2.made=d.made/\(dB l H d).2.2.bG=d.bG
 | [],H,d,h=>⟨h,rfl,rfl,rfl⟩
 |no::l,H,d,h=>by
  unfold dB
  obtain⟨f1,f2,f3⟩:=zx ⟨no,0,KI,false⟩ d
  have hd:=h.bE ⟨no,0,KI,false⟩
  split
  ·exact⟨hd,f1,f2,f3⟩
  ·obtain⟨g0,g1,g2,g3⟩:=vc l (H++[(bE ⟨no,0,KI,false⟩ d).2.1]) (bE ⟨no,0,KI,false⟩ d).2.2 hd
   exact⟨g0,g1.trans f1,g2.trans f2,g3.trans f3⟩
theorem zz:∀(l l0:List Int) (H:List au) (d d0:aA),ct d->d.files=d0.files->Rj d0 l0 H->(dB l H d).1=0->Rj d0 (l0++l) (dB l H d).2.1
 | [],l0,H,d,d0,hd,hf,ho,he=>by rw[asg];exact ho
 |no::l,l0,H,d,d0,hd,hf,ho,he=>by
  unfold dB at he⊢
  split at he
  ·rename_i h1;exact absurd he h1
  rename_i h1
  rw[if_neg h1]
  obtain⟨f1,f2,f3⟩:=zx ⟨no,0,KI,false⟩ d
  obtain⟨r1,r2,r3⟩:=zy hd (ate.1 h1)
  have:=zz l (l0++[no]) (H++[(bE ⟨no,0,KI,false⟩ d).2.1]) (bE ⟨no,0,KI,false⟩ d).2.2 d0 (hd.bE _) (f1.trans hf) ⟨?_,?_,?_⟩ he
  ·rw[arI]at this;exact this
  ·rw[asm,ho.CU];exact congrArg (λz=>l0++[z]) r1
  ·intro h hh
   rcases arL.1 hh with hh|hh
   ·exact ho.ok h hh
   ·rw[ar0.1 hh];exact r2
  ·rw[afS,xc]
   have h2:=ho.eY
   have h3:dx d0 [(bE ⟨no,0,KI,false⟩ d).2.1]=eY d0 (bE ⟨no,0,KI,false⟩ d).2.1+0:=rfl
   have h4:eO d0 [no]=cg d0 no+0:=rfl
   have h5:eY d0 (bE ⟨no,0,KI,false⟩ d).2.1<=cg d0 no:=by
    unfold eY
    rw[r1]
    have h6:cg d no=cg d0 no:=rP hf no
    rw[h6]at r3
    show cg d0 no-_+_<=_
    omega
   omega
theorem Rk(f:Bool)(H:List au):∀(l:List au) (i:Nat) (k:Option Nat),H.drop i=l->(∀j,k=some j->j<H.length/\(aK H j).there=true)->∀j,ke f H l i k=some j->j<H.length/\(aK H j).there=true
 | [],i,k,hl,hk,j,h=>hk j h
 |h::l,i,k,hl,hk,j,hj=>by
  unfold ke at hj
  have hi:i<H.length:=by
   have:=congrArg nG hl
   rw[List.length_drop,List.length_cons]at this
   omega
  refine Rk f H l (i+1) _ (by rw[<-List.tail_drop,hl];rfl) ?_ j hj
  intro j' ls
  split at ls
  ·rename_i hc
   cases ls
   refine⟨hi,?_⟩
   have e:aK H i=h:=by
    unfold aK
    rw[List.getD_eq_getElem?_getD]
    have:(H.drop i)[0]?=some h:=by rw[hl];rfl
    rw[List.getElem?_drop,Nat.add_zero]at this
    rw[this];rfl
   rw[e]
   unfold jq at hc
   split at hc
   ·exact hc
   ·rw[BV]at hc;exact hc.1
  ·exact hk j' ls
theorem vd{f:Bool}{H:List au}{k:Nat}(h:eo f H=some k):k<H.length/\(aK H k).there=true:=
 Rk f H H 0 none rfl (λj hj=>by cases hj) k h
theorem Rl(d:aA)(no:Int)(b:ByteArray):cg (bP d no b).2 no<=cg d no+b.size:=by
 cases e:fileOf (bP d no b).2.files no with
 |none=>unfold cg;rw[e];simp
 |some f=>
  obtain⟨g,g1,g2⟩:=I2 e
  unfold cg;rw[e,g1];exact g2
theorem Rm{l:List (Nat×ByteArray)}{no m:Int}{b:ByteArray}(h:m≠no):fileOf (ka l no b) m=fileOf l m:=by
 unfold fileOf ka
 induction l with
 |nil=>rfl
 |cons p l ih=>
  rw[asn,atz,atz]
  by_cases e:(p.1:Int)=no
  ·have e1:((p.1:Int)==no)=true:=by simpa using e
   have e2:((p.1:Int)==m)=false:=by rw[beq_eq_false_iff_ne];omega
   simp only[e1,if_true,e2]
   exact ih
  ·have e1:((p.1:Int)==no)=false:=by simpa using e
   simp only[e1,asv,if_false]
   cases e2:((p.1:Int)==m)with
   |true=>rfl
   |false=>exact ih
theorem Jg(d:aA){no m:Int}(b:ByteArray)(h:m≠no):cg (bP d no b).2 m=cg d m:=by
 unfold bP
 split
 ·rfl
 split
 ·rfl
 split
 ·rfl
 ·unfold cg;rw[show(aA.files {fz d with files:=ka d.files no b})=ka d.files no b from rfl,Rm h]
theorem Rn(d:aA)(no m:Int):cg (dZ d no).2 m<=cg d m:=by
 unfold dZ
 split
 ·exact arO _
 split
 ·exact arO _
 ·unfold cg
  show((fileOf (nv d.files no) m).map DD).getD 0<=_
  by_cases e:m=no
  ·subst e
   have:fileOf (nv d.files m) m=none:=by
    unfold fileOf nv
    rw[Option.map_eq_none_iff,aub]
    intro p hp
    rw[auX]at hp
    simpa using hp.2
   rw[this];exact asb _
  ·have:fileOf (nv d.files no) m=fileOf d.files m:=by
    unfold fileOf nv
    induction d.files with
    |nil=>rfl
    |cons p l ih=>
     rw[List.filter_cons,atz]
     by_cases e1:(p.1:Int)=no
     ·have e2:((p.1:Int)==m)=false:=by rw[beq_eq_false_iff_ne];omega
      have e3:((p.1:Int)==no)=true:=by simpa using e1
      simp only[e3,Bool.not_true,asv,if_false,e2]
      exact ih
     ·have e3:((p.1:Int)==no)=false:=by simpa using e1
      simp only[e3,Bool.not_false,if_true,atz]
      cases e2:((p.1:Int)==m)with
      |true=>rfl
      |false=>exact ih
   rw[this];exact arO _
theorem ct.remove{d:aA}(h:ct d)(no:Int):ct (dZ d no).2/\(dZ d no).2.made=d.made:=by
 unfold dZ
 split
 ·exact⟨h,rfl⟩
 split
 ·exact⟨h.w8,rfl⟩
 ·refine⟨⟨h.bR,h.made,λp hp=>h.keys p (auX.1 hp).1,?_,λp hp=>h.size p (auX.1 hp).1,CH _⟩,rfl⟩
  exact h.gR.sublist (ayy _ List.filter_sublist)
theorem CV:∀(l:List Int) (d:aA),ct d->ct (eN l d).2/\(eN l d).2.made=d.made/\∀m,cg (eN l d).2 m<=cg d m
 | [],d,h=>⟨h,rfl,λm=>arO _⟩
 |no::l,d,h=>by
  unfold eN
  obtain⟨h1,h2⟩:=h.remove no
  split
  ·exact⟨h1,h2,λm=>Rn d no m⟩
  ·obtain⟨g1,g2,g3⟩:=CV l (dZ d no).2 h1
   exact⟨g1,g2.trans h2,λm=>Nat.le_trans (g3 m) (Rn d no m)⟩
end Go.Proofs.YtnlkkgpcikkpoaaGreat
