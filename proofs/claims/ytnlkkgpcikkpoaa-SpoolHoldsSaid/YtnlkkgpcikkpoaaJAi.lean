/- Part of the proof: Sme, StW, SoA, Sst, SoB, SoC, Sss, SoD, Zoa, Zob, Zoc, Zoe, Zod, Zof, Zog, Zoh, Zpa. -/
import Derived.Test.YtnlkkgpcikkpoaaJAh
import Derived.KernelRfl
import Derived.Test.YtnlkkgpcikkpoaaJAg
import Derived.Lib.Bytealg
import Derived.Lib.IndexLaws
open Array renaming toArray_toList→anB,toList→amV
open Bool renaming and_eq_true→amB,and_self→aoe,false_eq_true→anr,true_and→aoZ
open ByteArray renaming data→amP,empty→amw,size→ams,size_append→aoX,size_extract→aoR
open Classical renaming propDecidable→amR
open Decidable renaming not_not→aoa
open Go renaming Code→am3,FuncId→amY,TypeId→amz,Value→amn
open Go.IntKind renaming i64→amA,u8→amJ,wrap→aml
open Go.Proofs.Try renaming prog→asz
open Go.Value renaming int→amu,string→amT
open Int renaming eq_ofNat_of_zero_le→anW,toNat→amm
open List renaming all→amq,append_assoc→amQ,append_nil→anV,drop_drop→anE,drop_length→ap3,eq_nil_of_length_eq_zero→ant,find?→arc,find?_cons→aoY,find?_eq_none→apm,getElem?_eq_getElem→amt,length→mM,length_append→amD,map→am0,map_append→anh,map_congr_left→aoz,map_cons→ani,map_map→aqi,mem_append→amU,mem_filter→aqd,mem_map→aoq,mem_singleton→ank,take→amM,take_of_length_le→anI
open List.Sublist renaming map→asy
open Nat renaming beq→amE,beq_refl→anw,ble→amO,ble_eq_true_of_le→am2,eq_of_beq_eq_true→amI,le_refl→amX,zero_le→ann
open Option.some renaming injEq→amr
open Prod renaming fst→amx,snd→anl
open Prod.mk renaming injEq→amv
open UInt8 renaming ofInt→aq1,toNat→amZ
set_option linter.unusedVariables false
set_option linter.unusedSimpArgs false
namespace Go.Proofs.Ytnlkkgpcikkpoaa
open Go Vm Go.RowKit
set_option maxRecDepth 100000
section
variable (S:ad) (R:List Int) (H:List ap) (d:ay)
theorem aa3(N:Nat)(hN:bp asz 111 (Sum.du asz (nk N)))(L:List ByteArray)(n a m b:Nat)(hn:L.length=n)(hL:n≤1000000)(om:a<m)(oq:m<b)(hb:b≤n)(AG:b-a≤N+1)
 (hX:dj (a7 S.aC) (aL L a m))(hY:dj (a7 S.aC) (aL L m b)):
 al asz 220 5 (ma.drop 3) ⟨[(0,fu n),(1,iZ a),(2,iZ m),(3,iZ b),(4,fK),(80,.bool false)],cF S R H d L⟩ (rD S R H d a b L):=by
 have pH:=aY H
 have fF:=vh S.aC
 have go:∀s0 r0,lq (a7 S.aC) L a m b s0 r0→al asz 220 5 (ma.drop 10) (tu S R H d n a m b ((a+b)/2) ((a+b)/2+m) s0 r0 ((a+b)/2+m-1) L) (rD S R H d a b L):=fun s0 r0 sw=>by
  refine al.eJ 10 8 (by kernel_rfl) ?_
  refine al.fJ (fun s:Nat×Nat=>tu S R H d n a m b ((a+b)/2) ((a+b)/2+m) s.1 s.2 ((a+b)/2+m-1) L) (fun s=>s.2-s.1) (fun s=>lq (a7 S.aC) L a m b s.1 s.2) (s0,r0) (by kernel_rfl) sw ?_
  rintro⟨i,j⟩ hs
  dsimp only at hs
  have q1:=hs.CX
  have q2:=hs.amj
  have q3:=hs.rm
  have q4:=hs.me
  have q5:=hs.sb
  apply aaJ S R H d n L a m b ((a+b)/2:Nat) ((a+b)/2+m:Nat) i j ((a+b)/2+m-1:Nat) pH hn
  case l4=>
   intro g
   have g:=of_decide_eq_false g
   have e:j=i:=by omega
   subst e
   with_reducible (repeat first|refine QL.ret ?_|refine QL.exit ?_|refine QB.ret ?_|refine QB.ci ?_|refine QB.normal ?_|refine QB.cu (by rfl) ?_)
   exact aa2 S R H d N hN L n a m b j hn hL om oq hb AG (by omega) (hs.three fF (by omega) om oq hX hY)
  case l3=>
   intro g
   have g:=of_decide_eq_true g
   refine al.eJ 2 9 (by kernel_rfl) ?_
   apply aaL S R H d n L a m b ((a+b)/2:Nat) ((a+b)/2+m:Nat) i j ((a+b)/2+m-1:Nat) pH hn (by omega) (by omega) (by omega) (by omega) (bG (by omega) (by omega))
   ·
    have qI:i≤(i+j)/2:=by omega
    have il:(i+j)/2<j:=by omega
    unfold NL
    rw[jS (by omega) (by omega)]
    generalize(i+j)/2=x at qI il
    obtain⟨u,hu⟩:∃u,L[x]?=some u:=⟨_,amt (by omega)⟩
    obtain⟨v,hv⟩:∃v,L[(a+b)/2+m-1-x]?=some v:=⟨_,amt (by omega)⟩
    have e1:0+amm (aml amA ((((a+b)/2+m-1:Nat):Int)-(x:Int)))*1=(a+b)/2+m-1-x:=by rw[bG (by omega) (by omega)];omega
    apply aaO S R H d n L a m b ((a+b)/2:Nat) ((a+b)/2+m:Nat) i j ((a+b)/2+m-1:Nat) x pH hn (by omega) (by omega) (by omega) (by omega) hL (bG (by omega) (by omega)) (bG (by omega) (by omega))
    case n0=>rw[e1];exact(dK hv).2
    case n1=>rw[fL];exact(dK hu).2
    case n2=>exact vg rfl
    case l6=>
     intro g1
     rw[e1,fL,(dK hu).1,(dK hv).1]at g1
     have g1:fy (a7 S.aC) u v=true:=g1
     with_reducible (repeat first|refine QL.ret ?_|refine QL.exit ?_|refine QB.ret ?_|refine QB.ci ?_|refine QB.normal ?_|refine QB.cu (by rfl) ?_)
     refine al.done (by kernel_rfl) ?_
     refine QL.to (x+1,j) (hs.up qI il hu hv g1) (by dsimp only;omega) ?_
     unfold NM tu
     dsimp only
     rw[fj (by omega)]
     rfl
    case l7=>
     intro g1
     rw[e1,fL,(dK hu).1,(dK hv).1]at g1
     have g1:=of_decide_eq_true (show decide (a7 S.aC v u<0)=true by cases h:decide (a7 S.aC v u<0)with|true=>rfl|false=>rw[h]at g1;cases g1)
     with_reducible (repeat first|refine QL.ret ?_|refine QL.exit ?_|refine QB.ret ?_|refine QB.ci ?_|refine QB.normal ?_|refine QB.cu (by rfl) ?_)
     refine al.done (by kernel_rfl) ?_
     refine QL.to (i,x) (hs.down qI il hu hv (pj.2 (fF.asym _ _ g1))) (by dsimp only;omega) ?_
     rfl
 have dw:=lq.start (a7 S.aC) L om oq
 have eW:aml amA ((((a+b)/2:Nat):Int)+(m:Int))=(((a+b)/2+m:Nat):Int):=by rw[mC (by omega) (by omega)];omega
 have eP:aml amA ((((a+b)/2+m:Nat):Int)-1)=(((a+b)/2+m-1:Nat):Int):=by rw[bG (by omega) (by omega)];omega
 apply aaF S R H d n L a m b pH hn (by omega) (by omega) (by omega) (by omega) (bG (by omega) (by omega))
 case l3=>
  intro g
  rw[jS (by omega) (by omega)]at g
  have g:=of_decide_eq_true g
  have g2:m>(a+b)/2:=by omega
  rw[if_pos g2,if_pos g2]at dw
  have e:F9 S R H d n L a m b=tu S R H d n a m b ((a+b)/2) ((a+b)/2+m) ((a+b)/2+m-b) ((a+b)/2) ((a+b)/2+m-1) L:=by
   unfold F9 tu
   rw[jS (by omega) (by omega),eW,eP,show aml amA ((((a+b)/2+m:Nat):Int)-(b:Int))=(((a+b)/2+m-b:Nat):Int)by rw[bG (by omega) (by omega)];omega]
   rfl
  rw[e,anE]
  exact go _ _ dw
 case l4=>
  intro g
  rw[jS (by omega) (by omega)]at g
  have g:=of_decide_eq_false g
  have g2:¬m>(a+b)/2:=by omega
  rw[if_neg g2,if_neg g2]at dw
  have e:Ga S R H d n L a m b=tu S R H d n a m b ((a+b)/2) ((a+b)/2+m) a m ((a+b)/2+m-1) L:=by
   unfold Ga tu
   rw[jS (by omega) (by omega),eW,eP]
   rfl
  rw[e,anE]
  exact go _ _ dw
theorem aa4(N:Nat)(hN:bp asz 111 (Sum.du asz (nk N)))(L:List ByteArray)(n a m b:Nat)(hn:L.length=n)(hL:n≤1000000)(om:a<m)(oq:m<b)(hb:b≤n)(AG:b-a≤N+1)
 (hX:dj (a7 S.aC) (aL L a m))(hY:dj (a7 S.aC) (aL L m b)):
 aG asz 111 [fu n,iZ a,iZ m,iZ b,fK] (cF S R H d L) fun r o=>r=.ret (.tuple #[])∧o=cF S R H d (bV (a7 S.aC) L a b):=by
 have pH:=aY H
 refine aG.cM (n:=ct asz 111) (by kernel_rfl) ?_
 have ez:∀x y:Nat,x<y→y≤n→(aml amA ((y:Int)-(x:Int))==1)=decide (y=x+1):=fun x y h1 h2=>by
  rw[bG (by omega) (by omega),Bool.eq_iff_iff,beq_iff_eq,decide_eq_true_eq];omega
 apply Z9 S R H d n L a m b pH hn (bG (by omega) (by omega))
 ·
  by_cases c1:m=a+1
  ·subst c1
   have e:xL S R H d n L a ((a+1:Nat):Int) b=⟨[(0,fu n),(1,iZ a),(2,iZ (a+1)),(3,iZ b),(4,fK),(28,.bool true)],cF S R H d L⟩:=by
    unfold xL;rw[ez _ _ (by omega) (by omega),decide_eq_true rfl];rfl
   rw[e]
   refine al.uP 1 (c:=28) (b:=true) (by kernel_rfl) (by rfl) (by rfl) ?_
   exact al.join (aa0 S R H d L n a b hn hL hb oq hY)
  ·have e:xL S R H d n L a m b=⟨[(0,fu n),(1,iZ a),(2,iZ m),(3,iZ b),(4,fK),(28,.bool false)],cF S R H d L⟩:=by
    unfold xL;rw[ez _ _ (by omega) (by omega),decide_eq_false c1];rfl
   rw[e]
   apply aar S R H d n L a m b pH hn (bG (by omega) (by omega))
   ·
    rw[anE]
    by_cases c2:b=m+1
    ·subst c2
     have e:xM S R H d n L a m ((m+1:Nat):Int)=⟨[(0,fu n),(1,iZ a),(2,iZ m),(3,iZ (m+1)),(4,fK),(80,.bool true)],cF S R H d L⟩:=by
      unfold xM;rw[ez _ _ (by omega) (by omega),decide_eq_true rfl];rfl
     rw[e]
     refine al.uP 3 (c:=80) (b:=true) (by kernel_rfl) (by rfl) (by rfl) ?_
     exact al.join (aa1 S R H d L n a m hn hL hb om hX)
    ·have e:xM S R H d n L a m b=⟨[(0,fu n),(1,iZ a),(2,iZ m),(3,iZ b),(4,fK),(80,.bool false)],cF S R H d L⟩:=by
      unfold xM;rw[ez _ _ (by omega) (by omega),decide_eq_false c2];rfl
     rw[e]
     exact aa3 S R H d N hN L n a m b hn hL om oq hb AG hX hY
end
theorem aa5(N:Nat):bp asz 111 (Sum.du asz (nk N)):=by
 induction N with
 |zero=>exact Nw 0 fun S R H d L n a m b _ _ h1 h2 _ h3 _ _=>absurd h3 (by omega)
 |succ N ih=>exact Nw (N+1) fun S R H d L n a m b h1 h2 h3 h4 h5 h6 h7 h8=>aa4 S R H d N ih L n a m b h1 h2 h3 h4 h5 h6 h7 h8
end Go.Proofs.Ytnlkkgpcikkpoaa
namespace Go.Proofs.Ytnlkkgpcikkpoaa
section
variable {α:Type} {c:α→α→Int}
inductive ii(c:α→α→Int)(z:Nat):List α→Prop
 |last {l:List α}:l.length≤z→dj c l→ii c z l
 |cons {l l':List α}:l.length=z→dj c l→ii c z l'→ii c z (l++l')
inductive Full(c:α→α→Int)(z:Nat):List α→Prop
 |nil:Full c z []
 |snoc {T l:List α}:Full c z T→l.length=z→dj c l→Full c z (T++l)
theorem Full.aJ{z:Nat}{T W:List α}(h:Full c z T):ii c z W→ii c z (T++W):=by
 induction h generalizing W with
 |nil=>exact id
 |snoc _ h1 h2 ih=>intro hw;rw[amQ];exact ih (.cons h1 h2 hw)
theorem ii.one{z:Nat}{l:List α}(h:ii c z l)(hl:l.length≤z):dj c l:=by
 cases h with
 |last _ h=>exact h
 |@cons x y h1 h2 h3=>
  rw[amD]at hl
  have:y=[]:=ant (by omega)
  subst this
  rw[anV];exact h2
theorem ii.head{z:Nat}{l:List α}(h:ii c z l)(hl:z<l.length):∃X Y,l=X++Y∧X.length=z∧dj c X∧ii c z Y:=by
 cases h with
 |last h1 _=>omega
 |cons h1 h2 h3=>exact⟨_,_,rfl,h1,h2,h3⟩
theorem ii.nil{z:Nat}:ii c z ([]:List α):=.last (ann _) .nil
theorem ii.two{z:Nat}{l:List α}(h:ii c z l)(hz:0<z)(hl:2*z≤l.length):∃X Y W,l=X++(Y++W)∧X.length=z∧Y.length=z∧dj c X∧dj c Y∧ii c z W:=by
 obtain⟨X,Y,rfl,h1,h2,h3⟩:=h.head (by omega)
 rw[amD]at hl
 by_cases hy:z<Y.length
 ·obtain⟨X',W,rfl,g1,g2,g3⟩:=h3.head hy
  exact⟨X,X',W,rfl,h1,g1,h2,g2,g3⟩
 ·exact⟨X,Y,[],by simp,h1,by omega,h2,h3.one (by omega),ii.nil⟩
structure lr(c:α→α→Int)(L:List α)(z a:Nat)(M:List α):Prop where
 it:∃T U,M=T++U∧T.length=a∧Full c (2*z) T∧ii c z U
 perm:M.Perm L
theorem lr.start{L M:List α}{z:Nat}(h:ii c z M)(hp:M.Perm L):lr c L z 0 M:=⟨⟨[],M,rfl,rfl,.nil,h⟩,hp⟩
theorem AH{L:List α}{a b:Nat}(h:a≤b):(bV c L a b).Perm L:=by
 unfold bV
 conv=>rhs;rw[rB L h]
 exact((kl _).append_right _).append_left _
theorem lr.pre{L M:List α}{z a:Nat}(h:lr c L z a M)(hz:0<z)(hb:a+2*z≤M.length):dj c (aL M a (a+z))∧dj c (aL M (a+z) (a+2*z)):=by
 obtain⟨⟨T,U,rfl,hT,_,hU⟩,_⟩:=h
 rw[amD]at hb
 obtain⟨X,Y,W,rfl,h1,h2,h3,h4,h5⟩:=hU.two hz (by omega)
 constructor
 ·rw[ni hT (by omega)];exact h3
 ·rw[←amQ,ni (by rw[amD];omega) (by omega)];exact h4
theorem lr.step{L M:List α}{z a:Nat}(t:TO c)(h:lr c L z a M)(hz:0<z)(hb:a+2*z≤M.length):lr c L z (a+2*z) (bV c M a (a+2*z)):=by
 have hp:=(AH (c:=c) (L:=M) (a:=a) (b:=a+2*z) (by omega)).trans h.perm
 obtain⟨⟨T,U,rfl,hT,hF,hU⟩,_⟩:=h
 rw[amD]at hb
 obtain⟨X,Y,W,rfl,h1,h2,h3,h4,h5⟩:=hU.two hz (by omega)
 refine⟨?_,hp⟩
 rw[show T++(X++(Y++W))=T++((X++Y)++W)by simp,ve hT (by omega) (by rw[amD];omega)]
 have hl:(bE c (X++Y)).length=2*z:=by rw[nh,amD];omega
 exact⟨T++bE c (X++Y),W,by simp,by rw[amD];omega,.snoc hF hl (pk t _),h5⟩
theorem lr.aa6{L M:List α}{z a:Nat}(h:lr c L z a M)(hb:M.length<a+2*z)(hm:a+z<M.length):dj c (aL M a (a+z))∧dj c (aL M (a+z) M.length):=by
 obtain⟨⟨T,U,rfl,hT,_,hU⟩,_⟩:=h
 simp only[amD]at hb hm⊢
 obtain⟨X,Y,rfl,h1,h2,h3⟩:=hU.head (by omega)
 simp only[amD]at hb hm⊢
 constructor
 ·rw[ni hT (by omega)];exact h2
 ·have:=ni (T:=T++X) (X:=Y) (D:=[]) (a:=a+z) (b:=T.length+(X.length+Y.length)) (by rw[amD];omega) (by omega)
  rw[anV,amQ]at this
  rw[this];exact h3.one (by omega)
theorem lr.aa7{L M:List α}{z a:Nat}(t:TO c)(h:lr c L z a M)(ha:a≤M.length)(hb:M.length<a+2*z):ii c (2*z) (bV c M a M.length)∧(bV c M a M.length).Perm L:=by
 refine⟨?_,(AH ha).trans h.perm⟩
 obtain⟨⟨T,U,rfl,hT,hF,hU⟩,_⟩:=h
 simp only[amD]at hb ha⊢
 have:=ve (c:=c) (T:=T) (X:=U) (D:=[]) (a:=a) (b:=T.length+U.length) hT (by omega) (by omega)
 rw[anV,anV]at this
 rw[this]
 exact hF.aJ (.last (by rw[nh];omega) (pk t _))
theorem lr.aa8{L M:List α}{z a:Nat}(h:lr c L z a M)(hm:M.length≤a+z):ii c (2*z) M∧M.Perm L:=by
 refine⟨?_,h.perm⟩
 obtain⟨⟨T,U,rfl,hT,hF,hU⟩,_⟩:=h
 rw[amD]at hm
 exact hF.aJ (.last (by omega) (hU.one (by omega)))
structure qp(c:α→α→Int)(L:List α)(z a:Nat)(M:List α):Prop where
 it:∃T U,M=T++U∧T.length=a∧Full c z T
 perm:M.Perm L
theorem qp.start(c:α→α→Int)(L:List α)(z:Nat):qp c L z 0 L:=⟨⟨[],L,rfl,rfl,.nil⟩,.refl _⟩
theorem qp.step{L M:List α}{z a:Nat}(t:TO c)(h:qp c L z a M)(hb:a+z≤M.length):qp c L z (a+z) (bV c M a (a+z)):=by
 have hp:=(AH (c:=c) (L:=M) (a:=a) (b:=a+z) (by omega)).trans h.perm
 refine⟨?_,hp⟩
 obtain⟨⟨T,U,rfl,hT,hF⟩,_⟩:=h
 rw[amD]at hb
 have hX:(U.take z).length=z:=by rw[List.length_take];omega
 have e:T++U=T++(U.take z++U.drop z):=by rw[List.take_append_drop]
 rw[e,ve hT (by omega) (by omega)]
 have hl:(bE c (U.take z)).length=z:=by rw[nh];exact hX
 exact⟨T++bE c (U.take z),U.drop z,by simp,by rw[amD];omega,.snoc hF hl (pk t _)⟩
theorem qp.done{L M:List α}{z a:Nat}(t:TO c)(h:qp c L z a M)(ha:a≤M.length)(hb:M.length<a+z):ii c z (bV c M a M.length)∧(bV c M a M.length).Perm L:=by
 refine⟨?_,(AH ha).trans h.perm⟩
 obtain⟨⟨T,U,rfl,hT,hF⟩,_⟩:=h
 simp only[amD]at hb ha⊢
 have:=ve (c:=c) (T:=T) (X:=U) (D:=[]) (a:=a) (b:=T.length+U.length) hT (by omega) (by omega)
 rw[anV,anV]at this
 rw[this]
 exact hF.aJ (.last (by rw[nh];omega) (pk t _))
theorem ii.done{L M:List α}{z:Nat}(t:TO c)(h:ii c z M)(hp:M.Perm L)(hz:M.length≤z):M=bE c L:=xF t hp (h.one hz)
end
end Go.Proofs.Ytnlkkgpcikkpoaa
namespace Go.Proofs.Ytnlkkgpcikkpoaa
open Go Vm Go.RowKit
noncomputable def Gh(a:List amn)(o:List ai):Option (Bool×bL×List ai):=match a,o with
 | [.slice (some ⟨0,0,none⟩) n m,.int .i64 x,.int .i64 y,.func (.func f) c1 c2],ai.cells c t r::ai.cells e t2 r2::l=>match c1.toList,c2.toList with
  | [.pointer (some ⟨1,0,none⟩)],[]=>match(e[70]?:Option amn)with
   |some (.bool fl)=>some (ig (.cells c t r:: .cells e t2 r2::l) n&&(amE m n&&(amE f 90&&(decide (0≤x)&&(decide (x≤y)&&decide (y≤n))))),.ret (.tuple #[]),.cells (ao (bV (a7 fl) (cU c) x.toNat y.toNat)) t r:: .cells e t2 r2::l)
   |_=>none
  |_,_=>none
 |_,_=>none
theorem aa9:bp asz 110 (Sum.du asz Gh):=bp.du fun a o r o' hg=>by
 unfold Gh at hg
 split at hg
 ·rename_i n m x y f c1 c2 c t ro e t2 r2 l
  split at hg
  ·rename_i h1 h2
   split at hg
   ·rename_i fl fC
    simp only[amr,amv,amB,decide_eq_true_eq]at hg
    obtain⟨⟨g1,g2,g3,p1,p2,p3⟩,rfl,rfl⟩:=hg
    have g2:=amI g2
    have g3:=amI g3
    obtain⟨S,R,H,d,L,he,hl,hn⟩:=@of_decide_eq_true _ (amR _) g1
    have e1:c1= #[.pointer (some ⟨1,0,none⟩)]:=by rw[←anB (xs:=c1),h1]
    have e2:c2= #[]:=by rw[←anB (xs:=c2),h2]
    subst g2 g3 e1 e2
    obtain⟨x,rfl⟩:=anW p1
    obtain⟨y,rfl⟩:=anW (show 0≤y by omega)
    unfold cF at he
    injection he with ot eD
    injection eD with eD qo
    injection ot with hc ht hr
    injection eD with il lO eo
    subst hc ht hr il lO eo qo
    have:(aQ S 2 0 3 4)[70]?=some (.bool S.aC):=rfl
    rw[this]at fC
    cases fC
    refine(Zp S R H d L _ x y hl hn (by omega) (by omega)).mono ?_
    rintro r o ⟨rfl,rfl⟩
    exact⟨rfl,by rw[ie];rfl⟩
   ·cases hg
  ·cases hg
 ·cases hg
noncomputable def aba:List (amY×Sum):=[(110,Sum.du asz Gh),(111,Sum.du asz (nk 1000000))]
theorem AI:dg asz (dE asz (dF aba) 50 40):=dJ cZ mixed (dQ (.cons aa9 (.cons (aa5 1000000) .nil))) 50 40
end Go.Proofs.Ytnlkkgpcikkpoaa
namespace Go.Proofs.Ytnlkkgpcikkpoaa
noncomputable section
open Go Vm Go.RowKit
set_option maxRecDepth 100000
noncomputable def xP:List am3:=ba (dy asz 100)
open Tree renaming aU→mN,dh→mF,eQ→mL,fw→mQ,dz→mR,fI→mE
noncomputable abbrev Gi:List am3:=(ba (inner (ba (inner (xP.drop 4)))))
noncomputable abbrev AJ:List am3:=(ba (inner (Gi.drop 2)))
noncomputable abbrev Gj:List am3:=(ba (inner (ba (inner (xP.drop 2)))))
noncomputable abbrev Gk:List am3:=(ba (inner (ba (inner (AJ.drop 1)))))
noncomputable abbrev NO:List am3:=(xP.drop 3)
abbrev NS:=fun S R H d L=>([ab (ao L) 9,ab (aQ S 2 0 3 4) 64,.abs d,ab (aq R) 3,ab (ak H) 144]:List ai)
abbrev NP:=fun S R H d (n:Nat) L=>(⟨[(0,ah 0 n),(1,aa n),(2,.func (.func 90) #[an 1] #[]),(6,aa 20),(7,aa 0),(8,aa 20)],NS S R H d L⟩:aj)
abbrev abb:=fun S R H d (n:Nat) L=>(⟨[(0,ah 0 n),(1,aa n),(2,.func (.func 90) #[an 1] #[])],NS S R H d L⟩:aj)
theorem abc(S R H d)(n:Nat)(L)(pH:(ak H).all af=true)(hn:(mM L)=n){Q:aV}(l3:al asz 63 5 (xP.drop 2) (NP S R H d n L) Q):al asz 63 5 xP (abb S R H d n L) Q:=
 aZ bo 2 (.leaf [0,1,2,6,7,8] [0,1,2,3,4] [0,3,4]) (fun u=>by kernel_rfl) (aM L R H (mQ l3))
abbrev abd:=fun S R H d (n:Nat) L (z a b:Int)=>(⟨[(0,ah 0 n),(1,aa n),(2,.func (.func 90) #[an 1] #[]),(6,aa z),(7,aa a),(8,aa b)],NS S R H d L⟩:aj)
abbrev abe:=fun S R H d (n:Nat) L (z a b:Int)=>(⟨[(0,ah 0 n),(1,aa n),(2,.func (.func 90) #[an 1] #[]),(6,aa z),(7,aa a)],NS S R H d L⟩:aj)
abbrev AK:=fun S R H d (n:Nat) L (z a b:Int)=>(⟨[(0,ah 0 n),(1,aa n),(2,.func (.func 90) #[an 1] #[]),(6,aa z),(7,aa a),(8,aa b)],NS S R H d L⟩:aj)
theorem abf(S R H d)(n:Nat)(L)(z a b:Int)(pH:(ak H).all af=true)(hn:(mM L)=n){Q:aV}(l3:(decide (b≤(↑n:Int)))=true→al asz 63 5 (Gj.drop 2) (abd S R H d n L z a b) Q)(l4:(decide (b≤(↑n:Int)))=false→Q (.exit 0) (abe S R H d n L z a b)):al asz 63 5 Gj (AK S R H d n L z a b) Q:=
 aZ bo 2 (.fork 0 (.leaf [0,1,2,6,7,8] [0,1,2,3,4] [0,3,4]) (.leaf [0,1,2,6,7] [0,1,2,3,4] [0,3,4])) (fun u=>by kernel_rfl) (mF (c:=decide (b≤(↑n:Int))) (fun h0=>(aM L R H (mQ (l3 h0)))) (fun h0=>(aM L R H (mE 0 (l4 h0)))))
abbrev NR:=fun S R H d (n:Nat) L (z a b:Int)=>(⟨[(0,ah 0 n),(1,aa n),(2,.func (.func 90) #[an 1] #[]),(6,aa z),(7,aa b),(8,.int .i64 (aml .i64 (b+z)))],[ab (ao (bV (a7 (ad.aC S)) (cU (ao L)) (amm a) (amm b))) 9,ab (aQ S 2 0 3 4) 64,.abs d,ab (aq R) 3,ab (ak H) 144]⟩:aj)
theorem abg(S R H d)(n:Nat)(L)(z a b:Int)(pH:(ak H).all af=true)(hn:(mM L)=n)(h0:0≤a)(h1:a≤b)(h2:b≤n)(h3:aml .i64 (b+z)=b+z){Q:aV}(n0:(ig [ab (ao L) 9,ab (aQ S 2 0 3 4) 64,ai.abs d,ab (aq R) 3,ab (ak H) 144] n&&(amE n n&&(amE 90 90&&(decide (0≤a)&&(decide (a≤b)&&decide (b≤(↑n:Int)))))))=true)(l3:Q .normal (NR S R H d n L z a b)):al asz 63 5 (Gj.drop 2) (AK S R H d n L z a b) Q:=
 aZ AI 1000 (av [3,1,1,1,1,1,1] (.leaf [0,1,2,6,7,8] [0,1,2,3,4] [0,3,4])) (fun u=>by kernel_rfl) (aM L R H (mN n0 (mN (aN (bV (a7 (ad.aC S)) (cU (ao L)) (amm a) (amm b))) (mN (aS R) (mN (aY H) (mN (aN (bV (a7 (ad.aC S)) (cU (ao L)) (amm a) (amm b))) (mN (aS R) (mN (aY H) (mQ (al.done (by kernel_rfl) l3))))))))))
abbrev Gl:=fun S R H d (n:Nat) L (z a:Int)=>(⟨[(0,ah 0 n),(1,aa n),(2,.func (.func 90) #[an 1] #[]),(6,aa z)],[ab (ao (bV (a7 (ad.aC S)) (cU (ao L)) (amm a) (amm (↑n:Int)))) 9,ab (aQ S 2 0 3 4) 64,.abs d,ab (aq R) 3,ab (ak H) 144]⟩:aj)
abbrev NT:=fun S R H d (n:Nat) L (z a:Int)=>(⟨[(0,ah 0 n),(1,aa n),(2,.func (.func 90) #[an 1] #[]),(6,aa z),(7,aa a)],NS S R H d L⟩:aj)
theorem abh(S R H d)(n:Nat)(L)(z a:Int)(pH:(ak H).all af=true)(hn:(mM L)=n)(h0:0≤a)(h1:a≤n){Q:aV}(n0:(ig [ab (ao L) 9,ab (aQ S 2 0 3 4) 64,ai.abs d,ab (aq R) 3,ab (ak H) 144] n&&(amE n n&&(amE 90 90&&(decide (0≤a)&&(decide (a≤(↑n:Int))&&decide ((↑n:Int)≤(↑n:Int)))))))=true)(l3:al asz 63 5 (NO.drop 1) (Gl S R H d n L z a) Q):al asz 63 5 NO (NT S R H d n L z a) Q:=
 aZ AI 1 (av [3,1,1,1,1,1,1] (.leaf [0,1,2,6] [0,1,2,3,4] [0,3,4])) (fun u=>by kernel_rfl) (aM L R H (mN n0 (mN (aN (bV (a7 (ad.aC S)) (cU (ao L)) (amm a) (amm (↑n:Int)))) (mN (aS R) (mN (aY H) (mN (aN (bV (a7 (ad.aC S)) (cU (ao L)) (amm a) (amm (↑n:Int)))) (mN (aS R) (mN (aY H) (mQ l3)))))))))
abbrev abi:=fun S R H d (n:Nat) L (z:Int)=>(⟨[(0,ah 0 n),(1,aa n),(2,.func (.func 90) #[an 1] #[]),(6,aa z)],NS S R H d L⟩:aj)
noncomputable abbrev abj(S:ad)(R:List Int)(H:List ap)(d:ay)(n:Nat)(L:List ByteArray)(z:Int):aj:=⟨[],NS S R H d L⟩
abbrev NU:=fun S R H d (n:Nat) L (z:Int)=>(⟨[(0,ah 0 n),(1,aa n),(2,.func (.func 90) #[an 1] #[]),(6,aa z)],NS S R H d L⟩:aj)
theorem abk(S R H d)(n:Nat)(L)(z:Int)(pH:(ak H).all af=true)(hn:(mM L)=n){Q:aV}(l3:(decide (z<(↑n:Int)))=true→al asz 63 5 (Gi.drop 2) (abi S R H d n L z) Q)(l4:(decide (z<(↑n:Int)))=false→Q (.exit 2) (abj S R H d n L z)):al asz 63 5 Gi (NU S R H d n L z) Q:=
 aZ bo 2 (.fork 0 (.leaf [0,1,2,6] [0,1,2,3,4] [0,3,4]) (.leaf [] [0,1,2,3,4] [0,3,4])) (fun u=>by kernel_rfl) (mF (c:=decide (z<(↑n:Int))) (fun h0=>(aM L R H (mQ (l3 h0)))) (fun h0=>(aM L R H (mE 2 (l4 h0)))))
abbrev Gm:=fun S R H d (n:Nat) L (z:Int)=>(⟨[(0,ah 0 n),(1,aa n),(2,.func (.func 90) #[an 1] #[]),(6,aa z),(7,aa 0),(8,.int .i64 (aml .i64 (2*z)))],NS S R H d L⟩:aj)
theorem abl(S R H d)(n:Nat)(L)(z:Int)(pH:(ak H).all af=true)(hn:(mM L)=n)(h0:aml .i64 (2*z)=2*z){Q:aV}(l3:al asz 63 5 (AJ.drop 1) (Gm S R H d n L z) Q):al asz 63 5 AJ (NU S R H d n L z) Q:=
 aZ bo 1 (.leaf [0,1,2,6,7,8] [0,1,2,3,4] [0,3,4]) (fun u=>by kernel_rfl) (aM L R H (mQ l3))
abbrev abm:=fun S R H d (n:Nat) L (z a b:Int)=>(⟨[(0,ah 0 n),(1,aa n),(2,.func (.func 90) #[an 1] #[]),(6,aa z),(7,aa a),(8,aa b)],NS S R H d L⟩:aj)
abbrev abn:=fun S R H d (n:Nat) L (z a b:Int)=>(⟨[(0,ah 0 n),(1,aa n),(2,.func (.func 90) #[an 1] #[]),(6,aa z),(7,aa a)],NS S R H d L⟩:aj)
theorem abo(S R H d)(n:Nat)(L)(z a b:Int)(pH:(ak H).all af=true)(hn:(mM L)=n){Q:aV}(l3:(decide (b≤(↑n:Int)))=true→al asz 63 5 (Gk.drop 2) (abm S R H d n L z a b) Q)(l4:(decide (b≤(↑n:Int)))=false→Q (.exit 4) (abn S R H d n L z a b)):al asz 63 5 Gk (AK S R H d n L z a b) Q:=
 aZ bo 2 (.fork 0 (.leaf [0,1,2,6,7,8] [0,1,2,3,4] [0,3,4]) (.leaf [0,1,2,6,7] [0,1,2,3,4] [0,3,4])) (fun u=>by kernel_rfl) (mF (c:=decide (b≤(↑n:Int))) (fun h0=>(aM L R H (mQ (l3 h0)))) (fun h0=>(aM L R H (mE 4 (l4 h0)))))
abbrev NV:=fun S R H d (n:Nat) L (z a b:Int)=>(⟨[(0,ah 0 n),(1,aa n),(2,.func (.func 90) #[an 1] #[]),(6,aa z),(7,aa b),(8,.int .i64 (aml .i64 (b+aml .i64 (2*z))))],[ab (ao (bV (a7 (ad.aC S)) (cU (ao L)) (amm a) (amm b))) 9,ab (aQ S 2 0 3 4) 64,.abs d,ab (aq R) 3,ab (ak H) 144]⟩:aj)
theorem abp(S R H d)(n:Nat)(L)(z a b:Int)(pH:(ak H).all af=true)(hn:(mM L)=n)(h0:aml .i64 (a+z)=a+z)(h1:aml .i64 (2*z)=2*z)(h2:aml .i64 (b+2*z)=b+2*z){Q:aV}(n0:(ig [ab (ao L) 9,ab (aQ S 2 0 3 4) 64,ai.abs d,ab (aq R) 3,ab (ak H) 144] n&&(amE n n&&(amE 90 90&&tp (a7 (ad.aC S)) (cU (ao L)) n a (aml .i64 (a+z)) b 1000000)))=true)(l3:Q .normal (NV S R H d n L z a b)):al asz 63 5 (Gk.drop 2) (AK S R H d n L z a b) Q:=
 aZ AI 1000 (av [3,1,1,1,1,1,1] (.leaf [0,1,2,6,7,8] [0,1,2,3,4] [0,3,4])) (fun u=>by kernel_rfl) (aM L R H (mN n0 (mN (aN (bV (a7 (ad.aC S)) (cU (ao L)) (amm a) (amm b))) (mN (aS R) (mN (aY H) (mN (aN (bV (a7 (ad.aC S)) (cU (ao L)) (amm a) (amm b))) (mN (aS R) (mN (aY H) (mQ (al.done (by kernel_rfl) l3))))))))))
abbrev NW:=fun S R H d (n:Nat) L (z a:Int)=>(⟨[(0,ah 0 n),(1,aa n),(2,.func (.func 90) #[an 1] #[]),(6,.int .i64 (aml .i64 (z*2)))],[ab (ao (bV (a7 (ad.aC S)) (cU (ao L)) (amm a) (amm (↑n:Int)))) 9,ab (aQ S 2 0 3 4) 64,.abs d,ab (aq R) 3,ab (ak H) 144]⟩:aj)
abbrev NX:=fun S R H d (n:Nat) L (z a:Int)=>(⟨[(0,ah 0 n),(1,aa n),(2,.func (.func 90) #[an 1] #[]),(6,.int .i64 (aml .i64 (z*2)))],NS S R H d L⟩:aj)
theorem abq(S R H d)(n:Nat)(L)(z a:Int)(pH:(ak H).all af=true)(hn:(mM L)=n)(h0:aml .i64 (a+z)=a+z)(h1:aml .i64 (z*2)=z*2){Q:aV}(n0:(decide (aml .i64 (a+z)<(↑n:Int)))=true→(ig [ab (ao L) 9,ab (aQ S 2 0 3 4) 64,ai.abs d,ab (aq R) 3,ab (ak H) 144] n&&(amE n n&&(amE 90 90&&tp (a7 (ad.aC S)) (cU (ao L)) n a (aml .i64 (a+z)) (↑n:Int) 1000000)))=true)(l3:(decide (aml .i64 (a+z)<(↑n:Int)))=true→Q .normal (NW S R H d n L z a))(l5:(decide (aml .i64 (a+z)<(↑n:Int)))=false→Q .normal (NX S R H d n L z a)):al asz 63 5 (AJ.drop 2) (NT S R H d n L z a) Q:=
 aZ AI 1000 (.fork 0 (av [3,1,1,1,1,1,1] (.leaf [0,1,2,6] [0,1,2,3,4] [0,3,4])) (.leaf [0,1,2,6] [0,1,2,3,4] [0,3,4])) (fun u=>by kernel_rfl) (mF (c:=decide (aml .i64 (a+z)<(↑n:Int))) (fun h0=>(aM L R H (mN (n0 h0) (mN (aN (bV (a7 (ad.aC S)) (cU (ao L)) (amm a) (amm (↑n:Int)))) (mN (aS R) (mN (aY H) (mN (aN (bV (a7 (ad.aC S)) (cU (ao L)) (amm a) (amm (↑n:Int)))) (mN (aS R) (mN (aY H) (mQ (al.done (by kernel_rfl) (l3 h0)))))))))))) (fun h0=>(aM L R H (mQ (al.done (by kernel_rfl) (l5 h0))))))
end
end Go.Proofs.Ytnlkkgpcikkpoaa
namespace Go.Proofs.Ytnlkkgpcikkpoaa
open Go Vm Go.RowKit
set_option maxRecDepth 100000
section
variable (S:ad) (R:List Int) (H:List ap) (d:ay)
def tw(n z:Nat)(s:Nat×List ByteArray)(b:Nat):aj:=⟨[(0,fu n),(1,iZ n),(2,fK),(6,iZ z),(7,iZ s.1),(8,iZ (s.1+b))],cF S R H d s.2⟩
def xQ(n:Nat)(s:Nat×List ByteArray):aj:=⟨[(0,fu n),(1,iZ n),(2,fK),(6,iZ s.1)],cF S R H d s.2⟩
theorem abr(L:List ByteArray)(n:Nat)(hn:L.length=n)(hL:n≤1000000):
 aG asz 100 [fu n,iZ n,fK] (cF S R H d L) fun r o=>r=.ret (.tuple #[])∧o=cF S R H d (bE (a7 S.aC) L):=by
 have pH:=aY H
 have fF:=vh S.aC
 have hO:∀M:List ByteArray,M.length=n→ig [ai.cells (ao M) 9 false,ai.cells (aQ S 2 0 3 4) 64 false,ai.abs d,ai.cells (aq R) 3 false,ai.cells (ak H) 144 false] n=true:=fun M hM=>vi (S:=S) (R:=R) (H:=H) (d:=d) (L:=M) rfl hM hL
 refine aG.cM (n:=ct asz 100) (by kernel_rfl) ?_
 apply abc S R H d n L pH hn
 ·
  rw[show NP S R H d n L=tw S R H d n 20 (0,L) 20 from rfl]
  refine al.eJ 2 0 (by kernel_rfl) ?_
  refine al.fJ (fun s=>tw S R H d n 20 s 20) (fun s=>n+20-s.1) (fun s=>s.1≤n∧qp (a7 S.aC) L 20 s.1 s.2) (0,L) (by kernel_rfl) ⟨ann _,qp.start _ _ _⟩ ?_
  rintro⟨a,M⟩ ⟨ha,hF⟩
  dsimp only at ha hF
  have fM:M.length=n:=by rw[hF.perm.length_eq,hn]
  apply abf S R H d n M (20:Nat) a ((a+20:Nat):Int) pH fM
  case l3=>
   intro g
   have g:=of_decide_eq_true g
   apply abg S R H d n M (20:Nat) a ((a+20:Nat):Int) pH fM (by omega) (by omega) (by omega) (bG (by omega) (by omega))
   case n0=>
    rw[hO M fM]
    simp only[anw,aoZ,amB,decide_eq_true_eq]
    omega
   case l3=>
    refine QL.to (a+20,bV (a7 S.aC) M a (a+20)) ⟨by dsimp only;omega,hF.step fF (by omega)⟩ (by dsimp only;omega) ?_
    unfold NR tw
    rw[ie,bG (by omega) (by omega)]
    rfl
  case l4=>
   intro g
   have g:=of_decide_eq_false g
   with_reducible (repeat first|refine QL.ret ?_|refine QL.exit ?_|refine QB.ret ?_|refine QB.ci ?_|refine QB.normal ?_|refine QB.cu (by rfl) ?_)
   apply abh S R H d n M (20:Nat) a pH fM (by omega) (by omega)
   case n0=>
    rw[hO M fM]
    simp only[anw,aoZ,amB,decide_eq_true_eq]
    omega
   case l3=>
    obtain⟨hB,hP⟩:=hF.done fF (by omega) (by omega)
    rw[fM]at hB hP
    have e:Gl S R H d n M (20:Nat) a=xQ S R H d n (20,bV (a7 S.aC) M a n):=by
     unfold Gl xQ;rw[ie];rfl
    rw[e,anE]
    generalize bV (a7 S.aC) M a n=M1 at hB hP
    refine al.eJ 4 2 (by kernel_rfl) ?_
    refine al.fJ (xQ S R H d n) (fun s=>n-s.1) (fun s=>20≤s.1∧s.1≤2000020∧ii (a7 S.aC) s.1 s.2∧s.2.Perm L) (20,M1) (by kernel_rfl) ⟨amX _,by dsimp only;omega,hB,hP⟩ ?_
    clear hB hP e hF fM
    rintro⟨z,M⟩ ⟨hz,abt,hB,hP⟩
    dsimp only at hz abt hB hP
    have fM:M.length=n:=by rw[hP.length_eq,hn]
    apply abk S R H d n M z pH fM
    case l4=>
     intro g
     have g:=of_decide_eq_false g
     have e1:M=bE (a7 S.aC) L:=hB.done fF hP (by omega)
     subst e1
     with_reducible (repeat first|refine QL.ret ?_|refine QL.exit ?_|refine QB.ret ?_|refine QB.ci ?_|refine QB.normal ?_|refine QB.cu (by rfl) ?_)
     refine al.done (by kernel_rfl) ?_
     exact aH.normal (vs:=[]) (l:=[]) (bs:=[0,1,2,3,4]) (pl:=[0,3,4]) (q:=[ao (bE (a7 S.aC) L),aq R,ak H]) (fun u=>by kernel_rfl) (by kernel_rfl) (aE (by simp) (aE (by simp) (aE pH bd))) ⟨rfl,rfl⟩
    case l3=>
     intro g
     have g:=of_decide_eq_true g
     refine al.eJ 2 3 (by kernel_rfl) ?_
     apply abl S R H d n M z pH fM (bG (by omega) (by omega))
     ·
      have e:Gm S R H d n M z=tw S R H d n z (0,M) (2*z):=by
       unfold Gm tw
       rw[bG (by omega) (by omega)]
       dsimp only
       rw[show(2*(z:Int))=((0+2*z:Nat):Int)by omega]
       rfl
      rw[e]
      refine al.eJ 1 4 (by kernel_rfl) ?_
      refine al.fJ (fun s=>tw S R H d n z s (2*z)) (fun s=>n+2*z-s.1) (fun s=>s.1≤n∧lr (a7 S.aC) L z s.1 s.2) (0,M) (by kernel_rfl) ⟨ann _,lr.start hB hP⟩ ?_
      rintro⟨a,K⟩ ⟨ha,hK⟩
      dsimp only at ha hK
      have tx:K.length=n:=by rw[hK.perm.length_eq,hn]
      apply abo S R H d n K z a ((a+2*z:Nat):Int) pH tx
      case l3=>
       intro g3
       have g3:=of_decide_eq_true g3
       obtain⟨s1,s2⟩:=hK.pre (by omega) (by omega)
       have Gn:(a:Int)+(z:Int)=((a+z:Nat):Int):=by omega
       apply abp S R H d n K z a ((a+2*z:Nat):Int) pH tx (bG (by omega) (by omega)) (bG (by omega) (by omega)) (bG (by omega) (by omega))
       case n0=>
        rw[hO K tx,ie,bG (by omega) (by omega),Gn,xK.2 ⟨by omega,by omega,by omega,by omega,by omega,s1,s2⟩]
        simp only[anw,aoe]
       case l3=>
        refine QL.to (a+2*z,bV (a7 S.aC) K a (a+2*z)) ⟨by dsimp only;omega,hK.step fF (by omega) (by omega)⟩ (by dsimp only;omega) ?_
        unfold NV tw
        rw[ie,bG (z:=2*(z:Int)) (by omega) (by omega),bG (by omega) (by omega)]
        dsimp only
        rw[show(((a+2*z:Nat):Int)+2*(z:Int))=((a+2*z+2*z:Nat):Int)by omega]
        rfl
      case l4=>
       intro g3
       have g3:=of_decide_eq_false g3
       have Gn:(a:Int)+(z:Int)=((a+z:Nat):Int):=by omega
       have NY:(.int .i64 (aml amA ((z:Int)*2)):amn)=iZ (2*z):=by rw[bG (by omega) (by omega),show((z:Int)*2)=((2*z:Nat):Int)by omega];rfl
       with_reducible (repeat first|refine QL.ret ?_|refine QL.exit ?_|refine QB.ret ?_|refine QB.ci ?_|refine QB.normal ?_|refine QB.cu (by rfl) ?_)
       apply abq S R H d n K z a pH tx (bG (by omega) (by omega)) (bG (by omega) (by omega))
       case n0=>
        intro g4
        rw[bG (by omega) (by omega),Gn]at g4⊢
        have g4:=of_decide_eq_true g4
        obtain⟨s1,s2⟩:=hK.aa6 (by omega) (by omega)
        rw[tx]at s2
        rw[hO K tx,ie,xK.2 ⟨by omega,by omega,by omega,by omega,by omega,s1,s2⟩]
        simp only[anw,aoe]
       case l3=>
        intro g4
        obtain⟨b1,b2⟩:=hK.aa7 fF (by omega) (by omega)
        rw[tx]at b1 b2
        with_reducible (repeat first|refine QL.ret ?_|refine QL.exit ?_|refine QB.ret ?_|refine QB.ci ?_|refine QB.normal ?_|refine QB.cu (by rfl) ?_)
        refine al.done (by kernel_rfl) ?_
        refine QL.to (2*z,bV (a7 S.aC) K a n) ⟨by dsimp only;omega,by dsimp only;omega,b1,b2⟩ (by dsimp only;omega) ?_
        unfold NW xQ
        rw[ie,NY]
        rfl
       case l5=>
        intro g4
        rw[bG (by omega) (by omega)]at g4
        have g4:=of_decide_eq_false g4
        obtain⟨b1,b2⟩:=hK.aa8 (by omega)
        with_reducible (repeat first|refine QL.ret ?_|refine QL.exit ?_|refine QB.ret ?_|refine QB.ci ?_|refine QB.normal ?_|refine QB.cu (by rfl) ?_)
        refine al.done (by kernel_rfl) ?_
        refine QL.to (2*z,K) ⟨by dsimp only;omega,by dsimp only;omega,b1,b2⟩ (by dsimp only;omega) ?_
        unfold NX xQ
        rw[NY]
        rfl
end
end Go.Proofs.Ytnlkkgpcikkpoaa
namespace Go.Proofs.Ytnlkkgpcikkpoaa
open Go Vm Go.RowKit
noncomputable def Gp(a:List amn)(o:List ai):Option (Bool×bL×List ai):=match a,o with
 | [.slice (some ⟨0,0,none⟩) n m,.int .i64 x,.func (.func f) c1 c2],ai.cells c t r::ai.cells e t2 r2::l=>match c1.toList,c2.toList with
  | [.pointer (some ⟨1,0,none⟩)],[]=>match(e[70]?:Option amn)with
   |some (.bool fl)=>some (ig (.cells c t r:: .cells e t2 r2::l) n&&(amE m n&&(amE f 90&&decide (x=n))),.ret (.tuple #[]),.cells (ao (bE (a7 fl) (cU c))) t r:: .cells e t2 r2::l)
   |_=>none
  |_,_=>none
 |_,_=>none
theorem abu:bp asz 100 (Sum.du asz Gp):=bp.du fun a o r o' hg=>by
 unfold Gp at hg
 split at hg
 ·rename_i n m x f c1 c2 c t ro e t2 r2 l
  split at hg
  ·rename_i h1 h2
   split at hg
   ·rename_i fl fC
    simp only[amr,amv,amB,decide_eq_true_eq]at hg
    obtain⟨⟨g1,g2,g3,p1⟩,rfl,rfl⟩:=hg
    have g2:=amI g2
    have g3:=amI g3
    obtain⟨S,R,H,d,L,he,hl,hn⟩:=@of_decide_eq_true _ (amR _) g1
    have e1:c1= #[.pointer (some ⟨1,0,none⟩)]:=by rw[←anB (xs:=c1),h1]
    have e2:c2= #[]:=by rw[←anB (xs:=c2),h2]
    subst g2 g3 e1 e2 p1
    unfold cF at he
    injection he with ot eD
    injection eD with eD qo
    injection ot with hc ht hr
    injection eD with il lO eo
    subst hc ht hr il lO eo qo
    have:(aQ S 2 0 3 4)[70]?=some (.bool S.aC):=rfl
    rw[this]at fC
    cases fC
    refine(abr S R H d L _ hl hn).mono ?_
    rintro r o ⟨rfl,rfl⟩
    exact⟨rfl,by rw[ie];rfl⟩
   ·cases hg
  ·cases hg
 ·cases hg
noncomputable def abv:List (amY×Sum):=[(100,Sum.du asz Gp)]
theorem abw:dg asz (dE asz (dF abv) 50 40):=dJ cZ mixed (dQ (.cons abu .nil)) 50 40
end Go.Proofs.Ytnlkkgpcikkpoaa
namespace Go.Proofs.Ytnlkkgpcikkpoaa
noncomputable section
open Go Vm Go.RowKit
set_option maxRecDepth 100000
noncomputable def abx:List am3:=ba (dy asz 89)
open Tree renaming aU→mN,dh→mF,eQ→mL,fw→mQ,dz→mR,fI→mE
abbrev Gq:=fun S R H d (n:Nat) L=>(⟨[],[ab (ao (bE (a7 (ad.aC S)) (cU (ao L)))) 9,ab (aQ S 2 0 3 4) 64,.abs d,ab (aq R) 3,ab (ak H) 144]⟩:aj)
abbrev aby:=fun S R H d (n:Nat) L=>(⟨[(0,ah 0 n),(1,.func (.func 90) #[an 1] #[])],[ab (ao L) 9,ab (aQ S 2 0 3 4) 64,.abs d,ab (aq R) 3,ab (ak H) 144]⟩:aj)
theorem abz(S R H d)(n:Nat)(L)(pH:(ak H).all af=true)(hn:(mM L)=n){Q:aV}(n0:(ig [ab (ao L) 9,ab (aQ S 2 0 3 4) 64,ai.abs d,ab (aq R) 3,ab (ak H) 144] n&&(amE n n&&(amE 90 90&&decide ((↑n:Int)=(↑n:Int)))))=true)(l3:Q .normal (Gq S R H d n L)):al asz 9 5 abx (aby S R H d n L) Q:=
 aZ abw 1000 (av [5,1,1,1,1,1,1] (.leaf [] [0,1,2,3,4] [0,3,4])) (fun u=>by kernel_rfl) (aM L R H (mN n0 (mN (aN (bE (a7 (ad.aC S)) (cU (ao L)))) (mN (aS R) (mN (aY H) (mN (aN (bE (a7 (ad.aC S)) (cU (ao L)))) (mN (aS R) (mN (aY H) (mQ (al.done (by kernel_rfl) l3))))))))))
end
end Go.Proofs.Ytnlkkgpcikkpoaa
namespace Go.Proofs.Ytnlkkgpcikkpoaa
open Go Vm Go.RowKit
set_option maxRecDepth 100000
theorem abA(S:ad)(R:List Int)(H:List ap)(d:ay)(L:List ByteArray)(n:Nat)(hn:L.length=n)(hL:n≤1000000):
 aG asz 89 [fu n,fK] (cF S R H d L) fun r o=>r=.ret (.tuple #[])∧o=cF S R H d (bE (a7 S.aC) L):=by
 have pH:=aY H
 have hO:∀M:List ByteArray,M.length=n→ig [ai.cells (ao M) 9 false,ai.cells (aQ S 2 0 3 4) 64 false,ai.abs d,ai.cells (aq R) 3 false,ai.cells (ak H) 144 false] n=true:=fun M hM=>vi (S:=S) (R:=R) (H:=H) (d:=d) (L:=M) rfl hM hL
 refine aG.cM (n:=ct asz 89) (by kernel_rfl) ?_
 apply abz S R H d n L pH hn
 case n0=>
  rw[hO L hn]
  simp only[anw,aoZ,decide_eq_true_eq]
 case l3=>
  have e:Gq S R H d n L=⟨[],cF S R H d (bE (a7 S.aC) L)⟩:=by unfold Gq;rw[ie];rfl
  rw[e]
  exact aH.normal (vs:=[]) (l:=[]) (bs:=[0,1,2,3,4]) (pl:=[0,3,4]) (q:=[ao (bE (a7 S.aC) L),aq R,ak H]) (fun u=>by kernel_rfl) (by kernel_rfl) (aE (by simp) (aE (by simp) (aE pH bd))) ⟨rfl,rfl⟩
noncomputable def AL(a:List amn)(o:List ai):Option (Bool×bL×List ai):=match a,o with
 | [.slice (some ⟨0,0,none⟩) n m,.func (.func f) c1 c2],ai.cells c t r::ai.cells e t2 r2::l=>match c1.toList,c2.toList with
  | [.pointer (some ⟨1,0,none⟩)],[]=>match(e[70]?:Option amn)with
   |some (.bool fl)=>some (ig (.cells c t r:: .cells e t2 r2::l) n&&(amE m n&&amE f 90),.ret (.tuple #[]),.cells (ao (bE (a7 fl) (cU c))) t r:: .cells e t2 r2::l)
   |_=>none
  |_,_=>none
 |_,_=>none
theorem NZ:bp asz 89 (Sum.du asz AL):=bp.du fun a o r o' hg=>by
 unfold AL at hg
 split at hg
 ·rename_i n m f c1 c2 c t ro e t2 r2 l
  split at hg
  ·rename_i h1 h2
   split at hg
   ·rename_i fl fC
    simp only[amr,amv,amB,decide_eq_true_eq]at hg
    obtain⟨⟨g1,g2,g3⟩,rfl,rfl⟩:=hg
    have g2:=amI g2
    have g3:=amI g3
    obtain⟨S,R,H,d,L,he,hl,hn⟩:=@of_decide_eq_true _ (amR _) g1
    have e1:c1= #[.pointer (some ⟨1,0,none⟩)]:=by rw[←anB (xs:=c1),h1]
    have e2:c2= #[]:=by rw[←anB (xs:=c2),h2]
    subst g2 g3 e1 e2
    unfold cF at he
    injection he with ot eD
    injection eD with eD qo
    injection ot with hc ht hr
    injection eD with il lO eo
    subst hc ht hr il lO eo qo
    have:(aQ S 2 0 3 4)[70]?=some (.bool S.aC):=rfl
    rw[this]at fC
    cases fC
    refine(abA S R H d L _ hl hn).mono ?_
    rintro r o ⟨rfl,rfl⟩
    exact⟨rfl,by rw[ie];rfl⟩
   ·cases hg
  ·cases hg
 ·cases hg
def bh(c:List amn):ByteArray:=⟨(c.map fun v=>match v with| .int _ x=>aq1 x|_=>0).toArray⟩
@[simp] theorem iL(b:ByteArray):bh (ag b)=b:=by
 unfold bh ag
 rw[aqi]
 have:b.data.toList.map ((fun v:amn=>match v with| .int _ x=>aq1 x|_=>0)∘fun x=>amu .u8 x.toNat)=b.data.toList:=by
  conv=>rhs;rw[←List.map_id b.data.toList]
  refine aoz fun x _=>?_
  show aq1 ((x.toNat:Nat):Int)=x
  unfold aq1
  have h:=x.toNat_lt
  apply UInt8.toNat_inj.1
  simp
  omega
 rw[this]
noncomputable def AM(a:List amn)(o:List ai):Option (Bool×bL×List ai):=match a,o with
 | [.pointer (some ⟨0,0,none⟩)],[.abs d]=>some (ph d,.ret (.tuple #[.int .i64 (bw d).1,.int .i64 (bw d).2.1]),[.abs (bw d).2.2])
 |_,_=>none
theorem N0:bp asz 102 (Sum.du asz AM):=bp.du fun a o r o' hg=>by
 unfold AM at hg
 split at hg
 ·rename_i d
  simp only[amr,amv]at hg
  obtain⟨h1,rfl,rfl⟩:=hg
  exact YD d (rA.1 h1)
 ·cases hg
noncomputable def Gr(a:List amn)(o:List ai):Option (Bool×bL×List ai):=match a,o with
 | [.pointer (some ⟨0,0,none⟩),.int .i64 no],[.abs d]=>some (ph d,.ret (.int .i64 (eS d no).1),[.abs (eS d no).2])
 |_,_=>none
theorem abB:bp asz 106 (Sum.du asz Gr):=bp.du fun a o r o' hg=>by
 unfold Gr at hg
 split at hg
 ·rename_i no d
  simp only[amr,amv]at hg
  obtain⟨h1,rfl,rfl⟩:=hg
  exact YG d (rA.1 h1) no
 ·cases hg
noncomputable def xR(a:List amn)(o:List ai):Option (Bool×bL×List ai):=match a,o with
 | [.pointer (some ⟨0,0,none⟩)],[.abs d]=>some (true,.ret (.int .i64 d.raw),[.abs d])
 |_,_=>none
theorem Gs:bp asz 94 (Sum.du asz xR):=bp.du fun a o r o' hg=>by
 unfold xR at hg
 split at hg
 ·rename_i d
  simp only[amr,amv,true_and]at hg
  obtain⟨rfl,rfl⟩:=hg
  exact YH d
 ·cases hg
def N1(d:ay)(no:Int)(c:List amn)(t:amz)(ro:Bool)(n m:Nat):Prop:=cw d∧∃b,c=ag b∧n=b.size∧m=b.size∧t=5∧ro=false∧∀f,fileOf d.files no=some f→f.size+b.size≤1000000
noncomputable def xS(d:ay)(no:Int)(c:List amn)(t:amz)(ro:Bool)(n m:Nat):Bool:=@decide (N1 d no c t ro n m) (amR _)
theorem Gt{d:ay}{no:Int}{c:List amn}{t:amz}{ro:Bool}{n m:Nat}:xS d no c t ro n m=true↔N1 d no c t ro n m:=by
 unfold xS;exact @decide_eq_true_iff _ (amR _)
noncomputable def AN(a:List amn)(o:List ai):Option (Bool×bL×List ai):=match a,o with
 | [.pointer (some ⟨0,0,none⟩),.int .i64 no,.slice (some ⟨1,0,none⟩) n m],[.abs d,.cells c t ro]=>some (xS d no c t ro n m,.ret (.int .i64 (bN d no (bh c)).1),[.abs (bN d no (bh c)).2,.cells c t ro])
 |_,_=>none
theorem N2:bp asz 103 (Sum.du asz AN):=bp.du fun a o r o' hg=>by
 unfold AN at hg
 split at hg
 ·rename_i no n m d c t ro
  simp only[amr,amv,Gt]at hg
  obtain⟨⟨h1,b,rfl,rfl,rfl,rfl,rfl,h2⟩,rfl,rfl⟩:=hg
  rw[iL]
  exact YK d h1 no b h2
 ·cases hg
noncomputable def Gu:Sum:=⟨lh asz,fun a o=>match a,o with
 | [.pointer (some ⟨0,0,none⟩),.int .i64 no,.int .i64 p,.int .i64 k],[.abs d]=>.uH (ph d) (.ask ((aK d no p k).2.1==0) fun b=>match b with
  |true=>.done (.ret (.tuple #[.slice (some ⟨1,0,none⟩) (aK d no p k).1.size (aK d no p k).1.size,.int .i64 0]),[.abs (aK d no p k).2.2,.cells (ag (aK d no p k).1) 5 false])
  |false=>.done (.ret (.tuple #[.slice none 0 0,.int .i64 (aK d no p k).2.1]),[.abs (aK d no p k).2.2]))
 |_,_=>.fail⟩
theorem abC:bp asz 97 Gu:=by
 intro a o r o' hg
 unfold Gu at hg
 dsimp only at hg
 split at hg
 ·rename_i no p k d
  obtain⟨h1,hg⟩:=QT.xf hg
  have hg:(match((aK d no p k).2.1==0)with|true=>_|false=>_:QT (bL×List ai)).run=some (r,o'):=hg
  refine(YN d (rA.1 h1) no p k).mono fun r1 o1 h=>?_
  obtain⟨rfl,rfl⟩:=h
  unfold xA
  cases hk:((aK d no p k).2.1==0)with
  |true=>
   rw[hk]at hg
   cases hg
   rw[if_pos (by simpa using hk)]
   exact⟨rfl,rfl⟩
  |false=>
   rw[hk]at hg
   cases hg
   rw[if_neg (by simpa using hk)]
   exact⟨rfl,rfl⟩
 ·cases hg
end Go.Proofs.Ytnlkkgpcikkpoaa
namespace Go.Proofs.Ytnlkkgpcikkpoaa
open Go Vm Go.RowKit
def ad.z(S:ad):ad:={S with ro:=0}
def N3(S:ad)(a:Nat)(rv tv hv:amn):List amn:=[.int .i64 S.at_,.bool S.more,.bool S.over]++xC S.B++[.int .i64 S.n,.bool S.failed,.pointer (some ⟨a,0,none⟩),.bool S.aC,rv,.int .i64 S.bM,tv,hv,.bool S.dR,.int .i64 S.raw,.bool S.closed]
def iM(S:ad)(L:List ByteArray)(R:List Int)(H:List ap)(d:ay):List ai:=[.cells (aQ S 1 5 6 7) 64 false,.abs d,.dead,.dead,.dead,.cells (ao L) 9 false,.cells (aq R) 3 false,.cells (ak H) 144 false]
noncomputable def abD:List (amY×Sum):=[(89,Sum.du asz AL),(102,Sum.du asz AM),(103,Sum.du asz AN)]
theorem N4:dg asz (dE asz (dF abD) 50 40):=dJ cZ mixed (dQ (.cons NZ (.cons N0 (.cons N2 .nil)))) 50 40
end Go.Proofs.Ytnlkkgpcikkpoaa
namespace Go.Proofs.Ytnlkkgpcikkpoaa
noncomputable section
open Go Vm Go.RowKit
set_option maxRecDepth 100000
noncomputable def rE:List am3:=ba (dy asz 91)
open Tree renaming aU→mN,dh→mF,eQ→mL,fw→mQ,dz→mR,fI→mE
noncomputable abbrev Gv:List am3:=(ba (inner (ba (inner (rE.drop 7)))))
abbrev N5:=fun S R H d L=>(⟨[(2,aa (amx (anl (bw d))))],[ab (aQ (ad.z S) 1 5 6 7) 64,.abs (anl (anl (bw d))),.dead,.dead,.dead,ab (ao (bE (a7 (ad.aC S)) (cU (ao L)))) 9,ab (aq R) 3,ab (ak H) 144]⟩:aj)
theorem abE(S R H d L){Q:bk}(aW:amq (aq R) af=true)(be:amq (ak H) af=true)(hq:Q (.ret (aa (amx (anl (bw d))))) [ab (aQ (ad.z S) 1 5 6 7) 64,.abs (anl (anl (bw d))),.dead,.dead,.dead,ab (ao (bE (a7 (ad.aC S)) (cU (ao L)))) 9,ab (aq R) 3,ab (ak H) 144]):aH asz 91 64 5 Q .ret (N5 S R H d L):=aH.ret (vs:=[aa (amx (anl (bw d)))]) (l:=[]) (bs:=[0,1,2,3,4,5,6,7]) (pl:=[5,6,7]) (q:=[ao (bE (a7 (ad.aC S)) (cU (ao L))),aq R,ak H]) (fun u=>by kernel_rfl) (by kernel_rfl) (aE (by first|exact aP _|assumption|exact aD (by assumption) rfl _|exact aD (aD (aD (by assumption) rfl _) rfl _) rfl _|exact aD (aP _) (cg (by rfl) _) _|exact aA (aO (aN _) _) _|(simp;done)|exact aB (by assumption) rfl|exact aB (aP _) rfl|exact aB rfl (aA (by assumption) _)|exact aB (by assumption) (aA (by assumption) _)|exact aB rfl (aA (aO (by assumption) _) _)|exact aA (aO (by assumption) _) _) (aE aW (aE be bd))) hq
abbrev N6:=fun S R H d L=>(⟨[(0,an 0),(3,aa (amx (bw d)))],[ab (aQ (ad.z S) 1 5 6 7) 64,.abs (anl (anl (bw d))),.dead,.dead,.dead,ab (ao (bE (a7 (ad.aC S)) (cU (ao L)))) 9,ab (aq R) 3,ab (ak H) 144]⟩:aj)
abbrev AP:=fun(S:ad) R H d L=>([ab (aQ S.z 1 5 6 7) 64,.abs d,.dead,.dead,.dead,ab (ao L) 9,ab (aq R) 3,ab (ak H) 144]:List ai)
abbrev N7:=fun S R H d L=>(⟨[(0,an 0)],AP S R H d L⟩:aj)
theorem abF(S:ad)(R H d L)(pH:(ak H).all af=true)(hL:(mM L)=S.rn)(hR:(mM R)=S.sn){Q:aV}(n0:(ig [ab (ao L) 9,ab (aQ (ad.z S) 2 0 3 4) 64,ai.abs d,ab (aq R) 3,ab (ak H) 144] (ad.rn S)&&(amE (ad.rn S) (ad.rn S)&&amE 90 90))=true)(n1:(ph d)=true)(l4:(amx (anl (bw d)) != 0)=true→Q .ret (N5 S R H d L))(l5:(amx (anl (bw d)) != 0)=false→al asz 64 5 (rE.drop 5) (N6 S R H d L) Q):al asz 64 5 rE (N7 S R H d L) Q:=
 aZ N4 5 (av [5,1,1,1,1,1,1,5] (.fork 0 (.leaf [2] [0,1,2,3,4,5,6,7] [5,6,7]) (.leaf [0,3] [0,1,2,3,4,5,6,7] [5,6,7]))) (fun u=>by kernel_rfl) (aM L R H (mN n0 (mN (aN (bE (a7 (ad.aC S)) (cU (ao L)))) (mN (aS R) (mN (aY H) (mN n1 (mF (c:=amx (anl (bw d)) != 0) (fun h0=>(mN (aN (bE (a7 (ad.aC S)) (cU (ao L)))) (mN (aS R) (mN (aY H) (mR (l4 h0)))))) (fun h0=>(mN (aN (bE (a7 (ad.aC S)) (cU (ao L)))) (mN (aS R) (mN (aY H) (mQ (l5 h0)))))))))))))
abbrev Gx:=fun S R H d L (no:Int)=>(⟨[(0,an 0),(3,aa no),(39,ah 5 (ad.rn S)),(40,aa (ad.rn S)),(41,aa 0)],[ab (aQ (ad.mk (ad.at_ S) (ad.more S) (ad.over S) (ad.B (ad.z S)) (ad.n S) (ad.failed S) (ad.aC S) 0 (ad.rn S) (ad.bM S) (ad.sn S+1) (ad.hn S) (ad.dR S) (ad.raw S) (ad.closed S)) 1 5 6 7) 64,.abs d,.dead,.dead,.dead,ab (ao L) 9,ab (aq R++[aa no]) 3,ab (ak H) 144]⟩:aj)
abbrev abG:=fun S R H d L (no:Int)=>(⟨[(0,an 0),(3,aa no)],AP S R H d L⟩:aj)
theorem abH(S:ad)(R H d L)(no:Int)(pH:(ak H).all af=true)(hL:(mM L)=S.rn)(hR:(mM R)=S.sn){Q:aV}(n0:(amO (ad.sn S+1) 1000000)=true)(aW:amq (ao L) af=true)(be:amq (ak H) af=true)(l3:al asz 64 5 ((rE.drop 5).drop 2) (Gx S R H d L no) Q):al asz 64 5 (rE.drop 5) (abG S R H d L no) Q:=
 aZ bo 2 (av [2,3,5,1] (.leaf [0,3,39,40,41] [0,1,2,3,4,5,9,7] [5,9,7])) (fun u=>by kernel_rfl) (mN n0 (mN (kJ _:(full (ad.sn S) (ad.sn S))=true) (mN (show(amE (0+ad.sn S*1) (mM (aq R)))=true by simp at pH hL hR⊢ <;>omega) (mN (aN L) (mN (show(amq (aq R++[aa no]) af)=true by first|exact aP _|assumption|exact aD (by assumption) rfl _|exact aD (aD (aD (by assumption) rfl _) rfl _) rfl _|exact aD (aP _) (cg (by rfl) _) _|exact aA (aO (aN _) _) _|(simp;done)|exact aB (by assumption) rfl|exact aB (aP _) rfl|exact aB rfl (aA (by assumption) _)|exact aB (by assumption) (aA (by assumption) _)|exact aB rfl (aA (aO (by assumption) _) _)|exact aA (aO (by assumption) _) _) (mN (aY H) (mQ l3)))))))
abbrev Gw:=fun S R H d L=>([ab (aQ (ad.z S) 1 5 6 7) 64,.abs d,.dead,.dead,.dead,ab (ao L) 9,ab (aq R) 3,ab (ak H) 144]:List ai)
abbrev abI:=fun S R H d L (no i:Int)=>(⟨[(0,an 0),(3,aa no),(39,ah 5 (ad.rn S)),(40,aa (ad.rn S)),(41,aa i)],Gw S R H d L⟩:aj)
abbrev abJ:=fun S R H d L (no i:Int)=>(⟨[(0,an 0)],Gw S R H d L⟩:aj)
abbrev N8:=fun(S:ad) R H d L (no i:Int)=>(⟨[(0,an 0),(3,aa no),(39,ah 5 S.rn),(40,aa S.rn),(41,aa i)],AP S R H d L⟩:aj)
theorem abK(S:ad)(R H d L)(no i:Int)(pH:(ak H).all af=true)(hL:(mM L)=S.rn)(hR:(mM R)=S.sn){Q:aV}(l3:(decide (i<(↑(ad.rn S):Int)))=true→al asz 64 5 (Gv.drop 2) (abI S R H d L no i) Q)(l4:(decide (i<(↑(ad.rn S):Int)))=false→Q (.exit 0) (abJ S R H d L no i)):al asz 64 5 Gv (N8 S R H d L no i) Q:=
 aZ bo 2 (.fork 0 (.leaf [0,3,39,40,41] [0,1,2,3,4,5,6,7] [5,6,7]) (.leaf [0] [0,1,2,3,4,5,6,7] [5,6,7])) (fun u=>by kernel_rfl) (mF (c:=decide (i<(↑(ad.rn S):Int))) (fun h0=>(aM L R H (mQ (l3 h0)))) (fun h0=>(aM L R H (mE 0 (l4 h0)))))
abbrev N9:=fun S R H d L (no i:Int)=>(⟨[(2,aa (amx (bN d no (bh (am0 (fun b=>amu amJ (↑(amZ b):Int)) (amM (ams (a8 (ao L) (0+amm i*1))) (amV (amP (a8 (ao L) (0+amm i*1)))))++[amu amJ 10])))))],[ab (aQ (ad.z S) 1 5 6 7) 64,.abs (anl (bN d no (bh (am0 (fun b=>amu amJ (↑(amZ b):Int)) (amM (ams (a8 (ao L) (0+amm i*1))) (amV (amP (a8 (ao L) (0+amm i*1)))))++[amu amJ 10])))),.dead,.dead,.dead,ab (ao L) 9,ab (aq R) 3,ab (ak H) 144]⟩:aj)
theorem abL(S R H d L)(no i:Int){Q:bk}(hq:Q (.ret (aa (amx (bN d no (bh (am0 (fun b=>amu amJ (↑(amZ b):Int)) (amM (ams (a8 (ao L) (0+amm i*1))) (amV (amP (a8 (ao L) (0+amm i*1)))))++[amu amJ 10])))))) [ab (aQ (ad.z S) 1 5 6 7) 64,.abs (anl (bN d no (bh (am0 (fun b=>amu amJ (↑(amZ b):Int)) (amM (ams (a8 (ao L) (0+amm i*1))) (amV (amP (a8 (ao L) (0+amm i*1)))))++[amu amJ 10])))),.dead,.dead,.dead,ab (ao L) 9,ab (aq R) 3,ab (ak H) 144]):aH asz 91 64 5 Q .ret (N9 S R H d L no i):=aH.ret (vs:=[aa (amx (bN d no (bh (am0 (fun b=>amu amJ (↑(amZ b):Int)) (amM (ams (a8 (ao L) (0+amm i*1))) (amV (amP (a8 (ao L) (0+amm i*1)))))++[amu amJ 10]))))]) (l:=[]) (bs:=[0,1,2,3,4,5,6,7]) (pl:=[5,6,7]) (q:=[ao L,aq R,ak H]) (fun u=>by kernel_rfl) (by kernel_rfl) (gi L R H bd) hq
abbrev Oa:=fun S R H d L (no i:Int)=>(⟨[(0,an 0),(3,aa no),(39,ah 5 (ad.rn S)),(40,aa (ad.rn S)),(41,.int .i64 (aml .i64 (i+1)))],[ab (aQ (ad.z S) 1 5 6 7) 64,.abs (anl (bN d no (bh (am0 (fun b=>amu amJ (↑(amZ b):Int)) (amM (ams (a8 (ao L) (0+amm i*1))) (amV (amP (a8 (ao L) (0+amm i*1)))))++[amu amJ 10])))),.dead,.dead,.dead,ab (ao L) 9,ab (aq R) 3,ab (ak H) 144]⟩:aj)
theorem abM(S:ad)(R H d L)(no i:Int)(pH:(ak H).all af=true)(hL:(mM L)=S.rn)(hR:(mM R)=S.sn)(h0:0≤i)(h1:i<S.rn)(h2:S.rn≤1000000)(h3:aml .i64 (i+1)=i+1){Q:aV}(n0:(eB (ao L) (0+amm i*1))=true)(n1:(amO (0+ams (a8 (ao L) (0+amm i*1))) 1000000)=true)(n2:(amq (am0 (fun b=>amu amJ (↑(amZ b):Int)) (amM (ams (a8 (ao L) (0+amm i*1))) (amV (amP (a8 (ao L) (0+amm i*1)))))) Value.oneCell')=true)(n3:(amO (ams (a8 (ao L) (0+amm i*1))+1) 1000000)=true)(n4:(amq (am0 (fun b=>amu amJ (↑(amZ b):Int)) (amM (ams (a8 (ao L) (0+amm i*1))) (amV (amP (a8 (ao L) (0+amm i*1)))))++[amu amJ 10]) af)=true)(n5:(xS d no (am0 (fun b=>amu amJ (↑(amZ b):Int)) (amM (ams (a8 (ao L) (0+amm i*1))) (amV (amP (a8 (ao L) (0+amm i*1)))))++[amu amJ 10]) 5 false (ams (a8 (ao L) (0+amm i*1))+1) (ams (a8 (ao L) (0+amm i*1))+1))=true)(l9:(amx (bN d no (bh (am0 (fun b=>amu amJ (↑(amZ b):Int)) (amM (ams (a8 (ao L) (0+amm i*1))) (amV (amP (a8 (ao L) (0+amm i*1)))))++[amu amJ 10]))) != 0)=true→Q .ret (N9 S R H d L no i))(kP:(amx (bN d no (bh (am0 (fun b=>amu amJ (↑(amZ b):Int)) (amM (ams (a8 (ao L) (0+amm i*1))) (amV (amP (a8 (ao L) (0+amm i*1)))))++[amu amJ 10]))) != 0)=false→Q .normal (Oa S R H d L no i)):al asz 64 5 (Gv.drop 2) (N8 S R H d L no i) Q:=
 aZ N4 1000 (av [0,1,1,0,1,12,1,1,1,2,3,5,1,5,1,1] (.fork 0 (.leaf [2] [0,1,2,3,4,5,6,7] [5,6,7]) (.leaf [0,3,39,40,41] [0,1,2,3,4,5,6,7] [5,6,7]))) (fun u=>by kernel_rfl) (mN (decide_eq_true (by omega):(decide (0≤i))=true) (mN (show(Nat.blt (amm i) (ad.rn S))=true by simp at pH hL hR h0 h1 h2 h3⊢ <;>omega) (mN n0 (mN n1 (mN n2 (mN (show(amE (mM (am0 (fun b=>amu amJ (↑(amZ b):Int)) (amM (ams (a8 (ao L) (0+amm i*1))) (amV (amP (a8 (ao L) (0+amm i*1))))))) (ams (a8 (ao L) (0+amm i*1))*1))=true by simp) (mN n3 (mN (kJ _:(full (ams (a8 (ao L) (0+amm i*1))) (ams (a8 (ao L) (0+amm i*1))))=true) (mN (show(amE (0+ams (a8 (ao L) (0+amm i*1))*1) (mM (am0 (fun b=>amu amJ (↑(amZ b):Int)) (amM (ams (a8 (ao L) (0+amm i*1))) (amV (amP (a8 (ao L) (0+amm i*1))))))))=true by simp) (mN n4 (mN n5 (mN n4 (mF (c:=amx (bN d no (bh (am0 (fun b=>amu amJ (↑(amZ b):Int)) (amM (ams (a8 (ao L) (0+amm i*1))) (amV (amP (a8 (ao L) (0+amm i*1)))))++[amu amJ 10]))) != 0) (fun h0=>(aM L R H (mR (l9 h0)))) (fun h0=>(aM L R H (mQ (al.done (by kernel_rfl) (kP h0))))))))))))))))))
abbrev Ob:=fun S R H d (L:List ByteArray)=>(⟨[(2,aa 0)],[ab (N3 (ad.mk (ad.at_ S) (ad.more S) (ad.over S) (ad.B (ad.z S)) (ad.n S) (ad.failed S) (ad.aC S) (ad.ro S) (ad.rn S) 0 (ad.sn S) (ad.hn S) (ad.dR S) (ad.raw S) (ad.closed S)) 1 (cd) (ah 5 (ad.sn S)) (ah 6 (ad.hn S))) 64,.abs d,.dead,.dead,.dead,ab (aq R) 3,ab (ak H) 144]⟩:aj)
theorem abN(S:ad)(R H d L)(pH:(ak H).all af=true)(hL:(mM L)=S.rn)(hR:(mM R)=S.sn){Q:aV}(l2:al asz 64 5 ((rE.drop 8).drop 2) (Ob S R H d L) Q):al asz 64 5 (rE.drop 8) (N7 S R H d L) Q:=
 aZ bo 2 (.leaf [2] [0,1,2,3,4,6,7] [6,7]) (fun u=>by kernel_rfl) (mN (aS R) (mN (aY H) (mQ l2)))
abbrev Oc:=fun S R H d L (e:Int)=>(⟨[(2,aa e)],Gw S R H d L⟩:aj)
theorem abO(S R H d L)(e:Int){Q:bk}(hq:Q (.ret (aa e)) (Gw S R H d L)):aH asz 91 64 5 Q .ret (Oc S R H d L e):=aH.ret (vs:=[aa e]) (l:=[]) (bs:=[0,1,2,3,4,5,6,7]) (pl:=[5,6,7]) (q:=[ao L,aq R,ak H]) (fun u=>by kernel_rfl) (by kernel_rfl) (gi L R H bd) hq
abbrev abP:=fun S R H d L (e:Int)=>(⟨[(2,aa e)],AP S R H d L⟩:aj)
theorem abQ(S:ad)(R H d L)(e:Int)(pH:(ak H).all af=true)(hL:(mM L)=S.rn)(hR:(mM R)=S.sn){Q:aV}(l3:Q .ret (Oc S R H d L e)):al asz 64 5 (rE.drop 10) (abP S R H d L e) Q:=
 aZ bo 1000 (.leaf [2] [0,1,2,3,4,5,6,7] [5,6,7]) (fun u=>by kernel_rfl) (aM L R H (mR l3))
end
end Go.Proofs.Ytnlkkgpcikkpoaa
namespace Go.Proofs.Ytnlkkgpcikkpoaa
open Go Vm Go.RowKit
theorem cw.xU{d:ay}(h:cw d):cw (gS d):=⟨h.bS,h.made,h.keys,h.gp,h.size⟩
theorem cw.tz{d:ay}(h:cw d):cw (bw d).2.2:=by
 unfold bw
 split
 ·exact h
 split
 ·exact h.xU
 ·rename_i h1 _
  have hm:=h.made
  refine⟨h.bS,by show d.made+1≤64;omega,fun p hp=>?_,?_,fun p hp=>?_⟩
  ·rcases amU.1 hp with hp|hp
   ·have:=h.keys p hp;show p.1≤d.made+1;omega
   ·rw[ank.1 hp];exact amX _
  ·show((d.files++[(d.made+1,amw)]).map (·.1)).Nodup
   rw[anh]
   refine List.nodup_append.2 ⟨h.gp,by simp,fun a ha b hb=>?_⟩
   obtain⟨p,hp,rfl⟩:=aoq.1 ha
   have:=h.keys p hp
   simp at hb
   omega
  ·rcases amU.1 hp with hp|hp
   ·exact h.size p hp
   ·rw[ank.1 hp];exact ann _
theorem AQ{d:ay}(h:cw d)(he:(bw d).2.1=0):fileOf (bw d).2.2.files (bw d).1=some amw:=by
 unfold bw at he⊢
 split at he
 ·cases he
 ·rename_i h1
  rw[if_neg h1]
  split at he
  ·rename_i h2;exact absurd he h2
  ·rename_i h2
   rw[if_neg h2]
   unfold fileOf
   show Option.map _ (arc _ (d.files++[(d.made+1,amw)]))=_
   rw[List.find?_append]
   have:d.files.find? (fun p=>(p.1:Int)==((d.made:Int)+1))=none:=apm.2 fun p hp=>by
    have:=h.keys p hp
    simp only[beq_iff_eq]
    omega
   rw[this]
   have e:(((d.made+1:Nat):Int)==(d.made:Int)+1)=true:=by rw[beq_iff_eq];omega
   simp[arc,e]
theorem abR{l:List (Nat×ByteArray)}{no:Int}{b:ByteArray}:fileOf (kM l no b) no=(fileOf l no).map (·++b):=by
 unfold fileOf kM
 induction l with
 |nil=>rfl
 |cons p l ih=>
  rw[ani,aoY,aoY]
  cases e:((p.1:Int)==no)with
  |true=>simp only[if_true,e];rfl
  |false=>simp only[anr,if_false,e];exact ih
theorem abS{l:List (Nat×ByteArray)}{no:Int}{f:ByteArray}(h:fileOf l no=some f):∃k,(k,f)∈l∧(k:Int)=no:=by
 unfold fileOf at h
 cases e:l.find? (fun p=>(p.1:Int)==no)with
 |none=>rw[e]at h;cases h
 |some p=>
  rw[e]at h
  cases h
  exact⟨p.1,List.mem_of_find?_eq_some e,by have:=List.find?_some e;simpa using this⟩
theorem abT{l:List (Nat×ByteArray)}(hn:(l.map (·.1)).Nodup){k:Nat}{f:ByteArray}(h:(k,f)∈l):fileOf l (k:Int)=some f:=by
 unfold fileOf
 induction l with
 |nil=>cases h
 |cons p l ih=>
  rw[ani,List.nodup_cons]at hn
  rw[aoY]
  rcases List.mem_cons.1 h with rfl|h
  ·simp
  ·have:((p.1:Int)==(k:Int))=false:=by
    rw[beq_eq_false_iff_ne]
    intro e
    have e:p.1=k:=by omega
    exact hn.1 (aoq.2 ⟨(k,f),h,e.symm⟩)
   rw[this]
   exact ih hn.2 h
theorem cw.write{d:ay}{no:Int}{b:ByteArray}(h:cw d)(hs:∀f,fileOf d.files no=some f→f.size+b.size≤1000000):cw (bN d no b).2:=by
 unfold bN
 split
 ·exact h
 split
 ·exact h
 split
 ·exact h.xU
 ·refine⟨h.bS,h.made,fun p hp=>?_,?_,fun p hp=>?_⟩
  ·obtain⟨q,hq,rfl⟩:=aoq.1 hp
   have:=h.keys q hq
   dsimp only
   split<;>exact this
  ·show((kM d.files no b).map (·.1)).Nodup
   have:(kM d.files no b).map (·.1)=d.files.map (·.1):=by
    unfold kM
    rw[aqi]
    refine aoz fun q _=>?_
    show(if _ then _ else _:Nat×ByteArray).1=q.1
    split<;>rfl
   rw[this];exact h.gp
  ·obtain⟨q,hq,rfl⟩:=aoq.1 hp
   split
   ·rename_i e
    have e:(q.1:Int)=no:=by simpa using e
    have:=hs q.2 (by rw[←e];exact abT h.gp hq)
    show(q.2++b).size≤_
    rw[aoX];exact this
   ·exact h.size q hq
theorem Gy{d:ay}{no:Int}{b f:ByteArray}(h:fileOf (bN d no b).2.files no=some f):∃g,fileOf d.files no=some g∧f.size≤g.size+b.size:=by
 unfold bN at h
 split at h
 ·rename_i e;rw[e]at h;cases h
 ·rename_i g e
  refine⟨g,e,?_⟩
  split at h
  ·rw[e]at h;cases h;omega
  split at h
  ·have h:fileOf d.files no=some f:=h
   rw[e]at h;cases h;omega
  ·have h:fileOf (kM d.files no b) no=some f:=h
   rw[abR,e]at h
   cases h
   rw[aoX];exact amX _
end Go.Proofs.Ytnlkkgpcikkpoaa
namespace Go.Proofs.Ytnlkkgpcikkpoaa
open Go Vm Go.RowKit
set_option maxRecDepth 100000
theorem Od:bT asz 9=some 1:=by kernel_rfl
def b7(x:ByteArray):ByteArray:=x++⟨#[10]⟩
theorem ls(x:ByteArray):(b7 x).size=x.size+1:=by unfold b7;rw[aoX];rfl
def iw(no:Int):List ByteArray→ay→Int×ay
 | [],d=>(0,d)
 |x::l,d=>if(bN d no (b7 x)).1≠0 then bN d no (b7 x)else iw no l (bN d no (b7 x)).2
def bO:List ByteArray→Nat
 | []=>0
 |x::l=>x.size+1+bO l
theorem vo{l l':List ByteArray}(h:l.Perm l'):bO l=bO l':=by
 induction h with
 |nil=>rfl
 |cons x _ ih=>show x.size+1+bO _=x.size+1+bO _;omega
 |swap x y l=>show y.size+1+(x.size+1+bO l)=x.size+1+(y.size+1+bO l);omega
 |trans _ _ h1 h2=>omega
theorem xV(l:List ByteArray):l.length≤bO l:=by
 induction l with
 |nil=>exact amX _
 |cons x l ih=>show l.length+1≤x.size+1+bO l;omega
def dS(S:ad)(L:List ByteArray)(R:List Int)(d:ay):Int×ad×List ByteArray×List Int×ay:=
 if(bw d).2.1≠0 then((bw d).2.1,S,bE (a7 S.aC) L,R,(bw d).2.2)
 else if(iw (bw d).1 (bE (a7 S.aC) L) (bw d).2.2).1≠0 then((iw (bw d).1 (bE (a7 S.aC) L) (bw d).2.2).1,{S with sn:=S.sn+1},bE (a7 S.aC) L,R++[(bw d).1],(iw (bw d).1 (bE (a7 S.aC) L) (bw d).2.2).2)
 else(0,{S with sn:=S.sn+1,rn:=0,bM:=0},[],R++[(bw d).1],(iw (bw d).1 (bE (a7 S.aC) L) (bw d).2.2).2)
theorem join_eq(x:ByteArray):am0 (fun b:UInt8=>amu amJ (↑(amZ b):Int)) (amM (ams x) (amV (amP x)))++[amu amJ 10]=ag (b7 x):=by
 unfold b7
 rw[Mi,anI (by exact amX _)]
 rfl
def AR(S:ad)(R:List Int)(H:List ap)(no:Int)(L:List ByteArray)(s:Nat×ay):aj:=⟨[(0,.pointer (some ⟨0,0,none⟩)),(3,.int .i64 no),(39,.slice (some ⟨5,0,none⟩) S.rn S.rn),(40,.int .i64 S.rn),(41,iZ s.1)],iM S.z L R H s.2⟩
structure abU(no:Int)(L:List ByteArray)(d1:ay)(s:Nat×ay):Prop where
 i:s.1≤L.length
 e:iw no (L.drop s.1) s.2=iw no L d1
 ok:cw s.2
 sz:∀f,fileOf s.2.files no=some f→f.size+bO (L.drop s.1)≤1000000
theorem Oe(S:ad)(L:List ByteArray)(R:List Int)(H:List ap)(d:ay)(hL:L.length=S.rn)(hR:R.length=S.sn)(hd:cw d)(hw:bO L≤1000000)(hr:R.length≤64):
 aG asz 91 [.pointer (some ⟨0,0,none⟩)] (aR S.z L R H d) fun r o=>r=.ret (.int .i64 (dS S L R d).1)∧o=iM (dS S L R d).2.1.z (dS S L R d).2.2.1 (dS S L R d).2.2.2.1 H (dS S L R d).2.2.2.2:=by
 have pH:=aY H
 have Of:=xV L
 refine aG.cM (n:=ct asz 91) (by kernel_rfl) ?_
 refine al.move (d':=⟨[(0,.pointer (some ⟨0,0,none⟩))],iM S.z L R H d⟩) [some 0,some 1,none,none,none,some 2,some 3,some 4] [2,3,4] (q:=[ao L,aq R,ak H]) (by kernel_rfl) (aE (by simp) (aE (by simp) (aE pH bd))) (by kernel_rfl) (by kernel_rfl) ?_
 have hs:cU (ao L)=L:=ie L
 have Gz:(bE (a7 S.aC) L).length=S.rn:=by rw[nh,hL]
 apply abF S R H d L pH hL hR
 case n0=>
  have hO:=vi (S:=S.z) (R:=R) (H:=H) (d:=d) (L:=L) rfl hL (by omega)
  unfold cF at hO
  rw[hO]
  simp only[anw,aoe]
 case n1=>exact rA.2 hd
 case l4=>
  intro g
  have g:(bw d).2.1≠0:=by simpa using g
  refine abE S R H d L (by simp) pH ⟨?_,?_⟩
  ·unfold dS;rw[if_pos g]
  ·unfold dS;rw[if_pos g,hs];rfl
 case l5=>
  intro g
  have g:(bw d).2.1=0:=by simpa using g
  unfold N6
  rw[hs]
  have kK:=hd.tz
  have qR:=AQ hd g
  generalize fW:(bw d).1=no at qR
  generalize sU:(bw d).2.2=d1 at kK qR
  generalize AS:bE (a7 S.aC) L=L1 at Gz
  have cW:dS S L R d=if(iw no L1 d1).1≠0 then((iw no L1 d1).1,{S with sn:=S.sn+1},L1,R++[no],(iw no L1 d1).2)else(0,{S with sn:=S.sn+1,rn:=0,bM:=0},[],R++[no],(iw no L1 d1).2):=by
   unfold dS
   rw[if_neg (by rw[g];exact fun h=>h rfl),fW,sU,AS]
  rw[cW]
  have gy:bO L1≤1000000:=by rw[←AS,vo (kl L)];exact hw
  refine abH S R H d1 L1 no pH Gz hR ?_ (by simp) pH ?_
  ·exact am2 (by omega)
  have e:Gx S R H d1 L1 no=AR {S with sn:=S.sn+1} (R++[no]) H no L1 (0,d1):=by
   unfold Gx AR
   have:aq R++[amu amA no]=aq (R++[no]):=by unfold aq;rw[anh];rfl
   rw[this]
   rfl
  rw[e,anE]
  have AU:(R++[no]).length=({S with sn:=S.sn+1}:ad).sn:=by rw[amD,hR];rfl
  refine al.eJ 7 0 (by kernel_rfl) ?_
  refine al.fJ (AR {S with sn:=S.sn+1} (R++[no]) H no L1) (fun s=>L1.length-s.1) (abU no L1 d1) (0,d1) (by kernel_rfl) ⟨ann _,by simp,kK,fun f hf=>by rw[qR]at hf;cases hf;show 0+bO (L1.drop 0)≤1000000;rw[List.drop_zero];omega⟩ ?_
  rintro⟨i,d2⟩ hi
  have i1:=hi.i
  have i2:=hi.e
  have i3:=hi.ok
  have i4:=hi.sz
  dsimp only at i1 i2 i3 i4
  have js:L1.length=({S with sn:=S.sn+1}:ad).rn:=Gz
  have alx:=xV L1
  apply abK {S with sn:=S.sn+1} (R++[no]) H d2 L1 no i pH js AU
  case l4=>
   intro g2
   have g2:=of_decide_eq_false g2
   have g2:¬(i:Int)<(S.rn:Int):=g2
   have ei:i=L1.length:=by omega
   rw[ei,ap3]at i2
   have i2:(0,d2)=iw no L1 d1:=i2
   rw[←i2]at*
   with_reducible (repeat first|refine QL.ret ?_|refine QL.exit ?_|refine QB.ret ?_|refine QB.ci ?_|refine QB.normal ?_|refine QB.cu (by rfl) ?_)
   apply abN {S with sn:=S.sn+1} (R++[no]) H d2 L1 pH js AU
   ·
    unfold Ob
    refine al.mD 0 71 9 Od rfl rfl (by kernel_rfl) rfl ?_
    refine al.move (d':=⟨[(2,.int .i64 0)],iM (ad.z {S with sn:=S.sn+1,rn:=0,bM:=0}) [] (R++[no]) H d2⟩) [some 0,some 1,none,none,none,some 7,some 5,some 6] [5,6,7] (q:=[ao [],aq (R++[no]),ak H]) (by kernel_rfl) (aE (by simp) (aE (by simp) (aE pH bd))) (by kernel_rfl) (by kernel_rfl) ?_
    rw[anE]
    apply abQ {S with sn:=S.sn+1,rn:=0,bM:=0} (R++[no]) H d2 [] 0 pH rfl AU
    ·
     refine abO {S with sn:=S.sn+1,rn:=0,bM:=0} (R++[no]) H d2 [] 0 ⟨?_,?_⟩
     ·rw[if_neg (fun h=>h rfl)]
     ·rw[if_neg (fun h=>h rfl)];rfl
  case l3=>
   intro g2
   have g2:=of_decide_eq_true g2
   have g2:(i:Int)<(S.rn:Int):=g2
   obtain⟨x,hx⟩:∃x,L1[i]?=some x:=⟨_,amt (by omega)⟩
   have jT:=(po hx).2
   rw[jT]at i2 i4
   have hex:a8 (ao L1) (0+amm (i:Int)*1)=x:=by rw[fL];exact(dK hx).1
   have JZ:x.size+1+bO (L1.drop (i+1))≤bO L1:=by
    have:∀(k:Nat) (l:List ByteArray),bO (l.drop k)≤bO l:=fun k l=>by
     induction l generalizing k with
     |nil=>simp
     |cons y l ih=>cases k with
      |zero=>exact amX _
      |succ k=>have:=ih k;show bO (l.drop k)≤y.size+1+bO l;omega
    have:=this i L1
    rw[jT]at this
    exact this
   have cc:∀f,fileOf d2.files no=some f→f.size+(b7 x).size≤1000000:=fun f hf=>by
    have:f.size+(x.size+1+bO (L1.drop (i+1)))≤1000000:=i4 f hf
    rw[ls];omega
   apply abM {S with sn:=S.sn+1} (R++[no]) H d2 L1 no i pH js AU (by omega) g2 (by show S.rn≤1000000;omega) (bG (by omega) (by omega))
   case n0=>rw[fL];exact(dK hx).2
   case n1=>rw[hex];exact am2 (by omega)
   case n2=>rw[hex,anI (by exact amX _)];exact EJ x
   case n3=>rw[hex];exact am2 (by omega)
   case n4=>rw[hex,join_eq];exact aP _
   case n5=>
    rw[hex,join_eq]
    exact Gt.2 ⟨i3,b7 x,rfl,(ls x).symm,(ls x).symm,rfl,rfl,cc⟩
   case l9=>
    intro g3
    rw[hex,join_eq,iL]at g3
    have g3:(bN d2 no (b7 x)).1≠0:=by simpa using g3
    have i2:(if(bN d2 no (b7 x)).1≠0 then bN d2 no (b7 x)else iw no (L1.drop (i+1)) (bN d2 no (b7 x)).2)=iw no L1 d1:=i2
    rw[if_pos g3]at i2
    rw[←i2]at*
    with_reducible (repeat first|refine QL.ret ?_|refine QL.exit ?_|refine QB.ret ?_|refine QB.ci ?_|refine QB.normal ?_|refine QB.cu (by rfl) ?_)
    refine abL {S with sn:=S.sn+1} (R++[no]) H d2 L1 no i ⟨?_,?_⟩
    ·rw[if_pos g3,hex,join_eq,iL]
    ·rw[if_pos g3,hex,join_eq,iL];rfl
   case kP=>
    intro g3
    rw[hex,join_eq,iL]at g3
    have g3:(bN d2 no (b7 x)).1=0:=by simpa using g3
    have i2:(if(bN d2 no (b7 x)).1≠0 then bN d2 no (b7 x)else iw no (L1.drop (i+1)) (bN d2 no (b7 x)).2)=iw no L1 d1:=i2
    rw[if_neg (fun h=>h g3)]at i2
    refine QL.to (i+1,(bN d2 no (b7 x)).2) ⟨by dsimp only;omega,i2,i3.write cc,fun f hf=>?_⟩ (by dsimp only;omega) ?_
    ·obtain⟨f0,h1,h2⟩:=Gy hf
     have:=i4 f0 h1
     have:f0.size+(x.size+1+bO (L1.drop (i+1)))≤1000000:=this
     rw[ls]at h2
     dsimp only
     omega
    ·unfold Oa AR
     rw[hex,join_eq,iL,fj (by omega)]
     rfl
end Go.Proofs.Ytnlkkgpcikkpoaa
namespace Go.Proofs.Ytnlkkgpcikkpoaa
noncomputable section
open Go Vm Go.RowKit
set_option maxRecDepth 100000
def abV(S:ad)(L:List ByteArray)(R:List Int)(H:List ap)(d:ay)(e:Int)(T:ad)(K:List ByteArray)(Rr:List Int)(dd:ay):List (amY×Sum):=[(91,Sum.one (fun _ _=>some [0,1,6,7,8]) [an 0] (aR S.z L R H d) (.ret (aa e)) (iM T.z K Rr H dd))]
theorem abW(S:ad)(L:List ByteArray)(R:List Int)(H:List ap)(d:ay)(e:Int)(T:ad)(K:List ByteArray)(Rr:List Int)(dd:ay)(cW:aG asz 91 [an 0] (aR S.z L R H d) fun r o=>r=.ret (aa e)∧o=iM T.z K Rr H dd):dg asz (dE asz (dF (abV S L R H d e T K Rr dd)) 50 40):=
 dJ cZ mixed (dQ (.cons (bp.one cW) .nil)) 50 40
noncomputable def AV:List am3:=ba (dy asz 81)
open Tree renaming aU→mN,dh→mF,eQ→mL,fw→mQ,dz→mR,fI→mE
noncomputable abbrev GA:List am3:=(ba (inner (ba (inner (AV.drop 2)))))
def Og:Nat→Bool→Bool→Tree→Tree
 |0,_,_,t=>t
 |n+1,d,b,t=>.cD d b (Og n d b t)
theorem Oh{R:bf→aj→Prop}{c v:Bool}{t:Tree}(n:Nat)(h1:c=v)(h2:t.ok R):(Og n c v t).ok R:=by
 induction n with
 |zero=>exact h2
 |succ n ih=>exact⟨h1,ih⟩
abbrev AW:=fun S L R H d X (ro:Bool)=>([ab (aQ (ad.z S) 1 6 7 8) 64,.abs d,.dead,.dead,.dead,.cells (ao X) 9 ro,ab (ao L) 9,ab (aq R) 3,ab (ak H) 144]:List ai)
abbrev Oi:=fun S L R H d X (ro:Bool) (n:Nat)=>(⟨[(0,an 0),(8,ah 5 n),(9,aa n),(10,aa 0)],AW S L R H d X ro⟩:aj)
abbrev AX:=fun(S:ad) L R H d X (ro:Bool)=>([ab (aQ S.z 1 6 7 8) 64,.abs d,.dead,.dead,.dead,.cells (ao X) 9 ro,ab (ao L) 9,ab (aq R) 3,ab (ak H) 144]:List ai)
abbrev abX:=fun S L R H d X (ro:Bool) (n:Nat)=>(⟨[(0,an 0),(1,ah 5 n)],AX S L R H d X ro⟩:aj)
theorem abY(S:ad)(L R H d X)(ro:Bool)(n:Nat)(pH:(ak H).all af=true)(hL:(mM L)=S.rn)(hR:(mM R)=S.sn){Q:aV}(l4:al asz 57 6 (AV.drop 2) (Oi S L R H d X ro n) Q):al asz 57 6 AV (abX S L R H d X ro n) Q:=
 aZ bo 2 (.leaf [0,8,9,10] [0,1,2,3,4,5,6,7,8] [5,6,7,8]) (fun u=>by kernel_rfl) (mN (aN X) (aM L R H (mQ l4)))
abbrev abZ:=fun S L R H d X (ro:Bool) (n:Nat) (i:Int)=>(⟨[(0,an 0),(8,ah 5 n),(9,aa n),(10,aa i)],AW S L R H d X ro⟩:aj)
noncomputable abbrev ab0(S:ad)(L:List ByteArray)(R:List Int)(H:List ap)(d:ay)(X:List ByteArray)(ro:Bool)(n:Nat)(i:Int):aj:=⟨[],AW S L R H d X ro⟩
abbrev ab1:=fun S L R H d X (ro:Bool) (n:Nat) (i:Int)=>(⟨[(0,an 0),(8,ah 5 n),(9,aa n),(10,aa i)],AX S L R H d X ro⟩:aj)
theorem ab2(S:ad)(L R H d X)(ro:Bool)(n:Nat)(i:Int)(pH:(ak H).all af=true)(hL:(mM L)=S.rn)(hR:(mM R)=S.sn){Q:aV}(l4:(decide (i<(↑n:Int)))=true→al asz 57 6 (GA.drop 2) (abZ S L R H d X ro n i) Q)(l5:(decide (i<(↑n:Int)))=false→Q (.exit 0) (ab0 S L R H d X ro n i)):al asz 57 6 GA (ab1 S L R H d X ro n i) Q:=
 aZ bo 2 (.fork 0 (.leaf [0,8,9,10] [0,1,2,3,4,5,6,7,8] [5,6,7,8]) (.leaf [] [0,1,2,3,4,5,6,7,8] [5,6,7,8])) (fun u=>by kernel_rfl) (mF (c:=decide (i<(↑n:Int))) (fun h0=>(mN (aN X) (aM L R H (mQ (l4 h0))))) (fun h0=>(mN (aN X) (aM L R H (mE 0 (l5 h0))))))
abbrev GB:=fun(S:ad) (L:List ByteArray) (R:List Int) H (d:ay) (e:Int) T K Rr dd X (ro:Bool) (n:Nat) (i:Int)=>(⟨[(4,aa e)],[ab (aQ (ad.z T) 1 6 7 8) 64,.abs dd,.dead,.dead,.dead,.cells (ao X) 9 ro,ab (ao K) 9,ab (aq Rr) 3,ab (ak H) 144]⟩:aj)
theorem ab3(S L R H d)(e:Int)(T K Rr dd X)(ro:Bool)(n:Nat)(i:Int){Q:bk}(aW:amq (ao X) af=true)(be:amq (ak H) af=true)(hq:Q (.ret (aa e)) (GB S L R H d e T K Rr dd X ro n i).objs):aH asz 81 57 6 Q .ret (GB S L R H d e T K Rr dd X ro n i):=aH.ret (vs:=[aa e]) (l:=[]) (bs:=[0,1,2,3,4,5,6,7,8]) (pl:=[5,6,7,8]) (q:=[ao X,ao K,aq Rr,ak H]) (fun u=>by kernel_rfl) (by kernel_rfl) (aE aW (aE (by first|exact aP _|assumption|exact aD (by assumption) rfl _|exact aD (aD (aD (by assumption) rfl _) rfl _) rfl _|exact aD (aP _) (cg (by rfl) _) _|exact aA (aO (aN _) _) _|(simp;done)|exact aB (by assumption) rfl|exact aB (aP _) rfl|exact aB rfl (aA (by assumption) _)|exact aB (by assumption) (aA (by assumption) _)|exact aB rfl (aA (aO (by assumption) _) _)|exact aA (aO (by assumption) _) _) (aE (by first|exact aP _|assumption|exact aD (by assumption) rfl _|exact aD (aD (aD (by assumption) rfl _) rfl _) rfl _|exact aD (aP _) (cg (by rfl) _) _|exact aA (aO (aN _) _) _|(simp;done)|exact aB (by assumption) rfl|exact aB (aP _) rfl|exact aB rfl (aA (by assumption) _)|exact aB (by assumption) (aA (by assumption) _)|exact aB rfl (aA (aO (by assumption) _) _)|exact aA (aO (by assumption) _) _) (aE be bd)))) hq
abbrev Oj:=fun(S:ad) (L:List ByteArray) (R:List Int) H (d:ay) (e:Int) T K Rr dd X (ro:Bool) (n:Nat) (i:Int)=>(⟨[(0,an 0),(8,ah 5 n),(9,aa n),(10,.int .i64 (aml .i64 (i+1)))],[ab (aQ (ad.mk (ad.at_ T) (ad.more T) (ad.over T) (ad.B (ad.z T)) (ad.n T) (ad.failed T) (ad.aC T) 0 (ad.rn T+1) (aml .i64 (ad.bM T+aml .i64 ((↑(ams (a8 (ao X) (0+amm i*1))):Int)+1))) (ad.sn T) (ad.hn T) (ad.dR T) (ad.raw T) (ad.closed T)) 1 6 7 8) 64,.abs dd,.dead,.dead,.dead,.cells (ao X) 9 ro,ab (ao K++[amT (a8 (ao X) (0+amm i*1))]) 9,ab (aq Rr) 3,ab (ak H) 144]⟩:aj)
abbrev Ol:=fun S L R H d (e:Int) (T:ad) (K:List ByteArray) (Rr:List Int) (dd:ay) X (ro:Bool) (n:Nat) (i:Int)=>(⟨[(0,an 0),(8,ah 5 n),(9,aa n),(10,.int .i64 (aml .i64 (i+1)))],[ab (aQ (ad.mk (ad.at_ S) (ad.more S) (ad.over S) (ad.B (ad.z S)) (ad.n S) (ad.failed S) (ad.aC S) 0 (ad.rn S+1) (aml .i64 (ad.bM S+aml .i64 ((↑(ams (a8 (ao X) (0+amm i*1))):Int)+1))) (ad.sn S) (ad.hn S) (ad.dR S) (ad.raw S) (ad.closed S)) 1 6 7 8) 64,.abs d,.dead,.dead,.dead,.cells (ao X) 9 ro,ab (ao L++[amT (a8 (ao X) (0+amm i*1))]) 9,ab (aq R) 3,ab (ak H) 144]⟩:aj)
abbrev Om:=fun S L R H d (e:Int) (T:ad) (K:List ByteArray) (Rr:List Int) (dd:ay) X (ro:Bool) (n:Nat) (i:Int)=>(⟨[(0,an 0),(8,ah 5 n),(9,aa n),(10,.int .i64 (aml .i64 (i+1)))],[ab (aQ (ad.mk (ad.at_ S) (ad.more S) (ad.over S) (ad.B (ad.z S)) (ad.n S) (ad.failed S) (ad.aC S) 0 (ad.rn S+1) (aml .i64 (ad.bM S+aml .i64 ((↑(ams (a8 (ao X) (0+amm i*1))):Int)+1))) (ad.sn S) (ad.hn S) (ad.dR S) (ad.raw S) (ad.closed S)) 1 6 7 8) 64,.abs d,.dead,.dead,.dead,.cells (ao X) 9 ro,ab (ao L++[amT (a8 (ao X) (0+amm i*1))]) 9,ab (aq R) 3,ab (ak H) 144]⟩:aj)
abbrev ab4:=fun S L R H d (e:Int) (T:ad) (K:List ByteArray) (Rr:List Int) (dd:ay) X (ro:Bool) (n:Nat) (i:Int)=>(⟨[(0,an 0),(8,ah 5 n),(9,aa n),(10,aa i)],AX S L R H d X ro⟩:aj)
theorem ab5(S:ad)(L R H d)(e:Int)(T:ad)(K Rr dd X)(ro:Bool)(n:Nat)(i:Int)(cW:aG asz 91 [an 0] (aR S.z L R H d) fun r o=>r=.ret (aa e)∧o=iM T.z K Rr H dd)(pH:(ak H).all af=true)(hL:(mM L)=S.rn)(hR:(mM R)=S.sn)(h0:0≤i)(h1:i<n)(h2:n≤1000000)(h3:aml .i64 (i+1)=i+1)(h4:(mM X)=n)(h5:(mM K)=T.rn){Q:aV}(n0:(eB (ao X) (0+amm i*1))=true)(n1:(decide ((↑(ad.rn S):Int)>0))=true→(decide (aml .i64 (aml .i64 (ad.bM S+(↑(ams (a8 (ao X) (0+amm i*1))):Int))+1)>256))=true→(dX [an 0] [an 0] [ab (aQ (ad.z S) 1 2 3 4) 64,ai.abs d,ab (ao L) 9,ab (aq R) 3,ab (ak H) 144] (aR (ad.z S) L R H d))=true)(aW:amq (ao X) af=true)(be:amq (ak H) af=true)(l4:(decide ((↑(ad.rn S):Int)>0))=true→(decide (aml .i64 (aml .i64 (ad.bM S+(↑(ams (a8 (ao X) (0+amm i*1))):Int))+1)>256))=true→(e != 0)=true→Q .ret (GB S L R H d e T K Rr dd X ro n i))(n5:(decide ((↑(ad.rn S):Int)>0))=true→(decide (aml .i64 (aml .i64 (ad.bM S+(↑(ams (a8 (ao X) (0+amm i*1))):Int))+1)>256))=true→(e != 0)=false→(amO (ad.rn T+1) 1000000)=true)(l6:(decide ((↑(ad.rn S):Int)>0))=true→(decide (aml .i64 (aml .i64 (ad.bM S+(↑(ams (a8 (ao X) (0+amm i*1))):Int))+1)>256))=true→(e != 0)=false→Q .normal (Oj S L R H d e T K Rr dd X ro n i))(n7:(decide ((↑(ad.rn S):Int)>0))=true→(decide (aml .i64 (aml .i64 (ad.bM S+(↑(ams (a8 (ao X) (0+amm i*1))):Int))+1)>256))=false→(amO (ad.rn S+1) 1000000)=true)(bB:amq (aq R) af=true)(l9:(decide ((↑(ad.rn S):Int)>0))=true→(decide (aml .i64 (aml .i64 (ad.bM S+(↑(ams (a8 (ao X) (0+amm i*1))):Int))+1)>256))=false→Q .normal (Ol S L R H d e T K Rr dd X ro n i))(kP:(decide ((↑(ad.rn S):Int)>0))=false→Q .normal (Om S L R H d e T K Rr dd X ro n i)):al asz 57 6 (GA.drop 2) (ab4 S L R H d e T K Rr dd X ro n i) Q:=
 aZ (abW S L R H d e T K Rr dd cW) 1000 (av [0,1,1,0,1] (.fork 2 (av [1,1,1,3,1,3,1,1,1] (.fork 0 (av [3,1,1,1,1,1,1] (.fork 0 (.leaf [4] [0,1,2,3,4,5,9,10,11] [5,9,10,11]) (av [2,3,5,1] (.leaf [0,8,9,10] [0,1,2,3,4,5,13,10,11] [5,13,10,11])))) (av [2,3,5,1] (.leaf [0,8,9,10] [0,1,2,3,4,5,10,7,8] [5,10,7,8])))) (av [0,0,0,0,0,0,0,0,0,4,3,5,1] (.leaf [0,8,9,10] [0,1,2,3,4,5,10,7,8] [5,10,7,8])))) (fun u=>by kernel_rfl) (mN (decide_eq_true (by omega):(decide (0≤i))=true) (mN (show(Nat.blt (amm i) n)=true by simp at cW pH hL hR h0 h1 h2 h3 h4 h5⊢ <;>omega) (mN n0 (mF (c:=decide ((↑(ad.rn S):Int)>0)) (fun h0=>(Oh 9 h0 (mF (c:=decide (aml .i64 (aml .i64 (ad.bM S+(↑(ams (a8 (ao X) (0+amm i*1))):Int))+1)>256)) (fun h1=>(aM L R H (mN (n1 h0 h1) (mN (aN K) (mN (aS Rr) (mN (aY H) (mF (c:=e != 0) (fun h2=>(mN (aN X) (mN (aN K) (mN (aS Rr) (mN (aY H) (mR (l4 h0 h1 h2))))))) (fun h2=>(mN (n5 h0 h1 h2) (mN (kJ _:(full (ad.rn T) (ad.rn T))=true) (mN (show(amE (0+ad.rn T*1) (mM (ao K)))=true by simp at cW pH hL hR h0 h1 h2 h3 h4 h5 h0 h1 h2⊢ <;>omega) (mN (aN X) (mN (show(amq (ao K++[amT (a8 (ao X) (0+amm i*1))]) af)=true by first|exact aP _|assumption|exact aD (by assumption) rfl _|exact aD (aD (aD (by assumption) rfl _) rfl _) rfl _|exact aD (aP _) (cg (by rfl) _) _|exact aA (aO (aN _) _) _|(simp;done)|exact aB (by assumption) rfl|exact aB (aP _) rfl|exact aB rfl (aA (by assumption) _)|exact aB (by assumption) (aA (by assumption) _)|exact aB rfl (aA (aO (by assumption) _) _)|exact aA (aO (by assumption) _) _) (mN (aS Rr) (mN (aY H) (mQ (al.done (by kernel_rfl) (l6 h0 h1 h2)))))))))))))))))) (fun h1=>(mN (n7 h0 h1) (mN (kJ _:(full (ad.rn S) (ad.rn S))=true) (mN (show(amE (0+ad.rn S*1) (mM (ao L)))=true by simp at cW pH hL hR h0 h1 h2 h3 h4 h5 h0 h1⊢ <;>omega) (mN (aN X) (mN (show(amq (ao L++[amT (a8 (ao X) (0+amm i*1))]) af)=true by first|exact aP _|assumption|exact aD (by assumption) rfl _|exact aD (aD (aD (by assumption) rfl _) rfl _) rfl _|exact aD (aP _) (cg (by rfl) _) _|exact aA (aO (aN _) _) _|(simp;done)|exact aB (by assumption) rfl|exact aB (aP _) rfl|exact aB rfl (aA (by assumption) _)|exact aB (by assumption) (aA (by assumption) _)|exact aB rfl (aA (aO (by assumption) _) _)|exact aA (aO (by assumption) _) _) (mN (aS R) (mN (aY H) (mQ (al.done (by kernel_rfl) (l9 h0 h1)))))))))))))) (fun h0=>(Oh 9 h0 (mN (show(amO (ad.rn S+1) 1000000)=true by simp at cW pH hL hR h0 h1 h2 h3 h4 h5 h0⊢ <;>omega) (mN (kJ _:(full (ad.rn S) (ad.rn S))=true) (mN (show(amE (0+ad.rn S*1) (mM (ao L)))=true by simp at cW pH hL hR h0 h1 h2 h3 h4 h5 h0⊢ <;>omega) (mN (aN X) (mN (show(amq (ao L++[amT (a8 (ao X) (0+amm i*1))]) af)=true by first|exact aP _|assumption|exact aD (by assumption) rfl _|exact aD (aD (aD (by assumption) rfl _) rfl _) rfl _|exact aD (aP _) (cg (by rfl) _) _|exact aA (aO (aN _) _) _|(simp;done)|exact aB (by assumption) rfl|exact aB (aP _) rfl|exact aB rfl (aA (by assumption) _)|exact aB (by assumption) (aA (by assumption) _)|exact aB rfl (aA (aO (by assumption) _) _)|exact aA (aO (by assumption) _) _) (mN (aS R) (mN (aY H) (mQ (al.done (by kernel_rfl) (kP h0))))))))))))))))
abbrev GC:=fun S L R H d X (ro:Bool) (n:Nat)=>(⟨[(4,aa 0)],AW S L R H d X ro⟩:aj)
theorem ab6(S L R H d X)(ro:Bool)(n:Nat){Q:bk}(hq:Q (.ret (aa 0)) (GC S L R H d X ro n).objs):aH asz 81 57 6 Q .ret (GC S L R H d X ro n):=aH.ret (vs:=[aa 0]) (l:=[]) (bs:=[0,1,2,3,4,5,6,7,8]) (pl:=[5,6,7,8]) (q:=[ao X,ao L,aq R,ak H]) (fun u=>by kernel_rfl) (by kernel_rfl) (aE (aN X) (gi L R H bd)) hq
noncomputable abbrev ab7(S:ad)(L:List ByteArray)(R:List Int)(H:List ap)(d:ay)(X:List ByteArray)(ro:Bool)(n:Nat):aj:=⟨[],AX S L R H d X ro⟩
theorem ab8(S:ad)(L R H d X)(ro:Bool)(n:Nat)(pH:(ak H).all af=true)(hL:(mM L)=S.rn)(hR:(mM R)=S.sn){Q:aV}(l4:Q .ret (GC S L R H d X ro n)):al asz 57 6 (AV.drop 3) (ab7 S L R H d X ro n) Q:=
 aZ bo 1000 (.leaf [4] [0,1,2,3,4,5,6,7,8] [5,6,7,8]) (fun u=>by kernel_rfl) (mN (aN X) (aM L R H (mR l4)))
end
end Go.Proofs.Ytnlkkgpcikkpoaa
namespace Go.Proofs.Ytnlkkgpcikkpoaa
open Go Vm Go.RowKit
set_option maxRecDepth 100000
abbrev cN:=ad×List ByteArray×List Int×ay
structure iX(s:cN):Prop where
 len:s.2.1.length=s.1.rn
 runs:s.2.2.1.length=s.1.sn
 dv:cw s.2.2.2
 made:s.2.2.1.length≤s.2.2.2.made
 bM:s.1.bM=bO s.2.1
 bS:bO s.2.1≤400
theorem GD(d:ay)(no:Int)(b:ByteArray):(bN d no b).2.made=d.made:=by
 unfold bN
 split
 ·rfl
 split
 ·rfl
 split
 ·rfl
 ·rfl
theorem GF(no:Int):∀(l:List ByteArray) (d:ay),cw d→(∀f,fileOf d.files no=some f→f.size+bO l≤1000000)→cw (iw no l d).2∧(iw no l d).2.made=d.made
 | [],d,h,_=>⟨h,rfl⟩
 |x::l,d,h,hs=>by
  have h1:∀f,fileOf d.files no=some f→f.size+(b7 x).size≤1000000:=fun f hf=>by
   have:f.size+(x.size+1+bO l)≤1000000:=hs f hf
   rw[ls];omega
  unfold iw
  split
  ·exact⟨h.write h1,GD _ _ _⟩
  ·obtain⟨a,b⟩:=GF no l (bN d no (b7 x)).2 (h.write h1) fun f hf=>by
    obtain⟨g,g1,g2⟩:=Gy hf
    have:g.size+(x.size+1+bO l)≤1000000:=hs g g1
    rw[ls]at g2
    omega
   exact⟨a,by rw[b,GD]⟩
theorem GG{d:ay}:(bw d).2.2.made=if(bw d).2.1=0 then d.made+1 else d.made:=by
 unfold bw
 by_cases h1:d.made=64
 ·rw[if_pos h1];rfl
 ·rw[if_neg h1]
  by_cases h2:jA d=0
  ·rw[if_neg (fun h=>h h2)];rfl
  ·rw[if_pos h2];show d.made=if jA d=0 then _ else _;rw[if_neg h2]
theorem iX.mO{s:cN}(h:iX s):iX (dS s.1 s.2.1 s.2.2.1 s.2.2.2).2∧((dS s.1 s.2.1 s.2.2.1 s.2.2.2).1=0→(dS s.1 s.2.1 s.2.2.1 s.2.2.2).2.2.1=[]):=by
 obtain⟨S,L,R,d⟩:=s
 obtain⟨h1,h2,h3,h4,h5,h6⟩:=h
 dsimp only at h1 h2 h3 h4 h5 h6⊢
 have hw:bO (bE (a7 S.aC) L)=bO L:=vo (kl L)
 have hm:=GG (d:=d)
 unfold dS
 by_cases g:(bw d).2.1=0
 ·rw[if_neg (fun h=>h g)]
  rw[if_pos g]at hm
  obtain⟨w1,w2⟩:=GF (bw d).1 (bE (a7 S.aC) L) (bw d).2.2 h3.tz fun f hf=>by
   rw[AQ h3 g]at hf
   cases hf
   show 0+_≤_
   omega
  split
  ·refine⟨⟨?_,?_,w1,?_,?_,?_⟩,fun h=>?_⟩
   ·show(bE _ L).length=S.rn;rw[nh];exact h1
   ·show(R++[(bw d).1]).length=S.sn+1;rw[amD,h2];rfl
   ·show(R++[(bw d).1]).length≤_;rw[amD,w2,hm];show R.length+1≤_;omega
   ·show S.bM=bO (bE _ L);rw[hw];exact h5
   ·show bO (bE _ L)≤400;rw[hw];exact h6
   ·rename_i bt;exact absurd h bt
  ·refine⟨⟨rfl,?_,w1,?_,rfl,?_⟩,fun _=>rfl⟩
   ·show(R++[(bw d).1]).length=S.sn+1;rw[amD,h2];rfl
   ·show(R++[(bw d).1]).length≤_;rw[amD,w2,hm];show R.length+1≤_;omega
   ·exact ann _
 ·rw[if_pos g]
  rw[if_neg g]at hm
  refine⟨⟨?_,h2,h3.tz,?_,?_,?_⟩,fun h=>absurd h g⟩
  ·show(bE _ L).length=S.rn;rw[nh];exact h1
  ·show R.length≤_;rw[hm];exact h4
  ·show S.bM=bO (bE _ L);rw[hw];exact h5
  ·show bO (bE _ L)≤400;rw[hw];exact h6
def lv(x:ByteArray)(s:cN):cN:=({s.1 with rn:=s.1.rn+1,bM:=s.1.bM+(x.size+1)},s.2.1++[x],s.2.2)
def eX:List ByteArray→cN→Int×cN
 | [],s=>(0,s)
 |x::l,s=>if 0<s.1.rn∧s.1.bM+x.size+1>256 then(if(dS s.1 s.2.1 s.2.2.1 s.2.2.2).1≠0 then dS s.1 s.2.1 s.2.2.1 s.2.2.2 else eX l (lv x (dS s.1 s.2.1 s.2.2.1 s.2.2.2).2))else eX l (lv x s)
theorem xW(a b:List ByteArray):bO (a++b)=bO a+bO b:=by
 induction a with
 |nil=>show bO b=0+bO b;omega
 |cons x a ih=>show x.size+1+bO (a++b)=x.size+1+bO a+bO b;omega
theorem iX.put{s:cN}(h:iX s)(x:ByteArray)(hx:bO s.2.1+(x.size+1)≤400):iX (lv x s):=by
 refine⟨?_,h.runs,h.dv,h.made,?_,?_⟩
 ·show(s.2.1++[x]).length=s.1.rn+1;rw[amD,h.len];rfl
 ·show s.1.bM+((x.size:Int)+1)=bO (s.2.1++[x]);rw[xW,h.bM];show _=((bO s.2.1+(x.size+1+0):Nat):Int);omega
 ·show bO (s.2.1++[x])≤400;rw[xW];exact hx
@[simp] theorem aly(S:ad)(a b c e:Nat):(aQ S a b c e).length=78:=rfl
def nl(E:ai)(S:ad)(L:List ByteArray)(R:List Int)(H:List ap)(d:ay):List ai:=[.cells (aQ S 1 6 7 8) 64 false,.abs d,.dead,.dead,.dead,E,.cells (ao L) 9 false,.cells (aq R) 3 false,.cells (ak H) 144 false]
def GH(X:List ByteArray)(ro:Bool)(H:List ap)(s:cN):List ai:=nl (.cells (ao X) 9 ro) s.1.z s.2.1 s.2.2.1 H s.2.2.2
def xX(X:List ByteArray)(ro:Bool)(n:Nat)(H:List ap)(s:Nat×cN):aj:=⟨[(0,.pointer (some ⟨0,0,none⟩)),(8,.slice (some ⟨5,0,none⟩) n n),(9,iZ n),(10,iZ s.1)],GH X ro H s.2⟩
structure ab9(X:List ByteArray)(s0:cN)(s:Nat×cN):Prop where
 i:s.1≤X.length
 e:eX (X.drop s.1) s.2=eX X s0
 ok:iX s.2
theorem On(X:List ByteArray)(ro:Bool)(n:Nat)(hX:X.length=n)(hn:n≤1000000)(iB:∀x∈X,x.size≤64)(H:List ap)(s:cN)(hs:iX s):
 aG asz 81 [.pointer (some ⟨0,0,none⟩),.slice (some ⟨5,0,none⟩) n n] (aR s.1.z s.2.1 s.2.2.1 H s.2.2.2++[.cells (ao X) 9 ro]) fun r o=>r=.ret (.int .i64 (eX X s).1)∧o=GH X ro H (eX X s).2:=by
 have pH:=aY H
 refine aG.cM (n:=ct asz 81) (by kernel_rfl) ?_
 refine al.move (d':=⟨[(0,.pointer (some ⟨0,0,none⟩)),(1,.slice (some ⟨5,0,none⟩) n n)],GH X ro H s⟩) [some 0,some 1,none,none,none,some 5,some 2,some 3,some 4] [2,3,4,5] (q:=[ao X,ao s.2.1,aq s.2.2.1,ak H]) (by kernel_rfl) (aE (by simp) (aE (by simp) (aE (by simp) (aE pH bd)))) (by kernel_rfl) (by kernel_rfl) ?_
 apply abY s.1 s.2.1 s.2.2.1 H s.2.2.2 X ro n pH hs.len hs.runs
 ·
  rw[show Oi s.1 s.2.1 s.2.2.1 H s.2.2.2 X ro n=xX X ro n H (0,s)from rfl]
  refine al.eJ 2 0 (by kernel_rfl) ?_
  refine al.fJ (xX X ro n H) (fun t=>n-t.1) (ab9 X s) (0,s) (by kernel_rfl) ⟨ann _,by simp,hs⟩ ?_
  clear hs
  rintro⟨i,t⟩ ⟨h1,h2,h3⟩
  dsimp only at h1 h2 h3
  apply ab2 t.1 t.2.1 t.2.2.1 H t.2.2.2 X ro n i pH h3.len h3.runs
  case l5=>
   intro g
   have g:=of_decide_eq_false g
   rw[show i=X.length by omega,ap3]at h2
   have h2:(0,t)=eX X s:=h2
   rw[←h2]
   with_reducible (repeat first|refine QL.ret ?_|refine QL.exit ?_|refine QB.ret ?_|refine QB.ci ?_|refine QB.normal ?_|refine QB.cu (by rfl) ?_)
   apply ab8 t.1 t.2.1 t.2.2.1 H t.2.2.2 X ro n pH h3.len h3.runs
   ·
    exact ab6 t.1 t.2.1 t.2.2.1 H t.2.2.2 X ro n ⟨rfl,rfl⟩
  case l4=>
   intro g
   have g:=of_decide_eq_true g
   obtain⟨x,hx⟩:∃x,X[i]?=some x:=⟨_,amt (by omega)⟩
   have alz:=iB x (List.mem_of_getElem? hx)
   rw[(po hx).2]at h2
   have hex:a8 (ao X) (0+amm (i:Int)*1)=x:=by rw[fL];exact(dK hx).1
   have cW:=h3.mO
   have hlen:=cW.1.len
   have GI:=Oe t.1 t.2.1 t.2.2.1 H t.2.2.2 h3.len h3.runs h3.dv (by have:=h3.bS;omega) (by have:=h3.made;have:=h3.dv.made;omega)
   have GJ:=h3.bM
   have jw:=h3.bS
   have Of:=xV t.2.1
   have alA:t.1.bM=(bO t.2.1:Nat):=GJ
   have ew:aml amA (aml amA (t.1.bM+(x.size:Int))+1)=t.1.bM+x.size+1:=by rw[bG (z:=t.1.bM+(x.size:Int)) (by omega) (by omega),bG (by omega) (by omega)]
   have es:∀w:Int,0≤w→w≤1000→aml amA (w+aml amA ((x.size:Int)+1))=w+((x.size:Int)+1):=fun w w1 w2=>by rw[bG (z:=(x.size:Int)+1) (by omega) (by omega),bG (by omega) (by omega)]
   generalize hR:dS t.1 t.2.1 t.2.2.1 t.2.2.2=r at cW hlen GI
   obtain⟨e,u⟩:=r
   dsimp only at cW hlen GI
   have GK:∀l:List ByteArray,ao l++[amT x]=ao (l++[x]):=fun l=>by unfold ao;rw[anh];rfl
   have stay:∀l:List ByteArray,¬(0<t.1.rn∧t.1.bM+x.size+1>256)→eX (X.drop (i+1)) (lv x t)=eX X s∧iX (lv x t):=fun l hc=>by
    refine⟨?_,h3.put x ?_⟩
    ·rw[←h2];show _=eX (x::X.drop (i+1)) t;rw[eX,if_neg hc]
    ·have hl:=h3.len
     by_cases h0:0<t.1.rn
     ·have:¬t.1.bM+x.size+1>256:=fun h=>hc ⟨h0,h⟩
      omega
     ·have:t.2.1=[]:=ant (by omega)
      rw[this];show 0+_≤400;omega
   apply ab5 t.1 t.2.1 t.2.2.1 H t.2.2.2 e u.1 u.2.1 u.2.2.1 u.2.2.2 X ro n i GI pH h3.len h3.runs (by omega) g hn (bG (by omega) (by omega)) hX hlen
   case aW=>simp
   case be=>exact pH
   case bB=>simp
   case n0=>rw[fL];exact(dK hx).2
   case n1=>intro _ _;exact fe rfl rfl
   case n5=>
    intro _ _ ge
    have ge:e=0:=by simpa using ge
    have:=cW.2 ge
    have hl:u.2.1.length=u.1.rn:=hlen
    rw[this]at hl
    exact am2 (by have:u.1.rn=0:=hl.symm;omega)
   case n7=>intro _ _;exact am2 (by have:=h3.len;omega)
   case l4=>
    intro g1 g2 ge
    have g1:=of_decide_eq_true g1
    rw[hex,ew]at g2
    have g2:=of_decide_eq_true g2
    have ge:e≠0:=by simpa using ge
    have h2:eX (x::X.drop (i+1)) t=eX X s:=h2
    rw[eX,if_pos ⟨by omega,g2⟩,hR,if_pos ge]at h2
    rw[←h2]
    with_reducible (repeat first|refine QL.ret ?_|refine QL.exit ?_|refine QB.ret ?_|refine QB.ci ?_|refine QB.normal ?_|refine QB.cu (by rfl) ?_)
    exact ab3 t.1 t.2.1 t.2.2.1 H t.2.2.2 e u.1 u.2.1 u.2.2.1 u.2.2.2 X ro n i (by simp) pH ⟨rfl,rfl⟩
   case l6=>
    intro g1 g2 ge
    have g1:=of_decide_eq_true g1
    rw[hex,ew]at g2
    have g2:=of_decide_eq_true g2
    have ge:e=0:=by simpa using ge
    have h2:eX (x::X.drop (i+1)) t=eX X s:=h2
    rw[eX,if_pos ⟨by omega,g2⟩,hR,if_neg (fun h=>h ge)]at h2
    have Oo:=cW.2 ge
    have GL:=cW.1.bM
    rw[Oo]at GL
    have GL:u.1.bM=0:=GL
    refine QL.to (i+1,lv x u) ⟨by dsimp only;omega,h2,cW.1.put x (by rw[Oo];show 0+_≤400;omega)⟩ (by dsimp only;omega) ?_
    unfold Oj xX
    rw[hex,GK,es _ (by omega) (by omega),fj (by omega)]
    rfl
   case l9=>
    intro g1 g2
    rw[hex,ew]at g2
    have g2:=of_decide_eq_false g2
    obtain⟨k1,k2⟩:=stay [] (fun h=>g2 h.2)
    refine QL.to (i+1,lv x t) ⟨by dsimp only;omega,k1,k2⟩ (by dsimp only;omega) ?_
    unfold Ol xX
    rw[hex,GK,es _ (by omega) (by omega),fj (by omega)]
    rfl
   case kP=>
    intro g1
    have g1:=of_decide_eq_false g1
    obtain⟨k1,k2⟩:=stay [] (fun h=>g1 (by have:=h.1;omega))
    refine QL.to (i+1,lv x t) ⟨by dsimp only;omega,k1,k2⟩ (by dsimp only;omega) ?_
    unfold Om xX
    rw[hex,GK,es _ (by omega) (by omega),fj (by omega)]
    rfl
theorem Oq(b:ByteArray)(c:Int): -1≤bb b c:=Lib.indexByte_ge _ _
theorem AY(b:ByteArray)(c:Int)(h:0≤bb b c):(bb b c).toNat<b.size:=by
 obtain⟨o,ho⟩:∃o:Nat,bb b c=o:=⟨(bb b c).toNat,by omega⟩
 have:=(Lib.indexByte_some (l:=b.data.toList) (c:=c.toNat.toUInt8) (o:=o) ho).1
 have:=(List.getElem?_eq_some_iff.1 this).1
 rw[ho]
 simpa using this
def Ot(cs:List amn)(t:amz)(n m:Nat):Prop:=∃b,cs=ag b∧n=b.size∧m=b.size∧t=5
noncomputable def xY(cs:List amn)(t:amz)(n m:Nat):Bool:=@decide (Ot cs t n m) (amR _)
theorem GM{cs:List amn}{t:amz}{n m:Nat}:xY cs t n m=true↔Ot cs t n m:=by unfold xY;exact @decide_eq_true_iff _ (amR _)
noncomputable def GN(a:List amn)(o:List ai):Option (Bool×bL×List ai):=match a,o with
 | [.slice (some ⟨0,0,none⟩) n m,.int .u8 c],[.cells cs t ro]=>some (xY cs t n m,.ret (.int .i64 (bb (bh cs) c)),[.cells cs t ro])
 |_,_=>none
theorem aca:bp asz 98 (Sum.of GN):=bp.of fun a o r o' hg=>by
 unfold GN at hg
 split at hg
 ·rename_i n m c cs t ro
  simp only[amr,amv,GM]at hg
  obtain⟨⟨b,rfl,rfl,rfl,rfl⟩,rfl,rfl⟩:=hg
  rw[iL]
  exact YY b c ro
 ·cases hg
def AZ(h:ap)(b:ByteArray):ap:=⟨h.no,h.at_+(bb b 10+1),b.extract 0 (max (bb b 10) 0).toNat,decide (0≤bb b 10)⟩
def bX(h:ap)(d:ay):Int×ap×ay:=
 if(aK d h.no h.at_ 65).2.1≠0 then((aK d h.no h.at_ 65).2.1,h,(aK d h.no h.at_ 65).2.2)else(0,AZ h (aK d h.no h.at_ 65).1,(aK d h.no h.at_ 65).2.2)
def dY:List Int→List ap→ay→Int×List ap×ay
 | [],H,d=>(0,H,d)
 |no::l,H,d=>if(bX ⟨no,0,amw,false⟩ d).1≠0 then((bX ⟨no,0,amw,false⟩ d).1,[],(bX ⟨no,0,amw,false⟩ d).2.2)else dY l (H++[(bX ⟨no,0,amw,false⟩ d).2.1]) (bX ⟨no,0,amw,false⟩ d).2.2
def aX(H:List ap)(k:Nat):ap:=H.getD k ⟨0,0,amw,false⟩
def iP(f:Bool)(H:List ap)(h:ap):Option Nat→Bool
 |none=>h.there
 |some j=>h.there&&decide (a7 f h.line (aX H j).line<0)
def jU(f:Bool)(H:List ap):List ap→Nat→Option Nat→Option Nat
 | [],_,k=>k
 |h::l,i,k=>jU f H l (i+1) (if iP f H h k then some i else k)
def eE(f:Bool)(H:List ap):Option Nat:=jU f H H 0 none
def kI:Option Nat→Int
 |none=> -1
 |some k=>k
def fN:List Int→ay→Int×ay
 | [],d=>(0,d)
 |no::l,d=>if(eS d no).1≠0 then eS d no else fN l (eS d no).2
def lx(f:Bool)(no:Int):Nat→List ap→ay→Int×ay
 |0,_,d=>(0,d)
 |n+1,H,d=>match eE f H with
  |none=>(0,d)
  |some k=>
   if(bN d no (b7 (aX H k).line)).1≠0 then bN d no (b7 (aX H k).line)
   else if(bX (aX H k) (bN d no (b7 (aX H k).line)).2).1≠0 then((bX (aX H k) (bN d no (b7 (aX H k).line)).2).1,(bX (aX H k) (bN d no (b7 (aX H k).line)).2).2.2)
   else lx f no n (H.set k (bX (aX H k) (bN d no (b7 (aX H k).line)).2).2.1) (bX (aX H k) (bN d no (b7 (aX H k).line)).2).2.2
noncomputable def rF:Nat:=Classical.choose (⟨1000001,rfl⟩:∃n:Nat,n=1000001)
theorem acb:rF=1000001:=Classical.choose_spec (⟨1000001,rfl⟩:∃n:Nat,n=1000001)
noncomputable def gF(f:Bool)(l:List Int)(d:ay):Int×Int×ay:=
 match bw d with
 |(no,e,d1)=>if e≠0 then(0,e,d1)else match dY l [] d1 with
  |(e,H,d2)=>if e≠0 then(0,e,d2)else match lx f no rF H d2 with
   |(e,d3)=>if e≠0 then(0,e,d3)else(no,fN l d3)
def ca(d:ay)(no:Int):Nat:=((fileOf d.files no).map ams).getD 0
def vp(h:ap):Nat:=if h.there then h.line.size+1 else 0
def fz(d:ay)(h:ap):Nat:=ca d h.no-h.at_.toNat+vp h
def eY(d:ay):List ap→Nat
 | []=>0
 |h::l=>fz d h+eY d l
structure ow(h:ap):Prop where
 jl:0≤h.at_
 lk:h.at_≤1000000
 line:h.line.size≤64
theorem Ou(d:ay)(no p k:Int):(aK d no p k).2.2.files=d.files∧(aK d no p k).2.2.made=d.made∧(aK d no p k).2.2.script=d.script:=by
 unfold aK
 split
 ·exact⟨rfl,rfl,rfl⟩
 split
 ·exact⟨rfl,rfl,rfl⟩
 split
 ·exact⟨rfl,rfl,rfl⟩
 ·exact⟨rfl,rfl,rfl⟩
theorem cw.read{d:ay}(h:cw d)(no p k:Int):cw (aK d no p k).2.2:=by
 unfold aK
 split
 ·exact h
 split
 ·exact h
 split
 ·exact h.xU
 ·exact h.xU
theorem A0(h:ap)(d:ay):(bX h d).2.2.files=d.files∧(bX h d).2.2.made=d.made∧(bX h d).2.2.script=d.script:=by
 unfold bX
 split
 ·exact Ou _ _ _ _
 ·exact Ou _ _ _ _
theorem cw.bX{d:ay}(hd:cw d)(h:ap):cw (bX h d).2.2:=by
 unfold Go.Proofs.Ytnlkkgpcikkpoaa.bX
 split
 ·exact hd.read _ _ _
 ·exact hd.read _ _ _
theorem Ov{d:ay}{no p:Int}(h:(aK d no p 65).2.1=0):0≤p∧p.toNat≤ca d no∧(aK d no p 65).1.size=min (ca d no-p.toNat) 65:=by
 unfold aK ca at*
 split at h
 ·cases h
 rename_i f e
 simp only[e]at h⊢
 split at h
 ·cases h
 rename_i h1
 split at h
 ·rename_i h2;exact absurd h h2
 rename_i h2
 rw[if_neg h1,if_neg h2]
 show 0≤p∧p.toNat≤f.size∧(f.extract p.toNat (p.toNat+min (f.size-p.toNat) (65:Int).toNat)).size=_
 refine⟨by omega,by omega,?_⟩
 rw[aoR]
 show _=min (f.size-p.toNat) 65
 have:(65:Int).toNat=65:=rfl
 omega
theorem acd{d:ay}(hd:cw d)(no:Int):ca d no≤1000000:=by
 unfold ca
 cases e:fileOf d.files no with
 |none=>simp
 |some f=>
  obtain⟨k,h1,_⟩:=abS e
  exact hd.size _ h1
theorem A1{h:ap}{d:ay}(hd:cw d)(he:(bX h d).1=0):(bX h d).2.1.no=h.no∧ow (bX h d).2.1∧ca d h.no-(bX h d).2.1.at_.toNat+vp (bX h d).2.1=ca d h.no-h.at_.toNat:=by
 unfold bX at he⊢
 split at he
 ·rename_i h1;exact absurd he h1
 rename_i h1
 rw[if_neg h1]
 have h1:(aK d h.no h.at_ 65).2.1=0:=aoa.1 h1
 obtain⟨p0,p1,p2⟩:=Ov h1
 have p3:ca d h.no≤1000000:=acd hd _
 dsimp only
 generalize(aK d h.no h.at_ 65).1=b at p2⊢
 have k0:=Oq b 10
 have k1:=AY b 10
 refine⟨rfl,⟨?_,?_,?_⟩,?_⟩
 ·show 0≤h.at_+(bb b 10+1);omega
 ·show h.at_+(bb b 10+1)≤1000000
  by_cases hk:0≤bb b 10
  ·have:=k1 hk;omega
  ·omega
 ·show(b.extract 0 (max (bb b 10) 0).toNat).size≤64
  rw[aoR]
  by_cases hk:0≤bb b 10
  ·have:=k1 hk;omega
  ·omega
 ·unfold AZ vp
  by_cases hk:0≤bb b 10
  ·have:=k1 hk
   simp only[hk,decide_true,if_true,aoR]
   omega
  ·simp only[hk,decide_false,anr,if_false]
   omega
theorem qq{d d':ay}(h:d'.files=d.files)(no:Int):ca d' no=ca d no:=by unfold ca;rw[h]
def eK(d:ay):List Int→Nat
 | []=>0
 |no::l=>ca d no+eK d l
theorem vq(d:ay)(a b:List Int):eK d (a++b)=eK d a+eK d b:=by
 induction a with
 |nil=>show eK d b=0+eK d b;omega
 |cons x a ih=>show ca d x+eK d (a++b)=ca d x+eK d a+eK d b;omega
theorem Ow{d d':ay}(h:d'.files=d.files)(l:List ap):eY d' l=eY d l:=by
 induction l with
 |nil=>rfl
 |cons x l ih=>unfold eY fz;rw[ih,qq h]
theorem ace(d:ay)(a b:List ap):eY d (a++b)=eY d a+eY d b:=by
 induction a with
 |nil=>show eY d b=0+eY d b;omega
 |cons x a ih=>show fz d x+eY d (a++b)=fz d x+eY d a+eY d b;omega
structure Ox(d:ay)(l:List Int)(H:List ap):Prop where
 A2:H.map (·.no)=l
 ok:∀h∈H,ow h
 fz:eY d H≤eK d l
theorem xZ:∀(l:List Int) (H:List ap) (d:ay),cw d→cw (dY l H d).2.2∧(dY l H d).2.2.files=d.files∧(dY l H d).2.2.made=d.made∧(dY l H d).2.2.script=d.script
 | [],H,d,h=>⟨h,rfl,rfl,rfl⟩
 |no::l,H,d,h=>by
  unfold dY
  obtain⟨f1,f2,f3⟩:=A0 ⟨no,0,amw,false⟩ d
  have hd:=h.bX ⟨no,0,amw,false⟩
  split
  ·exact⟨hd,f1,f2,f3⟩
  ·obtain⟨g0,g1,g2,g3⟩:=xZ l (H++[(bX ⟨no,0,amw,false⟩ d).2.1]) (bX ⟨no,0,amw,false⟩ d).2.2 hd
   exact⟨g0,g1.trans f1,g2.trans f2,g3.trans f3⟩
theorem A3:∀(l l0:List Int) (H:List ap) (d d0:ay),cw d→d.files=d0.files→Ox d0 l0 H→(dY l H d).1=0→Ox d0 (l0++l) (dY l H d).2.1
 | [],l0,H,d,d0,hd,hf,ho,he=>by rw[anV];exact ho
 |no::l,l0,H,d,d0,hd,hf,ho,he=>by
  unfold dY at he⊢
  split at he
  ·rename_i h1;exact absurd he h1
  rename_i h1
  rw[if_neg h1]
  obtain⟨f1,f2,f3⟩:=A0 ⟨no,0,amw,false⟩ d
  obtain⟨r1,r2,r3⟩:=A1 hd (aoa.1 h1)
  have:=A3 l (l0++[no]) (H++[(bX ⟨no,0,amw,false⟩ d).2.1]) (bX ⟨no,0,amw,false⟩ d).2.2 d0 (hd.bX _) (f1.trans hf) ⟨?_,?_,?_⟩ he
  ·rw[amQ]at this;exact this
  ·rw[anh,ho.A2];exact congrArg (fun z=>l0++[z]) r1
  ·intro h hh
   rcases amU.1 hh with hh|hh
   ·exact ho.ok h hh
   ·rw[ank.1 hh];exact r2
  ·rw[ace,vq]
   have h2:=ho.fz
   have h3:eY d0 [(bX ⟨no,0,amw,false⟩ d).2.1]=fz d0 (bX ⟨no,0,amw,false⟩ d).2.1+0:=rfl
   have h4:eK d0 [no]=ca d0 no+0:=rfl
   have h5:fz d0 (bX ⟨no,0,amw,false⟩ d).2.1≤ca d0 no:=by
    unfold fz
    rw[r1]
    have h6:ca d no=ca d0 no:=qq hf no
    rw[h6]at r3
    show ca d0 no-_+_≤_
    omega
   omega
theorem Oy(f:Bool)(H:List ap):∀(l:List ap) (i:Nat) (k:Option Nat),H.drop i=l→(∀j,k=some j→j<H.length∧(aX H j).there=true)→∀j,jU f H l i k=some j→j<H.length∧(aX H j).there=true
 | [],i,k,hl,hk,j,h=>hk j h
 |h::l,i,k,hl,hk,j,hj=>by
  unfold jU at hj
  have hi:i<H.length:=by
   have:=congrArg mM hl
   rw[List.length_drop,List.length_cons]at this
   omega
  refine Oy f H l (i+1) _ (by rw[←List.tail_drop,hl];rfl) ?_ j hj
  intro j' j5
  split at j5
  ·rename_i hc
   cases j5
   refine⟨hi,?_⟩
   have e:aX H i=h:=by
    unfold aX
    rw[List.getD_eq_getElem?_getD]
    have:(H.drop i)[0]?=some h:=by rw[hl];rfl
    rw[List.getElem?_drop,Nat.add_zero]at this
    rw[this];rfl
   rw[e]
   unfold iP at hc
   split at hc
   ·exact hc
   ·rw[amB]at hc;exact hc.1
  ·exact hk j' j5
theorem A4{f:Bool}{H:List ap}{k:Nat}(h:eE f H=some k):k<H.length∧(aX H k).there=true:=
 Oy f H H 0 none rfl (fun j hj=>by cases hj) k h
theorem Oz(d:ay)(no:Int)(b:ByteArray):ca (bN d no b).2 no≤ca d no+b.size:=by
 cases e:fileOf (bN d no b).2.files no with
 |none=>unfold ca;rw[e];simp
 |some f=>
  obtain⟨g,g1,g2⟩:=Gy e
  unfold ca;rw[e,g1];exact g2
theorem acf{l:List (Nat×ByteArray)}{no m:Int}{b:ByteArray}(h:m≠no):fileOf (kM l no b) m=fileOf l m:=by
 unfold fileOf kM
 induction l with
 |nil=>rfl
 |cons p l ih=>
  rw[ani,aoY,aoY]
  by_cases e:(p.1:Int)=no
  ·have e1:((p.1:Int)==no)=true:=by simpa using e
   have e2:((p.1:Int)==m)=false:=by rw[beq_eq_false_iff_ne];omega
   simp only[e1,if_true,e2]
   exact ih
  ·have e1:((p.1:Int)==no)=false:=by simpa using e
   simp only[e1,anr,if_false]
   cases e2:((p.1:Int)==m)with
   |true=>rfl
   |false=>exact ih
theorem GO(d:ay){no m:Int}(b:ByteArray)(h:m≠no):ca (bN d no b).2 m=ca d m:=by
 unfold bN
 split
 ·rfl
 split
 ·rfl
 split
 ·rfl
 ·unfold ca;rw[show(ay.files {gS d with files:=kM d.files no b})=kM d.files no b from rfl,acf h]
theorem OA(d:ay)(no m:Int):ca (eS d no).2 m≤ca d m:=by
 unfold eS
 split
 ·exact amX _
 split
 ·exact amX _
 ·unfold ca
  show((fileOf (oh d.files no) m).map ams).getD 0≤_
  by_cases e:m=no
  ·subst e
   have:fileOf (oh d.files m) m=none:=by
    unfold fileOf oh
    rw[Option.map_eq_none_iff,apm]
    intro p hp
    rw[aqd]at hp
    simpa using hp.2
   rw[this];exact ann _
  ·have:fileOf (oh d.files no) m=fileOf d.files m:=by
    unfold fileOf oh
    induction d.files with
    |nil=>rfl
    |cons p l ih=>
     rw[List.filter_cons,aoY]
     by_cases e1:(p.1:Int)=no
     ·have e2:((p.1:Int)==m)=false:=by rw[beq_eq_false_iff_ne];omega
      have e3:((p.1:Int)==no)=true:=by simpa using e1
      simp only[e3,Bool.not_true,anr,if_false,e2]
      exact ih
     ·have e3:((p.1:Int)==no)=false:=by simpa using e1
      simp only[e3,Bool.not_false,if_true,aoY]
      cases e2:((p.1:Int)==m)with
      |true=>rfl
      |false=>exact ih
   rw[this];exact amX _
theorem cw.remove{d:ay}(h:cw d)(no:Int):cw (eS d no).2∧(eS d no).2.made=d.made:=by
 unfold eS
 split
 ·exact⟨h,rfl⟩
 split
 ·exact⟨h.xU,rfl⟩
 ·refine⟨⟨h.bS,h.made,fun p hp=>h.keys p (aqd.1 hp).1,?_,fun p hp=>h.size p (aqd.1 hp).1⟩,rfl⟩
  exact h.gp.sublist (asy _ List.filter_sublist)
theorem OB:∀(l:List Int) (d:ay),cw d→cw (fN l d).2∧(fN l d).2.made=d.made∧∀m,ca (fN l d).2 m≤ca d m
 | [],d,h=>⟨h,rfl,fun m=>amX _⟩
 |no::l,d,h=>by
  unfold fN
  obtain⟨h1,h2⟩:=h.remove no
  split
  ·exact⟨h1,h2,fun m=>OA d no m⟩
  ·obtain⟨g1,g2,g3⟩:=OB l (eS d no).2 h1
   exact⟨g1,g2.trans h2,fun m=>Nat.le_trans (g3 m) (OA d no m)⟩
end Go.Proofs.Ytnlkkgpcikkpoaa
