/- Part of the proof: Vc. -/
import Derived.Test.YtnlkkgpcikkpoaaGreatJAc
import Derived.LoopN
import Derived.RangeFuncLeaves
import Derived.RangeFuncRecord
open Array renaming getD_eq_getD_getElem?->ar8,getElem?_eq_getElem->atp
open Bool renaming and_eq_true->BV,and_self->atn,false_and->au8
open Go renaming BinOp->awv,Code->ar3,Deferred->as4,Exit->atO,FuncId->arY,MapEntry->arW,Oper->ast,Operand->asW,Program->arC,TypeId->KS,Value->Dy,World->arB,wpIn_wide->avx,wp_mono->avV
open Go.Exit renaming inBlock->avG
open Go.Fence renaming wide->ats
open Go.Instr renaming index->auR,sliceAt->atE,sliceBound->auJ
open Go.IntKind renaming i64->Ul
open Go.Next renaming value->asE
open Go.Region renaming wanted->asZ
open Go.Value renaming int->KJ,oneCell'->asr
open Go.World renaming putObj_heap_other->asP
open List renaming all_eq_true->ar1,ext_getElem?->auC,foldl_cons->att,getElem?_append_left->asl,getElem?_append_right->asd,getElem?_cons_succ->asF,getElem?_cons_zero->asf,getElem?_eq_getElem->KH,getElem?_eq_none->asC,getElem?_eq_none_iff->atg,getElem?_eq_some_iff->KP,getElem?_map->asT,getElem?_of_mem->asS,getElem?_range->auS,getElem?_set_ne->auj,getElem?_set_self->at7,length_cons->ar4,length_nil->as2,map_cons->asn,mem_cons->arD,mem_cons_of_mem->arG,mem_cons_self->arH,mem_of_getElem?->ar7,range->atX
open Nat renaming add_zero->atv,beq->arE,beq_refl->asx,ble->arM,ble_eq_true_of_le->arZ,blt->arF,eq_of_beq_eq_true->arJ,le_of_ble_eq_true->arU,le_refl->arO,lt_of_lt_of_le->atP,sub_zero->at9,zero_add->as9
open Nat.succ renaming inj->awl
open Option renaming bind_some->awj,getD_some->ati,map_some->asO
open Option.some renaming injEq->DE
open Prod.mk renaming injEq->KN
set_option linter.unusedVariables false
set_option linter.unusedSimpArgs false
set_option maxRecDepth 100000
namespace Go.Proofs.YtnlkkgpcikkpoaaGreat.Vm
open Go.RowKit
inductive DT(α:Type) where
 |done (a:α)
 |fail
 |ask (d:Bool) (k:Bool->DT α)
 |fW (p:Bool) (x y:DT α)
inductive DT.Has{α:Type}:DT α->α->Prop where
 |done (a:α):Has (.done a) a
 |ask (d:Bool) (k:Bool->DT α) (a:α) (h:Has (k d) a):Has (.ask d k) a
 |left(p:Bool) (x y:DT α) (a:α) (h:Has x a):Has (.fW p x y) a
 |right(p:Bool) (x y:DT α) (a:α) (h:Has y a):Has (.fW p x y) a
def DT.bind{α β:Type}:DT α->(α->DT β)->DT β
 | .done a,f=>f a
 | .fail,_=>.fail
 | .ask d k,f=>.ask d λb=>(k b).bind f
 | .fW p x y,f=>.fW p (x.bind f) (y.bind f)
def DT.gD{α:Type}:Option α->DT α
 |some a=>.done a
 |none=>.fail
theorem DT.cG{α:Type}{a b:α}(h:(DT.done a).Has b):b=a:=by cases h;rfl
theorem DT.Yc{α:Type}{b:α}(h:(DT.fail:DT α).Has b):False:=by cases h
theorem DT.pv{α:Type}{d:Bool}{k:Bool->DT α}{b:α}(h:(DT.ask d k).Has b):(k d).Has b:=by cases h;assumption
theorem DT.oM{α:Type}{p:Bool}{x y:DT α}{b:α}(h:(DT.fW p x y).Has b):x.Has b\/y.Has b:=by
 cases h with
 |left _ _ _ _ h=>exact .inl h
 |right _ _ _ _ h=>exact .inr h
theorem DT.iB{α:Type}{o:Option α}{b:α}(h:(DT.gD o).Has b):o=some b:=by
 cases o with
 |none=>cases h
 |some a=>rw[DT.cG h]
theorem DT.fN{α β:Type}:∀{x:DT α} {f:α->DT β} {b:β},(x.bind f).Has b->∃a,x.Has a/\(f a).Has b:=by
 intro x
 induction x with
 |done a=>intro f b h;exact⟨a,.done a,h⟩
 |fail=>intro f b h;cases h
 |ask d k ih=>
  intro f b h
  obtain⟨a,h1,h2⟩:=ih d (DT.pv h)
  exact⟨a,.ask d k a h1,h2⟩
 |fW p x y rk rl=>
  intro f b h
  rcases DT.oM h with h|h
  ·obtain⟨a,h1,h2⟩:=rk h;exact⟨a,.left _ _ _ _ h1,h2⟩
  ·obtain⟨a,h1,h2⟩:=rl h;exact⟨a,.right _ _ _ _ h1,h2⟩
inductive AT(α:Type) where
 |done (n:Nat) (a:α)
 |fail (n:Nat)
def mark{α:Type}(n:Nat)(x:AT α):AT α:=x
abbrev EO:=DT (bo×List Nat)
def lC(v:Dy)(l:List Nat):EO:=.done (⟨.val v,[],none⟩,l)
theorem lP{v:Dy}{l l':List Nat}{out:bo}(h:(lC v l).Has (out,l')):out=⟨.val v,[],none⟩/\l'=l:=by
 have:=DT.cG h
 simpa using this
def eQ{α:Type}(d:Bool)(k:DT α):DT α:=.ask d λb=>match b with
 |true=>k
 |false=>.fail
theorem eU{α:Type}{d:Bool}{k:DT α}{a:α}(h:(eQ d k).Has a):d=true/\k.Has a:=by
 have:=DT.pv h
 cases d with
 |true=>exact⟨rfl,this⟩
 |false=>exact(DT.Yc this).elim
section
variable (P:arC)
def FZ(t:KS)(x i:Dy):EO:=match P.underlying t,x,i with
 |some (.array k el),.pointer (some ⟨b,off,none⟩),.int _ z=>match bZ P el with
  |some size=>eQ (decide (0<=z)) (eQ (arF z.toNat k) (lC (.pointer (some ⟨b,off+z.toNat*size,none⟩)) []))
  |none=>.fail
 |some (.slice el),.slice (some ⟨b,off,none⟩) len _,.int _ z=>match bZ P el with
  |some size=>eQ (decide (0<=z)) (eQ (arF z.toNat len) (lC (.pointer (some ⟨b,off+z.toNat*size,none⟩)) []))
  |none=>.fail
 |_,_,_=>.fail
theorem Bb{k:IntKind}{z:Int}(h:decide (0<=z)=true):pV (.int k z)=some z.toNat:=by
 have:0<=z:=by simpa using h
 cases z with
 |ofNat n=>rfl
 |negSucc n=>omega
theorem Yd{t:KS}{x i:Dy}{out:bo}{l:List Nat}{g:Nat->Option ak}(h:(FZ P t x i).Has (out,l)):(tR P t x i).run g=some (out,l):=by
 unfold FZ at h
 unfold tR
 split at h
 ·rename_i k el b off ik z ht
  split at h
  ·rename_i size hs
   obtain⟨h1,h⟩:=eU h
   obtain⟨h2,h⟩:=eU h
   obtain⟨rfl,rfl⟩:=lP h
   simp only[ht,Bb h1,hs,h2]
   rfl
  ·cases h
 ·rename_i el b off len cap ik z ht
  split at h
  ·rename_i size hs
   obtain⟨h1,h⟩:=eU h
   obtain⟨h2,h⟩:=eU h
   obtain⟨rfl,rfl⟩:=lP h
   simp only[ht,Bb h1,hs,h2]
   rfl
  ·cases h
 ·cases h
def av(c:List Dy)(i:Nat):Int:=match c[i]?with
 |some (.int _ x)=>x
 |_=>0
def cP(k:IntKind)(c:List Dy)(i:Nat):Bool:=match c[i]?with
 |some (.int k' _)=>decide (k'=k)
 |_=>false
def aR(c:List Dy)(i:Nat):ByteArray:=match c[i]?with
 |some (.string x)=>x
 |_=>ByteArray.empty
def dY(c:List Dy)(i:Nat):Bool:=match c[i]?with
 |some (.string _)=>true
 |_=>false
def ig(c:List Dy)(i:Nat):Bool:=match c[i]?with
 |some (.bool x)=>x
 |_=>false
def pw(c:List Dy)(i:Nat):Bool:=match c[i]?with
 |some (.bool _)=>true
 |_=>false
def F0(t:KS)(c:List Dy)(off:Nat):DT Dy:=match P.underlying t with
 |some (.int k)=>eQ (cP k c off) (.done (.int k (av c off)))
 |some .string=>eQ (dY c off) (.done (.string (aR c off)))
 |some .bool=>eQ (pw c off) (.done (.bool (ig c off)))
 |_=>.fail
theorem Ye{t:KS}{c:List Dy}{off:Nat}{v:Dy}(h:(F0 P t c off).Has v):oZ P t=some false/\c[off]?=some v:=by
 unfold F0 at h
 unfold oZ
 split at h
 ·rename_i k ht
  obtain⟨h1,h⟩:=eU h
  have h2:=DT.cG h
  unfold cP at h1
  unfold av at h2
  split at h1
  ·rename_i k' x hc
   have:k'=k:=by simpa using h1
   subst this
   rw[hc]at h2⊢
   rw[ht,h2]
   exact⟨rfl,rfl⟩
  ·cases h1
 ·rename_i ht
  obtain⟨h1,h⟩:=eU h
  have h2:=DT.cG h
  unfold dY at h1
  unfold aR at h2
  split at h1
  ·rename_i x hc
   rw[hc]at h2⊢
   rw[ht,h2]
   exact⟨rfl,rfl⟩
  ·cases h1
 ·rename_i ht
  obtain⟨h1,h⟩:=eU h
  have h2:=DT.cG h
  unfold pw at h1
  unfold ig at h2
  split at h1
  ·rename_i x hc
   rw[hc]at h2⊢
   rw[ht,h2]
   exact⟨rfl,rfl⟩
  ·cases h1
 ·cases h
def F1(g:Nat->Option ak)(t:KS)(a:Dy):EO:=match a with
 | .pointer (some ⟨b,off,none⟩)=>match g b with
  |some (.cells c _ _)=>(F0 P t c off).bind λv=>lC v [b]
  |_=>.fail
 |_=>.fail
theorem Yf{t:KS}{a:Dy}{out:bo}{l:List Nat}{g:Nat->Option ak}(h:(F1 P g t a).Has (out,l)):(tN P t a).run g=some (out,l):=by
 unfold F1 at h
 split at h
 ·rename_i b off
  split at h
  ·rename_i c el ro hb
   obtain⟨v,h1,h2⟩:=DT.fN h
   obtain⟨rfl,rfl⟩:=lP h2
   obtain⟨h3,h4⟩:=Ye P h1
   unfold tN qM
   rw[Rd.run_bind]
   refine⟨v,[b],[],?_,rfl,rfl⟩
   simp only[Rd.run,hb,h3,h4]
  ·cases h
 ·cases h
def F3(c:List Dy)(i:Nat):Bool:=match c[i]?with
 |some (.slice none 0 0)=>true
 |_=>false
def Nc(c:List Dy)(i:Nat):Bool:=match c[i]?with
 |some (.slice (some ⟨2,_,none⟩) _ _)=>true
 |_=>false
def Nd(c:List Dy)(i:Nat):Nat:=match c[i]?with
 |some (.slice (some ⟨_,o,_⟩) _ _)=>o
 |_=>0
def Nf(c:List Dy)(i:Nat):Nat:=match c[i]?with
 |some (.slice _ n _)=>n
 |_=>0
def Ng(c:List Dy)(i:Nat):Nat:=match c[i]?with
 |some (.slice _ _ n)=>n
 |_=>0
def F4(z:Dy)(c:List Dy)(i:Nat):DT Dy:=match z with
 | .int k _=>eQ (cP k c i) (.done (.int k (av c i)))
 | .string _=>eQ (dY c i) (.done (.string (aR c i)))
 | .bool _=>eQ (pw c i) (.done (.bool (ig c i)))
 | .slice none 0 0=>.ask (F3 c i) λb=>match b with
  |true=>.done (.slice none 0 0)
  |false=>eQ (Nc c i) (.done (.slice (some ⟨2,Nd c i,none⟩) (Nf c i) (Ng c i)))
 |_=>.fail
theorem Yg{z:Dy}{c:List Dy}{i:Nat}{v:Dy}(h:(F4 z c i).Has v):c[i]?=some v:=by
 unfold F4 at h
 split at h
 ·rename_i k _
  obtain⟨h1,h⟩:=eU h
  have h2:=DT.cG h
  unfold cP at h1
  unfold av at h2
  split at h1
  ·rename_i k' x hc
   have:k'=k:=by simpa using h1
   subst this
   rw[hc]at h2⊢
   rw[h2]
  ·cases h1
 ·obtain⟨h1,h⟩:=eU h
  have h2:=DT.cG h
  unfold dY at h1
  unfold aR at h2
  split at h1
  ·rename_i x hc;rw[hc]at h2⊢;rw[h2]
  ·cases h1
 ·obtain⟨h1,h⟩:=eU h
  have h2:=DT.cG h
  unfold pw at h1
  unfold ig at h2
  split at h1
  ·rename_i x hc;rw[hc]at h2⊢;rw[h2]
  ·cases h1
 ·have h:=DT.pv h
  cases hn:F3 c i with
  |true=>
   rw[hn]at h
   have h2:=DT.cG h
   unfold F3 at hn
   split at hn
   ·rename_i hc;rw[hc,h2]
   ·cases hn
  |false=>
   rw[hn]at h
   obtain⟨h1,h⟩:=eU h
   have h2:=DT.cG h
   unfold Nc at h1
   unfold Nd Nf Ng at h2
   split at h1
   ·rename_i o n m hc;rw[hc]at h2⊢;rw[h2]
   ·cases h1
 ·cases h
def Bc:List Dy->List Dy->Nat->DT (List Dy)
 | [],_,_=>.done []
 |z::zs,c,i=>(F4 z c i).bind λv=>(Bc zs c (i+1)).bind λr=>.done (v::r)
theorem Nh:∀{zs c:List Dy} {i:Nat} {r:List Dy},(Bc zs c i).Has r->r.length=zs.length/\∀j v,r[j]?=some v->c[i+j]?=some v
 | [],c,i,r,h=>by rw[DT.cG h];exact⟨rfl,λj v hv=>by simp at hv⟩
 |z::zs,c,i,r,h=>by
  unfold Bc at h
  obtain⟨v,h1,h2⟩:=DT.fN h
  obtain⟨r',h3,h4⟩:=DT.fN h2
  rw[DT.cG h4]
  obtain⟨h5,h6⟩:=Nh h3
  refine⟨by simp[h5],λj u hu=>?_⟩
  cases j with
  |zero=>
   simp only[asf,DE]at hu
   subst hu
   exact Yg h1
  |succ j=>
   simp only[asF]at hu
   have:=h6 j u hu
   rwa[show i+1+j=i+(j+1)by omega]at this
def F5(g:Nat->Option ak)(t:KS)(a:Dy):EO:=match a with
 | .pointer (some ⟨b,off,none⟩)=>match g b,oZ P t,zeroOf P t,bZ P t with
  |some (.cells c _ _),some true,some (.agg z),some (n+1)=>match arE z.toList.length (n+1)with
   |true=>eQ (arM (off+(n+1)) c.length) ((Bc z.toList c off).bind λl=>lC (.agg l.toArray) [b])
   |false=>.fail
  |_,_,_,_=>.fail
 |_=>.fail
theorem Yh{t:KS}{a:Dy}{out:bo}{l:List Nat}{g:Nat->Option ak}(h:(F5 P g t a).Has (out,l)):(tN P t a).run g=some (out,l):=by
 unfold F5 at h
 split at h
 ·rename_i b off
  split at h
  ·rename_i c el ro z n hb nP hz hn
   split at h
   ·rename_i hlen
    have hlen:=arJ hlen
    obtain⟨hle,h⟩:=eU h
    obtain⟨r,h1,h2⟩:=DT.fN h
    obtain⟨rfl,rfl⟩:=lP h2
    obtain⟨h3,h4⟩:=Nh h1
    have F6:=arU hle
    have qU:cut c off (n+1)=some r:=by
     unfold cut
     rw[hle]
     refine congrArg some (auC λj=>?_)
     rw[List.getElem?_take]
     by_cases hj:j<n+1
     ·rw[if_pos hj,List.getElem?_drop]
      have Ni:j<r.length:=by omega
      rw[KH Ni]
      exact(h4 j _ (KH Ni)).trans rfl
     ·rw[if_neg hj,asC (by omega)]
    unfold tN qM
    rw[Rd.run_bind]
    refine⟨.agg r.toArray,[b],[],?_,rfl,rfl⟩
    simp only[Rd.run,hb,nP,hn,qU]
   ·cases h
  ·cases h
 ·cases h
def sK(off:Nat)(v:Dy):Nat->List Dy->DT (List Dy)
 |_,[]=>.done []
 |i,c::cs=>match c,v with
  | .string s,.string s'=>(sK off v (i+1) cs).bind λr=>.done (.string (bif arE off i then s' else s)::r)
  | .int k x,.int k' x'=>match decide (k=k')with
   |true=>(sK off v (i+1) cs).bind λr=>.done (.int k (bif arE off i then x' else x)::r)
   |false=>.ask (arE off i) λb=>match b with
    |true=>.fail
    |false=>(sK off v (i+1) cs).bind λr=>.done (c::r)
  |_,_=>.ask (arE off i) λb=>match b with
   |true=>.fail
   |false=>(sK off v (i+1) cs).bind λr=>.done (c::r)
theorem Nj{off:Nat}{v:Dy}:∀{i:Nat} {c r:List Dy},(sK off v i c).Has r->r.length=c.length/\∀j,r[j]?=if i+j=off/\j<c.length then some v else c[j]?
 |i,[],r,h=>by
  have:=DT.cG h
  subst this
  exact⟨rfl,λj=>by simp⟩
 |i,c::cs,r,h=>by
  have fin:∀(x:Dy) (r':List Dy),(sK off v (i+1) cs).Has r'->(x=if i=off then v else c)->(x::r').length=(c::cs).length/\∀j,(x::r')[j]?=if i+j=off/\j<(c::cs).length then some v else(c::cs)[j]? :=by
   intro x r' hr hx
   obtain⟨h1,h2⟩:=Nj hr
   refine⟨by simp[h1],λj=>?_⟩
   cases j with
   |zero=>
    simp only[asf,atv,ar4]
    rw[hx]
    by_cases e:i=off
    ·rw[if_pos e,if_pos ⟨e,by omega⟩]
    ·rw[if_neg e,if_neg λh=>e h.1]
   |succ j=>
    simp only[asF,ar4]
    rw[h2 j]
    by_cases e:i+1+j=off/\j<cs.length
    ·rw[if_pos e,if_pos ⟨by omega,by omega⟩]
    ·rw[if_neg e,if_neg λh=>e ⟨by omega,by omega⟩]
  have hb:∀{b:Bool},arE off i=b->(i=off↔b=true):=by
   intro b hb
   rw[Yi off i]at hb
   rw[<-hb]
   exact⟨λe=>by rw[e];exact asx _,λe=>arJ e⟩
  unfold sK at h
  split at h
  ·rename_i s s'
   obtain⟨r',h1,h2⟩:=DT.fN h
   have:=DT.cG h2
   subst this
   refine fin _ r' h1 ?_
   cases hq:arE off i with
   |true=>rw[if_pos ((hb hq).2 rfl)];rfl
   |false=>rw[if_neg λe=>by cases(hb hq).1 e];rfl
  ·rename_i k x k' x'
   split at h
   ·rename_i hk
    have hk:k=k':=by simpa using hk
    subst hk
    obtain⟨r',h1,h2⟩:=DT.fN h
    have:=DT.cG h2
    subst this
    refine fin _ r' h1 ?_
    cases hq:arE off i with
    |true=>rw[if_pos ((hb hq).2 rfl)];rfl
    |false=>rw[if_neg λe=>by cases(hb hq).1 e];rfl
   ·have h:=DT.pv h
    cases hq:arE off i with
    |true=>rw[hq]at h;cases h
    |false=>
     rw[hq]at h
     obtain⟨r',h1,h2⟩:=DT.fN h
     have:=DT.cG h2
     subst this
     exact fin _ r' h1 (by rw[if_neg λe=>by cases(hb hq).1 e])
  ·have h:=DT.pv h
   cases hq:arE off i with
   |true=>rw[hq]at h;cases h
   |false=>
    rw[hq]at h
    obtain⟨r',h1,h2⟩:=DT.fN h
    have:=DT.cG h2
    subst this
    exact fin _ r' h1 (by rw[if_neg λe=>by cases(hb hq).1 e])
where
 Yi (a b:Nat):arE a b=arE b a:=by
  rw[Bool.eq_iff_iff]
  exact⟨λe=>by rw[arJ e];exact asx _,λe=>by rw[arJ e];exact asx _⟩
def F7(g:Nat->Option ak)(t:KS)(a x:Dy):EO:=match a,bZ P t with
 | .pointer (some ⟨b,off,none⟩),some size=>match g b with
  |some (.cells c el false)=>match arE x.cells.size size&&x.cells.toList.all asr with
   |true=>eQ (arM (off+size) c.length) (.done (⟨.skip,[(b,.cells (bc c off x.cells.toList) el false)],none⟩,[b]))
   |false=>.fail
  |_=>.fail
 |_,_=>.fail
theorem Yj{t:KS}{a x:Dy}{out:bo}{l:List Nat}{g:Nat->Option ak}(h:(F7 P g t a x).Has (out,l)):(tP P t a x).run g=some (out,l):=by
 unfold F7 at h
 split at h
 ·rename_i b off size hs
  split at h
  ·rename_i c el hb
   split at h
   ·rename_i hx
    simp only[BV]at hx
    obtain⟨h1,h⟩:=eU h
    have h4:=DT.cG h
    simp only[KN]at h4
    obtain⟨rfl,rfl⟩:=h4
    unfold tP
    simp only[hs,Rd.run,hb,hx.1,hx.2,h1,atn]
   ·cases h
  ·cases h
 ·cases h
def Yk(el:KS):Bool:=match P.underlying el with
 |some (.struct fs)=>fs.toList.all λf=>match P.underlying f.type with
  |some (.int _)|some .string|some .bool=>true
  |_=>false
 |_=>false
def rowOf(g:Nat->Option ak)(t:KS)(a:Dy):Bool:=match a with
 | .pointer (some ⟨b,_,_⟩)=>match g b with
  |some (.cells _ el _)=>arE el t||Yk P el
  |_=>false
 |_=>false
def F8(g:Nat->Option ak)(t:KS)(a x:Dy):EO:=match a,bZ P t with
 | .pointer (some ⟨b,off,none⟩),some 1=>match g b with
  |some (.cells c el false)=>match arE x.cells.size 1&&x.cells.toList.all asr&&x.oneCell' with
   |true=>eQ (arF off c.length) ((sK off x 0 c).bind λr=>.done (⟨.skip,[(b,.cells r el false)],none⟩,[b]))
   |false=>.fail
  |_=>.fail
 |_,_=>.fail
theorem Yl{x:Dy}(h:x.oneCell'=true):x.cells.toList=[x]:=by
 cases x<;>first|rfl|cases h
theorem Ym{t:KS}{a x:Dy}{out:bo}{l:List Nat}{g:Nat->Option ak}(h:(F8 P g t a x).Has (out,l)):(tP P t a x).run g=some (out,l):=by
 unfold F8 at h
 split at h
 ·rename_i b off hs
  split at h
  ·rename_i c el hb
   split at h
   ·rename_i hx
    simp only[BV]at hx
    obtain⟨⟨gq,kw⟩,Yn⟩:=hx
    obtain⟨h1,h⟩:=eU h
    obtain⟨r,h2,h3⟩:=DT.fN h
    have h4:=DT.cG h3
    simp only[KN]at h4
    obtain⟨rfl,rfl⟩:=h4
    obtain⟨h5,h6⟩:=Nj h2
    have hlt:=ed.1 h1
    have hr:r=bc c off [x]:=by
     apply auC
     intro j
     rw[h6 j,EP (by simp only[ar4,as2];omega) j]
     simp only[ar4,as2,as9]
     by_cases e:j=off
     ·subst e;simp[hlt]
     ·have e1:¬(j=off/\j<c.length):=λh=>e h.1
      rw[if_neg e1]
      by_cases e2:off<=j/\j<off+1
      ·exact absurd (by omega) e
      ·rw[if_neg e2]
    have hle:arM (off+1) c.length=true:=arZ hlt
    unfold tP
    simp only[hs,Rd.run,hb,gq,kw,hle,atn]
    rw[hr,Yl Yn]
   ·cases h
  ·cases h
 ·cases h
def F9(g:Nat->Option ak)(src dst:KS)(x:Dy):EO:=match P.underlying src,P.underlying dst,x with
 |some (.slice el),some .string,.slice (some ⟨b,off,none⟩) len cap=>match P.underlying el with
  |some (.int .u8)=>match g b with
   |some (.cells c _ _)=>eQ ((cut c off len).bind bytesOf).isSome (lC (.string ⟨(((cut c off len).bind bytesOf).getD []).toArray⟩) [b])
   |_=>.fail
  |_=>.fail
 |_,_,_=>.fail
theorem Yo{src dst:KS}{x:Dy}{n:Nat}{out:bo}{l:List Nat}{g:Nat->Option ak}(h:(F9 P g src dst x).Has (out,l)):(xQ P src dst x n).run g=some (out,l):=by
 unfold F9 at h
 split at h
 ·rename_i el b off len cap h1 h2
  split at h
  ·rename_i he
   split at h
   ·rename_i c ce ro hb
    obtain⟨h3,h⟩:=eU h
    obtain⟨rfl,rfl⟩:=lP h
    unfold xQ
    simp only[h1,h2,he,Rd.run,hb]
    cases hq:(cut c off len).bind bytesOf with
    |none=>rw[hq]at h3;cases h3
    |some l=>rfl
   ·cases h
  ·cases h
 ·cases h
def wb:Nat->Option Dy->(Nat->EO)->EO
 |d,none,k=>k d
 |_,some (.int _ z),k=>eQ (decide (0<=z)) (k z.toNat)
 |_,_,_=>.fail
theorem Bd{d:Nat}{o:Option Dy}{k:Nat->EO}{a:bo×List Nat}(h:(wb d o k).Has a):∃n,o7 d o=some n/\(k n).Has a:=by
 unfold wb at h
 split at h
 ·exact⟨_,rfl,h⟩
 ·obtain⟨h1,h⟩:=eU h
  exact⟨_,Bb h1,h⟩
 ·cases h
def Ga(g:Nat->Option ak)(t:KS)(x:Dy)(lo hi mx:Option Dy):EO:=match P.underlying t,x,mx with
 |some (.slice el),.slice (some ⟨b,off,none⟩) len cap,none=>wb 0 lo λl=>wb len hi λh=>match bZ P el with
  |some size=>eQ (arM l h) (eQ (arM h cap) (match g b with
   |some (.cells c eb _)=>match bZ P eb with
    |some sb=>match arM size sb with
     |true=>lC (.slice (some ⟨b,off+l*size,none⟩) (h-l) (cap-l)) [b]
     |false=>.fail
    |none=>.fail
   |_=>.fail))
  |none=>.fail
 |some (.array k el),.pointer (some ⟨b,off,none⟩),none=>wb 0 lo λl=>wb k hi λh=>match bZ P el with
  |some size=>eQ (arM l h) (eQ (arM h k) (lC (.slice (some ⟨b,off+(if arE k l then 0 else l*size),none⟩) (h-l) (k-l)) []))
  |none=>.fail
 |_,_,_=>.fail
theorem Yp{t:KS}{x:Dy}{lo hi mx:Option Dy}{out:bo}{l:List Nat}{g:Nat->Option ak}(h:(Ga P g t x lo hi mx).Has (out,l)):(sk P t x lo hi mx).run g=some (out,l):=by
 unfold Ga at h
 split at h
 ·rename_i el b off len cap ht
  obtain⟨n1,h1,h⟩:=Bd h
  obtain⟨n2,h2,h⟩:=Bd h
  split at h
  ·rename_i size hs
   obtain⟨h3,h⟩:=eU h
   obtain⟨h4,h⟩:=eU h
   split at h
   ·rename_i c eb ro hb
    split at h
    ·rename_i sb E1
     split at h
     ·rename_i hle
      obtain⟨rfl,rfl⟩:=lP h
      have gE:fl (.slice (some ⟨b,off,none⟩) len cap)=false:=by unfold fl flat;rfl
      unfold sk
      simp only[gE,ht,h1,h2,hs,h3,h4,atn,Rd.run,hb,E1,hle]
      rfl
     ·cases h
    ·cases h
   ·cases h
  ·cases h
 ·rename_i k el b off ht
  obtain⟨n1,h1,h⟩:=Bd h
  obtain⟨n2,h2,h⟩:=Bd h
  split at h
  ·rename_i size hs
   obtain⟨h3,h⟩:=eU h
   obtain⟨h4,h⟩:=eU h
   obtain⟨rfl,rfl⟩:=lP h
   have gE:fl (.pointer (some ⟨b,off,none⟩))=false:=by unfold fl flat;rfl
   unfold sk
   simp only[gE,ht,h1,h2,hs,h3,h4,atn]
   rfl
  ·cases h
 ·cases h
def Gb(c a b:Dy):EO:=match c with
 | .bool d=>.ask d λd=>match d with
  |true=>lC a []
  |false=>lC b []
 |_=>.fail
theorem Yq{c a b:Dy}{out:bo}{l:List Nat}{g:Nat->Option ak}(h:(Gb c a b).Has (out,l)):(Ac c a b).run g=some (out,l):=by
 unfold Gb at h
 split at h
 ·rename_i d
  have h:=DT.pv h
  cases d with
  |true=>obtain⟨rfl,rfl⟩:=lP h;rfl
  |false=>obtain⟨rfl,rfl⟩:=lP h;rfl
 ·cases h
def Gc(g:Nat->Option ak)(size:Nat):Dy->Nat->DT (List Dy×List Nat)
 | .slice (some ⟨b,off,none⟩) _ _,n=>match g b with
  |some (.cells c _ _)=>eQ (arM (off+n*size) c.length) (.done ((c.drop off).take (n*size),[b]))
  |_=>.fail
 | .slice none _ _,_=>.done ([],[])
 | .string s,n=>.done ((s.data.toList.take n).map λb=>.int .u8 b.toNat,[])
 |_,_=>.fail
theorem Yr{g:Nat->Option ak}{size n:Nat}{x:Dy}{p:List Dy×List Nat}(h:(Gc g size x n).Has p):(sg size x n).run g=some p:=by
 unfold Gc at h
 split at h
 ·split at h
  ·rename_i c el ro hb
   obtain⟨h1,h⟩:=eU h
   rw[DT.cG h]
   unfold sg
   simp only[Rd.run,hb,gD,cut,h1]
  ·cases h
 ·rw[DT.cG h];rfl
 ·rw[DT.cG h];rfl
 ·cases h
def Gd(g:Nat->Option ak)(elem:KS)(size len k:Nat)(base:Option Addr)(xs:List Dy)(l1:List Nat)(n:Nat):EO:=match base with
 |none=>match len with
  |0=>.done (⟨.val (.slice (some ⟨n,0,none⟩) k k),[],some (.cells xs elem false)⟩,l1++[])
  |_=>.fail
 |some ⟨b,off,none⟩=>match g b with
  |some (.cells c el false)=>eQ (arE (off+len*size) c.length) (match arE el elem with
   |true=>.done (⟨.val (.slice (some ⟨n,0,none⟩) (len+k) (len+k)),[(b,.dead)],some (.cells (c.drop off++xs) elem false)⟩,l1++[b])
   |false=>.fail)
  |_=>.fail
 |_=>.fail
def Ge(g:Nat->Option ak)(size len cap k:Nat)(base:Option Addr)(xs:List Dy)(l1:List Nat):EO:=match base with
 |some ⟨b,off,none⟩=>match g b with
  |some (.cells c el false)=>eQ (arM (len+k) cap) (eQ (arM (off+len*size+xs.length) c.length)
   (.done (⟨.val (.slice (some ⟨b,off,none⟩) (len+k) cap),[(b,.cells (bc c (off+len*size) xs) el false)],none⟩,l1++[b])))
  |_=>.fail
 |_=>.fail
theorem Ys{elem:KS}{size len k n:Nat}{base:Option Addr}{xs:List Dy}{l1 l:List Nat}{out:bo}{g:Nat->Option ak}(h:(Gd g elem size len k base xs l1 n).Has (out,l)):
 ∃l2,(vD elem size len k base xs n).run g=some (out,l2)/\l=l1++l2:=by
 unfold Gd at h
 split at h
 ·split at h
  ·have h:=DT.cG h
   simp only[KN]at h
   obtain⟨rfl,rfl⟩:=h
   exact⟨[],rfl,rfl⟩
  ·cases h
 ·rename_i b off
  split at h
  ·rename_i c el hb
   obtain⟨bL,h⟩:=eU h
   split at h
   ·rename_i bg
    have h:=DT.cG h
    simp only[KN]at h
    obtain⟨rfl,rfl⟩:=h
    exact⟨[b],by simp only[vD,Rd.run,hb,bL,bg,atn],rfl⟩
   ·cases h
  ·cases h
 ·cases h
theorem Yt{size len cap k:Nat}{base:Option Addr}{xs:List Dy}{l1 l:List Nat}{out:bo}{g:Nat->Option ak}(h:(Ge g size len cap k base xs l1).Has (out,l)):
 ∃l2,(xK size len cap k base xs).run g=some (out,l2)/\l=l1++l2:=by
 unfold Ge at h
 split at h
 ·rename_i b off
  split at h
  ·rename_i c el hb
   obtain⟨bL,h⟩:=eU h
   obtain⟨bg,h⟩:=eU h
   have h:=DT.cG h
   simp only[KN]at h
   obtain⟨rfl,rfl⟩:=h
   exact⟨[b],by simp only[xK,Rd.run,hb,bL,bg,atn],rfl⟩
  ·cases h
 ·cases h
def Gf(g:Nat->Option ak)(argTypes:List KS)(args:List Dy)(n:Nat):EO:=match argTypes,args with
 |sT::xT::_,.slice base len cap::x::_=>match P.underlying sT,P.underlying xT with
  |some (.slice elem),some xd=>match bZ P elem,si x,zeroOf P elem,(P.info? elem).map (·.bytes)with
   |some size,some k,some z,some bytes=>match !isInt xd&&arM bytes 1000000&&arE z.cells.size size&&arF 0 size with
    |false=>.fail
    |true=>(Gc g size x k).bind λp=>eQ (arM (len+k) 1000000) (eQ (p.1.all asr) (eQ (arE p.1.length (k*size)) (.ask (full len cap) λd=>match d with
     |true=>Gd g elem size len k base p.1 p.2 n
     |false=>Ge g size len cap k base p.1 p.2)))
   |_,_,_,_=>.fail
  |_,_=>.fail
 |_,_=>.fail
theorem Yu{argTypes:List KS}{args:List Dy}{n:Nat}{out:bo}{l:List Nat}{g:Nat->Option ak}(h:(Gf P g argTypes args n).Has (out,l)):(xL P argTypes args n).run g=some (out,l):=by
 unfold Gf at h
 split at h
 ·rename_i sT xT r1 base len cap x r2
  split at h
  ·rename_i elem xd h1 h2
   split at h
   ·rename_i size k z bytes h3 h4 h5 h6
    split at h
    ·cases h
    ·rename_i h7
     obtain⟨p,h8,h⟩:=DT.fN h
     obtain⟨h9,h⟩:=eU h
     obtain⟨bx,h⟩:=eU h
     obtain⟨bQ,h⟩:=eU h
     have h:=DT.pv h
     have h8:=Yr h8
     obtain⟨xs,l1⟩:=p
     dsimp only at h9 bx bQ h
     unfold xL
     simp only[h1,h2,h3,h4,h5,h6,h7]
     rw[Rd.run_bind]
     cases hf:full len cap with
     |true=>
      rw[hf]at h
      obtain⟨l2,bL,bg⟩:=Ys h
      exact⟨xs,l1,l2,h8,by simp only[h9,bx,bQ,atn];exact bL,bg⟩
     |false=>
      rw[hf]at h
      obtain⟨l2,bL,bg⟩:=Yt h
      exact⟨xs,l1,l2,h8,by simp only[h9,bx,bQ,atn];exact bL,bg⟩
   ·cases h
  ·cases h
 ·cases h
def Gg(op:awv)(a b:Dy):EO:=match op,a,b with
 | .quo,.int k x,.int k' y=>match decide (k=k')with
  |true=>eQ (!decide (y=0)) (lC (.int k (k.wrap (x.tdiv y))) [])
  |false=>.fail
 | .rem,.int k x,.int k' y=>match decide (k=k')with
  |true=>eQ (!decide (y=0)) (lC (.int k (x.tmod y)) [])
  |false=>.fail
 | .add,.string x,.string y=>eQ (decide (((x.size+y.size:Nat):Int)<=Ul.max)) (lC (.string (x++y)) [])
 |_,_,_=>.fail
theorem Gh{s:Sem Dy}{v:Dy}(h:s=pure v)(hv:fl v=true){g:Nat->Option ak}:(lk P (do let u <-s;pure (.value u))).run g=some (⟨.val v,[],none⟩,[]):=by
 subst h
 unfold lk
 have:g9 P (do let u <-(pure v:Sem Dy);pure (asE u))=some (.ok (.value v)):=rfl
 rw[this]
 dsimp only
 rw[hv]
 rfl
theorem Yv{op:awv}{t:KS}{x y:asW}{a b:Dy}{out:bo}{l:List Nat}{g:Nat->Option ak}(h:(Gg op a b).Has (out,l)):(tQ P op t x y a b).run g=some (out,l):=by
 unfold Gg at h
 split at h
 ·rename_i k n k' m
  split at h
  ·rename_i hk
   have hk:=of_decide_eq_true hk
   subst hk
   obtain⟨hm,h⟩:=eU h
   obtain⟨rfl,rfl⟩:=lP h
   have hm:m≠0:=by simpa using hm
   refine Gh P (s:=(do eqGuard .quo t x y (.int k n) (.int k m);binOp .quo t (.int k n) (.int k m))) ?_ rfl
   show binOp .quo t (.int k n) (.int k m)=_
   simp only[binOp,ne_eq,not_true_eq_false,if_false,Op.intDiv,hm]
  ·cases h
 ·rename_i k n k' m
  split at h
  ·rename_i hk
   have hk:=of_decide_eq_true hk
   subst hk
   obtain⟨hm,h⟩:=eU h
   obtain⟨rfl,rfl⟩:=lP h
   have hm:m≠0:=by simpa using hm
   refine Gh P (s:=(do eqGuard .rem t x y (.int k n) (.int k m);binOp .rem t (.int k n) (.int k m))) ?_ rfl
   show binOp .rem t (.int k n) (.int k m)=_
   simp only[binOp,ne_eq,not_true_eq_false,if_false,Op.intDiv,hm]
  ·cases h
 ·rename_i n m
  obtain⟨hm,h⟩:=eU h
  obtain⟨rfl,rfl⟩:=lP h
  have hm:¬((n.size+m.size:Nat):Int)>Ul.max:=by have:=of_decide_eq_true hm;omega
  refine Gh P (s:=(do eqGuard .add t x y (.string n) (.string m);binOp .add t (.string n) (.string m))) ?_ rfl
  show binOp .add t (.string n) (.string m)=_
  simp only[binOp,Op.stringOp,hm,if_false]
 ·cases h
theorem oN{α β:Type}{f:α->Sem β}{a:α}:∀{P:arC} {x:Sem α},g9 P x=some (.ok a)->g9 P (x>>=f)=g9 P (f a):=by
 intro P x
 induction x with
 |pure b=>intro h;simp only[g9,DE,Except.ok.injEq]at h;subst h;rfl
 |program k ih=>intro h;exact ih P h
 |mark m k ih=>intro h;exact ih h
 |halt x=>intro h;cases x<;>simp[g9]at h
 |_=>intro h;simp[g9]at h
theorem Gi{t:KS}{d:TypeDesc}(h:P.underlying t=some d):g9 P (underlying t)=some (.ok d):=by
 have:underlying t=Sem.program λp=>(match p.underlying t with
  |some d=>pure d
  |none=>stuck "no such type"):=rfl
 rw[this]
 show g9 P (match P.underlying t with
  |some d=>pure d
  |none=>stuck "no such type")=_
 rw[h]
 rfl
def Gj(t:KS)(x i:Dy):EO:=match P.underlying t,x,i with
 |some .string,.string s,.int _ z=>eQ (decide (0<=z)) (eQ (arF z.toNat s.size) (lC (.int .u8 ((s.data.toList.getD z.toNat 0).toNat)) []))
 |_,_,_=>.fail
theorem Yw{t:KS}{x i:Dy}{out:bo}{l:List Nat}{g:Nat->Option ak}(h:(Gj P t x i).Has (out,l)):(xR P t x i).run g=some (out,l):=by
 unfold Gj at h
 split at h
 ·rename_i s k z ht
  obtain⟨h1,h⟩:=eU h
  obtain⟨h2,h⟩:=eU h
  obtain⟨rfl,rfl⟩:=lP h
  have h1:0<=z:=by simpa using h1
  have h2:=ed.1 h2
  have hg:s[z.toNat]?=some (s.data.toList.getD z.toNat 0):=by
   have h3:z.toNat<s.data.toList.length:=by simpa using h2
   rw[getElem?_pos s z.toNat h2,List.getD_eq_getElem?_getD,KH h3]
   rfl
  unfold xR
  show(lk P (do let v <-auR t (.string s) (.int k z);pure (.value v))).run g=_
  unfold lk
  have:g9 P (do let u <-auR t (.string s) (.int k z);pure (asE u))=some (.ok (.value (.int .u8 ((s.data.toList.getD z.toNat 0).toNat)))):=by
   refine(oN (a:=(.int .u8 ((s.data.toList.getD z.toNat 0).toNat):Dy)) ?_).trans rfl
   unfold auR
   refine(oN (a:=(k,z)) rfl).trans ?_
   refine(oN (Gi P ht)).trans ?_
   simp only[h1,if_true,hg]
   rfl
  rw[this]
  rfl
 ·cases h
def Be:Nat->Option Dy->(Nat->EO)->EO
 |d,none,k=>k d
 |_,some (.int _ z),k=>eQ (decide (0<=z)) (k z.toNat)
 |_,_,_=>.fail
def Gk(t:KS)(x:Dy)(lo hi mx:Option Dy):EO:=match P.underlying t,x,mx with
 |some .string,.string s,none=>match lo.all fl&&hi.all fl with
  |true=>Be 0 lo λl=>Be s.size hi λh=>eQ (arM h s.size) (eQ (arM l h) (lC (.string (s.extract l h)) []))
  |false=>.fail
 |_,_,_=>.fail
theorem Nk{d:Nat}{o:Option Dy}{k:Nat->EO}{a:bo×List Nat}(h:(Be d o k).Has a):∃n,(k n).Has a/\((o=none/\n=d)\/∃ik z,o=some (.int ik z)/\0<=z/\n=z.toNat):=by
 unfold Be at h
 split at h
 ·exact⟨_,h,.inl ⟨rfl,rfl⟩⟩
 ·rename_i ik z
  obtain⟨h1,h⟩:=eU h
  exact⟨_,h,.inr ⟨ik,z,rfl,by simpa using h1,rfl⟩⟩
 ·cases h
theorem Bg{ik:IntKind}{z:Int}{y:Nat}{code:BoundsCode}(h0:0<=z)(h1:z.toNat<=y):g9 P (auJ (.int ik z) y code)=some (.ok z.toNat):=by
 unfold auJ
 refine(oN (a:=(ik,z)) rfl).trans ?_
 have:0<=z/\z<=(y:Int):=⟨h0,by omega⟩
 simp only[this,and_self,if_true]
 rfl
theorem Yx{t:KS}{x:Dy}{lo hi mx:Option Dy}{out:bo}{l:List Nat}{g:Nat->Option ak}(h:(Gk P t x lo hi mx).Has (out,l)):(sk P t x lo hi mx).run g=some (out,l):=by
 unfold Gk at h
 split at h
 ·rename_i s ht
  split at h
  ·rename_i gE
   obtain⟨n1,h,ky⟩:=Nk h
   obtain⟨n2,h,lM⟩:=Nk h
   obtain⟨h2,h⟩:=eU h
   obtain⟨h1,h⟩:=eU h
   obtain⟨rfl,rfl⟩:=lP h
   have h1:=arU h1
   have h2:=arU h2
   unfold sk
   have sL:fl (.string s)=true:=rfl
   rw[sL]
   dsimp only
   rw[gE]
   have hr:g9 P (atE t (.string s) lo hi none)=some (.ok (.string (s.extract n1 n2))):=by
    unfold atE
    refine(oN (Gi P ht)).trans ?_
    dsimp only
    unfold Instr.slice
    refine(oN (Gi P ht)).trans ?_
    dsimp only
    refine(oN (a:=(n1,n2,s.size)) ?_).trans rfl
    rcases lM with⟨rfl,rfl⟩|⟨ik,z,rfl,hz,rfl⟩<;>rcases ky with⟨rfl,rfl⟩|⟨Yy,z',rfl,qR,rfl⟩
    ·rfl
    ·exact(oN (f:=λl=>pure (l,s.size,s.size)) (Bg P qR h1)).trans rfl
    ·exact(oN (f:=λh=>pure (0,h,s.size)) (Bg P hz h2)).trans rfl
    ·exact(oN (f:=λh=>(auJ (.int Yy z') h .sliceB).bind λl=>pure (l,h,s.size)) (Bg P hz h2)).trans ((oN (f:=λl=>pure (l,z.toNat,s.size)) (Bg P qR h1)).trans rfl)
   show(lk P _).run g=_
   unfold lk
   have eT:g9 P (do let v <-atE t (.string s) lo hi none;pure (asE v))=some (.ok (.value (.string (s.extract n1 n2)))):=oN hr
   rw[eT]
   rfl
  ·cases h
 ·cases h
def Gl(g:Nat->Option ak)(argTypes:List KS)(args:List Dy):EO:=match argTypes,args with
 |t::_,x::_=>match P.underlying t,x with
  |some (.slice el),.slice (some ⟨b,off,none⟩) k _=>.ask (arE k 0) λd=>match d with
   |true=>lC (.tuple #[]) []
   |false=>match bZ P el,zeroOf P el,g b with
    |some size,some z,some (.cells c ce false)=>eQ (arM (off+k*size) c.length) (match fl z&&arE z.cells.size size&&z.cells.toList.all asr with
     |true=>.done (⟨.val (.tuple #[]),[(b,.cells (bc c off (fA z.cells.toList k)) ce false)],none⟩,[b])
     |false=>.fail)
    |_,_,_=>.fail
  |_,_=>.fail
 |_,_=>.fail
theorem Yz{argTypes:List KS}{args:List Dy}{out:bo}{l:List Nat}{g:Nat->Option ak}(h:(Gl P g argTypes args).Has (out,l)):(xP P argTypes args).run g=some (out,l):=by
 unfold Gl at h
 unfold xP
 split at h
 ·rename_i t _ x _
  dsimp only
  split at h
  ·rename_i el b off k cap ht
   have h:=DT.pv h
   rw[ht]
   cases k with
   |zero=>
    obtain⟨rfl,rfl⟩:=lP h
    rfl
   |succ k=>
    have hk:arE (k+1) 0=false:=rfl
    rw[hk]at h
    dsimp only at h
    show(match bZ P el,zeroOf P el with
     |some size,some z=>Rd.read b λ
      | .cells c ce false=>match fl z&&arE z.cells.size size&&arM (off+(k+1)*size) c.length&&z.cells.toList.all asr with
       |true=>.done ⟨.val (.tuple #[]),[(b,.cells (bc c off (fA z.cells.toList (k+1))) ce false)],none⟩
       |false=>.fail
      |_=>.fail
     |_,_=>.fail:Rd bo).run g=_
    split at h
    ·rename_i size z c ce hs hz hg
     obtain⟨hb,h⟩:=eU h
     split at h
     ·rename_i hf
      rw[hs,hz]
      simp only[Rd.run,hg]
      simp only[BV]at hf
      obtain⟨⟨f1,f2⟩,f3⟩:=hf
      rw[f1,f2,hb,f3]
      cases DT.cG h
      rfl
     ·cases h
    ·cases h
  ·cases h
 ·cases h
def yE(es:List arW)(k:Dy):Bool:=match fG k es 0 with
 |some none=>true
 |_=>false
def we(es:List arW)(k:Dy):Bool:=(fG k es 0).isSome
def px(es:List arW)(k:Dy):List arW:=match fG k es 0 with
 |some (some (i,_))=>es.eraseIdx i
 |_=>es
def Gm(g:Nat->Option ak)(t:KS)(x k v:Dy):EO:=match P.underlying t with
 |some (.map kt _)=>match pW P kt k,x with
  |true,.map (some r)=>match g r with
   |some (.map es clock)=>eQ (yE es k) (.done (⟨.skip,[(r,.map (es++[{key:=k,val:=v,born:=clock}]) (clock+1))],none⟩,[r]))
   |_=>.fail
  |_,_=>.fail
 |_=>.fail
theorem YA{g:Nat->Option ak}{t:KS}{x k v:Dy}{out:bo}{l:List Nat}(h:(Gm P g t x k v).Has (out,l)):(xM P t x k v).run g=some (out,l):=by
 unfold Gm at h
 unfold xM
 split at h
 ·rename_i kt _ ht
  rw[ht]
  split at h
  ·rename_i r hk
   simp only[hk]
   split at h
   ·rename_i es clock hg
    obtain⟨h1,h⟩:=eU h
    have:=DT.cG h
    cases this
    unfold yE at h1
    split at h1
    ·rename_i hf
     simp only[Rd.run,hg,hf]
    ·cases h1
   ·cases h
  ·cases h
 ·cases h
def Gn(g:Nat->Option ak)(argTypes:List KS)(args:List Dy):EO:=match argTypes,args with
 |t::_,.map (some r)::k::_=>match P.underlying t with
  |some (.map kt _)=>match pW P kt k with
   |true=>match g r with
    |some (.map es clock)=>eQ (we es k) (.done (⟨.val (.tuple #[]),[(r,.map (px es k) clock)],none⟩,[r]))
    |_=>.fail
   |false=>.fail
  |_=>.fail
 |_,_=>.fail
theorem YB{g:Nat->Option ak}{argTypes:List KS}{args:List Dy}{out:bo}{l:List Nat}(h:(Gn P g argTypes args).Has (out,l)):(xN P argTypes args).run g=some (out,l):=by
 unfold Gn at h
 unfold xN
 split at h
 ·rename_i t _ r k _
  dsimp only
  split at h
  ·rename_i kt _ ht
   rw[ht]
   dsimp only
   split at h
   ·rename_i hk
    rw[hk]
    dsimp only
    split at h
    ·rename_i es clock hg
     obtain⟨h1,h⟩:=eU h
     have:=DT.cG h
     cases this
     unfold we at h1
     cases hf:fG k es 0 with
     |none=>rw[hf]at h1;cases h1
     |some f=>
      cases f with
      |none=>simp only[Rd.run,hg,hf,px]
      |some p=>simp only[Rd.run,hg,hf,px]
    ·cases h
   ·cases h
  ·cases h
 ·cases h
def Nl(g:Nat->Option ak)(x:Dy):Bool:=match x with
 | .map (some r)=>match g r with
  |some (.map es _)=>arE es.length es.length
  |_=>true
 |_=>true
def YC(g:Nat->Option ak)(e:asW->Dy)(c:Call):Bool:=match c.callee with
 | .builtin .delete=>match c.args.toList.map e with
  |x::_=>Nl g x
  |_=>true
 |_=>true
def gG(e:asW->Dy)(g:Nat->Option ak)(c:Call)(n:Nat):EO:=match c.callee with
 | .builtin .append=>Gf P g c.argTypes.toList (c.args.toList.map e) n
 | .builtin .clear=>Gl P g c.argTypes.toList (c.args.toList.map e)
 | .builtin .delete=>Gn P g c.argTypes.toList (c.args.toList.map e)
 |_=>.fail
def Nm(l:List Dy):Bool:=match l with
 |v::w::_=>(match v with
  | .slice _ n c=>arE n n&&arE c c
  |_=>true)&&(match w with
  | .slice _ n _=>arE n n
  | .string s=>arE s.size s.size
  |_=>true)
 |_=>true
def YD(e:asW->Dy)(c:Call):Bool:=match c.callee with
 | .builtin .append=>Nm (c.args.toList.map e)
 | .builtin .clear=>Nm (c.args.toList.map e++[.nilFunc])
 |_=>true
def YE(op:awv)(a b:Dy):Option Bool:=match op,a,b with
 | .quo,.int _ _,.int _ y=>some (decide (y=y))
 | .rem,.int _ _,.int _ y=>some (decide (y=y))
 | .add,.string x,.string y=>some (arE (x.size+y.size) (x.size+y.size))
 |_,_,_=>none
def Nn:Dy->Nat
 | .pointer (some ⟨_,off,_⟩)=>off
 |_=>0
def isClosed(n:Nat):Bool:=arE n n
def wg:Dy->Bool
 | .int _ z=>decide (z=z)
 |_=>true
def No:Dy->Bool
 | .slice _ n c=>arE n n&&arE c c
 |_=>true
def YF(g:Nat->Option ak):Dy->Bool
 | .slice (some ⟨b,off,_⟩) len _=>match g b with
  |some (.cells c _ _)=>((cut c off len).bind bytesOf).isSome
  |_=>true
 |_=>true
def Gp(op:awv)(a b:Dy):Option (Nat×Bool):=match op,a,b with
 | .eql,.slice (some _) _ c,.slice none 0 0=>some (c,false)
 | .neq,.slice (some _) _ c,.slice none 0 0=>some (c,true)
 |_,_,_=>none
def Gq(t:KS)(c:Nat)(r:Bool):EO:=match P.underlying t with
 |some (.slice _)=>eQ (arF 0 c) (lC (.bool r) [])
 |_=>.fail
theorem YG{op:awv}{t:KS}{x y:asW}{a b:Dy}{c:Nat}{r:Bool}{out:bo}{l:List Nat}{g:Nat->Option ak}(hl:Gp op a b=some (c,r))(h:(Gq P t c r).Has (out,l)):
 (tQ P op t x y a b).run g=some (out,l):=by
 unfold Gq at h
 split at h
 ·rename_i el ht
  obtain⟨hc,h⟩:=eU h
  obtain⟨rfl,rfl⟩:=lP h
  unfold Gp at hl
  split at hl
  ·cases hl
   unfold tQ
   have:fl (.slice (some ‹Addr›) ‹Nat› c)=false:=rfl
   rw[this]
   simp only[au8,vG,ht,z8,hc]
   rfl
  ·cases hl
   unfold tQ
   have:fl (.slice (some ‹Addr›) ‹Nat› c)=false:=rfl
   rw[this]
   simp only[au8,vG,ht,z8,hc]
   rfl
  ·cases hl
 ·cases h
def Np(g:Nat->Option ak)(v:Dy):Bool:=match v with
 | .pointer (some ⟨b,off,none⟩)=>match g b with
  |some (.cells c _ _)=>match c[off]?with
   |some _=>true
   |none=>true
  |_=>true
 |_=>true
def Gr(t:Fr)(S:VS)(o:ast):EO:=match o.op with
 | .pick c a b=>Gb (bU t c) (bU t a) (bU t b)
 | .load ty a=>.fW (isClosed (Nn (bU t a))&&Np (gt S.mem) (bU t a)) (DT.gD ((ev P (bU t) S.next o).run (gt S.mem))) (match oZ P ty with
  |some true=>F5 P (gt S.mem) ty (bU t a)
  |_=>F1 P (gt S.mem) ty (bU t a))
 | .store ty a x=>.fW (isClosed (Nn (bU t a))&&Np (gt S.mem) (bU t a)) (DT.gD ((ev P (bU t) S.next o).run (gt S.mem))) (match rowOf P (gt S.mem) ty (bU t a)with
  |true=>F7 P (gt S.mem) ty (bU t a) (bU t x)
  |false=>F8 P (gt S.mem) ty (bU t a) (bU t x))
 | .index ty x i=>match bU t x with
  | .string s=>.fW (wg (bU t i)&&arE s.size s.size) (DT.gD ((ev P (bU t) S.next o).run (gt S.mem))) (Gj P ty (bU t x) (bU t i))
  |_=>DT.gD ((ev P (bU t) S.next o).run (gt S.mem))
 | .binOp op ty x y _=>match YE op (bU t x) (bU t y)with
  |some p=>.fW p (DT.gD ((ev P (bU t) S.next o).run (gt S.mem))) (Gg op (bU t x) (bU t y))
  |none=>match Gp op (bU t x) (bU t y)with
   |some (c,r)=>.fW (isClosed c) (DT.gD ((ev P (bU t) S.next o).run (gt S.mem))) (Gq P ty c r)
   |none=>DT.gD ((ev P (bU t) S.next o).run (gt S.mem))
 | .indexAddr ty x i=>.fW (wg (bU t i)&&No (bU t x)) (DT.gD ((ev P (bU t) S.next o).run (gt S.mem))) (FZ P ty (bU t x) (bU t i))
 | .convert src dst x=>.fW (YF (gt S.mem) (bU t x)) (DT.gD ((ev P (bU t) S.next o).run (gt S.mem))) (F9 P (gt S.mem) src dst (bU t x))
 | .slice ty x lo hi mx=>match bU t x with
  | .string s=>.fW (arE s.size s.size&&(lo.map (bU t)).all wg&&(hi.map (bU t)).all wg) (DT.gD ((ev P (bU t) S.next o).run (gt S.mem))) (Gk P ty (bU t x) (lo.map (bU t)) (hi.map (bU t)) (mx.map (bU t)))
  |_=>.fW (No (bU t x)&&(lo.map (bU t)).all wg&&(hi.map (bU t)).all wg) (DT.gD ((ev P (bU t) S.next o).run (gt S.mem))) (Ga P (gt S.mem) ty (bU t x) (lo.map (bU t)) (hi.map (bU t)) (mx.map (bU t)))
 | .mapUpdate ty m k x=>.fW (Nl (gt S.mem) (bU t m)) (DT.gD ((ev P (bU t) S.next o).run (gt S.mem))) (Gm P (gt S.mem) ty (bU t m) (bU t k) (bU t x))
 | .call c=>.fW (YD (bU t) c&&YC (gt S.mem) (bU t) c) (DT.gD ((ev P (bU t) S.next o).run (gt S.mem))) (gG P (bU t) (gt S.mem) c S.next)
 |_=>DT.gD ((ev P (bU t) S.next o).run (gt S.mem))
theorem YH{e:asW->Dy}{g:Nat->Option ak}{c:Call}{ty:KS}{n:Nat}{out:bo}{l:List Nat}(h:(gG P e g c n).Has (out,l)):(sj P c e ty n).run g=some (out,l):=by
 unfold gG at h
 split at h
 ·rename_i hc
  have:=Yu P h
  unfold sj
  rw[hc]
  exact this
 ·rename_i hc
  have:=Yz P h
  unfold sj
  rw[hc]
  exact this
 ·rename_i hc
  have:=YB P h
  unfold sj
  rw[hc]
  exact this
 ·cases h
theorem YI{t:Fr}{S:VS}{o:ast}{out:bo}{l:List Nat}(h:(Gr P t S o).Has (out,l)):(ev P (bU t) S.next o).run (gt S.mem)=some (out,l):=by
 unfold Gr at h
 obtain⟨dst,op,type,pos,after,guard⟩:=o
 dsimp only at h
 split at h
 ·exact Yq h
 ·rcases DT.oM h with h|h
  ·exact DT.iB h
  ·split at h
   ·exact Yh P h
   ·exact Yf P h
 ·rcases DT.oM h with h|h
  ·exact DT.iB h
  ·split at h
   ·exact Yj P h
   ·exact Ym P h
 ·split at h
  ·rcases DT.oM h with h|h
   ·exact DT.iB h
   ·exact Yw P h
  ·exact DT.iB h
 ·split at h
  ·rcases DT.oM h with h|h
   ·exact DT.iB h
   ·exact Yv P h
  ·split at h
   ·rename_i wh
    rcases DT.oM h with h|h
    ·exact DT.iB h
    ·exact YG P wh h
   ·exact DT.iB h
 ·rcases DT.oM h with h|h
  ·exact DT.iB h
  ·exact Yd P h
 ·rcases DT.oM h with h|h
  ·exact DT.iB h
  ·exact Yo P h
 ·split at h
  ·rcases DT.oM h with h|h
   ·exact DT.iB h
   ·exact Yx P h
  ·rcases DT.oM h with h|h
   ·exact DT.iB h
   ·exact Yp P h
 ·rcases DT.oM h with h|h
  ·exact DT.iB h
  ·exact YA P h
 ·rcases DT.oM h with h|h
  ·exact DT.iB h
  ·exact YH P h
 ·exact DT.iB h
def Bh(t:Fr)(S:VS)(o:ast):DT (kM×VS):=match mn P t S o with
 |some V=>match o.op.operands.toList.all pU,V.i with
  |true,.int _ z=>eQ (decide (0<=z)) (eQ (arF z.toNat V.n) (eQ (arF z.toNat V.len) (DT.gD (xS S V.b V.el (V.row z.toNat)))))
  |_,_=>.fail
 |none=>match o.op.operands.toList.all pU with
  |false=>.fail
  |true=>(Gr P t S o).bind λp=>DT.gD (Ae S p.2 p.1)
theorem Nq{t:Fr}{S:VS}{o:ast}{r:kM×VS}(h:(Bh P t S o).Has r):jZ P t S o=some r:=by
 unfold Bh at h
 unfold jZ
 split at h
 ·rename_i V hV
  rw[hV]
  dsimp only
  split at h
  ·rename_i ik z dh hi
   obtain⟨h1,h⟩:=eU h
   obtain⟨h2,h⟩:=eU h
   obtain⟨h3,h⟩:=eU h
   rw[dh,hi,Bb h1]
   dsimp only
   rw[h2,h3]
   exact DT.iB h
  ·cases h
 ·rename_i hV
  rw[hV]
  dsimp only
  unfold oD
  split at h
  ·cases h
  ·rename_i dh
   obtain⟨p,h1,h2⟩:=DT.fN h
   obtain⟨out,l⟩:=p
   have:=YI P h1
   simp only[dh,this]
   exact DT.iB h2
abbrev fX:=arY->List Dy->VS->DT (bD×VS)
def Gs{α:Type}(ops:List ast)(o:ast)(t:Fr)(k:Bool->DT α):DT α:=match o.guard with
 |none=>k true
 |some (j,want)=>match(ops[j]?).bind (·.dst)with
  |some d=>match t.at d with
   | .bool b=>.ask b λb=>match b,want with
    |true,true=>k true
    |false,false=>k true
    |_,_=>k false
   |_=>k false
  |none=>k false
theorem YJ{α:Type}{ops:List ast}{o:ast}{t:Fr}{k:Bool->DT α}{a:α}(h:(Gs ops o t k).Has a):(k (asZ o (mo ops t))).Has a:=by
 unfold Gs at h
 unfold asZ mo
 split at h
 ·rename_i hg;simp only[hg];exact h
 ·rename_i j want hg
  simp only[hg]
  split at h
  ·rename_i d hd
   simp only[hd]
   split at h
   ·rename_i b hb
    have h:=DT.pv h
    simp only[hb]
    cases b<;>cases want<;>exact h
   ·rename_i br
    cases hv:t.at d with
    |bool b=>exact absurd hv (br b)
    |_=>simpa using h
  ·rename_i hd
   simp only[hd]
   simpa using h
def Bi(call:fX)(ops:List ast)(o:ast)(t:Fr)(S:VS):DT (Option Dy×Fr×VS):=
 Gs ops o t λw=>match w with
  |false=>DT.gD ((put t o.dst undef).map λt1=>(none,t1,S))
  |true=>(Bh P t S o).bind λp=>match p.1 with
   | .val v=>DT.gD ((put t o.dst v).map λt1=>(none,t1,p.2))
   | .skip=>DT.gD ((put t o.dst undef).map λt1=>(none,t1,p.2))
   | .panic v=>.done (some v,t,p.2)
   | .defer _=>.fail
   | .enter f args=>(call f args p.2).bind λq=>match q.1 with
    | .ret v=>DT.gD ((put t o.dst v).map λt1=>(none,t1,q.2))
    | .panic v=>.done (some v,t,q.2)
theorem Nr{gG:fX}{call:cQ}(hc:∀f args S r,(gG f args S).Has r->call f args S=some r){ops:List ast}{o:ast}{t:Fr}{S:VS}{r:Option Dy×Fr×VS}
 (h:(Bi P gG ops o t S).Has r):ll P call ops o t S=some r:=by
 unfold Bi at h
 have h:=YJ h
 unfold ll
 cases hw:asZ o (mo ops t)with
 |false=>rw[hw]at h;exact DT.iB h
 |true=>
  rw[hw]at h
  dsimp only at h⊢
  obtain⟨p,h1,h2⟩:=DT.fN h
  obtain⟨r1,S1⟩:=p
  rw[Nq P h1]
  dsimp only at h2⊢
  cases r1 with
  |val v=>exact DT.iB h2
  |skip=>exact DT.iB h2
  |panic v=>rw[DT.cG h2]
  |defer d=>cases h2
  |enter f args=>
   dsimp only at h2⊢
   obtain⟨q,h3,h4⟩:=DT.fN h2
   obtain⟨cr,S2⟩:=q
   rw[hc _ _ _ _ h3]
   cases cr with
   |ret v=>exact DT.iB h4
   |panic v=>rw[DT.cG h4]
def yF(call:fX)(df:Bool)(ops:List ast):List ast->Fr->VS->DT (bf×Fr×VS)
 | [],t,S=>.done (.normal,t,S)
 |o::rest,t,S=>match xU o with
  |some c=>match df with
   |true=>match Af P t o c with
    |some t1=>yF call df ops rest t1 S
    |none=>.fail
   |false=>.fail
  |none=>(Bi P call ops o t S).bind λp=>match p.1 with
   |some v=>.done (.panic v,p.2.1,p.2.2)
   |none=>yF call df ops rest p.2.1 p.2.2
theorem Gt{gG:fX}{call:cQ}(hc:∀f args S r,(gG f args S).Has r->call f args S=some r){df:Bool}{ops:List ast}:∀{rest:List ast} {t:Fr} {S:VS} {r:bf×Fr×VS},
 (yF P gG df ops rest t S).Has r->opsV P call df ops rest t S=some r
 | [],t,S,r,h=>by rw[DT.cG h];rfl
 |o::rest,t,S,r,h=>by
  unfold yF at h
  unfold opsV
  split at h
  ·rename_i c hd
   rw[hd]
   dsimp only
   split at h
   ·split at h
    ·rename_i t1 FI
     rw[FI]
     exact Gt hc h
    ·cases h
   ·cases h
  ·rename_i hd
   rw[hd]
   dsimp only
   obtain⟨p,h1,h2⟩:=DT.fN h
   obtain⟨ov,t1,S1⟩:=p
   rw[Nr P hc h1]
   cases ov with
   |some v=>rw[DT.cG h2]
   |none=>exact Gt hc h2
def Bj(call:fX)(ops:List ast):List ast->Fr->VS->DT (Fr×VS×List Fp)
 | [],t,S=>.done (t,S,[])
 |o::rest,t,S=>(Bi P call ops o t {S with rd:=[],wr:=[]}).bind λp=>match p.1 with
  |some _=>.fail
  |none=>(Bj call ops rest p.2.1 {p.2.2 with rd:=p.2.2.rd++S.rd,wr:=p.2.2.wr++S.wr}).bind λq=>.done (q.1,q.2.1,⟨p.2.2.rd,p.2.2.wr⟩::q.2.2)
theorem Ns{gG:fX}{call:cQ}(hc:∀f args S r,(gG f args S).Has r->call f args S=some r){ops:List ast}:∀{rest:List ast} {t:Fr} {S:VS} {r:Fr×VS×List Fp},
 (Bj P gG ops rest t S).Has r->ln P call ops rest t S=some r
 | [],t,S,r,h=>by rw[DT.cG h];rfl
 |o::rest,t,S,r,h=>by
  unfold Bj at h
  obtain⟨p,h1,h2⟩:=DT.fN h
  obtain⟨ov,t1,S1⟩:=p
  unfold ln
  rw[Nr P hc h1]
  cases ov with
  |some v=>cases h2
  |none=>
   dsimp only at h2⊢
   obtain⟨q,h3,h4⟩:=DT.fN h2
   obtain⟨t2,S2,gS⟩:=q
   rw[Ns hc h3,DT.cG h4]
def Bk(f:Fr->VS->DT (bf×Fr×VS)):Nat->Fr->VS->DT (bf×Fr×VS)
 |0,_,_=>.fail
 |k+1,t,S=>(f t S).bind λp=>match p.1 with
  | .normal=>Bk f k p.2.1 p.2.2
  |_=>.done p
theorem Nt{f:Fr->VS->DT (bf×Fr×VS)}{f':Fr->VS->Option (bf×Fr×VS)}(hf:∀t S r,(f t S).Has r->f' t S=some r):∀{k:Nat} {t:Fr} {S:VS} {r:bf×Fr×VS},
 (Bk f k t S).Has r->iter f' k t S=some r
 |0,t,S,r,h=>by cases h
 |k+1,t,S,r,h=>by
  unfold Bk at h
  obtain⟨p,h1,h2⟩:=DT.fN h
  obtain⟨e,t1,S1⟩:=p
  unfold iter
  rw[hf _ _ _ h1]
  cases e with
  |normal=>exact Nt hf h2
  |exit id=>rw[DT.cG h2]
  |ret=>rw[DT.cG h2]
  |panic v=>rw[DT.cG h2]
def jR(call:fX)(lf:Nat)(df:Bool):ar3->Fr->VS->DT (bf×Fr×VS)
 | .skip,t,S=>.done (.normal,t,S)
 | .region _ ops false,t,S=>yF P call df ops.toList ops.toList t S
 | .region _ ops true,t,S=>(Bj P call ops.toList ops.toList t S).bind λq=>match tS ops q.2.2 with
  |true=>.done (.normal,q.1,q.2.1)
  |false=>.fail
 | .seq a b,t,S=>(jR call lf df a t S).bind λp=>match p.1 with
  | .normal=>jR call lf df b p.2.1 p.2.2
  |_=>.done p
 | .cond c a b,t,S=>match bU t c with
  | .bool d=>.ask d λd=>match d with
   |true=>jR call lf df a t S
   |false=>jR call lf df b t S
  |_=>.fail
 | .block id c,t,S=>(jR call lf df c t S).bind λp=>match p.1 with
  | .exit j=>match arE j id with
   |true=>.done (.normal,p.2.1,p.2.2)
   |false=>.done p
  |_=>.done p
 | .loop c,t,S=>Bk (jR call lf df c) lf t S
 | .exit id,t,S=>.done (.exit id,t,S)
 | .ret,t,S=>.done (.ret,t,S)
 | .scope c,t,S=>jR call lf df c t S
 | .label _,t,S=>.done (.normal,t,S)
 |_,_,_=>.fail
theorem Bl{gG:fX}{call:cQ}(hc:∀f args S r,(gG f args S).Has r->call f args S=some r)(lf:Nat){df:Bool}:∀{c:ar3} {t:Fr} {S:VS} {r:bf×Fr×VS},
 (jR P gG lf df c t S).Has r->dz P call lf df c t S=some r:=by
 intro c
 induction c with
 |skip=>intro t S r h;rw[DT.cG h];rfl
 |region id ops draw=>
  intro t S r h
  cases draw with
  |false=>exact Gt P hc h
  |true=>
   simp only[jR]at h
   obtain⟨q,h1,h2⟩:=DT.fN h
   obtain⟨t1,S1,gS⟩:=q
   simp only[dz]
   rw[Ns P hc h1]
   dsimp only at h2⊢
   split at h2
   ·rename_i hk;rw[DT.cG h2,hk]
   ·cases h2
 |seq a b jm lO=>
  intro t S r h
  simp only[jR]at h
  obtain⟨p,h1,h2⟩:=DT.fN h
  obtain⟨e,t1,S1⟩:=p
  simp only[dz]
  rw[jm h1]
  cases e with
  |normal=>exact lO h2
  |exit id=>rw[DT.cG h2]
  |ret=>rw[DT.cG h2]
  |panic v=>rw[DT.cG h2]
 |cond c a b jm lO=>
  intro t S r h
  simp only[jR]at h
  simp only[dz]
  split at h
  ·rename_i d hd
   have h:=DT.pv h
   rw[hd]
   cases d with
   |true=>exact jm h
   |false=>exact lO h
  ·cases h
 |block id c ih=>
  intro t S r h
  simp only[jR]at h
  obtain⟨p,h1,h2⟩:=DT.fN h
  obtain⟨e,t1,S1⟩:=p
  simp only[dz]
  rw[ih h1]
  cases e with
  |normal=>rw[DT.cG h2]
  |exit j=>
   dsimp only at h2⊢
   split at h2
   ·rename_i hj;rw[DT.cG h2,hj]
   ·rename_i hj;rw[DT.cG h2,hj]
  |ret=>rw[DT.cG h2]
  |panic v=>rw[DT.cG h2]
 |loop c ih=>
  intro t S r h
  simp only[jR]at h
  exact Nt (λt S r h=>ih h) h
 |exit id=>intro t S r h;rw[DT.cG h];rfl
 |ret=>intro t S r h;rw[DT.cG h];rfl
 |scope c ih=>intro t S r h;simp only[jR]at h;exact ih h
 |label l=>intro t S r h;rw[DT.cG h];rfl
 |_=>intro t S r h;simp[jR]at h;cases h
def Bm:List ast->Fr->VS->DT (Fr×VS)
 | [],t,S=>.done (t,S)
 |o::rest,t,S=>match o.guard with
  |some _=>.fail
  |none=>(Bh P t S o).bind λp=>match p.1 with
   | .val v=>(DT.gD (put t o.dst v)).bind λt1=>Bm rest t1 p.2
   |_=>.fail
theorem Nu:∀{rest:List ast} {t:Fr} {S:VS} {r:Fr×VS},(Bm P rest t S).Has r->pZ P rest t S=some r
 | [],t,S,r,h=>by rw[DT.cG h];rfl
 |o::rest,t,S,r,h=>by
  unfold Bm at h
  unfold pZ
  split at h
  ·cases h
  ·rename_i hg
   rw[hg]
   dsimp only
   obtain⟨p,h1,h2⟩:=DT.fN h
   obtain⟨v,S1⟩:=p
   rw[Nq P h1]
   cases v with
   |val v=>
    obtain⟨t1,h3,h4⟩:=DT.fN h2
    dsimp only
    rw[DT.iB h3]
    exact Nu h4
   |_=>cases h2
def uu(call:fX)(lf:Nat)(md:Md):ar3->Fr->VS->DT (Md×bf×Fr×VS)
 | .seq a b,t,S=>(uu call lf md a t S).bind λp=>match p.2.1 with
  | .normal=>(jR P call lf false b p.2.2.1 p.2.2.2).bind λq=>.done (p.1,q.1,q.2.1,q.2.2)
  |_=>.done p
 | .region id ops false,t,S=>match ops.toList with
  |o::rest=>match Ev o with
   |true=>(DT.gD (put t o.dst (Lq md))).bind λt1=>(Bm P rest t1 S).bind λq=>.done (.ret,.normal,q.1,q.2)
   |false=>(jR P call lf false (.region id ops false) t S).bind λq=>.done (md,q.1,q.2.1,q.2.2)
  | []=>.fail
 |c,t,S=>(jR P call lf false c t S).bind λq=>.done (md,q.1,q.2.1,q.2.2)
theorem YK{gG:fX}{call:cQ}(hc:∀f args S r,(gG f args S).Has r->call f args S=some r){lf:Nat}{md:Md}:∀{c:ar3} {t:Fr} {S:VS} {r:Md×bf×Fr×VS},
 (uu P gG lf md c t S).Has r->kN P call lf md c t S=some r:=by
 intro c
 have pt:∀{c:ar3} {t:Fr} {S:VS} {r:Md×bf×Fr×VS},((jR P gG lf false c t S).bind λq=>DT.done (md,q.1,q.2.1,q.2.2)).Has r->(dz P call lf false c t S).map (λr=>(md,r))=some r:=by
  intro c t S r h
  obtain⟨q,h1,h2⟩:=DT.fN h
  rw[Bl P hc lf h1,DT.cG h2]
  rfl
 induction c with
 |seq a b jm lO=>
  intro t S r h
  unfold uu at h
  unfold kN
  obtain⟨p,h1,h2⟩:=DT.fN h
  obtain⟨fU,e,t1,S1⟩:=p
  rw[jm h1]
  cases e with
  |normal=>
   obtain⟨q,h3,h4⟩:=DT.fN h2
   dsimp only
   rw[Bl P hc lf h3,DT.cG h4]
   rfl
  |exit id=>rw[DT.cG h2]
  |ret=>rw[DT.cG h2]
  |panic v=>rw[DT.cG h2]
 |region id ops draw=>
  intro t S r h
  cases draw with
  |true=>unfold uu at h;unfold kN;exact pt h
  |false=>
   unfold uu at h
   unfold kN
   split at h
   ·rename_i o rest nf
    rw[nf]
    dsimp only
    split at h
    ·rename_i my
     rw[my]
     dsimp only
     obtain⟨t1,h1,h2⟩:=DT.fN h
     obtain⟨q,h3,h4⟩:=DT.fN h2
     rw[DT.iB h1]
     dsimp only
     rw[Nu P h3,DT.cG h4]
    ·rename_i my
     rw[my]
     dsimp only
     exact pt h
   ·cases h
 |_=>intro t S r h;unfold uu at h;unfold kN;exact pt h
def Gu(call:fX)(lf:Nat)(md:Md)(k:arY)(args:List Dy)(S:VS):DT (Md×VS):=match P.funcs[k]?with
 |none=>.fail
 |some fn=>match fn.body with
  |none=>.fail
  |some c=>match Fr.of args fn.ntmps with
   |none=>.fail
   |some t0=>(uu P call lf md c t0 S).bind λp=>match p.2.1,p.2.2.1.ds,p.2.2.1.base with
    | .normal,[],[]=>(DT.gD (o8 P p.2.2.1 fn p.2.2.2)).bind λq=>.done (p.1,q.2)
    | .ret,[],[]=>(DT.gD (o8 P p.2.2.1 fn p.2.2.2)).bind λq=>.done (p.1,q.2)
    |_,_,_=>.fail
theorem YL{gG:fX}{call:cQ}(hc:∀f args S r,(gG f args S).Has r->call f args S=some r){lf:Nat}{md:Md}{k:arY}{args:List Dy}{S:VS}{r:Md×VS}
 (h:(Gu P gG lf md k args S).Has r):tT P call lf md k args S=some r:=by
 unfold Gu at h
 unfold tT
 split at h
 ·cases h
 ·rename_i fn hJ
  rw[hJ]
  dsimp only
  split at h
  ·cases h
  ·rename_i c hb
   rw[hb]
   dsimp only
   split at h
   ·cases h
   ·rename_i t0 mz
    rw[mz]
    dsimp only
    obtain⟨p,h1,h2⟩:=DT.fN h
    obtain⟨fU,e,t1,S1⟩:=p
    rw[YK P hc h1]
    dsimp only at h2⊢
    split at h2
    ·rename_i h3 h4
     obtain⟨q,h5,h6⟩:=DT.fN h2
     rw[h3,h4]
     dsimp only
     rw[DT.iB h5,DT.cG h6]
    ·rename_i h3 h4
     obtain⟨q,h5,h6⟩:=DT.fN h2
     rw[h3,h4]
     dsimp only
     rw[DT.iB h5,DT.cG h6]
    ·cases h2
def Bn(call:fX)(lf:Nat):List (arY×List Dy)->Md->VS->DT (Md×VS)
 | [],md,S=>.done (md,S)
 |(k,args)::l,md,S=>(Gu P call lf md k args S).bind λp=>Bn call lf l p.1 p.2
theorem Nv{gG:fX}{call:cQ}(hc:∀f args S r,(gG f args S).Has r->call f args S=some r){lf:Nat}:∀{ds:List (arY×List Dy)} {md:Md} {S:VS} {r:Md×VS},
 (Bn P gG lf ds md S).Has r->o9 P call lf ds md S=some r
 | [],md,S,r,h=>by rw[DT.cG h];rfl
 |(k,args)::l,md,S,r,h=>by
  unfold Bn at h
  obtain⟨p,h1,h2⟩:=DT.fN h
  unfold o9
  rw[YL P hc h1]
  exact Nv hc h2
def yG(call:fX)(lf:Nat)(fn:Func)(md:Md)(t:Fr)(S:VS):DT (bD×VS):=match t.base with
 | []=>(Bn P call lf t.ds md S).bind λp=>match p.1 with
  | .ret=>DT.gD (o8 P t fn p.2)
  | .nI v=>.done (.panic v,p.2)
 |_=>.fail
theorem Gv{gG:fX}{call:cQ}(hc:∀f args S r,(gG f args S).Has r->call f args S=some r){lf:Nat}{fn:Func}{md:Md}{t:Fr}{S:VS}{r:bD×VS}
 (h:(yG P gG lf fn md t S).Has r):p8 P call lf fn md t S=some r:=by
 unfold yG at h
 unfold p8
 split at h
 ·rename_i hb
  rw[hb]
  dsimp only
  obtain⟨p,h1,h2⟩:=DT.fN h
  obtain⟨fU,S1⟩:=p
  rw[Nv P hc h1]
  cases fU with
  |ret=>exact DT.iB h2
  |nI v=>rw[DT.cG h2]
 ·cases h
def sM(nV:fX->fX)(lf:Nat):Nat->fX
 |0,_,_,_=>.fail
 |d+1,f,args,S=>match P.funcs[f]?with
  |none=>.fail
  |some fn=>match fn.body with
   |none=>.fail
   |some c=>match Fr.of args fn.ntmps with
    |none=>.fail
    |some t0=>(jR P (nV (sM nV lf d)) lf true c t0 S).bind λp=>match p.1 with
     | .normal=>yG P (nV (sM nV lf d)) lf fn .ret p.2.1 p.2.2
     | .ret=>yG P (nV (sM nV lf d)) lf fn .ret p.2.1 p.2.2
     | .panic v=>yG P (nV (sM nV lf d)) lf fn (.nI v) p.2.1 p.2.2
     |_=>.fail
theorem Gw{nV:fX->fX}{sp:cQ->cQ}(cZ:∀(c:fX) (c':cQ),(∀f args S r,(c f args S).Has r->c' f args S=some r)->∀f args S r,(nV c f args S).Has r->sp c' f args S=some r)(lf:Nat):
 ∀{d:Nat} {f:arY} {args:List Dy} {S:VS} {r:bD×VS},(sM P nV lf d f args S).Has r->m9 P sp lf d f args S=some r
 |0,f,args,S,r,h=>by cases h
 |d+1,f,args,S,r,h=>by
  unfold sM at h
  unfold m9
  split at h
  ·cases h
  ·rename_i fn hJ
   split at h
   ·cases h
   ·rename_i c hb
    split at h
    ·cases h
    ·rename_i t0 mz
     obtain⟨p,h1,h2⟩:=DT.fN h
     obtain⟨e,t1,S1⟩:=p
     have:=Bl P (cZ _ _ λf args S r h=>Gw cZ lf h) lf h1
     rw[hJ]
     dsimp only
     rw[hb]
     dsimp only
     rw[mz]
     dsimp only
     rw[this]
     have jQ:∀f args S r,(nV (sM P nV lf d) f args S).Has r->sp (m9 P sp lf d) f args S=some r:=cZ _ _ λf args S r h=>Gw cZ lf h
     cases e with
     |normal=>exact Gv P jQ h2
     |ret=>exact Gv P jQ h2
     |panic v=>exact Gv P jQ h2
     |exit id=>cases h2
end
end Go.Proofs.YtnlkkgpcikkpoaaGreat.Vm
namespace Go.Proofs.YtnlkkgpcikkpoaaGreat.Vm
open Go.RowKit
def Gx(p:Nat×Nat):Nat×Nat:=if p.1=0 then(p.2+1,0)else(p.1-1,p.2+1)
def nW:Nat->Nat×Nat
 |0=>(0,0)
 |n+1=>Gx (nW n)
theorem Gy:∀(s b:Nat),b<=s->∃n,nW n=(s-b,b)
 |0,0,_=>⟨0,rfl⟩
 |s+1,0,_=>by
  obtain⟨n,h⟩:=Gy s s (arO s)
  exact⟨n+1,by simp[nW,h,Gx]⟩
 |s,b+1,hb=>by
  obtain⟨n,h⟩:=Gy s b (by omega)
  have h1:s-b≠0:=by omega
  exact⟨n+1,by simp[nW,h,Gx,h1];omega⟩
termination_by s b=>(s,b)
theorem Gz(a b:Nat):∃n,nW n=(a,b):=by
 obtain⟨n,h⟩:=Gy (a+b) b (by omega)
 exact⟨n,by rw[h];congr 1;omega⟩
def wj(n:Nat):bV:=⟨(nW (nW n).1).1,(nW (nW n).1).2,(nW (nW n).2).1,(nW (nW n).2).2⟩
theorem Nw(r:bV):∃n,wj n=r:=by
 obtain⟨a,ha⟩:=Gz r.aH r.sh
 obtain⟨b,hb⟩:=Gz r.sz r.dJ
 obtain⟨n,hn⟩:=Gz a b
 exact⟨n,by simp[wj,hn,ha,hb]⟩
theorem Bo(n:Nat):small (n+262144)=false:=by
 cases hs:small (n+262144)with
 |false=>rfl
 |true=>have:=ij.1 hs;omega
def Full(ρ:Ren):Prop:=∀r:bV,∃y,small y=false/\ρ y=some r
theorem yH{ρ ρ':Ren}:∀{l l':List Dy},l.length=l'.length->(∀(i:Nat) (v v':Dy),l[i]?=some v->l'[i]?=some v'->∃u,VR ρ' u v')->
 ∃lu:List Dy,LR ρ' lu l'
 | [],[],_,_=>⟨[],LR.nil _⟩
 |v::l,v'::l',hl,h=>by
  obtain⟨u,hu⟩:=h 0 v v' rfl rfl
  obtain⟨lu,x7⟩:=yH (ρ:=ρ) (ρ':=ρ') (l:=l) (l':=l') (by simpa using hl) λi a b ha hb=>h (i+1) a b (by simpa using ha) (by simpa using hb)
  exact⟨u::lu,LR.cons hu x7⟩
 | [],_::_,hl,_=>by simp at hl
 |_::_,[],hl,_=>by simp at hl
theorem VR.YM{ρ ρ':Ren}(hm:∀x r,ρ x=some r->∃y,ρ' y=some r){v v':Dy}(h:VR ρ v v'):∃u,VR ρ' u v':=by
 induction h with
 |bN v h=>exact⟨v,.bN v h⟩
 |ptr b off r h=>obtain⟨y,hy⟩:=hm b r h;exact⟨_,.ptr y off r hy⟩
 |sl b off len cap bH r h hc=>obtain⟨y,hy⟩:=hm b r h;exact⟨_,.sl y off len cap bH r hy hc⟩
 |eJ a a'=>exact⟨_,.eJ a a'⟩
 |na b off t=>exact⟨_,.na b off t⟩
 |nJ b off t len cap=>exact⟨_,.nJ b off t len cap⟩
 |map b r h=>obtain⟨y,hy⟩:=hm b r h;exact⟨_,.map y r hy⟩
 |func fn f f' c c' h h1 h2 h3 h4 EA EB=>
  obtain⟨lf,hf⟩:=yH (ρ:=ρ) h1 EA
  obtain⟨lc,hc⟩:=yH (ρ:=ρ) h3 EB
  exact⟨.func fn lf.toArray lc.toArray,.func fn _ _ _ _ h (by simpa using hf.len) (by simpa using hf.at_) (by simpa using hc.len) (by simpa using hc.at_)⟩
 |iface t v v' h ih=>obtain⟨u,hu⟩:=ih;exact⟨.iface t u,.iface t u v' hu⟩
 |agg c c' h1 h2 ih=>obtain⟨lu,hu⟩:=yH (ρ:=ρ) h1 ih;exact⟨.agg lu.toArray,VR.xX (by simpa using hu)⟩
 |tuple c c' h1 h2 ih=>obtain⟨lu,hu⟩:=yH (ρ:=ρ) h1 ih;exact⟨.tuple lu.toArray,VR.EC (by simpa using hu)⟩
theorem VR.full{ρ ρ':Ren}(hf:Full ρ'){v v':Dy}(h:VR ρ v v'):∃u,VR ρ' u v':=h.YM λx r _=>let⟨y,_,hy⟩:=hf r;⟨y,hy⟩
def fh:List Nat->Nat->Option Nat
 | [],_=>none
 |y::l,x=>match arE y x with
  |true=>some 0
  |false=>match fh l x with
   |some i=>some (i+1)
   |none=>none
theorem Bp:∀{σ:List Nat} {x i:Nat},fh σ x=some i->σ[i]?=some x
 | [],x,i,h=>by cases h
 |y::l,x,i,h=>by
  unfold fh at h
  split at h
  ·rename_i hb
   cases h
   simp[arJ hb]
  ·split at h
   ·rename_i j hj
    cases h
    simpa using Bp hj
   ·cases h
def nj(f:Dy->Option Dy):List Dy->Option (List Dy)
 | []=>some []
 |v::l=>match f v,nj f l with
  |some u,some r=>some (u::r)
  |_,_=>none
def iC(τ:Nat->Option Nat):Nat->Dy->Option Dy
 |_,.pointer (some ⟨b,off,none⟩)=>match τ b with
  |some i=>some (.pointer (some ⟨i,off,none⟩))
  |none=>none
 |_,.slice (some ⟨b,off,none⟩) len cap=>match τ b with
  |some i=>some (.slice (some ⟨i,off,none⟩) len cap)
  |none=>none
 |_,.map (some b)=>match τ b with
  |some i=>some (.map (some i))
  |none=>none
 |_,.pointer (some ⟨b,off,some t⟩)=>some (.pointer (some ⟨b,off,some t⟩))
 |_,.slice (some ⟨b,off,some t⟩) len cap=>some (.slice (some ⟨b,off,some t⟩) len cap)
 |d+1,.func fn f c=>match nj (iC τ d) f.toList,nj (iC τ d) c.toList with
  |some f',some c'=>some (.func fn f'.toArray c'.toArray)
  |_,_=>none
 |d+1,.iface t v=>match iC τ d v with
  |some u=>some (.iface t u)
  |none=>none
 |d+1,.agg c=>match nj (iC τ d) c.toList with
  |some c'=>some (.agg c'.toArray)
  |none=>none
 |d+1,.tuple c=>match nj (iC τ d) c.toList with
  |some c'=>some (.tuple c'.toArray)
  |none=>none
 |_,v=>match ag v with
  |true=>some v
  |false=>none
theorem uv{ρ ρ':Ren}{f:Dy->Option Dy}(hf:∀v u v',f v=some u->VR ρ v v'->VR ρ' u v'):∀{l r l':List Dy},nj f l=some r->LR ρ l l'->LR ρ' r l'
 | [],r,l',h,hl=>by cases h;rw[hl.kO];exact LR.nil _
 |v::l,r,l',h,hl=>by
  unfold nj at h
  split at h
  ·rename_i u q hu hq
   cases h
   obtain⟨v',l2,rfl,h1,h2⟩:=hl.gT
   exact LR.cons (hf v u v' hu h1) (uv hf hq h2)
  ·cases h
theorem rp{ρ ρ':Ren}{τ:Nat->Option Nat}(hσ:∀y i r,τ y=some i->ρ y=some r->ρ' i=some r):∀(d:Nat) (v u v':Dy),iC τ d v=some u->VR ρ v v'->VR ρ' u v':=by
 intro d
 induction d with
 |zero=>
  intro v u v' h hv
  unfold iC at h
  split at h
  ·rename_i b off
   split at h
   ·rename_i i hi
    cases h
    obtain⟨r,hr,rfl⟩:=hv.lp
    exact .ptr i off r (hσ _ _ _ hi hr)
   ·cases h
  ·rename_i b off len cap
   split at h
   ·rename_i i hi
    cases h
    cases hv with
    |bN _ h=>cases h
    |sl _ _ _ _ bH r hr hc=>exact .sl i off len cap bH r (hσ _ _ _ hi hr) hc
    |eJ _ a'=>exact .eJ _ _
   ·cases h
  ·rename_i b
   split at h
   ·rename_i i hi
    cases h
    obtain⟨r,hr,rfl⟩:=hv.qP
    exact .map i r (hσ _ _ _ hi hr)
   ·cases h
  ·rename_i b off t
   cases h
   cases hv with
   |bN _ h=>cases h
   |na=>exact .na _ _ _
  ·rename_i b off t len cap
   cases h
   cases hv with
   |bN _ h=>cases h
   |eJ _ a'=>exact .eJ _ _
   |nJ=>exact .nJ _ _ _ _ _
  ·omega
  ·omega
  ·omega
  ·omega
  ·split at h
   ·rename_i hs
    cases h
    rw[VR.su hs hv]
    exact .bN _ hs
   ·cases h
 |succ d ih=>
  intro v u v' h hv
  unfold iC at h
  split at h
  ·rename_i b off
   split at h
   ·rename_i i hi
    cases h
    obtain⟨r,hr,rfl⟩:=hv.lp
    exact .ptr i off r (hσ _ _ _ hi hr)
   ·cases h
  ·rename_i b off len cap
   split at h
   ·rename_i i hi
    cases h
    cases hv with
    |bN _ h=>cases h
    |sl _ _ _ _ bH r hr hc=>exact .sl i off len cap bH r (hσ _ _ _ hi hr) hc
    |eJ _ a'=>exact .eJ _ _
   ·cases h
  ·rename_i b
   split at h
   ·rename_i i hi
    cases h
    obtain⟨r,hr,rfl⟩:=hv.qP
    exact .map i r (hσ _ _ _ hi hr)
   ·cases h
  ·rename_i b off t
   cases h
   cases hv with
   |bN _ h=>cases h
   |na=>exact .na _ _ _
  ·rename_i b off t len cap
   cases h
   cases hv with
   |bN _ h=>cases h
   |eJ _ a'=>exact .eJ _ _
   |nJ=>exact .nJ _ _ _ _ _
  ·rename_i d' fn f c hd
   obtain rfl:=awl hd
   split at h
   ·rename_i f1 c1 h1 h2
    cases h
    cases hv with
    |bN _ h=>cases h
    |func _ _ f' _ c' hJ a1 a2 a3 a4=>
     have b1:=uv (λv u v'=>ih v u v') h1 (⟨a1,a2⟩:LR ρ f.toList f'.toList)
     have b2:=uv (λv u v'=>ih v u v') h2 (⟨a3,a4⟩:LR ρ c.toList c'.toList)
     exact .func _ _ _ _ _ hJ (by simpa using b1.len) (by simpa using b1.at_) (by simpa using b2.len) (by simpa using b2.at_)
   ·cases h
  ·rename_i hd
   obtain rfl:=awl hd
   split at h
   ·rename_i u1 h1
    cases h
    obtain⟨v1,rfl,h2⟩:=hv.xY
    exact .iface _ _ _ (ih _ _ _ h1 h2)
   ·cases h
  ·rename_i hd
   obtain rfl:=awl hd
   split at h
   ·rename_i c1 h1
    cases h
    obtain⟨c',rfl,h2⟩:=hv.ED
    exact .xX (by simpa using uv (λv u v'=>ih v u v') h1 h2)
   ·cases h
  ·rename_i hd
   obtain rfl:=awl hd
   split at h
   ·rename_i c1 h1
    cases h
    obtain⟨c',rfl,h2⟩:=hv.Lu
    exact .EC (by simpa using uv (λv u v'=>ih v u v') h1 h2)
   ·cases h
  ·split at h
   ·rename_i hs
    cases h
    rw[VR.su hs hv]
    exact .bN _ hs
   ·cases h
theorem uw{f:Dy->Option Dy}:∀{l r:List Dy},nj f l=some r->r.length=l.length
 | [],r,h=>by cases h;rfl
 |v::l,r,h=>by
  unfold nj at h
  split at h
  ·rename_i u q hu hq
   cases h
   simp[uw hq]
  ·cases h
def sN(σ:Nat->Option Nat):List arW->Option (List arW)
 | []=>some []
 |e::l=>match iC σ 6 e.key,iC σ 6 e.val,sN σ l with
  |some k,some v,some r=>some ({e with key:=k,val:=v}::r)
  |_,_,_=>none
def rq(τ:Nat->Option Nat):Dy->Bool
 | .pointer (some ⟨b,_,none⟩)=>match τ b with|some i=>arE i b|none=>false
 | .slice (some ⟨b,_,none⟩) _ _=>match τ b with|some i=>arE i b|none=>false
 | .pointer (some ⟨_,_,some _⟩)=>true
 | .slice (some ⟨_,_,some _⟩) _ _=>true
 |v=>ag v
theorem Nx{τ:Nat->Option Nat}{v:Dy}(h:rq τ v=true):iC τ 6 v=some v:=by
 unfold rq at h
 split at h
 ·split at h
  ·rename_i i hi
   have:=arJ h
   subst this
   simp only[iC,hi]
  ·cases h
 ·split at h
  ·rename_i i hi
   have:=arJ h
   subst this
   simp only[iC,hi]
  ·cases h
 ·simp only[iC]
 ·simp only[iC]
 ·unfold ag at h
  split at h<;>first|rfl|cases h
def eD(τ:Nat->Option Nat)(e:arW):Dy:=match rq τ e.key&&rq τ e.val with
 |true=>.bool true
 |false=>.tuple #[]
def bI(bs:List Nat)(es:List arW):List Dy:=es.map (eD (fh bs))
theorem GA{τ:Nat->Option Nat}:∀{es:List arW},(es.map (eD τ)).all ag=true->sN τ es=some es
 | [],_=>rfl
 |e::l,h=>by
  simp only[asn,List.all_cons,BV]at h
  have h1:(rq τ e.key&&rq τ e.val)=true:=by
   have:=h.1
   unfold eD at this
   split at this
   ·assumption
   ·cases this
  rw[BV]at h1
  unfold sN
  rw[Nx h1.1,Nx h1.2,GA h.2]
inductive ON(σ:Nat->Option Nat):ak->ak->Prop where
 |plain (c:List Dy) (el:KS) (ro:Bool) (h:c.all ag=true):ON σ (.cells c el ro) (.cells c el ro)
 |cells (c c':List Dy) (el:KS) (ro:Bool) (h:nj (iC σ 6) c=some c'):ON σ (.cells c el ro) (.cells c' el ro)
 |map (es db:List arW) (clock:Nat) (h:sN σ es=some db):ON σ (.map es clock) (.map db clock)
 |lK (s:ByteArray) (pos:Nat):ON σ (.lK s pos) (.lK s pos)
 |rows (n size:Nat) (row:Nat->List SV):ON σ (.rows n size row) (.rows n size row)
 |abs (d:mm):ON σ (.abs d) (.abs d)
 |dead (o:ak):ON σ o .dead
theorem Ny{ρ ρ':Ren}{σ:Nat->Option Nat}(hσ:∀y i r,σ y=some i->ρ y=some r->ρ' i=some r):∀{es rA:List arW} {db:List arW},sN σ es=some rA->es.length=db.length->
 (∀(i:Nat) (e e':arW),es[i]?=some e->db[i]?=some e'->nM ρ e e')->rA.length=db.length/\∀(i:Nat) (e e':arW),rA[i]?=some e->db[i]?=some e'->nM ρ' e e'
 | [],rA,db,h,hl,hr=>by cases h;exact⟨hl,λi e e' h=>by simp at h⟩
 |e::es,rA,[],h,hl,hr=>by simp at hl
 |e::es,rA,e'::db,h,hl,hr=>by
  unfold sN at h
  split at h
  ·rename_i k v r hk hv hq
   cases h
   obtain⟨h1,h2⟩:=Ny hσ hq (by simpa using hl) λi a b ha hb=>hr (i+1) a b (by simpa using ha) (by simpa using hb)
   have h0:=hr 0 e e' rfl rfl
   refine⟨by simp[h1],λi a b ha hb=>?_⟩
   cases i with
   |zero=>
    simp only[asf,DE]at ha hb
    subst ha hb
    exact⟨rp hσ _ _ _ _ hk h0.key,rp hσ _ _ _ _ hv h0.val,h0.born⟩
   |succ i=>exact h2 i a b (by simpa using ha) (by simpa using hb)
  ·cases h
theorem ON.or{P:arC}{ρ ρ':Ren}{σ:Nat->Option Nat}(hσ:∀y i r,σ y=some i->ρ y=some r->ρ' i=some r){ob o:ak}(h:ON σ ob o){r:bV}(hl:Live o r=true):(∀o',OR P ρ r ob o'->OR P ρ' r o o'):=by
 intro o' ho
 cases h with
 |plain c el ro hc=>
  cases ho with
  |cells _ _ cj _ c' fr hp hs he hz hf jQ=>
   refine .cells c el cj ro c' fr hp hs he hz hf λi v hv=>?_
   obtain⟨v',a,b⟩:=jQ i v hv
   have kq:=ar1.1 hc v (ar7 hv)
   have:=VR.su kq b
   subst this
   exact⟨_,a,.bN _ kq⟩
 |cells c c1 el ro hc=>
  cases ho with
  |cells _ _ cj _ c' fr hp hs he hz hf jQ=>
   have hlen:=uw hc
   refine .cells c1 el cj ro c' fr hp (by rw[hlen];exact hs) he hz hf ?_
   have GB:LR ρ c ((atX c.length).map λi=>(c'[r.sh+i]?).getD undef):=by
    refine⟨by simp,λi v v' hv gJ=>?_⟩
    obtain⟨v2,a,b⟩:=jQ i v hv
    have hi:i<c.length:=(KP.1 hv).1
    rw[asT,auS hi]at gJ
    simp only[asO,DE,a,ati]at gJ
    rw[<-gJ]
    exact b
   have h2:=uv (rp hσ 6) hc GB
   intro i v hv
   obtain⟨v',b1,b2⟩:=h2.get hv
   have hi:i<c.length:=by rw[<-hlen];exact(KP.1 hv).1
   rw[asT,auS hi]at b1
   simp only[asO,DE]at b1
   have gl:r.sh+i<c'.size:=by omega
   rw[atp gl]at b1
   simp only[ati]at b1
   exact⟨_,atp gl,by rw[b1];exact b2⟩
 |map es rA clock vW=>
  cases ho with
  |map _ db _ h1 h2=>
   obtain⟨h3,h4⟩:=Ny hσ vW h1 h2
   exact .map rA db clock h3 h4
 |lK s pos=>cases ho;exact .lK s pos
 |rows n size row=>cases hl
 |abs d=>cases hl
 |dead=>cases hl
theorem ON.ne{σ:Nat->Option Nat}{ob o:ak}(h:ON σ ob o)(br:o≠ .dead):ob≠ .dead:=by
 cases h<;>first|exact absurd rfl br|(intro e;cases e)
theorem ON.live{σ:Nat->Option Nat}{ob o:ak}(h:ON σ ob o){r:bV}(hl:Live o r=true):Live ob r=true/\(o.ro=false->ob.ro=false):=by
 cases h with
 |plain=>exact⟨hl,λh=>h⟩
 |cells c c1 el ro hc=>
  refine⟨?_,λh=>h⟩
  cases c with
  |nil=>cases hc;exact hl
  |cons v c=>rfl
 |map=>exact⟨rfl,λh=>h⟩
 |lK=>exact⟨rfl,λh=>h⟩
 |rows=>cases hl
 |abs=>cases hl
 |dead=>cases hl
theorem WR.GC{P:arC}{B:Nat->Prop}{w₀ w:arB}{ρ ρ':Ren}{m m':Nat->Option ak}(h:WR P B w₀ ρ m w)(σ:Nat->Option Nat)
 (hm:∀x o,m' x=some o->o≠ .dead->∃y ob,σ x=some y/\m y=some ob/\ob≠ .dead/\ρ' x=ρ y/\(∀r,Live o r=true->Live ob r=true/\(o.ro=false->ob.ro=false)/\∀o',OR P ρ r ob o'->OR P ρ' r o o')/\
  (∀n size row,o=.rows n size row->ob=o)/\(∀el ro,o=.cells [] el ro->ob=o)/\∀d,o=.abs d->ob=o)
 (x8:∀x y z,σ x=some z->σ y=some z->x=y)(YN:∀x,m' x=none->ρ' x=none):WR P B w₀ ρ' m' w where
 env:=h.env
 below:=h.below
 size:=h.size
 live:=by
  intro x o r hx hr hl
  obtain⟨y,ob,h1,h2,_,h3,h4,_⟩:=hm x o hx (by rintro rfl;cases hl)
  obtain⟨h5,h6,h7⟩:=h4 r hl
  obtain⟨o',h8,h9,bx⟩:=h.live y ob r h2 (h3▸hr) h5
  exact⟨o',h8,h7 o' h9,λe=>bx (h6 e)⟩
 inj:=by
  intro x y ox oy rx ry hx hy lD cD lE dq hd he
  obtain⟨a,oa,a1,a2,_,a3,a4,_⟩:=hm x ox hx (by rintro rfl;cases lE)
  obtain⟨b,ob,b1,b2,_,b3,b4,_⟩:=hm y oy hy (by rintro rfl;cases dq)
  obtain⟨a5,a6,_⟩:=a4 rx lE
  obtain⟨b5,b6,_⟩:=b4 ry dq
  have:=h.inj a b oa ob rx ry a2 b2 (a3▸lD) (b3▸cD) a5 b5 (hd.imp a6 b6) he
  subst this
  exact x8 x y a a1 b1
 fresh:=YN
 rows:=by
  intro x n size row hx
  obtain⟨y,ob,h1,h2,_,h3,_,h5,_⟩:=hm x _ hx (by intro e;cases e)
  rw[h5 n size row rfl]at h2
  obtain⟨r,h6,h7⟩:=h.rows y n size row h2
  exact⟨r,by rw[h3,h6],h7⟩
 nil:=by
  intro x el ro r hx hr
  obtain⟨y,ob,h1,h2,_,h3,_,_,h5,_⟩:=hm x _ hx (by intro e;cases e)
  rw[h5 el ro rfl]at h2
  exact h.nil y el ro r h2 (h3▸hr)
 named:=by
  intro x o hx br
  obtain⟨y,ob,h1,h2,h3,h4,_⟩:=hm x o hx br
  rw[h4]
  exact h.named y ob h2 h3
 abs:=by
  obtain⟨F,a1,a2,a3⟩:=h.abs
  refine⟨λx k=>∃y d,σ x=some y/\m' x=some (.abs d)/\F y k,λx d hx=>?_,?_,?_⟩
  ·obtain⟨y,ob,h1,h2,_,h3,_,_,_,h5⟩:=hm x _ hx (by intro e;cases e)
   rw[h5 d rfl]at h2
   obtain⟨r,S,c,e,f⟩:=a1 y d h2
   exact⟨r,S,by rw[h3,c],e,λk hk=>⟨y,d,h1,hx,f k hk⟩⟩
  ·rintro x k ⟨y,d,g1,g2,g3⟩
   obtain⟨_,b2,b3,b4⟩:=a2 y k g3
   refine⟨⟨d,g2⟩,b2,b3,λz o r hz hr hl=>?_⟩
   obtain⟨y2,ob,h1,h2,_,h3,h4,_⟩:=hm z o hz (by rintro rfl;cases hl)
   exact b4 y2 ob r h2 (h3▸hr) (h4 r hl).1
  ·rintro x1 x2 k ⟨y1,_,g1,_,g3⟩ ⟨y2,_,q1,_,q3⟩
   have:=a3 y1 y2 k g3 q3
   subst this
   exact x8 x1 x2 y1 g1 q1
def yI:List ak->Nat->Tr ak->Tr ak
 | [],_,t=>t
 |o::l,i,t=>yI l (i+1) (Tr.set 18 t i o)
def lQ(l:List ak):VS:=⟨yI l 0 .nil,l.length,[],[]⟩
theorem Nz:∀(l:List ak) (i:Nat) (t:Tr ak) (x:Nat),i+l.length<=262144->gt (yI l i t) x=if i<=x/\x<i+l.length then l[x-i]?else gt t x
 | [],i,t,x,h=>by
  rw[if_neg (by simp only[as2];omega)];rfl
 |o::l,i,t,x,h=>by
  simp only[ar4]at h
  show gt (yI l (i+1) (Tr.set 18 t i o)) x=_
  rw[Nz l (i+1) _ x (by omega),xW (ij.2 (by omega))]
  simp only[ar4]
  by_cases h1:x=i
  ·subst h1
   rw[if_neg (by omega),fB,if_pos (by omega),Nat.sub_self];rfl
  ·rw[eB _ h1]
   by_cases h2:i<=x/\x<i+(l.length+1)
   ·rw[if_pos (by omega),if_pos h2,show x-i=x-(i+1)+1 by omega];rfl
   ·rw[if_neg (by omega),if_neg h2]
theorem YO(x:Nat):gt (.nil:Tr ak) x=none:=by
 unfold gt
 split
 ·rw[Tr.Ew]
 ·rfl
theorem yJ{l:List ak}(h:l.length<=262144)(x:Nat):gt (lQ l).mem x=l[x]? :=by
 show gt (yI l 0 .nil) x=_
 rw[Nz l 0 .nil x (by omega),YO]
 by_cases hx:x<l.length
 ·rw[if_pos (by omega),at9]
 ·rw[if_neg (by omega),asC (by omega)]
def cu(objs:List ak):Nat->Option ak:=λx=>match small x with
 |true=>objs[x]?
 |false=>some .dead
theorem cH{objs:List ak}{x:Nat}(h:small x=true):cu objs x=objs[x]? :=by unfold cu;rw[h]
theorem iE{objs:List ak}{x:Nat}(h:small x=false):cu objs x=some .dead:=by unfold cu;rw[h]
abbrev Bq(iG:List Dy):Fr:=⟨Fr.se iG 0 .nil,iG.length,[],[]⟩
def gY(n:Nat)(u:Nat->Dy)(l:List (Nat×Dy)):List Dy:=l.foldl (λL p=>L.set p.1 p.2) ((atX n).map u)
def eV(n:Nat)(u:Nat->Dy)(l:List (Nat×Dy)):Fr:=Bq (gY n u l)
theorem FR.YP{ρ:Ren}{iG:List Dy}{a:Act}{b:List as4}(h:LR ρ iG a.tmps.toList)(hd:a.defers=b)(hn:iG.length<=1024):FR ρ ((Bq iG).dS b) a:=by
 have hlen:iG.length=a.tmps.size:=by have:=h.len;simpa using this
 refine⟨hlen.symm,hn,λi=>?_,by rw[hd];exact .nil⟩
 show VR ρ (Fr.at ⟨Fr.se iG 0 .nil,iG.length,[],[]⟩ i) _
 unfold Fr.at
 dsimp only
 by_cases hi:i<iG.length
 ·rw[ed.2 hi]
  dsimp only
  rw[Fr.yz (by omega) (by omega),if_pos (by omega),at9]
  obtain⟨v',h1,h2⟩:=h.get (KH hi)
  rw[KH hi,ar8]
  have h3:a.tmps[i]?=some v':=by simpa using h1
  rw[h3]
  exact h2
 ·have hb:arF i iG.length=false:=by cases hb:arF i iG.length with
   |false=>rfl
   |true=>exact absurd (ed.1 hb) hi
  rw[hb]
  dsimp only
  rw[ar8,Array.getElem?_eq_none (by omega)]
  exact VR.undef ρ
theorem LR.set{ρ:Ren}{l l':List Dy}(h:LR ρ l l'){i:Nat}{v v':Dy}(gJ:l'[i]?=some v')(hv:VR ρ v v'):LR ρ (l.set i v) l':=
 ⟨by simp[h.len],λk u u' hu sE=>by
  by_cases e:k=i
  ·subst e
   have hk:k<l.length:=by rw[h.len];exact(KP.1 sE).1
   rw[at7 hk]at hu
   cases hu
   rw[gJ]at sE
   cases sE
   exact hv
  ·rw[auj (Ne.symm e)]at hu
   exact h.at_ k u u' hu sE⟩
theorem mA:∀(l:List (Nat×Dy)) (L:List Dy),(l.foldl (λL p=>L.set p.1 p.2) L).length=L.length
 | [],L=>rfl
 |p::l,L=>by rw[att,mA l,List.length_set]
theorem NA{ρ:Ren}{L':List Dy}:∀(l:List (Nat×Dy)) (L:List Dy),LR ρ L L'->(∀p∈l,∃v',L'[p.1]?=some v'/\VR ρ p.2 v')->LR ρ (l.foldl (λL p=>L.set p.1 p.2) L) L'
 | [],L,h,_=>h
 |p::l,L,h,hl=>by
  rw[att]
  obtain⟨v',h1,h2⟩:=hl p arH
  exact NA l _ (h.set h1 h2) λq hq=>hl q (arG _ hq)
theorem FR.make{ρ:Ren}{a:Act}{n:Nat}{b:List as4}(cc:a.tmps.size=n)(hn:n<=1024)(hd:a.defers=b)(hok:∀i,∃u,VR ρ u (a.tmps.getD i undef)){l:List (Nat×Dy)}
 (hl:∀p∈l,p.1<n/\VR ρ p.2 (a.tmps.getD p.1 undef)):∃u:Nat->Dy,FR ρ ((eV n u l).dS b) a:=by
 refine⟨λi=>Classical.choose (hok i),?_⟩
 have at_:∀i,i<n->a.tmps.toList[i]?=some (a.tmps.getD i undef):=λi hi=>by
  rw[Array.getElem?_toList,ar8,atp (by omega)];rfl
 refine FR.YP (NA l _ ⟨by simp[cc],λi v v' hv gJ=>?_⟩ λp hp=>⟨_,at_ _ (hl p hp).1,(hl p hp).2⟩) hd (by unfold gY;rw[mA];simpa using hn)
 have hi:i<n:=by simpa using(KP.1 hv).1
 rw[asT,auS hi]at hv
 simp only[asO,DE]at hv
 rw[at_ i hi]at gJ
 cases gJ
 rw[<-hv]
 exact Classical.choose_spec (hok i)
structure ai where
 sl:List (Nat×Dy)
 objs:List ak
structure wl where
 B:Nat->Prop
 w₀:arB
 k:Nat
 ρ₀:Ren
 n:Nat
 named:∀x,x<k->∃r,ρ₀ x=some r
def e8(D:Nat):as4:={target:=.collected D,args:= #[]}
structure Hd(P:arC)(X:wl)(d:ai)(ρ:Ren)(u:Nat->Dy)(M:List Nat)(a:Act)(w:arB):Prop where
 full:Full ρ
 kept:∀x,x<X.k->ρ x=X.ρ₀ x
 fr:FR ρ ((eV X.n u d.sl).dS (M.map e8)) a
 mem:WR P X.B X.w₀ ρ (cu d.objs) w
 bR:d.objs.length<=262144
 quiet:∀D∈M,w.heap[D]?=some (.deferred (some []))
 gR:M.Nodup
 outside:∀D∈M,¬X.B D
def Holds(P:arC)(X:wl)(d:ai)(a:Act)(w:arB):Prop:=∃ρ u M,Hd P X d ρ u M a w
inductive bS{α β:Type}(R:α->β->Prop):List α->List β->Prop where
 |nil:bS R [] []
 |cons {a:α} {b:β} {l:List α} {l':List β} (h:R a b) (t:bS R l l'):bS R (a::l) (b::l')
theorem bS.len{α β:Type}{R:α->β->Prop}{l:List α}{l':List β}(h:bS R l l'):l.length=l'.length:=by
 induction h with
 |nil=>rfl
 |cons _ _ ih=>simp[ih]
theorem bS.get{α β:Type}{R:α->β->Prop}{l:List α}{l':List β}(h:bS R l l'):∀{i:Nat} {b:β},l'[i]?=some b->∃a,l[i]?=some a/\R a b:=by
 induction h with
 |nil=>intro i b hb;simp at hb
 |cons h t ih=>
  intro i b hb
  cases i with
  |zero=>simp only[asf,DE]at hb;subst hb;exact⟨_,rfl,h⟩
  |succ i=>simpa using ih (by simpa using hb)
def ux:Nat->List Nat->Nat->Bool
 |0,_,_=>true
 |k+1,y::l,i=>arE y i&&ux k l (i+1)
 |_+1,[],_=>false
theorem GD:∀{k i:Nat} {l:List Nat},ux k l i=true->∀x,x<k->l[x]?=some (i+x)
 |0,i,l,h,x,hx=>by omega
 |k+1,i,y::l,h,x,hx=>by
  simp only[ux,BV]at h
  cases x with
  |zero=>simp[arJ h.1]
  |succ x=>simpa[show i+1+x=i+(x+1)by omega]using GD h.2 x (by omega)
 |k+1,i,[],h,x,hx=>by cases h
def ja:List Nat->Bool
 | []=>true
 |y::l=> !(l.any (arE y))&&ja l
theorem uy:∀{l:List Nat},ja l=true->∀{x y z:Nat},l[x]?=some z->l[y]?=some z->x=y
 | [],h,x,y,z,hx,hy=>by simp at hx
 |a::l,h,x,y,z,hx,hy=>by
  simp only[ja,BV,Bool.not_eq_true',List.any_eq_false]at h
  have br:∀i,l[i]? ≠some a:=λi hi=>by
   have:=h.1 a (ar7 hi)
   simp at this
  cases x with
  |zero=>
   simp only[asf,DE]at hx
   subst hx
   cases y with
   |zero=>rfl
   |succ y=>exact absurd (by simpa using hy) (br y)
  |succ x=>
   cases y with
   |zero=>
    simp only[asf,DE]at hy
    subst hy
    exact absurd (by simpa using hx) (br x)
   |succ y=>exact congrArg (· +1) (uy h.2 (x:=x) (y:=y) (z:=z) (by simpa using hx) (by simpa using hy))
def wm(σ:Nat->Option Nat):List Nat->List Dy->Option (List (Nat×Dy))
 | [],[]=>some []
 |i::l,v::vs=>match iC σ 6 v,wm σ l vs with
  |some u,some r=>some ((i,u)::r)
  |_,_=>none
 |_,_=>none
theorem GF{σ:Nat->Option Nat}:∀{sl:List Nat} {vs:List Dy} {r:List (Nat×Dy)},wm σ sl vs=some r->∀p∈r,∃(j:Nat) (v:Dy),sl[j]?=some p.1/\vs[j]?=some v/\iC σ 6 v=some p.2
 | [],[],r,h,p,hp=>by cases h;cases hp
 |i::l,v::vs,r,h,p,hp=>by
  unfold wm at h
  split at h
  ·rename_i u q hu hq
   cases h
   rcases arD.1 hp with rfl|hp
   ·exact⟨0,v,rfl,rfl,hu⟩
   ·obtain⟨j,v',h1,h2,h3⟩:=GF hq p hp
    exact⟨j+1,v',by simpa using h1,by simpa using h2,h3⟩
  ·cases h
 | [],_::_,r,h,p,hp=>by cases h
 |_::_,[],r,h,p,hp=>by cases h
theorem Holds.NB{P:arC}{X:wl}{ρ ρ':Ren}{m:Nat->Option ak}{t:Fr}{M:List Nat}{a:Act}{w:arB}(gM:Full ρ)(hle:ρ.le ρ')(hk:∀x,x<X.k->ρ x=X.ρ₀ x)
 (cF:FR ρ' t a)(NC:t.n=X.n)(YQ:t.ds=[])(YR:t.base=M.map e8)(YS:∀D∈M,w.heap[D]?=some (.deferred (some [])))(YT:M.Nodup)(YU:∀D∈M,¬X.B D)(hw:WR P X.B X.w₀ ρ' m w){sl:List Nat}{iG:List Dy}(uo:sl.map t.at=iG){bl:List (Nat×ak)}(mB:∀p∈bl,m p.1=some p.2){d:ai}
 (nk:ux X.k (bl.map (·.1)) 0=true)(cB:ja (bl.map (·.1))=true)(EQ:wm (fh (bl.map (·.1))) sl iG=some d.sl)(fx:bS (ON (fh (bl.map (·.1)))) (bl.map (·.2)) d.objs)
 (YV:sl.all (λi=>arF i X.n)=true)(iq:arM d.objs.length 262144=true):Holds P X d a w:=by
 subst uo
 let σ:List Nat:=bl.map (·.1)
 let ρ2:Ren:=λx=>match small x with
  |true=>(σ[x]?).bind ρ'
  |false=>ρ' x
 have dX:∀x,small x=true->ρ2 x=(σ[x]?).bind ρ':=λx h=>by show(match small x with|true=>_|false=>_)=_;rw[h]
 have lU:∀x,small x=false->ρ2 x=ρ' x:=λx h=>by show(match small x with|true=>_|false=>_)=_;rw[h]
 have wo:=arU iq
 have hlen:bl.length=d.objs.length:=by have:=fx.len;simpa using this
 have ql:Full ρ2:=λr=>by
  obtain⟨y,h1,h2⟩:=gM r
  exact⟨y,h1,by rw[lU y h1];exact hle _ _ h2⟩
 have uz:∀i y,σ[i]?=some y->small i=true:=λi y h=>ij.2 (by
  have:i<σ.length:=(KP.1 h).1
  have e:σ.length=bl.length:=by simp[σ]
  have:(2:Nat)^18=262144:=rfl
  omega)
 have hσ:∀i y r,σ[i]?=some y->ρ' y=some r->ρ2 i=some r:=λi y r h1 h2=>by rw[dX i (uz i y h1),h1];exact h2
 have sO:∀y i r,fh σ y=some i->ρ' y=some r->ρ2 i=some r:=λy i r h1 h2=>hσ i y r (Bp h1) h2
 obtain⟨u,hu⟩:∃u:Nat->Dy,FR ρ2 ((eV X.n u d.sl).dS (M.map e8)) a:=by
  refine FR.make (by rw[cF.size,NC]) (by rw[<-NC];exact cF.small) ((cF.sF YQ).trans YR) (λi=>(cF.at_ i).full ql) λp hp=>?_
  obtain⟨j,v,h1,h2,h3⟩:=GF EQ p hp
  rw[asT,h1]at h2
  simp only[asO,DE]at h2
  subst h2
  exact⟨ed.1 (ar1.1 YV p.1 (ar7 h1)),rp sO 6 _ _ _ h3 (cF.at_ p.1)⟩
 refine⟨ρ2,u,M,ql,λx hx=>?_,hu,?_,wo,YS,YT,YU⟩
 ·have:=GD nk x hx
  rw[as9]at this
  obtain⟨r,hr⟩:=X.named x hx
  rw[hσ x x r this (hle _ _ ((hk x hx).trans hr)),hr]
 ·have ue:∀(i:Nat) (o:ak),d.objs[i]?=some o->∃y ob,σ[i]?=some y/\m y=some ob/\ON (fh σ) ob o:=λi o hi=>by
   obtain⟨ob,h1,h2⟩:=fx.get hi
   rw[asT]at h1
   cases hb:bl[i]?with
   |none=>rw[hb]at h1;cases h1
   |some p=>
    rw[hb]at h1
    simp only[asO,DE]at h1
    subst h1
    exact⟨p.1,p.2,by simp[σ,hb],mB p (ar7 hb),h2⟩
  refine hw.GC (λx=>match small x with
   |true=>σ[x]?
   |false=>none) (λx o hx br=>?_) (λx y z hx hy=>?_) λx hx=>?_
  ·cases hs:small x with
   |false=>rw[iE hs]at hx;cases hx;exact absurd rfl br
   |true=>
    rw[cH hs]at hx
    obtain⟨y,ob,h1,h2,h3⟩:=ue x o hx
    refine⟨y,ob,h1,h2,h3.ne br,?_,λr hl=>⟨(h3.live hl).1,(h3.live hl).2,h3.or sO hl⟩,λn size row e=>?_,λel ro e=>?_,λd e=>?_⟩
    ·rw[dX x hs,h1];rfl
    ·subst e;cases h3;rfl
    ·subst e
     cases h3 with
     |plain=>rfl
     |cells c _ _ _ h=>
      cases c with
      |nil=>rfl
      |cons v c=>have:=uw h;simp at this
    ·subst e;cases h3;rfl
  ·have key:∀q,(match small q with|true=>σ[q]? |false=>none)=some z->σ[q]?=some z:=λq hq=>by
    cases hs:small q with
    |true=>rw[hs]at hq;exact hq
    |false=>rw[hs]at hq;cases hq
   exact uy cB (key x hx) (key y hy)
  ·cases hs:small x with
   |false=>rw[iE hs]at hx;cases hx
   |true=>
    rw[cH hs]at hx
    rw[dX x hs]
    have:σ[x]?=none:=by
     rw[atg]at hx⊢
     simp[σ]
     omega
    rw[this]
    rfl
def a7:ar3->List ar3
 | .seq a b=>a7 a++a7 b
 |c=>[c]
def jC(P:arC):List ar3->(atO->Act->arB->Prop)->Act->arB->Prop
 | [],Q,a,w=>Q .normal a w
 |c::l,Q,a,w=>c.wp P (Exit.then (jC P l Q) Q) a w
theorem yK{P:arC}:∀{l:List ar3} {Q Q':atO->Act->arB->Prop} {a:Act} {w:arB},jC P l Q a w->(∀e a w,Q e a w->Q' e a w)->jC P l Q' a w
 | [],Q,Q',a,w,h,hq=>hq _ _ _ h
 |c::l,Q,Q',a,w,h,hq=>avV h λe a w he=>by
  cases e with
  |normal=>exact yK he hq
  |_=>exact hq _ _ _ he
theorem GG{P:arC}:∀{l l':List ar3} {Q:atO->Act->arB->Prop} {a:Act} {w:arB},jC P l (Exit.then (jC P l' Q) Q) a w->jC P (l++l') Q a w
 | [],l',Q,a,w,h=>h
 |c::l,l',Q,a,w,h=>avV h λe a w he=>by
  cases e with
  |normal=>exact GG he
  |_=>exact he
theorem yL{P:arC}:∀{c:ar3} {Q:atO->Act->arB->Prop} {a:Act} {w:arB},jC P (a7 c) Q a w->c.wp P Q a w:=by
 intro c
 induction c with
 |seq a b jm lO=>
  intro Q t w h
  have h:jC P (a7 a++a7 b) Q t w:=h
  refine wp_seq (jm ?_)
  -- take apart what stands one behind the other
  have key:∀(l l':List ar3) (Q:atO->Act->arB->Prop) (t:Act) (w:arB),jC P (l++l') Q t w->jC P l (Exit.then (jC P l' Q) Q) t w:=by
   intro l
   induction l with
   |nil=>intro l' Q t w h;exact h
   |cons c l ih=>
    intro l' Q t w h
    refine avV (show c.wp P (Exit.then (jC P (l++l') Q) Q) t w from h) λe t w he=>?_
    cases e with
    |normal=>exact ih l' Q t w he
    |_=>exact he
  refine yK (key _ _ _ _ _ h) λe t w he=>?_
  cases e with
  |normal=>exact lO he
  |_=>exact he
 |_=>
  intro Q t w h
  refine avV (show Code.wp P _ (Exit.then (jC P [] Q) Q) t w from h) λe t w he=>?_
  cases e<;>exact he
def uA(P:arC)(call:fX)(lf:Nat):List ar3->Fr->VS->DT (bf×Fr×VS)
 | [],t,S=>.done (.normal,t,S)
 |c::l,t,S=>(jR P call lf false c t S).bind λp=>match p.1 with
  | .normal=>uA P call lf l p.2.1 p.2.2
  |_=>.done p
def lV(P:arC)(call:cQ)(lf:Nat):List ar3->Fr->VS->Option (bf×Fr×VS)
 | [],t,S=>some (.normal,t,S)
 |c::l,t,S=>match dz P call lf false c t S with
  |some (.normal,t1,S1)=>lV P call lf l t1 S1
  |r=>r
structure dD(P:arC)(cO:fX):Prop where
 ex:∃cV:cQ,iy P cV/\∀f args S r,(cO f args S).Has r->cV f args S=some r
theorem GH{P:arC}{gG:fX}{call:cQ}(hc:∀f args S r,(gG f args S).Has r->call f args S=some r)(lf:Nat):∀{l:List ar3} {t:Fr} {S:VS} {r:bf×Fr×VS},
 (uA P gG lf l t S).Has r->lV P call lf l t S=some r
 | [],t,S,r,h=>by rw[DT.cG h];rfl
 |c::l,t,S,r,h=>by
  unfold uA at h
  obtain⟨p,h1,h2⟩:=DT.fN h
  obtain⟨e,t1,S1⟩:=p
  unfold lV
  rw[Bl P hc lf h1]
  cases e with
  |normal=>exact GH hc lf h2
  |exit id=>rw[DT.cG h2]
  |ret=>rw[DT.cG h2]
  |panic v=>rw[DT.cG h2]
theorem yM{P:arC}{call:cQ}(hc:iy P call)(lf:Nat):∀{l:List ar3} {t t1:Fr} {S S1:VS} {x:bf},lV P call lf l t S=some (x,t1,S1)->dW S S1
 | [],t,t1,S,S1,x,h=>by
  simp only[lV,DE,KN]at h
  obtain⟨_,_,rfl⟩:=h
  exact dW.refl S
 |c::l,t,t1,S,S1,x,h=>by
  unfold lV at h
  split at h
  ·rename_i t2 S2 hx
   exact(oL hc lf hx).trans (yM hc lf h)
  ·exact oL hc lf h
theorem ND{P:arC}(hP:iV P=true)(fM:P.follows .mixedOrders=true){call:cQ}(hc:iy P call)(lf:Nat):∀{l:List ar3} {t t1:Fr} {S S1:VS} {x:bf},lV P call lf l t S=some (x,t1,S1)->
 ∀{B:Nat->Prop} {w₀:arB} {ρ:Ren} {m:Nat->Option ak} {w:arB} {a:Act},FR ρ t a->WR P B w₀ ρ m w->gr S S1 m->
 ∀{Q:atO->Act->arB->Prop},(∀(ρ':Ren) (e:atO) (a':Act) (w':arB),ρ.le ρ'->XR ρ' x e->FR ρ' t1 a'->WR P B w₀ ρ' (post m S1) w'->Q e a' w')->jC P l Q a w
 | [],t,t1,S,S1,x,h,B,w₀,ρ,m,w,a,ht,hw,hm,Q,hQ=>by
  simp only[lV,DE,KN]at h
  obtain⟨rfl,rfl,rfl⟩:=h
  exact hQ ρ _ a w (Ren.le_refl ρ) .normal ht (by rw[pq hm];exact hw)
 |c::l,t,t1,S,S1,x,h,B,w₀,ρ,m,w,a,ht,hw,hm,Q,hQ=>by
  unfold lV at h
  split at h
  ·rename_i t2 S2 hx
   have e2:=yM hc lf h
   refine(avx (n:=0)).1 (ur hP fM hc lf (r:=none) (λh=>by cases h) c hx ht hw (hm.first e2) λρ' e a' w' hle dL cF cU=>?_)
   cases dL
   refine ND hP fM hc lf h cF cU (hm.next (oL hc lf hx)) λρ2 rj a2 w2 kV kw mw iz=>?_
   rw[po e2]at iz
   exact hQ ρ2 rj a2 w2 (Ren.le_trans hle kV) kw mw iz
  ·rename_i br
   refine(avx (n:=0)).1 (ur hP fM hc lf (r:=none) (λh=>by cases h) c h ht hw hm λρ' e a' w' hle dL cF cU=>?_)
   cases dL with
   |normal=>exact absurd h (br _ _)
   |_=>exact hQ ρ' _ a' w' hle (by constructor<;>assumption) cF cU
theorem GI{P:arC}{call:cQ}{lf:Nat}(b:List as4):∀{l:List ar3} {t t1:Fr} {S S1:VS} {x:bf},lV P call lf l t S=some (x,t1,S1)->lV P call lf l (t.dS b) S=some (x,t1.dS b,S1)
 | [],t,t1,S,S1,x,h=>by
  simp only[lV,DE,KN]at h
  obtain⟨rfl,rfl,rfl⟩:=h
  rfl
 |c::l,t,t1,S,S1,x,h=>by
  unfold lV at h⊢
  rw[Yb]
  cases hx:dz P call lf false c t S with
  |none=>rw[hx]at h;cases h
  |some p=>
   obtain⟨e,t2,S2⟩:=p
   rw[hx]at h
   cases e with
   |normal=>exact GI b h
   |exit j=>simp only[DE,KN]at h;obtain⟨rfl,rfl,rfl⟩:=h;rfl
   |ret=>simp only[DE,KN]at h;obtain⟨rfl,rfl,rfl⟩:=h;rfl
   |panic v=>simp only[DE,KN]at h;obtain⟨rfl,rfl,rfl⟩:=h;rfl
theorem NE{w:arB}{M:List Nat}(hq:∀D∈M,w.heap[D]?=some (.deferred (some []))):∀D∈M,∃o,w.heap[D]?=some o/\sJ o=true:=λD hD=>⟨_,hq D hD,rfl⟩
def qn:List Nat->VS->Option (List (Nat×ak))
 | [],_=>some []
 |x::l,S=>match gt S.mem x,qn l S with
  |some o,some r=>some ((x,o)::r)
  |_,_=>none
theorem GJ:∀{bs:List Nat} {S:VS} {r:List (Nat×ak)},qn bs S=some r->∀p∈r,gt S.mem p.1=some p.2
 | [],S,r,h,p,hp=>by
  simp only[qn,DE]at h
  rw[<-h]at hp
  cases hp
 |x::l,S,r,h,p,hp=>by
  unfold qn at h
  split at h
  ·rename_i o r' h1 h3
   simp only[DE]at h
   rw[<-h]at hp
   rcases arD.1 hp with rfl|hp
   ·exact h1
   ·exact GJ h3 p hp
  ·cases h
def ao(P:arC)(n k:Nat)(l:List ar3)(d:ai)(Q:bf->ai->Prop):Prop:=
 ∀(X:wl),X.n=n->X.k=k->∀(a:Act) (w:arB),Holds P X d a w->jC P l (λe a' w'=>∃x d',Q x d'/\XR (λ_=>none) x e/\Holds P X d' a' w') a w
theorem ao.mono{P:arC}{n k:Nat}{l:List ar3}{d:ai}{Q Q':bf->ai->Prop}(h:ao P n k l d Q)(hq:∀x d',Q x d'->Q' x d'):ao P n k l d Q':=
 λX hn hk a w hd=>yK (h X hn hk a w hd) λe a w ⟨x,d',h1,h2,h3⟩=>⟨x,d',hq x d' h1,h2,h3⟩
theorem ao.nil{P:arC}{n k:Nat}{d:ai}{Q:bf->ai->Prop}(h:Q .normal d):ao P n k [] d Q:=λX hn hk a w hd=>⟨.normal,d,h,.normal,hd⟩
def YW:bf->Bool
 | .panic v=>fl v
 |_=>true
def inner:List ar3->ar3
 | .block _ c::_=>c
 | .loop c::_=>c
 | .scope c::_=>c
 |_=>.skip
def GK:List ar3->Option Nat
 | .block id _::_=>some id
 |_=>none
def GL:List ar3->Bool
 | .loop _::_=>true
 |_=>false
def QB(id:Nat)(N:ai->Prop)(Q:bf->ai->Prop):bf->ai->Prop
 | .normal,d=>N d
 | .exit j,d=>match arE j id with
  |true=>N d
  |false=>Q (.exit j) d
 |x,d=>Q x d
theorem ao.block{P:arC}{n k id:Nat}{l:List ar3}{d:ai}{Q:bf->ai->Prop}(hl:GK l=some id)(h:ao P n k (a7 (inner l)) d (QB id (λd'=>ao P n k l.tail d' Q) Q)):ao P n k l d Q:=by
 intro X hn hk a w hd
 unfold GK at hl
 split at hl
 ·rename_i apO c l'
  cases hl
  refine wp_block (avV (yL (h X hn hk a w hd)) λe a' w' he=>?_)
  obtain⟨x,d',h1,h2,h3⟩:=he
  cases h2 with
  |normal=>exact h1 X hn hk a' w' h3
  |exit j=>
   by_cases hj:j=id
   ·subst hj
    simp only[QB,asx]at h1
    simp only[avG,if_true]
    exact h1 X hn hk a' w' h3
   ·have hb:arE j id=false:=by
     cases hb:arE j id with
     |false=>rfl
     |true=>exact absurd (arJ hb) hj
    simp only[QB,hb]at h1
    simp only[avG,hj,if_false]
    exact⟨_,d',h1,.exit j,h3⟩
  |ret=>exact⟨_,d',h1,.ret,h3⟩
  |panic v v' hv=>exact⟨_,d',h1,.panic v v' hv,h3⟩
 ·cases hl
theorem ao.loop{P:arC}{n k:Nat}{l:List ar3}{Q:bf->ai->Prop}{σ:Type}(I:σ->ai)(μ:σ->Nat)(ok:σ->Prop)(hl:GL l=true)
 (h:∀s,ok s->ao P n k (a7 (inner l)) (I s) (λx d'=>match x with
  | .normal=>∃s',ok s'/\μ s'<μ s/\d'=I s'
  |x=>Q x d')):∀s,ok s->ao P n k l (I s) Q:=by
 intro s hs X hn hk a w hd
 unfold GL at hl
 split at hl
 ·rename_i c l'
  have key:∀m s a w,ok s->μ s<=m->Holds P X (I s) a w->Code.rounds P c (Exit.then (jC P l' λe a' w'=>∃x d',Q x d'/\XR (λ_=>none) x e/\Holds P X d' a' w') λe a' w'=>∃x d',Q x d'/\XR (λ_=>none) x e/\Holds P X d' a' w') (m+1) a w:=by
   intro m
   induction m with
   |zero=>
    intro s a w hs hm hd
    rw[rounds_succ]
    refine avV (yL (h s hs X hn hk a w hd)) λe a' w' he=>?_
    obtain⟨x,d',h1,h2,h3⟩:=he
    cases h2 with
    |normal=>obtain⟨s',_,hlt,_⟩:=h1;omega
    |exit j=>exact⟨_,d',h1,.exit j,h3⟩
    |ret=>exact⟨_,d',h1,.ret,h3⟩
    |panic v v' hv=>exact⟨_,d',h1,.panic v v' hv,h3⟩
   |succ m ih=>
    intro s a w hs hm hd
    rw[rounds_succ]
    refine avV (yL (h s hs X hn hk a w hd)) λe a' w' he=>?_
    obtain⟨x,d',h1,h2,h3⟩:=he
    cases h2 with
    |normal=>
     obtain⟨s',oH,hlt,rfl⟩:=h1
     exact ih s' a' w' oH (by omega) h3
    |exit j=>exact⟨_,d',h1,.exit j,h3⟩
    |ret=>exact⟨_,d',h1,.ret,h3⟩
    |panic v v' hv=>exact⟨_,d',h1,.panic v v' hv,h3⟩
  exact wp_loop_rounds _ (key _ s a w hs (arO _) hd)
 ·cases hl
def Br:List ar3->Option Nat
 | .cond (.tmp i) _ _::_=>some i
 |_=>none
def qo(b:Bool):List ar3->ar3
 | .cond _ x y::_=>if b then x else y
 |_=>.skip
def j7:List (Nat×Dy)->Nat->Option Dy
 | [],_=>none
 |p::l,i=>match j7 l i with
  |some v=>some v
  |none=>match arE p.1 i with
   |true=>some p.2
   |false=>none
theorem NF{n:Nat}{u:Nat->Dy}:∀(l:List (Nat×Dy)) (L:List Dy) (i:Nat) (v:Dy),j7 l i=some v->i<L.length->(l.foldl (λL p=>L.set p.1 p.2) L)[i]?=some v
 | [],L,i,v,h,hi=>by cases h
 |p::l,L,i,v,h,hi=>by
  rw[att]
  unfold j7 at h
  split at h
  ·rename_i v' hv
   cases h
   exact NF (n:=n) (u:=u) l _ i v hv (by simpa using hi)
  ·rename_i hn
   split at h
   ·rename_i hb
    cases h
    have hb:=arJ hb
    subst hb
    have key:∀(l:List (Nat×Dy)) (L:List Dy) (i:Nat),j7 l i=none->(l.foldl (λL p=>L.set p.1 p.2) L)[i]?=L[i]? :=by
     intro l
     induction l with
     |nil=>intro L i _;rfl
     |cons q l ih=>
      intro L i h
      rw[att]
      unfold j7 at h
      split at h
      ·cases h
      ·rename_i h'
       rw[ih _ _ h']
       split at h
       ·cases h
       ·rename_i hb
        rw[auj]
        intro e
        rw[e,asx]at hb
        cases hb
    rw[key l _ _ hn,at7 hi]
   ·cases h
theorem wq{n:Nat}{u:Nat->Dy}{l:List (Nat×Dy)}{i:Nat}{v:Dy}(hn:n<=1024)(hi:i<n)(h:j7 l i=some v):(eV n u l).at i=v:=by
 have hlen:(gY n u l).length=n:=by unfold gY;rw[mA];simp
 have:=NF (n:=n) (u:=u) l ((atX n).map u) i v h (by simpa using hi)
 unfold eV Bq Fr.at
 dsimp only
 rw[ed.2 (by omega)]
 dsimp only
 rw[Fr.yz (by omega) (by omega),if_pos (by omega),at9]
 have:(gY n u l)[i]?=some v:=this
 rw[this]
theorem ao.cond{P:arC}{n k i:Nat}{l:List ar3}{d:ai}{Q:bf->ai->Prop}{b:Bool}(hl:Br l=some i)(hi:arF i n=true)(hv:j7 d.sl i=some (.bool b))
 (h:ao P n k (a7 (qo b l)++l.tail) d Q):ao P n k l d Q:=by
 intro X hn hk a w hd
 unfold Br at hl
 split at hl
 ·rename_i i' x y l'
  simp only[DE]at hl
  subst hl
  have h0:jC P (a7 (if b then x else y)++l') _ a w:=h X hn hk a w hd
  obtain⟨ρ,u,M,hd⟩:=hd
  subst hn
  have dX:=hd.fr.small
  have wh:((eV X.n u d.sl).dS (M.map e8)).n=X.n:=by show(gY X.n u d.sl).length=_;unfold gY;rw[mA];simp
  have nc:a.eval (.tmp i')=.bool b:=hd.fr.FE (c:=.tmp i') (wq (by omega) (ed.1 hi) hv)
  have key:∀(l l':List ar3) (Q:atO->Act->arB->Prop) (t:Act) (w:arB),jC P (l++l') Q t w->jC P l (Exit.then (jC P l' Q) Q) t w:=by
   intro l
   induction l with
   |nil=>intro l' Q t w h;exact h
   |cons c l ih=>
    intro l' Q t w h
    refine avV (show c.wp P (Exit.then (jC P (l++l') Q) Q) t w from h) λe t w he=>?_
    cases e with
    |normal=>exact ih l' Q t w he
    |_=>exact he
  have h2:=yL (key _ _ _ _ _ h0)
  cases b with
  |true=>exact wp_cond_true nc h2
  |false=>exact wp_cond_false nc h2
 ·cases hl
def wu:List Dy->Nat->List (Nat×Dy)
 | [],_=>[]
 |v::l,i=>(i,v)::wu l (i+1)
theorem NG:∀{l:List Dy} {i:Nat} {p:Nat×Dy},p∈wu l i->∃j,p.1=i+j/\l[j]?=some p.2
 | [],i,p,h=>by cases h
 |v::l,i,p,h=>by
  rcases arD.1 h with rfl|h
  ·exact⟨0,rfl,rfl⟩
  ·obtain⟨j,h1,h2⟩:=NG h
   exact⟨j+1,by omega,by simpa using h2⟩
theorem WR.wv{P:arC}{B:Nat->Prop}{w₀ w:arB}{ρ:Ren}{g:Nat->Option ak}(h:WR P B w₀ ρ g w){D:Nat}{o:Obj}(hB:¬B D)(hD:w.heap[D]?=some o)(ho:sJ o=true)(o2:Obj):WR P B w₀ ρ g (w.putObj D o2) where
 env:=h.env
 below:=h.below.trans ⟨rfl,rfl,rfl,by simp,λk hk=>asP (λe=>hB (e▸hk))⟩
 size:=λk hk=>by simpa using h.size k hk
 live:=λx ob r hx hr hl=>by
  obtain⟨o',h1,h2,h3⟩:=h.live x ob r hx hr hl
  refine⟨o',?_,h2,h3⟩
  rw[asP]
  ·exact h1
  ·intro e
   rw[e,hD]at h1
   cases h1
   rw[h2.row]at ho
   cases ho
 inj:=h.inj
 fresh:=h.fresh
 rows:=h.rows
 nil:=h.nil
 named:=h.named
 abs:=by
  obtain⟨F,a1,a2,a3⟩:=h.abs
  refine⟨λx k=>F x k/\k≠D,λx d hx=>?_,λx k hk=>?_,λx y k p q=>a3 x y k p.1 q.1⟩
  ·obtain⟨r,S,c,ca,f⟩:=a1 x d hx
   have yN:∀k,S k->k≠D:=λk hk e=>by
    obtain⟨q,hq,hr⟩:=ca.row k hk
    rw[e,hD]at hq
    cases hq
    cases o<;>first|(cases hr;done)|(cases ho;done)
   exact⟨r,S,c,ca.frame λk hk=>asP (yN k hk),λk hk=>⟨f k hk,yN k hk⟩⟩
  ·obtain⟨b1,b2,b3⟩:=a2 x k hk.1
   exact⟨b1,by simpa using b2,b3⟩
theorem NH{P:arC}{B:Nat->Prop}{w₀:arB}{ρ:Ren}{g:Nat->Option ak}{fn:Func}{tmps:Array Dy}{R:Ending->arB->Prop}{mode:FrameMode}(hm:mode≠ .run)(hl:∀w2,WR P B w₀ ρ g w2->LeavesIn ats 0 P fn tmps R [] mode w2):
 ∀(M:List Nat) (w:arB),M.Nodup->(∀D∈M,¬B D/\w.heap[D]?=some (.deferred (some [])))->WR P B w₀ ρ g w->LeavesInM ats 0 P fn tmps R (M.map e8) mode w
 | [],w,_,_,hw=>hl w hw
 |D::M,w,hn,hq,hw=>by
  obtain⟨h1,h2⟩:=hq D arH
  have Ai:=List.nodup_cons.1 hn
  refine⟨hm,.inl ⟨D,_,rfl,run_takeDeferred h2,NH hm hl M _ Ai.2 (λE hE=>?_) (hw.wv h1 h2 rfl _)⟩⟩
  obtain⟨h3,h4⟩:=hq E (arG _ hE)
  refine⟨h3,?_⟩
  rw[asP]
  ·exact h4
  ·rintro rfl
   exact Ai.1 hE
theorem GM{P:arC}(b:List as4)(t:Fr):∀l:List ResultVar,iv P (t.dS b) l=iv P t l
 | []=>rfl
 | .tmp i::l=>by unfold iv;rw[GM b t l];rfl
 | .cell a ty::l=>by unfold iv;rw[GM b t l];rfl
def aF(P:arC)(f:arY)(args:List Dy)(objs:List ak)(Q:bD->List ak->Prop):Prop:=
 ∀(B:Nat->Prop) (w₀:arB) (ρ:Ren) (w:arB) (args':Array Dy),Full ρ->(∀x,x<objs.length->∃r,ρ x=some r)->LR ρ args args'.toList->WR P B w₀ ρ (cu objs) w->
  Calls P f args' w λe w'=>∃r jD ρ',Q r jD/\CR ρ' r e/\Full ρ'/\WR P B w₀ ρ' (cu jD) w'/\jD.length<=262144/\∀x,x<objs.length->ρ' x=ρ x
theorem aF.mono{P:arC}{f:arY}{args:List Dy}{objs:List ak}{Q Q':bD->List ak->Prop}(h:aF P f args objs Q)(hq:∀r o,Q r o->Q' r o):aF P f args objs Q':=
 λB w₀ ρ w args' h1 h2 h3 h4=>(h B w₀ ρ w args' h1 h2 h3 h4).mono λe w' ⟨r,o,ρ',a,b⟩=>⟨r,o,ρ',hq r o a,b⟩
def Fin(P:arC)(fn:Func)(Q:bD->List ak->Prop):bf->ai->Prop
 | .normal,d=>∃vs l,(∀u,(iv P (eV fn.ntmps u d.sl) fn.results.toList).run (gt (lQ d.objs).mem)=some (vs,l))/\Q (.ret (nH vs)) d.objs
 | .ret,d=>∃vs l,(∀u,(iv P (eV fn.ntmps u d.sl) fn.results.toList).run (gt (lQ d.objs).mem)=some (vs,l))/\Q (.ret (nH vs)) d.objs
 | .panic v,d=>Q (.panic v) d.objs
 |_,_=>False
theorem aF.YX{P:arC}{f:arY}{fn:Func}{c:ar3}(hf:P.funcs[f]?=some fn)(hb:fn.body=some c){args:List Dy}{objs:List ak}{Q:bD->List ak->Prop}
 (hn:(arM args.length fn.ntmps&&arM fn.ntmps 1024&&arM objs.length 262144)=true)(h:ao P fn.ntmps objs.length (a7 c) ⟨wu args 0,objs⟩ (Fin P fn Q)):aF P f args objs Q:=by
 intro B w₀ ρ w args' gM Bs iw hw
 simp only[BV]at hn
 obtain⟨⟨ky,lM⟩,YY⟩:=hn
 have ky:=arU ky
 have lM:=arU lM
 refine(callsIn_wide (n:=0)).1 (callsIn_of_wp_marks hf hb trivial (avx.2 ?_) rfl)
 have yO:Fr.of args fn.ntmps=some ⟨Fr.se args 0 .nil,fn.ntmps,[],[]⟩:=by
  unfold Fr.of
  rw[arZ ky,arZ lM]
  rfl
 have cF:=Fr.FM iw yO
 have hlen:args.length=args'.size:=by have:=iw.len;simpa using this
 obtain⟨u,hu⟩:∃u:Nat->Dy,FR ρ ((eV fn.ntmps u (wu args 0)).dS (([]:List Nat).map e8)) {tmps:=args'++Array.replicate (fn.ntmps-args'.size) undef,defers:=[]}:=by
  refine FR.make (b:=[]) (by simp;omega) lM rfl (λi=>(cF.at_ i).full gM) λp hp=>?_
  obtain⟨j,h1,h2⟩:=NG hp
  have hj:j<args.length:=(KP.1 h2).1
  rw[as9]at h1
  refine⟨by omega,?_⟩
  obtain⟨v',h3,h4⟩:=iw.get h2
  rw[h1,ar8,Array.getElem?_append_left (by omega)]
  have h5:args'[j]?=some v':=by simpa using h3
  rw[h5]
  exact h4
 refine yL (yK (h ⟨B,w₀,objs.length,ρ,fn.ntmps,Bs⟩ rfl rfl _ w ⟨ρ,u,[],gM,λ_ _=>rfl,hu,hw,arU YY,(λD hD=>by cases hD),.nil,λD hD=>by cases hD⟩) λe a' w' he=>?_)
 obtain⟨x,d',h1,h2,ρ',u',M,hd⟩:=he
 have lm:∀mode,mode≠FrameMode.run->(∀w2,WR P B w₀ ρ' (cu d'.objs) w2->LeavesIn ats 0 P fn a'.tmps (λe w'=>∃r jD ρ',Q r jD/\CR ρ' r e/\Full ρ'/\WR P B w₀ ρ' (cu jD) w'/\jD.length<=262144/\∀x,x<objs.length->ρ' x=ρ x) [] mode w2)->
  LeavesInM ats 0 P fn a'.tmps (λe w'=>∃r jD ρ',Q r jD/\CR ρ' r e/\Full ρ'/\WR P B w₀ ρ' (cu jD) w'/\jD.length<=262144/\∀x,x<objs.length->ρ' x=ρ x) a'.defers mode w':=λmode hm hl=>by
  rw[hd.fr.sF rfl]
  exact NH hm hl M w' hd.gR (λD hD=>⟨hd.outside D hD,hd.quiet D hD⟩) hd.mem
 have fin:(∃vs l,(∀u,(iv P (eV fn.ntmps u d'.sl) fn.results.toList).run (gt (lQ d'.objs).mem)=some (vs,l))/\Q (.ret (nH vs)) d'.objs)->∀w2,WR P B w₀ ρ' (cu d'.objs) w2->∃v,(results fn a'.tmps).run P w2=.ok v w2/\
  ∃r jD ρ',Q r jD/\CR ρ' r (.returned v)/\Full ρ'/\WR P B w₀ ρ' (cu jD) w2/\jD.length<=262144/\∀x,x<objs.length->ρ' x=ρ x:=by
  rintro⟨vs,l,h3,h4⟩ w2 dg
  have h5:(iv P (eV fn.ntmps u' d'.sl) fn.results.toList).run (cu d'.objs)=some (vs,l):=Rd.Ak (h3 u') λy hy=>by
   obtain⟨o,ho⟩:=Rd.Al (h3 u') y hy
   rw[cH (p9 ho),yJ hd.bR]
  obtain⟨v',h6,h7⟩:=FL (t:=(eV fn.ntmps u' d'.sl).dS (M.map e8)) dg hd.fr (by rw[GM];exact h5)
  exact⟨v',h6,.ret (nH vs),d'.objs,ρ',h4,h7,hd.full,dg,hd.bR,hd.kept⟩
 cases h2 with
 |normal=>exact lm _ (by intro e;cases e) (fin h1)
 |ret=>exact lm _ (by intro e;cases e) (fin h1)
 |exit id=>exact h1.elim
 |panic v v' hv=>exact lm _ (by intro e;cases e) λw2 dg=>⟨.panic v,d'.objs,ρ',h1,⟨v',rfl,hv.mono (λx r h=>by cases h)⟩,hd.full,dg,hd.bR,hd.kept⟩
inductive QT(α:Type) where
 |done (a:α)
 |fail
 |ask (d:Bool) (k:Bool->QT α)
def QT.run{α:Type}:QT α->Option α
 | .done a=>some a
 | .fail=>none
 | .ask d k=>(k d).run
def QT.dt{α:Type}:QT α->DT α
 | .done a=>.done a
 | .fail=>.fail
 | .ask d k=>.ask d λb=>(k b).dt
def QT.bind{α β:Type}:QT α->(α->QT β)->QT β
 | .done a,f=>f a
 | .fail,_=>.fail
 | .ask d k,f=>.ask d λb=>(k b).bind f
def QT.sP{α:Type}(d:Bool)(k:QT α):QT α:=.ask d λb=>match b with
 |true=>k
 |false=>.fail
theorem QT.YZ{α:Type}{q:QT α}{a:α}(h:q.dt.Has a):q.run=some a:=by
 induction q with
 |done b=>have:=DT.cG h;subst this;rfl
 |fail=>cases h
 |ask d k ih=>exact ih d (DT.pv h)
theorem QT.run_bind{α β:Type}{q:QT α}{f:α->QT β}{b:β}(h:(q.bind f).run=some b):∃a,q.run=some a/\(f a).run=some b:=by
 induction q with
 |done a=>exact⟨a,rfl,h⟩
 |fail=>cases h
 |ask d k ih=>exact ih d h
theorem QT.uB{α:Type}{d:Bool}{k:QT α}{a:α}(h:(QT.sP d k).run=some a):d=true/\k.run=some a:=by
 cases d with
 |true=>exact⟨rfl,h⟩
 |false=>cases h
structure Sum where
 names:List Dy->(Nat->Option ak)->Option (List Nat)
 spec:List Dy->List ak->QT (bD×List ak)
def bB(P:arC)(f:arY)(s:Sum):Prop:=
 ∀(args:List Dy) (objs:List ak) (r:bD) (jD:List ak),(s.spec args objs).run=some (r,jD)->aF P f args objs λr' o'=>r'=r/\o'=jD
section
variable (P:arC)
def GN:Nat->KS->Bool
 |0,t=>match P.underlying t with
  |some .bool|some (.int _)|some .string|some (.float _)=>true
  |_=>false
 |d+1,t=>match P.underlying t with
  |some .bool|some (.int _)|some .string|some (.float _)=>true
  |some (.struct fs)=>fs.toList.all λf=>GN d f.type
  |some (.array _ e)=>GN d e
  |_=>false
def NI(t:KS):Bool:=GN P 3 t
def Bt(τ:Nat->Option Nat):ak->QT ak
 | .cells c el ro=>match NI P el with
  |true=>.sP (c.all ag) (.done (.cells c el ro))
  |false=>match nj (iC τ 6) c with
   |some c'=>.done (.cells c' el ro)
   |none=>.fail
 | .map es clock=>.ask ((es.map (eD τ)).all ag) λb=>match b with
  |true=>.done (.map es clock)
  |false=>match sN τ es with
   |some db=>.done (.map db clock)
   |none=>.fail
 | .lK s p=>.done (.lK s p)
 | .rows n s r=>.done (.rows n s r)
 | .abs d=>.done (.abs d)
 | .dead=>.fail
def yP(τ:Nat->Option Nat):List ak->QT (List ak)
 | []=>.done []
 |o::l=>(Bt P τ o).bind λo'=>(yP τ l).bind λr=>.done (o'::r)
def getAll(g:Nat->Option ak):List Nat->Option (List ak)
 | []=>some []
 |x::l=>match g x,getAll g l with
  |some o,some r=>some (o::r)
  |_,_=>none
def sQ(τ:Nat->Option Nat):List ak->List ak->QT (List ak)
 |ob::cn,o::l=>match ob.ro with
  |true=>(sQ τ cn l).bind λr=>.done (ob::r)
  |false=>match o with
   | .dead=>(sQ τ cn l).bind λr=>.done (.dead::r)
   |o=>(Bt P τ o).bind λo'=>match o'.ro with
    |true=>.fail
    |false=>(sQ τ cn l).bind λr=>.done (o'::r)
 | [],l=>(yP P τ l).bind λr=>match r.all (λo=> !o.ro)with
  |true=>.done r
  |false=>.fail
 |_::_,[]=>.fail
def uC:List Nat->List ak->List ak->Tr ak×List Nat->Option (Tr ak×List Nat×List ak)
 |x::σ,ob::cn,o::l,(t,wr)=>match ob.ro with
  |true=>uC σ cn l (t,wr)
  |false=>uC σ cn l (t.set 18 x o,x::wr)
 | [],[],l,(t,wr)=>some (t,wr,l)
 |_,_,_,_=>none
def fD:Nat->Nat->List Nat
 |_,0=>[]
 |k,n+1=>k::fD (k+1) n
def rB(τ:Nat->Option Nat):bD->Option bD
 | .ret v=>match iC τ 6 v with
  |some u=>some (.ret u)
  |none=>none
 | .panic v=>match fl v with
  |true=>some (.panic v)
  |false=>none
def Bu(s:Sum)(args:List Dy)(S:VS):QT (bD×VS):=match s.names args (gt S.mem)with
 |none=>.fail
 |some σ=>match getAll (gt S.mem) σ,nj (iC (fh σ) 6) args,ja σ&&arM σ.length 262144 with
  |some cn,some qp,true=>(yP P (fh σ) cn).bind λj8=>(s.spec qp j8).bind λp=>
   (sQ P (λi=>(σ++fD S.next (p.2.length-σ.length))[i]?) cn p.2).bind λjE=>
    match rB (λi=>(σ++fD S.next (p.2.length-σ.length))[i]?) p.1,uC σ cn jE (S.mem,S.wr)with
    |some r,some (t,wr,news)=>match sq news ⟨t,S.next,σ++S.rd,wr⟩with
     |some S1=>.done (r,S1)
     |none=>.fail
    |_,_=>.fail
  |_,_,_=>.fail
end
section
variable {P:arC}
theorem NJ{τ:Nat->Option Nat}{o o':ak}(h:(Bt P τ o).run=some o'):ON τ o o'/\o'.ro=o.ro/\o≠ .dead/\o'≠ .dead:=by
 unfold Bt at h
 split at h
 ·split at h
  ·obtain⟨h1,h⟩:=QT.uB h
   cases h
   exact⟨.plain _ _ _ h1,rfl,(by intro e;cases e),(by intro e;cases e)⟩
  ·split at h
   ·rename_i hc
    cases h
    exact⟨.cells _ _ _ _ hc,rfl,(by intro e;cases e),(by intro e;cases e)⟩
   ·cases h
 ·rename_i es clock
  cases hb:(es.map (eD τ)).all ag with
  |true=>
   simp only[QT.run,hb]at h
   cases h
   exact⟨.map _ _ _ (GA hb),rfl,(by intro e;cases e),(by intro e;cases e)⟩
  |false=>
   simp only[QT.run,hb]at h
   split at h
   ·rename_i vW
    cases h
    exact⟨.map _ _ _ vW,rfl,(by intro e;cases e),(by intro e;cases e)⟩
   ·cases h
 ·cases h;exact⟨.lK _ _,rfl,(by intro e;cases e),(by intro e;cases e)⟩
 ·cases h;exact⟨.rows _ _ _,rfl,(by intro e;cases e),(by intro e;cases e)⟩
 ·cases h;exact⟨.abs _,rfl,(by intro e;cases e),(by intro e;cases e)⟩
 ·cases h
theorem GO{τ:Nat->Option Nat}:∀{l l':List ak},(yP P τ l).run=some l'->bS (λo o'=>ON τ o o'/\o'.ro=o.ro/\o≠ .dead/\o'≠ .dead) l l'
 | [],l',h=>by cases h;exact .nil
 |o::l,l',h=>by
  unfold yP at h
  obtain⟨o',h1,h⟩:=QT.run_bind h
  obtain⟨r,h2,h⟩:=QT.run_bind h
  cases h
  exact .cons (NJ h1) (GO h2)
theorem Bv{τ:Nat->Option Nat}:∀{cn l l':List ak},(sQ P τ cn l).run=some l'->l'.length=l.length/\cn.length<=l.length/\
 ∀(i:Nat) (o o':ak),l[i]?=some o->l'[i]?=some o'->(∀ob:ak,cn[i]?=some ob->ob.ro=false)->ON τ o o'/\o'.ro=false/\True
 | [],l,l',h=>by
  unfold sQ at h
  obtain⟨r,h1,h⟩:=QT.run_bind h
  split at h
  ·rename_i lv
   cases h
   have h2:=GO h1
   refine⟨h2.len.symm,by simp,λi o o' ho Bw _=>?_⟩
   obtain⟨o2,h3,h4,h5,h6,h7⟩:=h2.get Bw
   rw[ho]at h3
   cases h3
   have:=ar1.1 lv o' (ar7 Bw)
   exact⟨h4,by simpa using this,trivial⟩
  ·cases h
 |ob::cn,[],l',h=>by cases h
 |ob::cn,o::l,l',h=>by
  unfold sQ at h
  split at h
  ·rename_i de
   obtain⟨r,h1,h⟩:=QT.run_bind h
   cases h
   obtain⟨h2,h3,h4⟩:=Bv h1
   refine⟨by simp[h2],by simpa using h3,λi a a' ha gK fx=>?_⟩
   cases i with
   |zero=>have:=fx ob rfl;rw[de]at this;cases this
   |succ i=>exact h4 i a a' (by simpa using ha) (by simpa using gK) λq hq=>fx q (by simpa using hq)
  ·split at h
   ·obtain⟨r,h1,h⟩:=QT.run_bind h
    cases h
    obtain⟨h2,h3,h4⟩:=Bv h1
    refine⟨by simp[h2],by simpa using h3,λi a a' ha gK fx=>?_⟩
    cases i with
    |zero=>
     simp only[asf,DE]at ha gK
     subst ha gK
     exact⟨.dead _,rfl,trivial⟩
    |succ i=>exact h4 i a a' (by simpa using ha) (by simpa using gK) λq hq=>fx q (by simpa using hq)
   ·obtain⟨o',h0,h⟩:=QT.run_bind h
    split at h
    ·cases h
    ·rename_i Bx
     obtain⟨r,h1,h⟩:=QT.run_bind h
     cases h
     obtain⟨h2,h3,h4⟩:=Bv h1
     refine⟨by simp[h2],by simpa using h3,λi a a' ha gK fx=>?_⟩
     cases i with
     |zero=>
      simp only[asf,DE]at ha gK
      subst ha gK
      exact⟨(NJ h0).1,by simpa using Bx,trivial⟩
     |succ i=>exact h4 i a a' (by simpa using ha) (by simpa using gK) λq hq=>fx q (by simpa using hq)
theorem Bz{g:Nat->Option ak}:∀{σ:List Nat} {cn:List ak},getAll g σ=some cn->σ.length=cn.length/\∀(i x:Nat),σ[i]?=some x->∃o,cn[i]?=some o/\g x=some o
 | [],cn,h=>by cases h;exact⟨rfl,λi x h=>by simp at h⟩
 |y::σ,cn,h=>by
  unfold getAll at h
  split at h
  ·rename_i o r h1 h2
   cases h
   obtain⟨h3,h4⟩:=Bz h2
   refine⟨by simp[h3],λi x hx=>?_⟩
   cases i with
   |zero=>simp only[asf,DE]at hx;subst hx;exact⟨o,rfl,h1⟩
   |succ i=>simpa using h4 i x (by simpa using hx)
  ·cases h
def nl(m:Nat->Option ak):List Nat->List ak->List ak->Nat->Option ak
 |x::σ,ob::cn,o::l=>nl (bif ob.ro then m else cX m x o) σ cn l
 |_,_,_=>m
theorem rC{x:Nat}:∀{σ:List Nat} {cn l:List ak} {m:Nat->Option ak},(∀(i:Nat) (ob:ak),σ[i]?=some x->cn[i]?=some ob->ob.ro=true)->nl m σ cn l x=m x
 | [],cn,l,m,h=>by cases cn<;>rfl
 |y::σ,[],l,m,h=>rfl
 |y::σ,ob::cn,[],m,h=>rfl
 |y::σ,ob::cn,o::l,m,h=>by
  show nl (bif ob.ro then m else cX m y o) σ cn l x=m x
  have h':∀(i:Nat) (qq:ak),σ[i]?=some x->cn[i]?=some qq->qq.ro=true:=λi qq h1 h2=>h (i+1) qq (by simpa using h1) (by simpa using h2)
  rw[rC h']
  cases de:ob.ro with
  |true=>rfl
  |false=>
   show cX m y o x=m x
   rw[eB]
   rintro rfl
   have:=h 0 ob rfl rfl
   rw[de]at this
   cases this
theorem ww{x:Nat}:∀{σ:List Nat} {cn l:List ak} {m:Nat->Option ak} {i:Nat} {ob o:ak},ja σ=true->σ[i]?=some x->cn[i]?=some ob->l[i]?=some o->ob.ro=false->nl m σ cn l x=some o
 | [],cn,l,m,i,ob,o,hn,h1,h2,h3,h4=>by simp at h1
 |y::σ,[],l,m,i,ob,o,hn,h1,h2,h3,h4=>by simp at h2
 |y::σ,b::cn,[],m,i,ob,o,hn,h1,h2,h3,h4=>by simp at h3
 |y::σ,b::cn,a::l,m,i,ob,o,hn,h1,h2,h3,h4=>by
  have nm:=hn
  simp only[ja,BV]at hn
  show nl (bif b.ro then m else cX m y a) σ cn l x=some o
  cases i with
  |zero=>
   simp only[asf,DE]at h1 h2 h3
   subst h1 h2 h3
   rw[h4]
   show nl (cX m y a) σ cn l y=some a
   rw[rC,fB]
   intro j qq hj _
   have:=uy nm (x:=0) (y:=j+1) (z:=y) rfl (by simpa using hj)
   omega
  |succ i=>exact ww hn.2 (by simpa using h1) (by simpa using h2) (by simpa using h3) h4
theorem BA:∀{σ:List Nat} {cn l:List ak} {t t':Tr ak} {wr rD:List Nat} {news:List ak},uC σ cn l (t,wr)=some (t',rD,news)->(∀x∈σ,small x=true)->
 gt t'=nl (gt t) σ cn l/\σ.length=cn.length/\(∃sR,l=sR++news/\sR.length=σ.length)/\(∀x,x∈wr->x∈rD)/\
 (∀x,x∈rD->x∈wr\/x∈σ)/\∀(i x:Nat) (ob:ak),σ[i]?=some x->cn[i]?=some ob->ob.ro=false->x∈rD
 | [],[],l,t,t',wr,rD,news,h,hs=>by
  simp only[uC,DE,KN]at h
  obtain⟨rfl,rfl,rfl⟩:=h
  exact⟨rfl,rfl,⟨[],rfl,rfl⟩,λ_ h=>h,λ_ h=>.inl h,λi x ob h=>by simp at h⟩
 |x::σ,ob::cn,o::l,t,t',wr,rD,news,h,hs=>by
  unfold uC at h
  split at h
  ·rename_i de
   obtain⟨h1,h2,⟨sR,h3,h4⟩,h5,h6,h7⟩:=BA h λy hy=>hs y (arG _ hy)
   refine⟨?_,by simp[h2],⟨o::sR,by simp[h3],by simp[h4]⟩,h5,λy hy=>(h6 y hy).imp id (arG _),λi y qq a b c=>?_⟩
   ·rw[h1];show _=nl (bif ob.ro then gt t else cX (gt t) x o) σ cn l;rw[de];rfl
   ·cases i with
    |zero=>simp only[asf,DE]at b;subst b;rw[de]at c;cases c
    |succ i=>exact h7 i y qq (by simpa using a) (by simpa using b) c
  ·rename_i de
   obtain⟨h1,h2,⟨sR,h3,h4⟩,h5,h6,h7⟩:=BA h λy hy=>hs y (arG _ hy)
   refine⟨?_,by simp[h2],⟨o::sR,by simp[h3],by simp[h4]⟩,λy hy=>h5 y (arG _ hy),λy hy=>?_,λi y qq a b c=>?_⟩
   ·rw[h1,xW (hs x arH)]
    show _=nl (bif ob.ro then gt t else cX (gt t) x o) σ cn l
    rw[de]
    rfl
   ·rcases h6 y hy with hy|hy
    ·rcases arD.1 hy with rfl|hy
     ·exact .inr arH
     ·exact .inl hy
    ·exact .inr (arG _ hy)
   ·cases i with
    |zero=>simp only[asf,DE]at a;subst a;exact h5 _ arH
    |succ i=>exact h7 i y qq (by simpa using a) (by simpa using b) c
 | [],_::_,l,t,t',wr,rD,news,h,hs=>by cases h
 |_::_,[],l,t,t',wr,rD,news,h,hs=>by cases h
 |_::_,_::_,[],t,t',wr,rD,news,h,hs=>by cases h
theorem GP:∀{n k i:Nat},(fD k n)[i]?=if i<n then some (k+i)else none
 |0,k,i=>by simp[fD]
 |n+1,k,i=>by
  cases i with
  |zero=>simp[fD]
  |succ i=>
   simp only[fD,asF]
   rw[GP]
   by_cases h:i<n
   ·rw[if_pos h,if_pos (by omega)];congr 1;omega
   ·rw[if_neg h,if_neg (by omega)]
theorem SR.mono{w₀ w:arB}{B B':Nat->Prop}(hB:∀b,B b->B' b/\w.heap[b]?=w₀.heap[b]?){s:SV}{v:Dy}(h:SR P w₀ B s v):SR P w B' s v:=by
 induction h with
 |val v h=>exact .val v h
 |nil el a=>exact .nil el a
 |cells n c el b off cap c' cj fr h1 h2 h3 h4 h5 h6=>exact .cells n c el b off cap c' cj fr (hB b h1).1 ((hB b h1).2.trans h2) h3 h4 h5 h6
 |qQ size row a=>exact .qQ size row a
 |rows n size row b off cap c' cj fr h1 h2 h3 h4 h5 h6 u h7 h8 ih=>exact .rows n size row b off cap c' cj fr (hB b h1).1 ((hB b h1).2.trans h2) h3 h4 h5 h6 u h7 ih
theorem nL.mono{w₀ w:arB}{B B':Nat->Prop}(hB:∀b,B b->B' b/\w.heap[b]?=w₀.heap[b]?){r:bV}{n size:Nat}{row:Nat->List SV}(h:nL P w₀ B r n size row):nL P w B' r n size row:=by
 obtain⟨c',cj,fr,h1,h2,h3,h4⟩:=h.at_
 exact⟨(hB _ h.aH).1,h.sz,c',cj,fr,(hB _ h.aH).2.trans h1,h2,h3,λi hi=>⟨(h4 i hi).1,λk sv hk=>let⟨v',a,b⟩:=(h4 i hi).2 k sv hk;⟨v',a,b.mono hB⟩⟩⟩
end
end Go.Proofs.YtnlkkgpcikkpoaaGreat.Vm
namespace Go.Proofs.YtnlkkgpcikkpoaaGreat.Vm
open Go.RowKit
section
variable {P:arC}
structure sS(P:arC)(s:Sum)(args:List Dy)(S S':VS)(r:bD) where
 σ:List Nat
 cn:List ak
 qp:List Dy
 j8:List ak
 r1:bD
 jE:List ak
 back:List ak
 t:Tr ak
 wr:List Nat
 news:List ak
 fx:getAll (gt S.mem) σ=some cn
 GQ:nj (iC (fh σ) 6) args=some qp
 cB:ja σ=true
 iq:σ.length<=262144
 sU:bS (λo o'=>ON (fh σ) o o'/\o'.ro=o.ro/\o≠ .dead/\o'≠ .dead) cn j8
 uD:(s.spec qp j8).run=some (r1,jE)
 GR:(sQ P (λi=>(σ++fD S.next (jE.length-σ.length))[i]?) cn jE).run=some back
 hr:rB (λi=>(σ++fD S.next (jE.length-σ.length))[i]?) r1=some r
 BB:uC σ cn back (S.mem,S.wr)=some (t,wr,news)
 vM:sq news ⟨t,S.next,σ++S.rd,wr⟩=some S'
theorem NK{s:Sum}{args:List Dy}{S S':VS}{r:bD}(h:(Bu P s args S).run=some (r,S')):Nonempty (sS P s args S S' r):=by
 unfold Bu at h
 split at h
 ·cases h
 ·rename_i σ hσ
  split at h
  ·rename_i cn qp h1 h2 h3
   simp only[BV]at h3
   obtain⟨j8,h4,h⟩:=QT.run_bind h
   obtain⟨⟨r1,jE⟩,h5,h⟩:=QT.run_bind h
   obtain⟨back,h6,h⟩:=QT.run_bind h
   dsimp only at h h6
   split at h
   ·rename_i r' t wr news h7 h8
    split at h
    ·rename_i S1 h9
     simp only[QT.run,DE,KN]at h
     obtain⟨rfl,rfl⟩:=h
     exact⟨⟨σ,cn,qp,j8,r1,jE,back,t,wr,news,h1,h2,h3.1,arU h3.2,GO h4,h5,h6,h7,h8,h9⟩⟩
    ·cases h
   ·cases h
  ·cases h
theorem sS.GS{s:Sum}{args:List Dy}{S S':VS}{r:bD}(A:sS P s args S S' r):∀x∈A.σ,small x=true:=λx hx=>by
 obtain⟨i,hi⟩:=asS hx
 obtain⟨o,_,h⟩:=(Bz A.fx).2 i x hi
 exact p9 h
theorem sS.ext{s:Sum}{args:List Dy}{S S':VS}{r:bD}(A:sS P s args S S' r):dW S S':=by
 obtain⟨h1,h2,_,h4,h5,h6⟩:=BA A.BB A.GS
 obtain⟨e,gL,_,_⟩:=ym A.vM
 refine dW.trans (b:=⟨A.t,S.next,A.σ++S.rd,A.wr⟩) ⟨λx hx=>List.mem_append_right _ hx,h4,λx hx=>?_,λhS x hx=>?_⟩ e
 ·show gt A.t x=gt S.mem x
  rw[h1,rC]
  intro i ob hi fx
  cases de:ob.ro with
  |true=>rfl
  |false=>exact absurd (h6 i x ob hi fx de) hx
 ·rcases hx with hx|hx
  ·rcases List.mem_append.1 hx with hx|hx
   ·exact A.GS x hx
   ·exact hS x (.inl hx)
  ·rcases h5 x hx with hx|hx
   ·exact hS x (.inr hx)
   ·exact A.GS x hx
theorem sS.call{f:arY}{s:Sum}(hs:bB P f s){args:List Dy}{S S':VS}{r:bD}(A:sS P s args S S' r){B:Nat->Prop}{w₀:arB}{ρ:Ren}{m:Nat->Option ak}{w:arB}{args':Array Dy}
 (ha:LR ρ args args'.toList)(hw:WR P B w₀ ρ m w)(hm:gr S S' m):Calls P f args' w λe w'=>∃ρ',ρ.le ρ'/\CR ρ' r e/\WR P B w₀ ρ' (post m S') w':=by
 obtain⟨σ,cn,qp,j8,r1,jE,back,t,wr,news,fx,GQ,cB,iq,sU,uD,GR,hr,BB,vM⟩:=A
 have hA:sS P s args S S' r:=⟨σ,cn,qp,j8,r1,jE,back,t,wr,news,fx,GQ,cB,iq,sU,uD,GR,hr,BB,vM⟩
 obtain⟨oO,wx⟩:=Bz fx
 have Y0:∀x∈σ,small x=true:=λx hx=>by
  obtain⟨i,hi⟩:=asS hx
  obtain⟨o,_,h⟩:=wx i x hi
  exact p9 h
 obtain⟨l1,l2,⟨sR,l3,apP⟩,l4,l5,l6⟩:=BA BB Y0
 obtain⟨e1,gL,AQ,uk⟩:=ym vM
 obtain⟨b1,b2,b3⟩:=Bv GR
 -- the caller's memory at the old names
 have wy:∀(i x:Nat),σ[i]?=some x->∃o,cn[i]?=some o/\m x=some o:=λi x hi=>by
  obtain⟨o,h1,h2⟩:=wx i x hi
  refine⟨o,h1,?_⟩
  rw[hm x (.inl (by rw[gL];exact List.mem_append_left _ (ar7 hi)))]
  exact h2
 obtain⟨F,fa,fb,fc⟩:=hw.abs
 have Y1:j8.length=σ.length:=by rw[<-sU.len,oO]
 have br:∀(i:Nat) (o:ak),cn[i]?=some o->o≠ .dead:=λi o hi=>by
  obtain⟨o',Bw⟩:∃o',j8[i]?=some o':=by
   have:i<j8.length:=by rw[<-sU.len];exact(KP.1 hi).1
   exact⟨_,KH this⟩
  obtain⟨o2,h1,_,_,h2,_⟩:=sU.get Bw
  rw[hi]at h1
  cases h1
  exact h2
 have NL:∀(i x:Nat),σ[i]?=some x->∃q,ρ x=some q:=λi x hi=>by
  obtain⟨o,h1,h2⟩:=wy i x hi
  exact hw.named x o h2 (br i o h1)
 -- the callee's names
 let ρ1:Ren:=λx=>match small x with
  |true=>(σ[x]?).bind ρ
  |false=>some (wj (x-262144))
 have jn:∀x,small x=true->ρ1 x=(σ[x]?).bind ρ:=λx h=>by show(match small x with|true=>_|false=>_)=_;rw[h]
 have lW:∀x,small x=false->ρ1 x=some (wj (x-262144)):=λx h=>by show(match small x with|true=>_|false=>_)=_;rw[h]
 have wz:∀(i x:Nat),σ[i]?=some x->small i=true:=λi x h=>ij.2 (by
  have:i<σ.length:=(KP.1 h).1
  have:(2:Nat)^18=262144:=rfl
  omega)
 have NM:∀y i q,fh σ y=some i->ρ y=some q->ρ1 i=some q:=λy i q h1 h2=>by
  have h3:=Bp h1
  rw[jn i (wz i y h3),h3]
  exact h2
 have gM:Full ρ1:=λq=>by
  obtain⟨n,h⟩:=Nw q
  exact⟨n+262144,Bo n,by rw[lW _ (Bo n)];simp[h]⟩
 let B1:Nat->Prop:=λb=>b<w.heap.size/\(∀(i x:Nat) (o:ak) (q:bV),σ[i]?=some x->cn[i]?=some o->ρ x=some q->o.ro=false->Live o q=true->q.aH≠b)/\∀(i x:Nat) (d:mm),σ[i]?=some x->cn[i]?=some (.abs d)->¬F x b
 have qt:∀b,B b->B1 b:=λb hb=>⟨hw.size b hb,λi x o q h1 h2 h3 h4 h5 e=>by
  obtain⟨o',h6,h7⟩:=wy i x h1
  rw[h2]at h6
  cases h6
  obtain⟨_,_,_,h8⟩:=hw.live x o q h7 h3 h5
  exact h8 h4 (e▸hb),λi x d _ _ hF=>(fb x b hF).2.2.1 hb⟩
 have GU:∀b,B b->B1 b/\w.heap[b]?=w₀.heap[b]? :=λb hb=>⟨qt b hb,hw.below.block b hb⟩
 have oP:∀(i:Nat) (o':ak),j8[i]?=some o'->∃x o,σ[i]?=some x/\cn[i]?=some o/\m x=some o/\ON (fh σ) o o'/\o'.ro=o.ro:=λi o' hi=>by
  obtain⟨o,h1,h2,h3,_,_⟩:=sU.get hi
  have hlt:i<σ.length:=by rw[<-Y1];exact(KP.1 hi).1
  obtain⟨o2,h4,h5⟩:=wy i _ (KH hlt)
  rw[h1]at h4
  cases h4
  exact⟨_,o,KH hlt,h1,h5,h2,h3⟩
 have sV:∀x o',cu j8 x=some o'->o'≠ .dead->small x=true/\j8[x]?=some o':=λx o' hx br=>by
  cases jF:small x with
  |true=>rw[cH jF]at hx;exact⟨rfl,hx⟩
  |false=>rw[iE jF]at hx;cases hx;exact absurd rfl br
 have fV:WR P B1 w ρ1 (cu j8) w:=
  {below:=gU.refl _ _
   env:=hw.env.next hw.below qt
   size:=λk hk=>hk.1
   live:=by
    intro x o' q hx hq hl
    obtain⟨jF,gX⟩:=sV x o' hx (by rintro rfl;cases hl)
    obtain⟨y,o,h1,h2,h3,h4,h5⟩:=oP x o' gX
    rw[jn x jF,h1]at hq
    have hq:ρ y=some q:=hq
    obtain⟨q9,_⟩:=h4.live hl
    obtain⟨oo,h6,h7,h8⟩:=hw.live y o q h3 hq q9
    exact⟨oo,h6,h4.or NM hl oo h7,λde hb=>hb.2.1 x y o q h1 h2 hq (h5▸de) q9 rfl⟩
   inj:=by
    intro x y ox oy rx ry hx hy lD cD lE dq hd he
    obtain⟨jF,gX⟩:=sV x ox hx (by rintro rfl;cases lE)
    obtain⟨Y2,lq⟩:=sV y oy hy (by rintro rfl;cases dq)
    obtain⟨a,oa,a1,a2,a3,a4,a5⟩:=oP x ox gX
    obtain⟨b,ob,c1,c2,c3,c4,c5⟩:=oP y oy lq
    rw[jn x jF,a1]at lD
    rw[jn y Y2,c1]at cD
    have:=hw.inj a b oa ob rx ry a3 c3 lD cD (a4.live lE).1 (c4.live dq).1 (hd.imp (λh=>a5▸h) (λh=>c5▸h)) he
    subst this
    exact uy cB a1 c1
   fresh:=by
    intro x hx
    cases jF:small x with
    |true=>
     rw[cH jF]at hx
     rw[jn x jF]
     have:σ[x]?=none:=by
      rw[atg]at hx⊢
      omega
     rw[this];rfl
    |false=>rw[iE jF]at hx;cases hx
   rows:=by
    intro x n size row hx
    obtain⟨jF,gX⟩:=sV x _ hx (by intro e;cases e)
    obtain⟨y,o,h1,h2,h3,h4,h5⟩:=oP x _ gX
    cases h4
    obtain⟨q,h6,h7⟩:=hw.rows y n size row h3
    exact⟨q,by rw[jn x jF,h1];exact h6,λhn=>(h7 hn).mono GU⟩
   nil:=by
    intro x el ro q hx hq
    obtain⟨jF,gX⟩:=sV x _ hx (by intro e;cases e)
    obtain⟨y,o,h1,h2,h3,h4,h5⟩:=oP x _ gX
    rw[jn x jF,h1]at hq
    have hq:ρ y=some q:=hq
    cases h4 with
    |plain=>exact hw.nil y el ro q h3 hq
    |cells c _ _ _ h=>
     cases c with
     |nil=>exact hw.nil y el ro q h3 hq
     |cons v c=>have:=uw h;simp at this
   named:=by
    intro x o' hx BC
    obtain⟨jF,gX⟩:=sV x o' hx BC
    obtain⟨y,o,h1,h2,h3,h4,h5⟩:=oP x o' gX
    obtain⟨q,hq⟩:=NL x y h1
    exact⟨q,by rw[jn x jF,h1];exact hq⟩
   abs:=by
    refine⟨λi k=>∃x d,σ[i]?=some x/\cn[i]?=some (.abs d)/\F x k,λi d hi=>?_,?_,?_⟩
    ·obtain⟨jF,gX⟩:=sV i _ hi (by intro e;cases e)
     obtain⟨y,o,h1,h2,h3,h4,h5⟩:=oP i _ gX
     cases h4
     obtain⟨r,S,c,e,f⟩:=fa y d h3
     exact⟨r,S,by rw[jn i jF,h1];exact c,e,λk hk=>⟨y,d,h1,h2,f k hk⟩⟩
    ·rintro i k ⟨x,d,g1,g2,g3⟩
     obtain⟨_,b2,b3,b4⟩:=fb x k g3
     have hlt:i<j8.length:=by rw[<-sU.len];exact(KP.1 g2).1
     obtain⟨o2,q1,q2,q3,_,q5⟩:=sU.get (KH hlt)
     rw[g2]at q1
     cases q1
     have hi:cu j8 i=some (.abs d):=by
      rw[cH (wz i x g1),KH hlt]
      generalize j8[i]=oo at q2 q5
      cases q2 with
      |abs=>rfl
      |dead=>exact absurd rfl q5
     refine⟨⟨d,hi⟩,b2,λhk=>hk.2.2 i x d g1 g2 g3,λz o' q hz hq hl=>?_⟩
     obtain⟨jF,gX⟩:=sV z o' hz (by rintro rfl;cases hl)
     obtain⟨y,o,h1,h2,h3,h4,h5⟩:=oP z o' gX
     rw[jn z jF,h1]at hq
     exact b4 y o q h3 hq (h4.live hl).1
    ·rintro i j k ⟨x,_,g1,_,g3⟩ ⟨x',_,Y3,_,Y4⟩
     have:=fc x x' k g3 Y4
     subst this
     exact uy cB g1 Y3}
 have Y5:∀x,x<j8.length->∃q,ρ1 x=some q:=λx hx=>by
  have hlt:x<σ.length:=by omega
  obtain⟨q,hq⟩:=NL x _ (KH hlt)
  exact⟨q,by rw[jn x (wz x _ (KH hlt)),KH hlt];exact hq⟩
 have yQ:LR ρ1 qp args'.toList:=uv (rp NM 6) GQ ha
 refine(hs qp j8 r1 jE uD B1 w ρ1 w args' gM Y5 yQ fV).mono λe w' he=>?_
 obtain⟨r2,Y6,ρ2,⟨eT,yD⟩,ir,ql,dg,Y7,nk⟩:=he
 rw[eT]at ir
 rw[yD]at dg Y7
 clear eT yD r2 Y6
 -- the caller's names behind the call
 let N:Nat:=jE.length-σ.length
 have Y8:back.length=jE.length:=b1
 have apQ:news.length=N:=by
  have:=congrArg List.length l3
  rw[List.length_append]at this
  show news.length=jE.length-σ.length
  omega
 have hle:σ.length<=jE.length:=by omega
 let ρ':Ren:=λy=>if S.next<=y/\y<S.next+N then ρ2 (σ.length+(y-S.next))else ρ y
 have qj:∀j,j<N->m (S.next+j)=none:=λj hj=>by
  obtain⟨h1,h2⟩:=AQ j (by omega)
  have h1:gt t (S.next+j)=none:=h1
  have h2:S.next+j∈S'.wr:=h2
  rw[hm _ (.inr h2)]
  rw[l1,rC]at h1
  ·exact h1
  ·intro i ob hi fx
   cases de:ob.ro with
   |true=>rfl
   |false=>
    exfalso
    have fH:i<back.length:=by have:=(KP.1 hi).1;omega
    rw[ww cB hi fx (KH fH) de]at h1
    cases h1
 have GV:∀(i x:Nat),σ[i]?=some x->¬(S.next<=x/\x<S.next+N):=λi x hi hx=>by
  obtain⟨o,_,h2⟩:=wy i x hi
  have:=qj (x-S.next) (by omega)
  rw[show S.next+(x-S.next)=x by omega,h2]at this
  cases this
 have NN:∀j,j<N->ρ' (S.next+j)=ρ2 (σ.length+j):=λj hj=>by
  show(if _ then _ else _)=_
  rw[if_pos ⟨by omega,by omega⟩,show S.next+j-S.next=j by omega]
 have BD:∀y,¬(S.next<=y/\y<S.next+N)->ρ' y=ρ y:=λy hy=>by
  show(if _ then _ else _)=_
  rw[if_neg hy]
 have NO:∀(i x:Nat),σ[i]?=some x->ρ' x=ρ2 i:=λi x hi=>by
  have hlt:i<σ.length:=(KP.1 hi).1
  rw[BD x (GV i x hi),nk i (by omega),jn i (wz i x hi),hi]
  rfl
 have F6:ρ.le ρ':=λy q hy=>by
  by_cases gl:S.next<=y/\y<S.next+N
  ·have:=hw.fresh _ (qj (y-S.next) (by omega))
   rw[show S.next+(y-S.next)=y by omega,hy]at this
   cases this
  ·rw[BD y gl,hy]
 let τ:Nat->Option Nat:=λi=>(σ++fD S.next (jE.length-σ.length))[i]?
 have hτ:∀i y,τ i=some y->(σ[i]?=some y)\/(σ.length<=i/\i-σ.length<N/\y=S.next+(i-σ.length)):=λi y h=>by
  have h:(σ++fD S.next N)[i]?=some y:=h
  by_cases hi:i<σ.length
  ·rw[asl hi]at h;exact .inl h
  ·rw[asd (by omega),GP]at h
   split at h
   ·rename_i h3;cases h;exact .inr ⟨by omega,h3,rfl⟩
   ·cases h
 have NP:∀i y q,τ i=some y->ρ2 i=some q->ρ' y=some q:=λi y q h1 h2=>by
  rcases hτ i y h1 with h3|⟨h3,h4,rfl⟩
  ·rw[NO i y h3,h2]
  ·rw[NN _ h4,show σ.length+(i-σ.length)=i by omega,h2]
 have Y9:CR ρ' r e:=by
  unfold rB at hr
  split at hr
  ·rename_i v
   split at hr
   ·rename_i u hu
    cases hr
    cases e with
    |returned v'=>exact rp NP 6 v u v' hu ir
    |panicked chain=>cases ir
    |outgrown=>cases ir
   ·cases hr
  ·rename_i v
   split at hr
   ·rename_i gE
    cases hr
    cases e with
    |returned v'=>cases ir
    |panicked chain=>
     obtain⟨v',h1,h2⟩:=ir
     have:=nK gE h2
     subst this
     exact⟨v',h1,oE gE⟩
    |outgrown=>cases ir
   ·cases hr
 -- the memory behind the call
 let m0:Nat->Option ak:=nl m σ cn back
 have wA:gr ⟨t,S.next,σ++S.rd,wr⟩ S' m0:=λx hx=>by
  show nl m σ cn back x=gt t x
  rw[l1]
  by_cases hex:∃(i:Nat) (ob:ak),σ[i]?=some x/\cn[i]?=some ob/\ob.ro=false
  ·obtain⟨i,ob,h1,h2,h3⟩:=hex
   have fH:i<back.length:=by have:=(KP.1 h1).1;omega
   rw[ww cB h1 h2 (KH fH) h3,ww cB h1 h2 (KH fH) h3]
  ·have lv:∀(i:Nat) (ob:ak),σ[i]?=some x->cn[i]?=some ob->ob.ro=true:=λi ob h1 h2=>by
    cases h3:ob.ro with
    |true=>rfl
    |false=>exact absurd ⟨i,ob,h1,h2,h3⟩ hex
   rw[rC lv,rC lv]
   exact hm x hx
 have GW:post m S'=jk m0 S.next news:=by
  have h1:=uk m0 wA
  have h1:post m0 S'=jk m0 S.next news:=h1
  rw[<-h1]
  funext x
  unfold post
  by_cases hx:x∈S'.wr
  ·rw[if_pos hx,if_pos hx]
  ·rw[if_neg hx,if_neg hx]
   show m x=nl m σ cn back x
   rw[rC]
   intro i ob h1 h2
   cases h3:ob.ro with
   |true=>rfl
   |false=>exact absurd (e1.wr x (l6 i x ob h1 h2 h3)) hx
 have NQ:∀(l:List ak) (k j:Nat) (g:Nat->Option ak),j<l.length->jk g k l (k+j)=l[j]? :=by
  intro l
  induction l with
  |nil=>intro k j g h;simp at h
  |cons o l ih=>
   intro k j g h
   cases j with
   |zero=>
    show jk (cX g k o) (k+1) l (k+0)=_
    rw[AD (.inl (by omega)),atv,fB]
    rfl
   |succ j=>
    show jk (cX g k o) (k+1) l (k+(j+1))=_
    rw[show k+(j+1)=k+1+j by omega,ih (k+1) j _ (by simpa using h)]
    rfl
 -- each name of the caller's: another's, or one of the callee's
 have mr:∀y o,post m S' y=some o->(m y=some o/\ρ' y=ρ y/\∀(i:Nat) (ob:ak),σ[i]?=some y->cn[i]?=some ob->ob.ro=true)\/
  ∃i o2,τ i=some y/\small i=true/\cu jE i=some o2/\ON τ o2 o/\o.ro=false/\True/\ρ' y=ρ2 i:=λy o hy=>by
  rw[GW]at hy
  by_cases gl:S.next<=y/\y<S.next+N
  ·right
   have hj:y-S.next<news.length:=by omega
   rw[show y=S.next+(y-S.next)by omega,NQ news _ _ _ hj]at hy
   have BE:back[σ.length+(y-S.next)]?=some o:=by
    rw[l3,asd (by omega),show σ.length+(y-S.next)-sR.length=y-S.next by omega]
    exact hy
   have hi:σ.length+(y-S.next)<jE.length:=by rw[<-Y8];exact(KP.1 BE).1
   obtain⟨c1,c2,c3⟩:=b3 _ _ o (KH hi) BE (λob fx=>by
    have:=(KP.1 fx).1
    omega)
   have yR:small (σ.length+(y-S.next))=true:=ij.2 (by have:(2:Nat)^18=262144:=rfl;omega)
   refine⟨σ.length+(y-S.next),_,?_,yR,by rw[cH yR,KH hi],c1,c2,c3,?_⟩
   ·show(σ++fD S.next N)[σ.length+(y-S.next)]?=some y
    rw[asd (by omega),GP,if_pos (by omega)]
    congr 1
    omega
   ·have:=NN (y-S.next) (by omega)
    rwa[show S.next+(y-S.next)=y by omega]at this
  ·rw[AD (by omega)]at hy
   have hy:nl m σ cn back y=some o:=hy
   by_cases hex:∃(i:Nat) (ob:ak),σ[i]?=some y/\cn[i]?=some ob/\ob.ro=false
   ·right
    obtain⟨i,ob,h1,h2,h3⟩:=hex
    have fH:i<back.length:=by have:=(KP.1 h1).1;omega
    rw[ww cB h1 h2 (KH fH) h3]at hy
    have BE:back[i]?=some o:=by rw[KH fH,<-hy]
    have wB:i<jE.length:=by omega
    obtain⟨c1,c2,c3⟩:=b3 _ _ o (KH wB) BE (λqq fx=>by rw[h2]at fx;cases fx;exact h3)
    refine⟨i,_,?_,wz i y h1,by rw[cH (wz i y h1),KH wB],c1,c2,c3,NO i y h1⟩
    show(σ++fD S.next N)[i]?=some y
    rw[asl (KP.1 h1).1,h1]
   ·left
    have lv:∀(i:Nat) (ob:ak),σ[i]?=some y->cn[i]?=some ob->ob.ro=true:=λi ob h1 h2=>by
     cases h3:ob.ro with
     |true=>rfl
     |false=>exact absurd ⟨i,ob,h1,h2,h3⟩ hex
    rw[rC lv]at hy
    exact⟨hy,BD y gl,lv⟩
 have apR:∀i j y,τ i=some y->τ j=some y->i=j:=λi j y h1 h2=>by
  rcases hτ i y h1 with h3|⟨h3,h4,h5⟩<;>rcases hτ j y h2 with h6|⟨h6,h7,h8⟩
  ·exact uy cB h3 h6
  ·exact absurd ⟨by omega,by omega⟩ (GV i y h3)
  ·exact absurd ⟨by omega,by omega⟩ (GV j y h6)
  ·omega
 have hold:∀y o q,m y=some o->ρ y=some q->Live o q=true->(∀(i:Nat) (ob:ak),σ[i]?=some y->cn[i]?=some ob->ob.ro=true)->B1 q.aH:=λy o q h1 h2 h3 h4=>by
  obtain⟨oo,h5,_⟩:=hw.live y o q h1 h2 h3
  refine⟨(Array.getElem?_eq_some_iff.1 h5).1,λi x o' q' g1 g2 g3 g4 g5 e=>?_,λi x d _ _ hF=>(fb x q.aH hF).2.2.2 y o q h1 h2 h3 rfl⟩
  obtain⟨o2,g6,g7⟩:=wy i x g1
  rw[g2]at g6
  cases g6
  have:=hw.inj x y o' o q' q g7 h1 g3 h2 g5 h3 (.inl g4) e
  subst this
  have:=h4 i o' g1 g2
  rw[g4]at this
  cases this
 refine⟨ρ',F6,Y9,
  {env:=hw.env
   below:=hw.below.trans ⟨dg.below.os,dg.below.tape,dg.below.output,dg.below.size,λk hk=>dg.below.block k (qt k hk)⟩
   size:=λk hk=>atP (hw.size k hk) dg.below.size
   live:=?_,inj:=?_,fresh:=?_,rows:=?_,nil:=?_,named:=?_,abs:=?_}⟩
 ·intro y o q hy hq hl
  rcases mr y o hy with⟨h1,h2,h3⟩|⟨i,o2,h1,h2,h3,h4,h5,_,h6⟩
  ·rw[h2]at hq
   obtain⟨oo,g1,g2,g3⟩:=hw.live y o q h1 hq hl
   exact⟨oo,by rw[dg.below.block _ (hold y o q h1 hq hl h3)];exact g1,g2.mono F6,g3⟩
  ·rw[h6]at hq
   obtain⟨oo,g1,g2,g3⟩:=dg.live i o2 q h3 hq (h4.live hl).1
   exact⟨oo,g1,h4.or NP hl oo g2,λde hb=>g3 ((h4.live hl).2 de) (qt _ hb)⟩
 ·intro x y ox oy rx ry hx hy lD cD lE dq hd he
  rcases mr x ox hx with⟨h1,h2,h3⟩|⟨i,o2,h1,h2,h3,h4,h5,_,h6⟩<;>rcases mr y oy hy with⟨g1,g2,g3⟩|⟨j,o3,g1,g2,g3,g4,g5,_,g6⟩
  ·rw[h2]at lD
   rw[g2]at cD
   exact hw.inj x y ox oy rx ry h1 g1 lD cD lE dq hd he
  ·rw[h2]at lD
   rw[g6]at cD
   obtain⟨_,_,_,g7⟩:=dg.live j o3 ry g3 cD (g4.live dq).1
   exact absurd (hold x ox rx h1 lD lE h3) (he▸g7 ((g4.live dq).2 g5))
  ·rw[h6]at lD
   rw[g2]at cD
   obtain⟨_,_,_,h7⟩:=dg.live i o2 rx h3 lD (h4.live lE).1
   exact absurd (hold y oy ry g1 cD dq g3) (he▸h7 ((h4.live lE).2 h5))
  ·rw[h6]at lD
   rw[g6]at cD
   have:=dg.inj i j o2 o3 rx ry h3 g3 lD cD (h4.live lE).1 (g4.live dq).1 (.inl ((h4.live lE).2 h5)) he
   subst this
   rw[h1]at g1
   cases g1
   rfl
 ·intro y hy
  by_cases gl:S.next<=y/\y<S.next+N
  ·rw[GW,show y=S.next+(y-S.next)by omega,NQ news _ _ _ (by omega)]at hy
   rw[atg]at hy
   omega
  ·rw[GW,AD (by omega)]at hy
   have hy:nl m σ cn back y=none:=hy
   rw[BD y gl]
   by_cases hex:∃(i:Nat) (ob:ak),σ[i]?=some y/\cn[i]?=some ob/\ob.ro=false
   ·obtain⟨i,ob,h1,h2,h3⟩:=hex
    have fH:i<back.length:=by have:=(KP.1 h1).1;omega
    rw[ww cB h1 h2 (KH fH) h3]at hy
    cases hy
   ·rw[rC (λi ob h1 h2=>by
     cases h3:ob.ro with
     |true=>rfl
     |false=>exact absurd ⟨i,ob,h1,h2,h3⟩ hex)]at hy
    exact hw.fresh y hy
 ·intro y n size row hy
  rcases mr y _ hy with⟨h1,h2,h3⟩|⟨i,o2,h1,h2,h3,h4,h5,_,h6⟩
  ·obtain⟨q,g1,g2⟩:=hw.rows y n size row h1
   exact⟨q,by rw[h2];exact g1,g2⟩
  ·cases h5
 ·intro y el ro q hy hq
  rcases mr y _ hy with⟨h1,h2,h3⟩|⟨i,o2,h1,h2,h3,h4,h5,_,h6⟩
  ·rw[h2]at hq;exact hw.nil y el ro q h1 hq
  ·rw[h6]at hq
   cases h4 with
   |plain=>exact dg.nil i el ro q h3 hq
   |cells c _ _ _ h=>
    cases c with
    |nil=>exact dg.nil i el ro q h3 hq
    |cons v c=>have:=uw h;simp at this
 ·intro y o hy BC
  rcases mr y o hy with⟨h1,h2,h3⟩|⟨i,o2,h1,h2,h3,h4,h5,_,h6⟩
  ·rw[h2];exact hw.named y o h1 BC
  ·rw[h6];exact dg.named i o2 h3 (h4.ne BC)
 ·obtain⟨F2,ga,gb,gc⟩:=dg.abs
  have yN:∀(y:Nat) (d:mm) (k:Nat),(∀(i:Nat) (ob:ak),σ[i]?=some y->cn[i]?=some ob->ob.ro=true)->F y k->B1 k:=λy d k de hk=>by
   obtain⟨_,b2,b3,b4⟩:=fb y k hk
   refine⟨b2,λi x o q g1 g2 g3 g4 g5=>?_,λi x d' g1 g2 hF=>?_⟩
   ·obtain⟨o2,g6,g7⟩:=wy i x g1
    rw[g2]at g6
    cases g6
    exact b4 x o q g7 g3 g5
   ·have:=fc x y k hF hk
    subst this
    have:=de i _ g1 g2
    cases this
  refine⟨λy k=>(∃d,post m S' y=some (.abs d)/\F y k/\B1 k)\/∃i d,τ i=some y/\post m S' y=some (.abs d)/\F2 i k,λy d hy=>?_,λy k hk=>?_,λy1 y2 k qu kW=>?_⟩
  ·rcases mr y _ hy with⟨h1,h2,h3⟩|⟨i,o2,h1,h2,h3,h4,h5,_,h6⟩
   ·obtain⟨r,S,c,e,f⟩:=fa y d h1
    exact⟨r,S,by rw[h2,c],e.frame λk hk=>dg.below.block k (yN y d k h3 (f k hk)),λk hk=>.inl ⟨d,hy,f k hk,yN y d k h3 (f k hk)⟩⟩
   ·cases h4
    obtain⟨r,S,c,e,f⟩:=ga i d h3
    exact⟨r,S,by rw[h6,c],e,λk hk=>.inr ⟨i,d,h1,hy,f k hk⟩⟩
  ·rcases hk with⟨d,p1,p3,p4⟩|⟨i,d,p1,p2,p4⟩
   ·obtain⟨_,b2,b3,b4⟩:=fb y k p3
    refine⟨⟨d,p1⟩,atP b2 dg.below.size,b3,λz o r hz hr hl=>?_⟩
    rcases mr z o hz with⟨h1,h2,h3⟩|⟨i,o2,h1,h2,h3,h4,h5,_,h6⟩
    ·rw[h2]at hr;exact b4 z o r h1 hr hl
    ·rw[h6]at hr
     obtain⟨_,_,_,g3⟩:=dg.live i o2 r h3 hr (h4.live hl).1
     exact λe=>g3 ((h4.live hl).2 h5) (e▸p4)
   ·obtain⟨_,q2,q3,q4⟩:=gb i k p4
    refine⟨⟨d,p2⟩,q2,λhB=>q3 (qt k hB),λz o r hz hr hl=>?_⟩
    rcases mr z o hz with⟨h1,h2,h3⟩|⟨j,o2,h1,h2,h3,h4,h5,_,h6⟩
    ·rw[h2]at hr;exact λe=>q3 (e▸hold z o r h1 hr hl h3)
    ·rw[h6]at hr;exact q4 j o2 r h3 hr (h4.live hl).1
  ·rcases qu with⟨d,p1,p3,p4⟩|⟨i,d,p1,p2,p4⟩<;>rcases kW with⟨d',s1,s3,s4⟩|⟨j,d',s1,s2,s4⟩
   ·exact fc y1 y2 k p3 s3
   ·exact absurd p4 (gb j k s4).2.2.1
   ·exact absurd s4 (gb i k p4).2.2.1
   ·have:=gc i j k p4 s4
    subst this
    rw[p1]at s1
    cases s1
    rfl
end
def BF(P:arC)(np:arY->Option Sum)(base:fX):fX:=λf args S=>match np f with
 |some s=>(Bu P s args S).dt
 |none=>base f args S
def uE(P:arC)(np:arY->Option Sum)(base:cQ):cQ:=λf args S=>match np f with
 |some s=>(Bu P s args S).run
 |none=>base f args S
def dM(P:arC)(np:arY->Option Sum)(lf d:Nat):fX:=BF P np (sM P (BF P np) lf d)
theorem dU{P:arC}(hP:iV P=true)(fM:P.follows .mixedOrders=true){np:arY->Option Sum}(ht:∀f s,np f=some s->bB P f s)(lf d:Nat):dD P (dM P np lf d):=by
 have h1:∀call,iy P call->iy P (uE P np call):=λcall hc=>
  {ext:=by
    intro f args S r S' h
    unfold uE at h
    split at h
    ·rename_i s hs
     obtain⟨A⟩:=NK h
     exact A.ext
    ·exact hc.ext h
   ok:=by
    intro f args S r S' h B w₀ ρ m w args' ha hw hm
    unfold uE at h
    split at h
    ·rename_i s hs
     obtain⟨A⟩:=NK h
     exact A.call (ht f s hs) ha hw hm
    ·exact hc.ok h ha hw hm}
 have h2:∀(c:fX) (c':cQ),(∀f args S r,(c f args S).Has r->c' f args S=some r)->∀f args S r,(BF P np c f args S).Has r->uE P np c' f args S=some r:=by
  intro c c' hc f args S r h
  unfold BF at h
  unfold uE
  split at h
  ·exact QT.YZ h
  ·exact hc f args S r h
 exact⟨uE P np (m9 P (uE P np) lf d),h1 _ (M7 hP fM h1 lf d),h2 _ _ λf args S r h=>Gw P h2 lf h⟩
end Go.Proofs.YtnlkkgpcikkpoaaGreat.Vm
namespace Go.Proofs.YtnlkkgpcikkpoaaGreat.Vm
open Go.RowKit
theorem ao.done{P:arC}{n k:Nat}{l:List ar3}{d:ai}{Q:bf->ai->Prop}(hl:l.isEmpty=true)(h:Q .normal d):ao P n k l d Q:=by
 cases l with
 |nil=>exact ao.nil h
 |cons c l=>cases hl
def dI(P:arC)(f:arY):ar3:=match(P.funcs[f]?).bind (·.body)with
 |some c=>c
 |none=>.skip
def sW(P:arC)(f:arY):List ResultVar:=match P.funcs[f]?with
 |some fn=>fn.results.toList
 |none=>[]
def cp(P:arC)(f:arY):Nat:=match P.funcs[f]?with
 |some fn=>fn.ntmps
 |none=>0
def NR(P:arC)(f:arY)(n:Nat)(Q:bD->List ak->Prop):bf->ai->Prop
 | .normal,d=>∃vs l,(∀u,(iv P (eV n u d.sl) (sW P f)).run (gt (lQ d.objs).mem)=some (vs,l))/\Q (.ret (nH vs)) d.objs
 | .ret,d=>∃vs l,(∀u,(iv P (eV n u d.sl) (sW P f)).run (gt (lQ d.objs).mem)=some (vs,l))/\Q (.ret (nH vs)) d.objs
 | .panic v,d=>Q (.panic v) d.objs
 |_,_=>False
theorem aF.of{P:arC}{f:arY}{n:Nat}{args:List Dy}{objs:List ak}{Q:bD->List ak->Prop}
 (hf:(((P.funcs[f]?).bind (·.body)).isSome&&arE (cp P f) n&&arM args.length n&&arM n 1024&&arM objs.length 262144)=true)
 (h:ao P n objs.length (a7 (dI P f)) ⟨wu args 0,objs⟩ (NR P f n Q)):aF P f args objs Q:=by
 simp only[BV]at hf
 obtain⟨⟨⟨⟨h1,h2⟩,h3⟩,h4⟩,h5⟩:=hf
 cases hJ:P.funcs[f]?with
 |none=>rw[hJ]at h1;cases h1
 |some fn=>
  cases hb:fn.body with
  |none=>rw[hJ]at h1;dsimp only[awj]at h1;rw[hb]at h1;cases h1
  |some c=>
   have e1:dI P f=c:=by unfold dI;rw[hJ];dsimp only[awj];rw[hb]
   have e2:sW P f=fn.results.toList:=by unfold sW;rw[hJ]
   have e3:fn.ntmps=n:=by have:=arJ h2;unfold cp at this;rw[hJ]at this;exact this
   subst e3
   refine aF.YX hJ hb (by rw[h3,h4,h5];rfl) ?_
   rw[e1]at h
   refine h.mono λx d' hx=>?_
   unfold NR at hx
   rw[e2]at hx
   cases x<;>exact hx
def af(b:ByteArray):List Dy:=b.data.toList.map λx=>.int .u8 x.toNat
def ah(l:List ByteArray):List Dy:=l.map Value.string
def ay(l:List Int):List Dy:=l.map (KJ .i64)
theorem mC(b:ByteArray):(af b).length=b.size:=by unfold af;simp
theorem yS(l:List ByteArray):(ah l).length=l.length:=by unfold ah;simp
theorem BG(l:List Int):(ay l).length=l.length:=by unfold ay;simp
theorem aE(b:ByteArray):(af b).all ag=true:=by unfold af;rw[List.all_map];exact ar1.2 λ_ _=>rfl
theorem aW(l:List ByteArray):(ah l).all ag=true:=by unfold ah;simp[ag]
theorem aS(l:List Int):(ay l).all ag=true:=by unfold ay;simp[ag]
theorem fO{a b:List Dy}(ha:a.all ag=true)(hb:b.all ag=true):(a++b).all ag=true:=by rw[List.all_append,ha,hb];rfl
theorem BH{a:List Dy}(ha:a.all ag=true)(n:Nat):(a.drop n).all ag=true:=by
 rw[ar1]at ha⊢
 exact λx hx=>ha x (List.mem_of_mem_drop hx)
theorem nq{a:List Dy}(ha:a.all ag=true)(n:Nat):(a.take n).all ag=true:=by
 rw[ar1]at ha⊢
 exact λx hx=>ha x (List.mem_of_mem_take hx)
theorem iH{a b:List Dy}(ha:a.all ag=true)(hb:b.all ag=true)(n:Nat):(bc a n b).all ag=true:=by
 unfold bc
 exact fO (fO (nq ha n) hb) (BH ha _)
theorem kA(b:List UInt8):(b.map λx=>KJ .u8 (x.toNat:Int)).all ag=true:=by simp[ag]
theorem uF{c:List Dy}(h:c.all ag=true):c.all asr=true:=by
 rw[ar1]at h⊢
 intro x hx
 have:=h x hx
 cases x<;>first|rfl|cases this
theorem BI:∀l:List UInt8,bytesOf (l.map λx=>KJ .u8 (x.toNat:Int))=some l
 | []=>rfl
 |x::l=>by
  simp only[asn,bytesOf,BI l]
  simp
theorem Za(b:ByteArray):bytesOf (af b)=some b.data.toList:=BI _
theorem GX{l:List Int}{i:Nat}(h:i<l.length):av (ay l) i=l[i]:=by unfold av ay;simp[h]
theorem GY{l:List Int}{i:Nat}(h:i<l.length):cP .i64 (ay l) i=true:=by unfold cP ay;simp[h]
theorem yT{l:List ByteArray}{i:Nat}(h:i<l.length):aR (ah l) i=l[i]:=by unfold aR ah;simp[h]
theorem uG{l:List ByteArray}{i:Nat}(h:i<l.length):dY (ah l) i=true:=by unfold dY ah;simp[h]
theorem GZ{b:ByteArray}{i:Nat}(h:i<b.size):av (af b) i=(b[i].toNat:Int):=by
 unfold av af
 have:i<b.data.toList.length:=by simpa using h
 simp only[asT,KH this,asO]
 rfl
theorem G0{b:ByteArray}{i:Nat}(h:i<b.size):cP .u8 (af b) i=true:=by
 unfold cP af
 have:i<b.data.toList.length:=by simpa using h
 simp[asT,KH this]
theorem nX{x:Int}(h0: -9223372036854775808<=x)(h1:x<=9223372036854775807):Ul.wrap x=x:=by
 rw[IntKind.wrap_i64];omega
end Go.Proofs.YtnlkkgpcikkpoaaGreat.Vm
