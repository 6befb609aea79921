/- Part of the proof: Vc. -/
import Derived.Test.YtnlkkgpcikkpoaaGreatJAc
import Derived.LoopN
import Derived.RangeFuncLeaves
import Derived.RangeFuncRecord
open Array renaming getD_eq_getD_getElem?→apW,getElem?_eq_getElem→ara
open Bool renaming and_eq_true→apt,and_self→aq7,false_and→asN
open Go renaming BinOp→at5,Code→apV,Deferred→aqS,Exit→arB,FuncId→apQ,MapEntry→apM,Oper→aqh,Operand→aqM,Program→apu,TypeId→apq,Value→ape,World→aps,wpIn_wide→as8,wp_mono→atz
open Go.Exit renaming inBlock→atj
open Go.Fence renaming wide→are
open Go.Instr renaming index→asy,sliceAt→arr,sliceBound→ass
open Go.IntKind renaming i64→apr
open Go.Next renaming value→aqs
open Go.Region renaming wanted→aqP
open Go.Value renaming int→apm,oneCell'→aqg
open Go.World renaming putObj_heap_other→aqC
open List renaming all_eq_true→apR,ext_getElem?→asn,foldl_cons→ari,getElem?_append_left→ap5,getElem?_append_right→apZ,getElem?_cons_succ→aqt,getElem?_cons_zero→ap3,getElem?_eq_getElem→apl,getElem?_eq_none→aqr,getElem?_eq_none_iff→aq3,getElem?_eq_some_iff→app,getElem?_map→aqJ,getElem?_of_mem→aqG,getElem?_range→asz,getElem?_set_ne→ar3,getElem?_set_self→arP,length_cons→ap1,length_nil→arW,map_cons→aqb,mem_cons→apx,mem_cons_of_mem→apB,mem_cons_self→apC,mem_of_getElem?→apX,range→arO
open Nat renaming add_zero→arx,beq→apw,beq_refl→aqn,ble→apG,ble_eq_true_of_le→apU,blt→apy,eq_of_beq_eq_true→apz,le_of_ble_eq_true→apL,le_refl→apI,lt_of_lt_of_le→arC,sub_zero→asc,zero_add→aqR
open Nat.succ renaming inj→atY
open Option renaming bind_some→atW,getD_some→aq4,map_some→aqA
open Option.some renaming injEq→api
open Prod.mk renaming injEq→apn
set_option linter.unusedVariables false
set_option linter.unusedSimpArgs false
set_option maxRecDepth 100000
namespace Go.Proofs.YtnlkkgpcikkpoaaGreat.Vm
open Go.RowKit
inductive DT(α:Type) where
 |done (a:α)
 |fail
 |ask (d:Bool) (k:Bool→DT α)
 |fC (p:Bool) (x y:DT α)
inductive DT.Has{α:Type}:DT α→α→Prop where
 |done (a:α):Has (.done a) a
 |ask (d:Bool) (k:Bool→DT α) (a:α) (h:Has (k d) a):Has (.ask d k) a
 |left(p:Bool) (x y:DT α) (a:α) (h:Has x a):Has (.fC p x y) a
 |right(p:Bool) (x y:DT α) (a:α) (h:Has y a):Has (.fC p x y) a
def DT.bind{α β:Type}:DT α→(α→DT β)→DT β
 | .done a,f=>f a
 | .fail,_=>.fail
 | .ask d k,f=>.ask d fun b=>(k b).bind f
 | .fC p x y,f=>.fC p (x.bind f) (y.bind f)
def DT.fO{α:Type}:Option α→DT α
 |some a=>.done a
 |none=>.fail
theorem DT.cw{α:Type}{a b:α}(h:(DT.done a).Has b):b=a:=by cases h;rfl
theorem DT.Wy{α:Type}{b:α}(h:(DT.fail:DT α).Has b):False:=by cases h
theorem DT.oI{α:Type}{d:Bool}{k:Bool→DT α}{b:α}(h:(DT.ask d k).Has b):(k d).Has b:=by cases h;assumption
theorem DT.nM{α:Type}{p:Bool}{x y:DT α}{b:α}(h:(DT.fC p x y).Has b):x.Has b∨y.Has b:=by
 cases h with
 |left _ _ _ _ h=>exact .inl h
 |right _ _ _ _ h=>exact .inr h
theorem DT.ii{α:Type}{o:Option α}{b:α}(h:(DT.fO o).Has b):o=some b:=by
 cases o with
 |none=>cases h
 |some a=>rw[DT.cw h]
theorem DT.fx{α β:Type}:∀{x:DT α} {f:α→DT β} {b:β},(x.bind f).Has b→∃a,x.Has a∧(f a).Has b:=by
 intro x
 induction x with
 |done a=>intro f b h;exact⟨a,.done a,h⟩
 |fail=>intro f b h;cases h
 |ask d k ih=>
  intro f b h
  obtain⟨a,h1,h2⟩:=ih d (DT.oI h)
  exact⟨a,.ask d k a h1,h2⟩
 |fC p x y qC qD=>
  intro f b h
  rcases DT.nM h with h|h
  ·obtain⟨a,h1,h2⟩:=qC h;exact⟨a,.left _ _ _ _ h1,h2⟩
  ·obtain⟨a,h1,h2⟩:=qD h;exact⟨a,.right _ _ _ _ h1,h2⟩
inductive AT(α:Type) where
 |done (n:Nat) (a:α)
 |fail (n:Nat)
def mark{α:Type}(n:Nat)(x:AT α):AT α:=x
abbrev EO:=DT (bi×List Nat)
def kM(v:ape)(l:List Nat):EO:=.done (⟨.val v,[],none⟩,l)
theorem la{v:ape}{l l':List Nat}{out:bi}(h:(kM v l).Has (out,l')):out=⟨.val v,[],none⟩∧l'=l:=by
 have:=DT.cw h
 simpa using this
def eB{α:Type}(d:Bool)(k:DT α):DT α:=.ask d fun b=>match b with
 |true=>k
 |false=>.fail
theorem eG{α:Type}{d:Bool}{k:DT α}{a:α}(h:(eB d k).Has a):d=true∧k.Has a:=by
 have:=DT.oI h
 cases d with
 |true=>exact⟨rfl,this⟩
 |false=>exact(DT.Wy this).elim
section
variable (P:apu)
def E1(t:apq)(x i:ape):EO:=match P.underlying t,x,i with
 |some (.array k el),.pointer (some ⟨b,off,none⟩),.int _ z=>match bR P el with
  |some size=>eB (decide (0≤z)) (eB (apy z.toNat k) (kM (.pointer (some ⟨b,off+z.toNat*size,none⟩)) []))
  |none=>.fail
 |some (.slice el),.slice (some ⟨b,off,none⟩) len _,.int _ z=>match bR P el with
  |some size=>eB (decide (0≤z)) (eB (apy z.toNat len) (kM (.pointer (some ⟨b,off+z.toNat*size,none⟩)) []))
  |none=>.fail
 |_,_,_=>.fail
theorem Az{k:IntKind}{z:Int}(h:decide (0≤z)=true):pe (.int k z)=some z.toNat:=by
 have:0≤z:=by simpa using h
 cases z with
 |ofNat n=>rfl
 |negSucc n=>omega
theorem Wz{t:apq}{x i:ape}{out:bi}{l:List Nat}{g:Nat→Option ag}(h:(E1 P t x i).Has (out,l)):(tg P t x i).run g=some (out,l):=by
 unfold E1 at h
 unfold tg
 split at h
 ·rename_i k el b off ik z ht
  split at h
  ·rename_i size hs
   obtain⟨h1,h⟩:=eG h
   obtain⟨h2,h⟩:=eG h
   obtain⟨rfl,rfl⟩:=la h
   simp only[ht,Az h1,hs,h2]
   rfl
  ·cases h
 ·rename_i el b off len cap ik z ht
  split at h
  ·rename_i size hs
   obtain⟨h1,h⟩:=eG h
   obtain⟨h2,h⟩:=eG h
   obtain⟨rfl,rfl⟩:=la h
   simp only[ht,Az h1,hs,h2]
   rfl
  ·cases h
 ·cases h
def av(c:List ape)(i:Nat):Int:=match c[i]?with
 |some (.int _ x)=>x
 |_=>0
def cA(k:IntKind)(c:List ape)(i:Nat):Bool:=match c[i]?with
 |some (.int k' _)=>decide (k'=k)
 |_=>false
def aX(c:List ape)(i:Nat):ByteArray:=match c[i]?with
 |some (.string x)=>x
 |_=>ByteArray.empty
def eS(c:List ape)(i:Nat):Bool:=match c[i]?with
 |some (.string _)=>true
 |_=>false
def gR(c:List ape)(i:Nat):Bool:=match c[i]?with
 |some (.bool x)=>x
 |_=>false
def oJ(c:List ape)(i:Nat):Bool:=match c[i]?with
 |some (.bool _)=>true
 |_=>false
def E2(t:apq)(c:List ape)(off:Nat):DT ape:=match P.underlying t with
 |some (.int k)=>eB (cA k c off) (.done (.int k (av c off)))
 |some .string=>eB (eS c off) (.done (.string (aX c off)))
 |some .bool=>eB (oJ c off) (.done (.bool (gR c off)))
 |_=>.fail
theorem WA{t:apq}{c:List ape}{off:Nat}{v:ape}(h:(E2 P t c off).Has v):oe P t=some false∧c[off]?=some v:=by
 unfold E2 at h
 unfold oe
 split at h
 ·rename_i k ht
  obtain⟨h1,h⟩:=eG h
  have h2:=DT.cw h
  unfold cA at h1
  unfold av at h2
  split at h1
  ·rename_i k' x hc
   have:k'=k:=by simpa using h1
   subst this
   rw[hc]at h2⊢
   rw[ht,h2]
   exact⟨rfl,rfl⟩
  ·cases h1
 ·rename_i ht
  obtain⟨h1,h⟩:=eG h
  have h2:=DT.cw h
  unfold eS at h1
  unfold aX at h2
  split at h1
  ·rename_i x hc
   rw[hc]at h2⊢
   rw[ht,h2]
   exact⟨rfl,rfl⟩
  ·cases h1
 ·rename_i ht
  obtain⟨h1,h⟩:=eG h
  have h2:=DT.cw h
  unfold oJ at h1
  unfold gR at h2
  split at h1
  ·rename_i x hc
   rw[hc]at h2⊢
   rw[ht,h2]
   exact⟨rfl,rfl⟩
  ·cases h1
 ·cases h
def E3(g:Nat→Option ag)(t:apq)(a:ape):EO:=match a with
 | .pointer (some ⟨b,off,none⟩)=>match g b with
  |some (.cells c _ _)=>(E2 P t c off).bind fun v=>kM v [b]
  |_=>.fail
 |_=>.fail
theorem WB{t:apq}{a:ape}{out:bi}{l:List Nat}{g:Nat→Option ag}(h:(E3 P g t a).Has (out,l)):(td P t a).run g=some (out,l):=by
 unfold E3 at h
 split at h
 ·rename_i b off
  split at h
  ·rename_i c el ro hb
   obtain⟨v,h1,h2⟩:=DT.fx h
   obtain⟨rfl,rfl⟩:=la h2
   obtain⟨h3,h4⟩:=WA P h1
   unfold td qd
   rw[Rd.run_bind]
   refine⟨v,[b],[],?_,rfl,rfl⟩
   simp only[Rd.run,hb,h3,h4]
  ·cases h
 ·cases h
def E4(c:List ape)(i:Nat):Bool:=match c[i]?with
 |some (.slice none 0 0)=>true
 |_=>false
def L4(c:List ape)(i:Nat):Bool:=match c[i]?with
 |some (.slice (some ⟨2,_,none⟩) _ _)=>true
 |_=>false
def L5(c:List ape)(i:Nat):Nat:=match c[i]?with
 |some (.slice (some ⟨_,o,_⟩) _ _)=>o
 |_=>0
def L6(c:List ape)(i:Nat):Nat:=match c[i]?with
 |some (.slice _ n _)=>n
 |_=>0
def L7(c:List ape)(i:Nat):Nat:=match c[i]?with
 |some (.slice _ _ n)=>n
 |_=>0
def E5(z:ape)(c:List ape)(i:Nat):DT ape:=match z with
 | .int k _=>eB (cA k c i) (.done (.int k (av c i)))
 | .string _=>eB (eS c i) (.done (.string (aX c i)))
 | .bool _=>eB (oJ c i) (.done (.bool (gR c i)))
 | .slice none 0 0=>.ask (E4 c i) fun b=>match b with
  |true=>.done (.slice none 0 0)
  |false=>eB (L4 c i) (.done (.slice (some ⟨2,L5 c i,none⟩) (L6 c i) (L7 c i)))
 |_=>.fail
theorem WC{z:ape}{c:List ape}{i:Nat}{v:ape}(h:(E5 z c i).Has v):c[i]?=some v:=by
 unfold E5 at h
 split at h
 ·rename_i k _
  obtain⟨h1,h⟩:=eG h
  have h2:=DT.cw h
  unfold cA at h1
  unfold av at h2
  split at h1
  ·rename_i k' x hc
   have:k'=k:=by simpa using h1
   subst this
   rw[hc]at h2⊢
   rw[h2]
  ·cases h1
 ·obtain⟨h1,h⟩:=eG h
  have h2:=DT.cw h
  unfold eS at h1
  unfold aX at h2
  split at h1
  ·rename_i x hc;rw[hc]at h2⊢;rw[h2]
  ·cases h1
 ·obtain⟨h1,h⟩:=eG h
  have h2:=DT.cw h
  unfold oJ at h1
  unfold gR at h2
  split at h1
  ·rename_i x hc;rw[hc]at h2⊢;rw[h2]
  ·cases h1
 ·have h:=DT.oI h
  cases hn:E4 c i with
  |true=>
   rw[hn]at h
   have h2:=DT.cw h
   unfold E4 at hn
   split at hn
   ·rename_i hc;rw[hc,h2]
   ·cases hn
  |false=>
   rw[hn]at h
   obtain⟨h1,h⟩:=eG h
   have h2:=DT.cw h
   unfold L4 at h1
   unfold L5 L6 L7 at h2
   split at h1
   ·rename_i o n m hc;rw[hc]at h2⊢;rw[h2]
   ·cases h1
 ·cases h
def AA:List ape→List ape→Nat→DT (List ape)
 | [],_,_=>.done []
 |z::zs,c,i=>(E5 z c i).bind fun v=>(AA zs c (i+1)).bind fun r=>.done (v::r)
theorem L8:∀{zs c:List ape} {i:Nat} {r:List ape},(AA zs c i).Has r→r.length=zs.length∧∀j v,r[j]?=some v→c[i+j]?=some v
 | [],c,i,r,h=>by rw[DT.cw h];exact⟨rfl,fun j v hv=>by simp at hv⟩
 |z::zs,c,i,r,h=>by
  unfold AA at h
  obtain⟨v,h1,h2⟩:=DT.fx h
  obtain⟨r',h3,h4⟩:=DT.fx h2
  rw[DT.cw h4]
  obtain⟨h5,h6⟩:=L8 h3
  refine⟨by simp[h5],fun j u hu=>?_⟩
  cases j with
  |zero=>
   simp only[ap3,api]at hu
   subst hu
   exact WC h1
  |succ j=>
   simp only[aqt]at hu
   have:=h6 j u hu
   rwa[show i+1+j=i+(j+1)by omega]at this
def E6(g:Nat→Option ag)(t:apq)(a:ape):EO:=match a with
 | .pointer (some ⟨b,off,none⟩)=>match g b,oe P t,zeroOf P t,bR P t with
  |some (.cells c _ _),some true,some (.agg z),some (n+1)=>match apw z.toList.length (n+1)with
   |true=>eB (apG (off+(n+1)) c.length) ((AA z.toList c off).bind fun l=>kM (.agg l.toArray) [b])
   |false=>.fail
  |_,_,_,_=>.fail
 |_=>.fail
theorem WD{t:apq}{a:ape}{out:bi}{l:List Nat}{g:Nat→Option ag}(h:(E6 P g t a).Has (out,l)):(td P t a).run g=some (out,l):=by
 unfold E6 at h
 split at h
 ·rename_i b off
  split at h
  ·rename_i c el ro z n hb m7 hz hn
   split at h
   ·rename_i hlen
    have hlen:=apz hlen
    obtain⟨hle,h⟩:=eG h
    obtain⟨r,h1,h2⟩:=DT.fx h
    obtain⟨rfl,rfl⟩:=la h2
    obtain⟨h3,h4⟩:=L8 h1
    have E7:=apL hle
    have ql:cut c off (n+1)=some r:=by
     unfold cut
     rw[hle]
     refine congrArg some (asn fun j=>?_)
     rw[List.getElem?_take]
     by_cases hj:j<n+1
     ·rw[if_pos hj,List.getElem?_drop]
      have L9:j<r.length:=by omega
      rw[apl L9]
      exact(h4 j _ (apl L9)).trans rfl
     ·rw[if_neg hj,aqr (by omega)]
    unfold td qd
    rw[Rd.run_bind]
    refine⟨.agg r.toArray,[b],[],?_,rfl,rfl⟩
    simp only[Rd.run,hb,m7,hn,ql]
   ·cases h
  ·cases h
 ·cases h
def rN(off:Nat)(v:ape):Nat→List ape→DT (List ape)
 |_,[]=>.done []
 |i,c::cs=>match c,v with
  | .string s,.string s'=>(rN off v (i+1) cs).bind fun r=>.done (.string (bif apw off i then s' else s)::r)
  | .int k x,.int k' x'=>match decide (k=k')with
   |true=>(rN off v (i+1) cs).bind fun r=>.done (.int k (bif apw off i then x' else x)::r)
   |false=>.ask (apw off i) fun b=>match b with
    |true=>.fail
    |false=>(rN off v (i+1) cs).bind fun r=>.done (c::r)
  |_,_=>.ask (apw off i) fun b=>match b with
   |true=>.fail
   |false=>(rN off v (i+1) cs).bind fun r=>.done (c::r)
theorem Ma{off:Nat}{v:ape}:∀{i:Nat} {c r:List ape},(rN off v i c).Has r→r.length=c.length∧∀j,r[j]?=if i+j=off∧j<c.length then some v else c[j]?
 |i,[],r,h=>by
  have:=DT.cw h
  subst this
  exact⟨rfl,fun j=>by simp⟩
 |i,c::cs,r,h=>by
  have fin:∀(x:ape) (r':List ape),(rN off v (i+1) cs).Has r'→(x=if i=off then v else c)→(x::r').length=(c::cs).length∧∀j,(x::r')[j]?=if i+j=off∧j<(c::cs).length then some v else(c::cs)[j]? :=by
   intro x r' hr hx
   obtain⟨h1,h2⟩:=Ma hr
   refine⟨by simp[h1],fun j=>?_⟩
   cases j with
   |zero=>
    simp only[ap3,arx,ap1]
    rw[hx]
    by_cases e:i=off
    ·rw[if_pos e,if_pos ⟨e,by omega⟩]
    ·rw[if_neg e,if_neg fun h=>e h.1]
   |succ j=>
    simp only[aqt,ap1]
    rw[h2 j]
    by_cases e:i+1+j=off∧j<cs.length
    ·rw[if_pos e,if_pos ⟨by omega,by omega⟩]
    ·rw[if_neg e,if_neg fun h=>e ⟨by omega,by omega⟩]
  have hb:∀{b:Bool},apw off i=b→(i=off↔b=true):=by
   intro b hb
   rw[WE off i]at hb
   rw[←hb]
   exact⟨fun e=>by rw[e];exact aqn _,fun e=>apz e⟩
  unfold rN at h
  split at h
  ·rename_i s s'
   obtain⟨r',h1,h2⟩:=DT.fx h
   have:=DT.cw h2
   subst this
   refine fin _ r' h1 ?_
   cases hq:apw off i with
   |true=>rw[if_pos ((hb hq).2 rfl)];rfl
   |false=>rw[if_neg fun e=>by cases(hb hq).1 e];rfl
  ·rename_i k x k' x'
   split at h
   ·rename_i hk
    have hk:k=k':=by simpa using hk
    subst hk
    obtain⟨r',h1,h2⟩:=DT.fx h
    have:=DT.cw h2
    subst this
    refine fin _ r' h1 ?_
    cases hq:apw off i with
    |true=>rw[if_pos ((hb hq).2 rfl)];rfl
    |false=>rw[if_neg fun e=>by cases(hb hq).1 e];rfl
   ·have h:=DT.oI h
    cases hq:apw off i with
    |true=>rw[hq]at h;cases h
    |false=>
     rw[hq]at h
     obtain⟨r',h1,h2⟩:=DT.fx h
     have:=DT.cw h2
     subst this
     exact fin _ r' h1 (by rw[if_neg fun e=>by cases(hb hq).1 e])
  ·have h:=DT.oI h
   cases hq:apw off i with
   |true=>rw[hq]at h;cases h
   |false=>
    rw[hq]at h
    obtain⟨r',h1,h2⟩:=DT.fx h
    have:=DT.cw h2
    subst this
    exact fin _ r' h1 (by rw[if_neg fun e=>by cases(hb hq).1 e])
where
 WE (a b:Nat):apw a b=apw b a:=by
  rw[Bool.eq_iff_iff]
  exact⟨fun e=>by rw[apz e];exact aqn _,fun e=>by rw[apz e];exact aqn _⟩
def E8(g:Nat→Option ag)(t:apq)(a x:ape):EO:=match a,bR P t with
 | .pointer (some ⟨b,off,none⟩),some size=>match g b with
  |some (.cells c el false)=>match apw x.cells.size size&&x.cells.toList.all aqg with
   |true=>eB (apG (off+size) c.length) (.done (⟨.skip,[(b,.cells (a8 c off x.cells.toList) el false)],none⟩,[b]))
   |false=>.fail
  |_=>.fail
 |_,_=>.fail
theorem WG{t:apq}{a x:ape}{out:bi}{l:List Nat}{g:Nat→Option ag}(h:(E8 P g t a x).Has (out,l)):(te P t a x).run g=some (out,l):=by
 unfold E8 at h
 split at h
 ·rename_i b off size hs
  split at h
  ·rename_i c el hb
   split at h
   ·rename_i hx
    simp only[apt]at hx
    obtain⟨h1,h⟩:=eG h
    have h4:=DT.cw h
    simp only[apn]at h4
    obtain⟨rfl,rfl⟩:=h4
    unfold te
    simp only[hs,Rd.run,hb,hx.1,hx.2,h1,aq7]
   ·cases h
  ·cases h
 ·cases h
def WH(el:apq):Bool:=match P.underlying el with
 |some (.struct fs)=>fs.toList.all fun f=>match P.underlying f.type with
  |some (.int _)|some .string|some .bool=>true
  |_=>false
 |_=>false
def rowOf(g:Nat→Option ag)(t:apq)(a:ape):Bool:=match a with
 | .pointer (some ⟨b,_,_⟩)=>match g b with
  |some (.cells _ el _)=>apw el t||WH P el
  |_=>false
 |_=>false
def E9(g:Nat→Option ag)(t:apq)(a x:ape):EO:=match a,bR P t with
 | .pointer (some ⟨b,off,none⟩),some 1=>match g b with
  |some (.cells c el false)=>match apw x.cells.size 1&&x.cells.toList.all aqg&&x.oneCell' with
   |true=>eB (apy off c.length) ((rN off x 0 c).bind fun r=>.done (⟨.skip,[(b,.cells r el false)],none⟩,[b]))
   |false=>.fail
  |_=>.fail
 |_,_=>.fail
theorem WI{x:ape}(h:x.oneCell'=true):x.cells.toList=[x]:=by
 cases x<;>first|rfl|cases h
theorem WJ{t:apq}{a x:ape}{out:bi}{l:List Nat}{g:Nat→Option ag}(h:(E9 P g t a x).Has (out,l)):(te P t a x).run g=some (out,l):=by
 unfold E9 at h
 split at h
 ·rename_i b off hs
  split at h
  ·rename_i c el hb
   split at h
   ·rename_i hx
    simp only[apt]at hx
    obtain⟨⟨fQ,jR⟩,WK⟩:=hx
    obtain⟨h1,h⟩:=eG h
    obtain⟨r,h2,h3⟩:=DT.fx h
    have h4:=DT.cw h3
    simp only[apn]at h4
    obtain⟨rfl,rfl⟩:=h4
    obtain⟨h5,h6⟩:=Ma h2
    have hlt:=dQ.1 h1
    have hr:r=a8 c off [x]:=by
     apply asn
     intro j
     rw[h6 j,DU (by simp only[ap1,arW];omega) j]
     simp only[ap1,arW,aqR]
     by_cases e:j=off
     ·subst e;simp[hlt]
     ·have e1:¬(j=off∧j<c.length):=fun h=>e h.1
      rw[if_neg e1]
      by_cases e2:off≤j∧j<off+1
      ·exact absurd (by omega) e
      ·rw[if_neg e2]
    have hle:apG (off+1) c.length=true:=apU hlt
    unfold te
    simp only[hs,Rd.run,hb,fQ,jR,hle,aq7]
    rw[hr,WI WK]
   ·cases h
  ·cases h
 ·cases h
def Fa(g:Nat→Option ag)(src dst:apq)(x:ape):EO:=match P.underlying src,P.underlying dst,x with
 |some (.slice el),some .string,.slice (some ⟨b,off,none⟩) len cap=>match P.underlying el with
  |some (.int .u8)=>match g b with
   |some (.cells c _ _)=>eB ((cut c off len).bind bytesOf).isSome (kM (.string ⟨(((cut c off len).bind bytesOf).getD []).toArray⟩) [b])
   |_=>.fail
  |_=>.fail
 |_,_,_=>.fail
theorem WL{src dst:apq}{x:ape}{n:Nat}{out:bi}{l:List Nat}{g:Nat→Option ag}(h:(Fa P g src dst x).Has (out,l)):(xj P src dst x n).run g=some (out,l):=by
 unfold Fa at h
 split at h
 ·rename_i el b off len cap h1 h2
  split at h
  ·rename_i he
   split at h
   ·rename_i c ce ro hb
    obtain⟨h3,h⟩:=eG h
    obtain⟨rfl,rfl⟩:=la h
    unfold xj
    simp only[h1,h2,he,Rd.run,hb]
    cases hq:(cut c off len).bind bytesOf with
    |none=>rw[hq]at h3;cases h3
    |some l=>rfl
   ·cases h
  ·cases h
 ·cases h
def vu:Nat→Option ape→(Nat→EO)→EO
 |d,none,k=>k d
 |_,some (.int _ z),k=>eB (decide (0≤z)) (k z.toNat)
 |_,_,_=>.fail
theorem AB{d:Nat}{o:Option ape}{k:Nat→EO}{a:bi×List Nat}(h:(vu d o k).Has a):∃n,og d o=some n∧(k n).Has a:=by
 unfold vu at h
 split at h
 ·exact⟨_,rfl,h⟩
 ·obtain⟨h1,h⟩:=eG h
  exact⟨_,Az h1,h⟩
 ·cases h
def Fb(g:Nat→Option ag)(t:apq)(x:ape)(lo hi mx:Option ape):EO:=match P.underlying t,x,mx with
 |some (.slice el),.slice (some ⟨b,off,none⟩) len cap,none=>vu 0 lo fun l=>vu len hi fun h=>match bR P el with
  |some size=>eB (apG l h) (eB (apG h cap) (match g b with
   |some (.cells c eb _)=>match bR P eb with
    |some sb=>match apG size sb with
     |true=>kM (.slice (some ⟨b,off+l*size,none⟩) (h-l) (cap-l)) [b]
     |false=>.fail
    |none=>.fail
   |_=>.fail))
  |none=>.fail
 |some (.array k el),.pointer (some ⟨b,off,none⟩),none=>vu 0 lo fun l=>vu k hi fun h=>match bR P el with
  |some size=>eB (apG l h) (eB (apG h k) (kM (.slice (some ⟨b,off+(if apw k l then 0 else l*size),none⟩) (h-l) (k-l)) []))
  |none=>.fail
 |_,_,_=>.fail
theorem WM{t:apq}{x:ape}{lo hi mx:Option ape}{out:bi}{l:List Nat}{g:Nat→Option ag}(h:(Fb P g t x lo hi mx).Has (out,l)):(rq P t x lo hi mx).run g=some (out,l):=by
 unfold Fb at h
 split at h
 ·rename_i el b off len cap ht
  obtain⟨n1,h1,h⟩:=AB h
  obtain⟨n2,h2,h⟩:=AB h
  split at h
  ·rename_i size hs
   obtain⟨h3,h⟩:=eG h
   obtain⟨h4,h⟩:=eG h
   split at h
   ·rename_i c eb ro hb
    split at h
    ·rename_i sb D7
     split at h
     ·rename_i hle
      obtain⟨rfl,rfl⟩:=la h
      have fP:fl (.slice (some ⟨b,off,none⟩) len cap)=false:=by unfold fl flat;rfl
      unfold rq
      simp only[fP,ht,h1,h2,hs,h3,h4,aq7,Rd.run,hb,D7,hle]
      rfl
     ·cases h
    ·cases h
   ·cases h
  ·cases h
 ·rename_i k el b off ht
  obtain⟨n1,h1,h⟩:=AB h
  obtain⟨n2,h2,h⟩:=AB h
  split at h
  ·rename_i size hs
   obtain⟨h3,h⟩:=eG h
   obtain⟨h4,h⟩:=eG h
   obtain⟨rfl,rfl⟩:=la h
   have fP:fl (.pointer (some ⟨b,off,none⟩))=false:=by unfold fl flat;rfl
   unfold rq
   simp only[fP,ht,h1,h2,hs,h3,h4,aq7]
   rfl
  ·cases h
 ·cases h
def Fc(c a b:ape):EO:=match c with
 | .bool d=>.ask d fun d=>match d with
  |true=>kM a []
  |false=>kM b []
 |_=>.fail
theorem WN{c a b:ape}{out:bi}{l:List Nat}{g:Nat→Option ag}(h:(Fc c a b).Has (out,l)):(zx c a b).run g=some (out,l):=by
 unfold Fc at h
 split at h
 ·rename_i d
  have h:=DT.oI h
  cases d with
  |true=>obtain⟨rfl,rfl⟩:=la h;rfl
  |false=>obtain⟨rfl,rfl⟩:=la h;rfl
 ·cases h
def Fe(g:Nat→Option ag)(size:Nat):ape→Nat→DT (List ape×List Nat)
 | .slice (some ⟨b,off,none⟩) _ _,n=>match g b with
  |some (.cells c _ _)=>eB (apG (off+n*size) c.length) (.done ((c.drop off).take (n*size),[b]))
  |_=>.fail
 | .slice none _ _,_=>.done ([],[])
 | .string s,n=>.done ((s.data.toList.take n).map fun b=>.int .u8 b.toNat,[])
 |_,_=>.fail
theorem WO{g:Nat→Option ag}{size n:Nat}{x:ape}{p:List ape×List Nat}(h:(Fe g size x n).Has p):(rk size x n).run g=some p:=by
 unfold Fe at h
 split at h
 ·split at h
  ·rename_i c el ro hb
   obtain⟨h1,h⟩:=eG h
   rw[DT.cw h]
   unfold rk
   simp only[Rd.run,hb,fO,cut,h1]
  ·cases h
 ·rw[DT.cw h];rfl
 ·rw[DT.cw h];rfl
 ·cases h
def Ff(g:Nat→Option ag)(elem:apq)(size len k:Nat)(base:Option Addr)(xs:List ape)(l1:List Nat)(n:Nat):EO:=match base with
 |none=>match len with
  |0=>.done (⟨.val (.slice (some ⟨n,0,none⟩) k k),[],some (.cells xs elem false)⟩,l1++[])
  |_=>.fail
 |some ⟨b,off,none⟩=>match g b with
  |some (.cells c el false)=>eB (apw (off+len*size) c.length) (match apw el elem with
   |true=>.done (⟨.val (.slice (some ⟨n,0,none⟩) (len+k) (len+k)),[(b,.dead)],some (.cells (c.drop off++xs) elem false)⟩,l1++[b])
   |false=>.fail)
  |_=>.fail
 |_=>.fail
def Fg(g:Nat→Option ag)(size len cap k:Nat)(base:Option Addr)(xs:List ape)(l1:List Nat):EO:=match base with
 |some ⟨b,off,none⟩=>match g b with
  |some (.cells c el false)=>eB (apG (len+k) cap) (eB (apG (off+len*size+xs.length) c.length)
   (.done (⟨.val (.slice (some ⟨b,off,none⟩) (len+k) cap),[(b,.cells (a8 c (off+len*size) xs) el false)],none⟩,l1++[b])))
  |_=>.fail
 |_=>.fail
theorem WQ{elem:apq}{size len k n:Nat}{base:Option Addr}{xs:List ape}{l1 l:List Nat}{out:bi}{g:Nat→Option ag}(h:(Ff g elem size len k base xs l1 n).Has (out,l)):
 ∃l2,(uT elem size len k base xs n).run g=some (out,l2)∧l=l1++l2:=by
 unfold Ff at h
 split at h
 ·split at h
  ·have h:=DT.cw h
   simp only[apn]at h
   obtain⟨rfl,rfl⟩:=h
   exact⟨[],rfl,rfl⟩
  ·cases h
 ·rename_i b off
  split at h
  ·rename_i c el hb
   obtain⟨bD,h⟩:=eG h
   split at h
   ·rename_i bf
    have h:=DT.cw h
    simp only[apn]at h
    obtain⟨rfl,rfl⟩:=h
    exact⟨[b],by simp only[uT,Rd.run,hb,bD,bf,aq7],rfl⟩
   ·cases h
  ·cases h
 ·cases h
theorem WS{size len cap k:Nat}{base:Option Addr}{xs:List ape}{l1 l:List Nat}{out:bi}{g:Nat→Option ag}(h:(Fg g size len cap k base xs l1).Has (out,l)):
 ∃l2,(xa size len cap k base xs).run g=some (out,l2)∧l=l1++l2:=by
 unfold Fg at h
 split at h
 ·rename_i b off
  split at h
  ·rename_i c el hb
   obtain⟨bD,h⟩:=eG h
   obtain⟨bf,h⟩:=eG h
   have h:=DT.cw h
   simp only[apn]at h
   obtain⟨rfl,rfl⟩:=h
   exact⟨[b],by simp only[xa,Rd.run,hb,bD,bf,aq7],rfl⟩
  ·cases h
 ·cases h
def Fh(g:Nat→Option ag)(argTypes:List apq)(args:List ape)(n:Nat):EO:=match argTypes,args with
 |sT::xT::_,.slice base len cap::x::_=>match P.underlying sT,P.underlying xT with
  |some (.slice elem),some xd=>match bR P elem,rl x,zeroOf P elem,(P.info? elem).map (·.bytes)with
   |some size,some k,some z,some bytes=>match !isInt xd&&apG bytes 1000000&&apw z.cells.size size&&apy 0 size with
    |false=>.fail
    |true=>(Fe g size x k).bind fun p=>eB (apG (len+k) 1000000) (eB (p.1.all aqg) (eB (apw p.1.length (k*size)) (.ask (full len cap) fun d=>match d with
     |true=>Ff g elem size len k base p.1 p.2 n
     |false=>Fg g size len cap k base p.1 p.2)))
   |_,_,_,_=>.fail
  |_,_=>.fail
 |_,_=>.fail
theorem WT{argTypes:List apq}{args:List ape}{n:Nat}{out:bi}{l:List Nat}{g:Nat→Option ag}(h:(Fh P g argTypes args n).Has (out,l)):(xc P argTypes args n).run g=some (out,l):=by
 unfold Fh at h
 split at h
 ·rename_i sT xT r1 base len cap x r2
  split at h
  ·rename_i elem xd h1 h2
   split at h
   ·rename_i size k z bytes h3 h4 h5 h6
    split at h
    ·cases h
    ·rename_i h7
     obtain⟨p,h8,h⟩:=DT.fx h
     obtain⟨h9,h⟩:=eG h
     obtain⟨bJ,h⟩:=eG h
     obtain⟨bK,h⟩:=eG h
     have h:=DT.oI h
     have h8:=WO h8
     obtain⟨xs,l1⟩:=p
     dsimp only at h9 bJ bK h
     unfold xc
     simp only[h1,h2,h3,h4,h5,h6,h7]
     rw[Rd.run_bind]
     cases hf:full len cap with
     |true=>
      rw[hf]at h
      obtain⟨l2,bD,bf⟩:=WQ h
      exact⟨xs,l1,l2,h8,by simp only[h9,bJ,bK,aq7];exact bD,bf⟩
     |false=>
      rw[hf]at h
      obtain⟨l2,bD,bf⟩:=WS h
      exact⟨xs,l1,l2,h8,by simp only[h9,bJ,bK,aq7];exact bD,bf⟩
   ·cases h
  ·cases h
 ·cases h
def Fi(op:at5)(a b:ape):EO:=match op,a,b with
 | .quo,.int k x,.int k' y=>match decide (k=k')with
  |true=>eB (!decide (y=0)) (kM (.int k (k.wrap (x.tdiv y))) [])
  |false=>.fail
 | .rem,.int k x,.int k' y=>match decide (k=k')with
  |true=>eB (!decide (y=0)) (kM (.int k (x.tmod y)) [])
  |false=>.fail
 | .add,.string x,.string y=>eB (decide (((x.size+y.size:Nat):Int)≤apr.max)) (kM (.string (x++y)) [])
 |_,_,_=>.fail
theorem Fj{s:Sem ape}{v:ape}(h:s=pure v)(hv:fl v=true){g:Nat→Option ag}:(ky P (do let u ←s;pure (.value u))).run g=some (⟨.val v,[],none⟩,[]):=by
 subst h
 unfold ky
 have:gG P (do let u ←(pure v:Sem ape);pure (aqs u))=some (.ok (.value v)):=rfl
 rw[this]
 dsimp only
 rw[hv]
 rfl
theorem WU{op:at5}{t:apq}{x y:aqM}{a b:ape}{out:bi}{l:List Nat}{g:Nat→Option ag}(h:(Fi op a b).Has (out,l)):(tf P op t x y a b).run g=some (out,l):=by
 unfold Fi at h
 split at h
 ·rename_i k n k' m
  split at h
  ·rename_i hk
   have hk:=of_decide_eq_true hk
   subst hk
   obtain⟨hm,h⟩:=eG h
   obtain⟨rfl,rfl⟩:=la h
   have hm:m≠0:=by simpa using hm
   refine Fj P (s:=(do eqGuard .quo t x y (.int k n) (.int k m);binOp .quo t (.int k n) (.int k m))) ?_ rfl
   show binOp .quo t (.int k n) (.int k m)=_
   simp only[binOp,ne_eq,not_true_eq_false,if_false,Op.intDiv,hm]
  ·cases h
 ·rename_i k n k' m
  split at h
  ·rename_i hk
   have hk:=of_decide_eq_true hk
   subst hk
   obtain⟨hm,h⟩:=eG h
   obtain⟨rfl,rfl⟩:=la h
   have hm:m≠0:=by simpa using hm
   refine Fj P (s:=(do eqGuard .rem t x y (.int k n) (.int k m);binOp .rem t (.int k n) (.int k m))) ?_ rfl
   show binOp .rem t (.int k n) (.int k m)=_
   simp only[binOp,ne_eq,not_true_eq_false,if_false,Op.intDiv,hm]
  ·cases h
 ·rename_i n m
  obtain⟨hm,h⟩:=eG h
  obtain⟨rfl,rfl⟩:=la h
  have hm:¬((n.size+m.size:Nat):Int)>apr.max:=by have:=of_decide_eq_true hm;omega
  refine Fj P (s:=(do eqGuard .add t x y (.string n) (.string m);binOp .add t (.string n) (.string m))) ?_ rfl
  show binOp .add t (.string n) (.string m)=_
  simp only[binOp,Op.stringOp,hm,if_false]
 ·cases h
theorem nN{α β:Type}{f:α→Sem β}{a:α}:∀{P:apu} {x:Sem α},gG P x=some (.ok a)→gG P (x>>=f)=gG P (f a):=by
 intro P x
 induction x with
 |pure b=>intro h;simp only[gG,api,Except.ok.injEq]at h;subst h;rfl
 |program k ih=>intro h;exact ih P h
 |mark m k ih=>intro h;exact ih h
 |halt x=>intro h;cases x<;>simp[gG]at h
 |_=>intro h;simp[gG]at h
theorem Fk{t:apq}{d:TypeDesc}(h:P.underlying t=some d):gG P (underlying t)=some (.ok d):=by
 have:underlying t=Sem.program fun p=>(match p.underlying t with
  |some d=>pure d
  |none=>stuck "no such type"):=rfl
 rw[this]
 show gG P (match P.underlying t with
  |some d=>pure d
  |none=>stuck "no such type")=_
 rw[h]
 rfl
def Fl(t:apq)(x i:ape):EO:=match P.underlying t,x,i with
 |some .string,.string s,.int _ z=>eB (decide (0≤z)) (eB (apy z.toNat s.size) (kM (.int .u8 ((s.data.toList.getD z.toNat 0).toNat)) []))
 |_,_,_=>.fail
theorem WV{t:apq}{x i:ape}{out:bi}{l:List Nat}{g:Nat→Option ag}(h:(Fl P t x i).Has (out,l)):(xk P t x i).run g=some (out,l):=by
 unfold Fl at h
 split at h
 ·rename_i s k z ht
  obtain⟨h1,h⟩:=eG h
  obtain⟨h2,h⟩:=eG h
  obtain⟨rfl,rfl⟩:=la h
  have h1:0≤z:=by simpa using h1
  have h2:=dQ.1 h2
  have hg:s[z.toNat]?=some (s.data.toList.getD z.toNat 0):=by
   have h3:z.toNat<s.data.toList.length:=by simpa using h2
   rw[getElem?_pos s z.toNat h2,List.getD_eq_getElem?_getD,apl h3]
   rfl
  unfold xk
  show(ky P (do let v ←asy t (.string s) (.int k z);pure (.value v))).run g=_
  unfold ky
  have:gG P (do let u ←asy t (.string s) (.int k z);pure (aqs u))=some (.ok (.value (.int .u8 ((s.data.toList.getD z.toNat 0).toNat)))):=by
   refine(nN (a:=(.int .u8 ((s.data.toList.getD z.toNat 0).toNat):ape)) ?_).trans rfl
   unfold asy
   refine(nN (a:=(k,z)) rfl).trans ?_
   refine(nN (Fk P ht)).trans ?_
   simp only[h1,if_true,hg]
   rfl
  rw[this]
  rfl
 ·cases h
def AC:Nat→Option ape→(Nat→EO)→EO
 |d,none,k=>k d
 |_,some (.int _ z),k=>eB (decide (0≤z)) (k z.toNat)
 |_,_,_=>.fail
def Fm(t:apq)(x:ape)(lo hi mx:Option ape):EO:=match P.underlying t,x,mx with
 |some .string,.string s,none=>match lo.all fl&&hi.all fl with
  |true=>AC 0 lo fun l=>AC s.size hi fun h=>eB (apG h s.size) (eB (apG l h) (kM (.string (s.extract l h)) []))
  |false=>.fail
 |_,_,_=>.fail
theorem Mb{d:Nat}{o:Option ape}{k:Nat→EO}{a:bi×List Nat}(h:(AC d o k).Has a):∃n,(k n).Has a∧((o=none∧n=d)∨∃ik z,o=some (.int ik z)∧0≤z∧n=z.toNat):=by
 unfold AC at h
 split at h
 ·exact⟨_,h,.inl ⟨rfl,rfl⟩⟩
 ·rename_i ik z
  obtain⟨h1,h⟩:=eG h
  exact⟨_,h,.inr ⟨ik,z,rfl,by simpa using h1,rfl⟩⟩
 ·cases h
theorem AD{ik:IntKind}{z:Int}{y:Nat}{code:BoundsCode}(h0:0≤z)(h1:z.toNat≤y):gG P (ass (.int ik z) y code)=some (.ok z.toNat):=by
 unfold ass
 refine(nN (a:=(ik,z)) rfl).trans ?_
 have:0≤z∧z≤(y:Int):=⟨h0,by omega⟩
 simp only[this,and_self,if_true]
 rfl
theorem WW{t:apq}{x:ape}{lo hi mx:Option ape}{out:bi}{l:List Nat}{g:Nat→Option ag}(h:(Fm P t x lo hi mx).Has (out,l)):(rq P t x lo hi mx).run g=some (out,l):=by
 unfold Fm at h
 split at h
 ·rename_i s ht
  split at h
  ·rename_i fP
   obtain⟨n1,h,kn⟩:=Mb h
   obtain⟨n2,h,mu⟩:=Mb h
   obtain⟨h2,h⟩:=eG h
   obtain⟨h1,h⟩:=eG h
   obtain⟨rfl,rfl⟩:=la h
   have h1:=apL h1
   have h2:=apL h2
   unfold rq
   have rO:fl (.string s)=true:=rfl
   rw[rO]
   dsimp only
   rw[fP]
   have hr:gG P (arr t (.string s) lo hi none)=some (.ok (.string (s.extract n1 n2))):=by
    unfold arr
    refine(nN (Fk P ht)).trans ?_
    dsimp only
    unfold Instr.slice
    refine(nN (Fk P ht)).trans ?_
    dsimp only
    refine(nN (a:=(n1,n2,s.size)) ?_).trans rfl
    rcases mu with⟨rfl,rfl⟩|⟨ik,z,rfl,hz,rfl⟩<;>rcases kn with⟨rfl,rfl⟩|⟨WX,z',rfl,qh,rfl⟩
    ·rfl
    ·exact(nN (f:=fun l=>pure (l,s.size,s.size)) (AD P qh h1)).trans rfl
    ·exact(nN (f:=fun h=>pure (0,h,s.size)) (AD P hz h2)).trans rfl
    ·exact(nN (f:=fun h=>(ass (.int WX z') h .sliceB).bind fun l=>pure (l,h,s.size)) (AD P hz h2)).trans ((nN (f:=fun l=>pure (l,z.toNat,s.size)) (AD P qh h1)).trans rfl)
   show(ky P _).run g=_
   unfold ky
   have eO:gG P (do let v ←arr t (.string s) lo hi none;pure (aqs v))=some (.ok (.value (.string (s.extract n1 n2)))):=nN hr
   rw[eO]
   rfl
  ·cases h
 ·cases h
def Fo(g:Nat→Option ag)(argTypes:List apq)(args:List ape):EO:=match argTypes,args with
 |t::_,x::_=>match P.underlying t,x with
  |some (.slice el),.slice (some ⟨b,off,none⟩) k _=>.ask (apw k 0) fun d=>match d with
   |true=>kM (.tuple #[]) []
   |false=>match bR P el,zeroOf P el,g b with
    |some size,some z,some (.cells c ce false)=>eB (apG (off+k*size) c.length) (match fl z&&apw z.cells.size size&&z.cells.toList.all aqg with
     |true=>.done (⟨.val (.tuple #[]),[(b,.cells (a8 c off (e8 z.cells.toList k)) ce false)],none⟩,[b])
     |false=>.fail)
    |_,_,_=>.fail
  |_,_=>.fail
 |_,_=>.fail
theorem WY{argTypes:List apq}{args:List ape}{out:bi}{l:List Nat}{g:Nat→Option ag}(h:(Fo P g argTypes args).Has (out,l)):(xh P argTypes args).run g=some (out,l):=by
 unfold Fo at h
 unfold xh
 split at h
 ·rename_i t _ x _
  dsimp only
  split at h
  ·rename_i el b off k cap ht
   have h:=DT.oI h
   rw[ht]
   cases k with
   |zero=>
    obtain⟨rfl,rfl⟩:=la h
    rfl
   |succ k=>
    have hk:apw (k+1) 0=false:=rfl
    rw[hk]at h
    dsimp only at h
    show(match bR P el,zeroOf P el with
     |some size,some z=>Rd.read b fun
      | .cells c ce false=>match fl z&&apw z.cells.size size&&apG (off+(k+1)*size) c.length&&z.cells.toList.all aqg with
       |true=>.done ⟨.val (.tuple #[]),[(b,.cells (a8 c off (e8 z.cells.toList (k+1))) ce false)],none⟩
       |false=>.fail
      |_=>.fail
     |_,_=>.fail:Rd bi).run g=_
    split at h
    ·rename_i size z c ce hs hz hg
     obtain⟨hb,h⟩:=eG h
     split at h
     ·rename_i hf
      rw[hs,hz]
      simp only[Rd.run,hg]
      simp only[apt]at hf
      obtain⟨⟨f1,f2⟩,f3⟩:=hf
      rw[f1,f2,hb,f3]
      cases DT.cw h
      rfl
     ·cases h
    ·cases h
  ·cases h
 ·cases h
def x7(es:List apM)(k:ape):Bool:=match fh k es 0 with
 |some none=>true
 |_=>false
def vw(es:List apM)(k:ape):Bool:=(fh k es 0).isSome
def oK(es:List apM)(k:ape):List apM:=match fh k es 0 with
 |some (some (i,_))=>es.eraseIdx i
 |_=>es
def Fq(g:Nat→Option ag)(t:apq)(x k v:ape):EO:=match P.underlying t with
 |some (.map kt _)=>match pf P kt k,x with
  |true,.map (some r)=>match g r with
   |some (.map es clock)=>eB (x7 es k) (.done (⟨.skip,[(r,.map (es++[{key:=k,val:=v,born:=clock}]) (clock+1))],none⟩,[r]))
   |_=>.fail
  |_,_=>.fail
 |_=>.fail
theorem WZ{g:Nat→Option ag}{t:apq}{x k v:ape}{out:bi}{l:List Nat}(h:(Fq P g t x k v).Has (out,l)):(xe P t x k v).run g=some (out,l):=by
 unfold Fq at h
 unfold xe
 split at h
 ·rename_i kt _ ht
  rw[ht]
  split at h
  ·rename_i r hk
   simp only[hk]
   split at h
   ·rename_i es clock hg
    obtain⟨h1,h⟩:=eG h
    have:=DT.cw h
    cases this
    unfold x7 at h1
    split at h1
    ·rename_i hf
     simp only[Rd.run,hg,hf]
    ·cases h1
   ·cases h
  ·cases h
 ·cases h
def Fs(g:Nat→Option ag)(argTypes:List apq)(args:List ape):EO:=match argTypes,args with
 |t::_,.map (some r)::k::_=>match P.underlying t with
  |some (.map kt _)=>match pf P kt k with
   |true=>match g r with
    |some (.map es clock)=>eB (vw es k) (.done (⟨.val (.tuple #[]),[(r,.map (oK es k) clock)],none⟩,[r]))
    |_=>.fail
   |false=>.fail
  |_=>.fail
 |_,_=>.fail
theorem W5{g:Nat→Option ag}{argTypes:List apq}{args:List ape}{out:bi}{l:List Nat}(h:(Fs P g argTypes args).Has (out,l)):(xf P argTypes args).run g=some (out,l):=by
 unfold Fs at h
 unfold xf
 split at h
 ·rename_i t _ r k _
  dsimp only
  split at h
  ·rename_i kt _ ht
   rw[ht]
   dsimp only
   split at h
   ·rename_i hk
    rw[hk]
    dsimp only
    split at h
    ·rename_i es clock hg
     obtain⟨h1,h⟩:=eG h
     have:=DT.cw h
     cases this
     unfold vw at h1
     cases hf:fh k es 0 with
     |none=>rw[hf]at h1;cases h1
     |some f=>
      cases f with
      |none=>simp only[Rd.run,hg,hf,oK]
      |some p=>simp only[Rd.run,hg,hf,oK]
    ·cases h
   ·cases h
  ·cases h
 ·cases h
def Mc(g:Nat→Option ag)(x:ape):Bool:=match x with
 | .map (some r)=>match g r with
  |some (.map es _)=>apw es.length es.length
  |_=>true
 |_=>true
def W6(g:Nat→Option ag)(e:aqM→ape)(c:Call):Bool:=match c.callee with
 | .builtin .delete=>match c.args.toList.map e with
  |x::_=>Mc g x
  |_=>true
 |_=>true
def fR(e:aqM→ape)(g:Nat→Option ag)(c:Call)(n:Nat):EO:=match c.callee with
 | .builtin .append=>Fh P g c.argTypes.toList (c.args.toList.map e) n
 | .builtin .clear=>Fo P g c.argTypes.toList (c.args.toList.map e)
 | .builtin .delete=>Fs P g c.argTypes.toList (c.args.toList.map e)
 |_=>.fail
def Me(l:List ape):Bool:=match l with
 |v::w::_=>(match v with
  | .slice _ n c=>apw n n&&apw c c
  |_=>true)&&(match w with
  | .slice _ n _=>apw n n
  | .string s=>apw s.size s.size
  |_=>true)
 |_=>true
def W7(e:aqM→ape)(c:Call):Bool:=match c.callee with
 | .builtin .append=>Me (c.args.toList.map e)
 | .builtin .clear=>Me (c.args.toList.map e++[.nilFunc])
 |_=>true
def W8(op:at5)(a b:ape):Option Bool:=match op,a,b with
 | .quo,.int _ _,.int _ y=>some (decide (y=y))
 | .rem,.int _ _,.int _ y=>some (decide (y=y))
 | .add,.string x,.string y=>some (apw (x.size+y.size) (x.size+y.size))
 |_,_,_=>none
def Mf:ape→Nat
 | .pointer (some ⟨_,off,_⟩)=>off
 |_=>0
def isClosed(n:Nat):Bool:=apw n n
def vx:ape→Bool
 | .int _ z=>decide (z=z)
 |_=>true
def Mg:ape→Bool
 | .slice _ n c=>apw n n&&apw c c
 |_=>true
def W9(g:Nat→Option ag):ape→Bool
 | .slice (some ⟨b,off,_⟩) len _=>match g b with
  |some (.cells c _ _)=>((cut c off len).bind bytesOf).isSome
  |_=>true
 |_=>true
def Fu(op:at5)(a b:ape):Option (Nat×Bool):=match op,a,b with
 | .eql,.slice (some _) _ c,.slice none 0 0=>some (c,false)
 | .neq,.slice (some _) _ c,.slice none 0 0=>some (c,true)
 |_,_,_=>none
def Fv(t:apq)(c:Nat)(r:Bool):EO:=match P.underlying t with
 |some (.slice _)=>eB (apy 0 c) (kM (.bool r) [])
 |_=>.fail
theorem Xa{op:at5}{t:apq}{x y:aqM}{a b:ape}{c:Nat}{r:Bool}{out:bi}{l:List Nat}{g:Nat→Option ag}(hl:Fu op a b=some (c,r))(h:(Fv P t c r).Has (out,l)):
 (tf P op t x y a b).run g=some (out,l):=by
 unfold Fv at h
 split at h
 ·rename_i el ht
  obtain⟨hc,h⟩:=eG h
  obtain⟨rfl,rfl⟩:=la h
  unfold Fu at hl
  split at hl
  ·cases hl
   unfold tf
   have:fl (.slice (some ‹Addr›) ‹Nat› c)=false:=rfl
   rw[this]
   simp only[asN,uW,ht,zu,hc]
   rfl
  ·cases hl
   unfold tf
   have:fl (.slice (some ‹Addr›) ‹Nat› c)=false:=rfl
   rw[this]
   simp only[asN,uW,ht,zu,hc]
   rfl
  ·cases hl
 ·cases h
def Mh(g:Nat→Option ag)(v:ape):Bool:=match v with
 | .pointer (some ⟨b,off,none⟩)=>match g b with
  |some (.cells c _ _)=>match c[off]?with
   |some _=>true
   |none=>true
  |_=>true
 |_=>true
def Fw(t:Fr)(S:VS)(o:aqh):EO:=match o.op with
 | .pick c a b=>Fc (bL t c) (bL t a) (bL t b)
 | .load ty a=>.fC (isClosed (Mf (bL t a))&&Mh (gt S.mem) (bL t a)) (DT.fO ((ev P (bL t) S.next o).run (gt S.mem))) (match oe P ty with
  |some true=>E6 P (gt S.mem) ty (bL t a)
  |_=>E3 P (gt S.mem) ty (bL t a))
 | .store ty a x=>.fC (isClosed (Mf (bL t a))&&Mh (gt S.mem) (bL t a)) (DT.fO ((ev P (bL t) S.next o).run (gt S.mem))) (match rowOf P (gt S.mem) ty (bL t a)with
  |true=>E8 P (gt S.mem) ty (bL t a) (bL t x)
  |false=>E9 P (gt S.mem) ty (bL t a) (bL t x))
 | .index ty x i=>match bL t x with
  | .string s=>.fC (vx (bL t i)&&apw s.size s.size) (DT.fO ((ev P (bL t) S.next o).run (gt S.mem))) (Fl P ty (bL t x) (bL t i))
  |_=>DT.fO ((ev P (bL t) S.next o).run (gt S.mem))
 | .binOp op ty x y _=>match W8 op (bL t x) (bL t y)with
  |some p=>.fC p (DT.fO ((ev P (bL t) S.next o).run (gt S.mem))) (Fi op (bL t x) (bL t y))
  |none=>match Fu op (bL t x) (bL t y)with
   |some (c,r)=>.fC (isClosed c) (DT.fO ((ev P (bL t) S.next o).run (gt S.mem))) (Fv P ty c r)
   |none=>DT.fO ((ev P (bL t) S.next o).run (gt S.mem))
 | .indexAddr ty x i=>.fC (vx (bL t i)&&Mg (bL t x)) (DT.fO ((ev P (bL t) S.next o).run (gt S.mem))) (E1 P ty (bL t x) (bL t i))
 | .convert src dst x=>.fC (W9 (gt S.mem) (bL t x)) (DT.fO ((ev P (bL t) S.next o).run (gt S.mem))) (Fa P (gt S.mem) src dst (bL t x))
 | .slice ty x lo hi mx=>match bL t x with
  | .string s=>.fC (apw s.size s.size&&(lo.map (bL t)).all vx&&(hi.map (bL t)).all vx) (DT.fO ((ev P (bL t) S.next o).run (gt S.mem))) (Fm P ty (bL t x) (lo.map (bL t)) (hi.map (bL t)) (mx.map (bL t)))
  |_=>.fC (Mg (bL t x)&&(lo.map (bL t)).all vx&&(hi.map (bL t)).all vx) (DT.fO ((ev P (bL t) S.next o).run (gt S.mem))) (Fb P (gt S.mem) ty (bL t x) (lo.map (bL t)) (hi.map (bL t)) (mx.map (bL t)))
 | .mapUpdate ty m k x=>.fC (Mc (gt S.mem) (bL t m)) (DT.fO ((ev P (bL t) S.next o).run (gt S.mem))) (Fq P (gt S.mem) ty (bL t m) (bL t k) (bL t x))
 | .call c=>.fC (W7 (bL t) c&&W6 (gt S.mem) (bL t) c) (DT.fO ((ev P (bL t) S.next o).run (gt S.mem))) (fR P (bL t) (gt S.mem) c S.next)
 |_=>DT.fO ((ev P (bL t) S.next o).run (gt S.mem))
theorem Xb{e:aqM→ape}{g:Nat→Option ag}{c:Call}{ty:apq}{n:Nat}{out:bi}{l:List Nat}(h:(fR P e g c n).Has (out,l)):(rp P c e ty n).run g=some (out,l):=by
 unfold fR at h
 split at h
 ·rename_i hc
  have:=WT P h
  unfold rp
  rw[hc]
  exact this
 ·rename_i hc
  have:=WY P h
  unfold rp
  rw[hc]
  exact this
 ·rename_i hc
  have:=W5 P h
  unfold rp
  rw[hc]
  exact this
 ·cases h
theorem Xc{t:Fr}{S:VS}{o:aqh}{out:bi}{l:List Nat}(h:(Fw P t S o).Has (out,l)):(ev P (bL t) S.next o).run (gt S.mem)=some (out,l):=by
 unfold Fw at h
 obtain⟨dst,op,type,pos,after,guard⟩:=o
 dsimp only at h
 split at h
 ·exact WN h
 ·rcases DT.nM h with h|h
  ·exact DT.ii h
  ·split at h
   ·exact WD P h
   ·exact WB P h
 ·rcases DT.nM h with h|h
  ·exact DT.ii h
  ·split at h
   ·exact WG P h
   ·exact WJ P h
 ·split at h
  ·rcases DT.nM h with h|h
   ·exact DT.ii h
   ·exact WV P h
  ·exact DT.ii h
 ·split at h
  ·rcases DT.nM h with h|h
   ·exact DT.ii h
   ·exact WU P h
  ·split at h
   ·rename_i AE
    rcases DT.nM h with h|h
    ·exact DT.ii h
    ·exact Xa P AE h
   ·exact DT.ii h
 ·rcases DT.nM h with h|h
  ·exact DT.ii h
  ·exact Wz P h
 ·rcases DT.nM h with h|h
  ·exact DT.ii h
  ·exact WL P h
 ·split at h
  ·rcases DT.nM h with h|h
   ·exact DT.ii h
   ·exact WW P h
  ·rcases DT.nM h with h|h
   ·exact DT.ii h
   ·exact WM P h
 ·rcases DT.nM h with h|h
  ·exact DT.ii h
  ·exact WZ P h
 ·rcases DT.nM h with h|h
  ·exact DT.ii h
  ·exact Xb P h
 ·exact DT.ii h
def AF(t:Fr)(S:VS)(o:aqh):DT (j6×VS):=match lE P t S o with
 |some V=>match o.op.operands.toList.all pd,V.i with
  |true,.int _ z=>eB (decide (0≤z)) (eB (apy z.toNat V.n) (eB (apy z.toNat V.len) (DT.fO (xl S V.b V.el (V.row z.toNat)))))
  |_,_=>.fail
 |none=>match o.op.operands.toList.all pd with
  |false=>.fail
  |true=>(Fw P t S o).bind fun p=>DT.fO (zz S p.2 p.1)
theorem Mi{t:Fr}{S:VS}{o:aqh}{r:j6×VS}(h:(AF P t S o).Has r):jy P t S o=some r:=by
 unfold AF at h
 unfold jy
 split at h
 ·rename_i V hV
  rw[hV]
  dsimp only
  split at h
  ·rename_i ik z cQ hi
   obtain⟨h1,h⟩:=eG h
   obtain⟨h2,h⟩:=eG h
   obtain⟨h3,h⟩:=eG h
   rw[cQ,hi,Az h1]
   dsimp only
   rw[h2,h3]
   exact DT.ii h
  ·cases h
 ·rename_i hV
  rw[hV]
  dsimp only
  unfold nz
  split at h
  ·cases h
  ·rename_i cQ
   obtain⟨p,h1,h2⟩:=DT.fx h
   obtain⟨out,l⟩:=p
   have:=Xc P h1
   simp only[cQ,this]
   exact DT.ii h2
abbrev fD:=apQ→List ape→VS→DT (bx×VS)
def Fx{α:Type}(ops:List aqh)(o:aqh)(t:Fr)(k:Bool→DT α):DT α:=match o.guard with
 |none=>k true
 |some (j,want)=>match(ops[j]?).bind (·.dst)with
  |some d=>match t.at d with
   | .bool b=>.ask b fun b=>match b,want with
    |true,true=>k true
    |false,false=>k true
    |_,_=>k false
   |_=>k false
  |none=>k false
theorem Xd{α:Type}{ops:List aqh}{o:aqh}{t:Fr}{k:Bool→DT α}{a:α}(h:(Fx ops o t k).Has a):(k (aqP o (lF ops t))).Has a:=by
 unfold Fx at h
 unfold aqP lF
 split at h
 ·rename_i hg;simp only[hg];exact h
 ·rename_i j want hg
  simp only[hg]
  split at h
  ·rename_i d hd
   simp only[hd]
   split at h
   ·rename_i b hb
    have h:=DT.oI h
    simp only[hb]
    cases b<;>cases want<;>exact h
   ·rename_i bk
    cases hv:t.at d with
    |bool b=>exact absurd hv (bk b)
    |_=>simpa using h
  ·rename_i hd
   simp only[hd]
   simpa using h
def AG(call:fD)(ops:List aqh)(o:aqh)(t:Fr)(S:VS):DT (Option ape×Fr×VS):=
 Fx ops o t fun w=>match w with
  |false=>DT.fO ((put t o.dst undef).map fun t1=>(none,t1,S))
  |true=>(AF P t S o).bind fun p=>match p.1 with
   | .val v=>DT.fO ((put t o.dst v).map fun t1=>(none,t1,p.2))
   | .skip=>DT.fO ((put t o.dst undef).map fun t1=>(none,t1,p.2))
   | .panic v=>.done (some v,t,p.2)
   | .defer _=>.fail
   | .enter f args=>(call f args p.2).bind fun q=>match q.1 with
    | .ret v=>DT.fO ((put t o.dst v).map fun t1=>(none,t1,q.2))
    | .panic v=>.done (some v,t,q.2)
theorem Mj{fR:fD}{call:cB}(hc:∀f args S r,(fR f args S).Has r→call f args S=some r){ops:List aqh}{o:aqh}{t:Fr}{S:VS}{r:Option ape×Fr×VS}
 (h:(AG P fR ops o t S).Has r):kA P call ops o t S=some r:=by
 unfold AG at h
 have h:=Xd h
 unfold kA
 cases hw:aqP o (lF ops t)with
 |false=>rw[hw]at h;exact DT.ii h
 |true=>
  rw[hw]at h
  dsimp only at h⊢
  obtain⟨p,h1,h2⟩:=DT.fx h
  obtain⟨r1,S1⟩:=p
  rw[Mi P h1]
  dsimp only at h2⊢
  cases r1 with
  |val v=>exact DT.ii h2
  |skip=>exact DT.ii h2
  |panic v=>rw[DT.cw h2]
  |defer d=>cases h2
  |enter f args=>
   dsimp only at h2⊢
   obtain⟨q,h3,h4⟩:=DT.fx h2
   obtain⟨cr,S2⟩:=q
   rw[hc _ _ _ _ h3]
   cases cr with
   |ret v=>exact DT.ii h4
   |panic v=>rw[DT.cw h4]
def x8(call:fD)(df:Bool)(ops:List aqh):List aqh→Fr→VS→DT (bd×Fr×VS)
 | [],t,S=>.done (.normal,t,S)
 |o::rest,t,S=>match xm o with
  |some c=>match df with
   |true=>match zA P t o c with
    |some t1=>x8 call df ops rest t1 S
    |none=>.fail
   |false=>.fail
  |none=>(AG P call ops o t S).bind fun p=>match p.1 with
   |some v=>.done (.panic v,p.2.1,p.2.2)
   |none=>x8 call df ops rest p.2.1 p.2.2
theorem Fy{fR:fD}{call:cB}(hc:∀f args S r,(fR f args S).Has r→call f args S=some r){df:Bool}{ops:List aqh}:∀{rest:List aqh} {t:Fr} {S:VS} {r:bd×Fr×VS},
 (x8 P fR df ops rest t S).Has r→opsV P call df ops rest t S=some r
 | [],t,S,r,h=>by rw[DT.cw h];rfl
 |o::rest,t,S,r,h=>by
  unfold x8 at h
  unfold opsV
  split at h
  ·rename_i c hd
   rw[hd]
   dsimp only
   split at h
   ·split at h
    ·rename_i t1 EL
     rw[EL]
     exact Fy hc h
    ·cases h
   ·cases h
  ·rename_i hd
   rw[hd]
   dsimp only
   obtain⟨p,h1,h2⟩:=DT.fx h
   obtain⟨ov,t1,S1⟩:=p
   rw[Mj P hc h1]
   cases ov with
   |some v=>rw[DT.cw h2]
   |none=>exact Fy hc h2
def AH(call:fD)(ops:List aqh):List aqh→Fr→VS→DT (Fr×VS×List Fp)
 | [],t,S=>.done (t,S,[])
 |o::rest,t,S=>(AG P call ops o t {S with rd:=[],wr:=[]}).bind fun p=>match p.1 with
  |some _=>.fail
  |none=>(AH call ops rest p.2.1 {p.2.2 with rd:=p.2.2.rd++S.rd,wr:=p.2.2.wr++S.wr}).bind fun q=>.done (q.1,q.2.1,⟨p.2.2.rd,p.2.2.wr⟩::q.2.2)
theorem Mk{fR:fD}{call:cB}(hc:∀f args S r,(fR f args S).Has r→call f args S=some r){ops:List aqh}:∀{rest:List aqh} {t:Fr} {S:VS} {r:Fr×VS×List Fp},
 (AH P fR ops rest t S).Has r→kC P call ops rest t S=some r
 | [],t,S,r,h=>by rw[DT.cw h];rfl
 |o::rest,t,S,r,h=>by
  unfold AH at h
  obtain⟨p,h1,h2⟩:=DT.fx h
  obtain⟨ov,t1,S1⟩:=p
  unfold kC
  rw[Mj P hc h1]
  cases ov with
  |some v=>cases h2
  |none=>
   dsimp only at h2⊢
   obtain⟨q,h3,h4⟩:=DT.fx h2
   obtain⟨t2,S2,gr⟩:=q
   rw[Mk hc h3,DT.cw h4]
def AI(f:Fr→VS→DT (bd×Fr×VS)):Nat→Fr→VS→DT (bd×Fr×VS)
 |0,_,_=>.fail
 |k+1,t,S=>(f t S).bind fun p=>match p.1 with
  | .normal=>AI f k p.2.1 p.2.2
  |_=>.done p
theorem Ml{f:Fr→VS→DT (bd×Fr×VS)}{f':Fr→VS→Option (bd×Fr×VS)}(hf:∀t S r,(f t S).Has r→f' t S=some r):∀{k:Nat} {t:Fr} {S:VS} {r:bd×Fr×VS},
 (AI f k t S).Has r→iter f' k t S=some r
 |0,t,S,r,h=>by cases h
 |k+1,t,S,r,h=>by
  unfold AI at h
  obtain⟨p,h1,h2⟩:=DT.fx h
  obtain⟨e,t1,S1⟩:=p
  unfold iter
  rw[hf _ _ _ h1]
  cases e with
  |normal=>exact Ml hf h2
  |exit id=>rw[DT.cw h2]
  |ret=>rw[DT.cw h2]
  |panic v=>rw[DT.cw h2]
def js(call:fD)(lf:Nat)(df:Bool):apV→Fr→VS→DT (bd×Fr×VS)
 | .skip,t,S=>.done (.normal,t,S)
 | .region _ ops false,t,S=>x8 P call df ops.toList ops.toList t S
 | .region _ ops true,t,S=>(AH P call ops.toList ops.toList t S).bind fun q=>match th ops q.2.2 with
  |true=>.done (.normal,q.1,q.2.1)
  |false=>.fail
 | .seq a b,t,S=>(js call lf df a t S).bind fun p=>match p.1 with
  | .normal=>js call lf df b p.2.1 p.2.2
  |_=>.done p
 | .cond c a b,t,S=>match bL t c with
  | .bool d=>.ask d fun d=>match d with
   |true=>js call lf df a t S
   |false=>js call lf df b t S
  |_=>.fail
 | .block id c,t,S=>(js call lf df c t S).bind fun p=>match p.1 with
  | .exit j=>match apw j id with
   |true=>.done (.normal,p.2.1,p.2.2)
   |false=>.done p
  |_=>.done p
 | .loop c,t,S=>AI (js call lf df c) lf t S
 | .exit id,t,S=>.done (.exit id,t,S)
 | .ret,t,S=>.done (.ret,t,S)
 | .scope c,t,S=>js call lf df c t S
 | .label _,t,S=>.done (.normal,t,S)
 |_,_,_=>.fail
theorem AJ{fR:fD}{call:cB}(hc:∀f args S r,(fR f args S).Has r→call f args S=some r)(lf:Nat){df:Bool}:∀{c:apV} {t:Fr} {S:VS} {r:bd×Fr×VS},
 (js P fR lf df c t S).Has r→dg P call lf df c t S=some r:=by
 intro c
 induction c with
 |skip=>intro t S r h;rw[DT.cw h];rfl
 |region id ops draw=>
  intro t S r h
  cases draw with
  |false=>exact Fy P hc h
  |true=>
   simp only[js]at h
   obtain⟨q,h1,h2⟩:=DT.fx h
   obtain⟨t1,S1,gr⟩:=q
   simp only[dg]
   rw[Mk P hc h1]
   dsimp only at h2⊢
   split at h2
   ·rename_i hk;rw[DT.cw h2,hk]
   ·cases h2
 |seq a b iW k9=>
  intro t S r h
  simp only[js]at h
  obtain⟨p,h1,h2⟩:=DT.fx h
  obtain⟨e,t1,S1⟩:=p
  simp only[dg]
  rw[iW h1]
  cases e with
  |normal=>exact k9 h2
  |exit id=>rw[DT.cw h2]
  |ret=>rw[DT.cw h2]
  |panic v=>rw[DT.cw h2]
 |cond c a b iW k9=>
  intro t S r h
  simp only[js]at h
  simp only[dg]
  split at h
  ·rename_i d hd
   have h:=DT.oI h
   rw[hd]
   cases d with
   |true=>exact iW h
   |false=>exact k9 h
  ·cases h
 |block id c ih=>
  intro t S r h
  simp only[js]at h
  obtain⟨p,h1,h2⟩:=DT.fx h
  obtain⟨e,t1,S1⟩:=p
  simp only[dg]
  rw[ih h1]
  cases e with
  |normal=>rw[DT.cw h2]
  |exit j=>
   dsimp only at h2⊢
   split at h2
   ·rename_i hj;rw[DT.cw h2,hj]
   ·rename_i hj;rw[DT.cw h2,hj]
  |ret=>rw[DT.cw h2]
  |panic v=>rw[DT.cw h2]
 |loop c ih=>
  intro t S r h
  simp only[js]at h
  exact Ml (fun t S r h=>ih h) h
 |exit id=>intro t S r h;rw[DT.cw h];rfl
 |ret=>intro t S r h;rw[DT.cw h];rfl
 |scope c ih=>intro t S r h;simp only[js]at h;exact ih h
 |label l=>intro t S r h;rw[DT.cw h];rfl
 |_=>intro t S r h;simp[js]at h;cases h
def AK:List aqh→Fr→VS→DT (Fr×VS)
 | [],t,S=>.done (t,S)
 |o::rest,t,S=>match o.guard with
  |some _=>.fail
  |none=>(AF P t S o).bind fun p=>match p.1 with
   | .val v=>(DT.fO (put t o.dst v)).bind fun t1=>AK rest t1 p.2
   |_=>.fail
theorem Mm:∀{rest:List aqh} {t:Fr} {S:VS} {r:Fr×VS},(AK P rest t S).Has r→ph P rest t S=some r
 | [],t,S,r,h=>by rw[DT.cw h];rfl
 |o::rest,t,S,r,h=>by
  unfold AK at h
  unfold ph
  split at h
  ·cases h
  ·rename_i hg
   rw[hg]
   dsimp only
   obtain⟨p,h1,h2⟩:=DT.fx h
   obtain⟨v,S1⟩:=p
   rw[Mi P h1]
   cases v with
   |val v=>
    obtain⟨t1,h3,h4⟩:=DT.fx h2
    dsimp only
    rw[DT.ii h3]
    exact Mm h4
   |_=>cases h2
def tL(call:fD)(lf:Nat)(md:Md):apV→Fr→VS→DT (Md×bd×Fr×VS)
 | .seq a b,t,S=>(tL call lf md a t S).bind fun p=>match p.2.1 with
  | .normal=>(js P call lf false b p.2.2.1 p.2.2.2).bind fun q=>.done (p.1,q.1,q.2.1,q.2.2)
  |_=>.done p
 | .region id ops false,t,S=>match ops.toList with
  |o::rest=>match Dy o with
   |true=>(DT.fO (put t o.dst (Km md))).bind fun t1=>(AK P rest t1 S).bind fun q=>.done (.ret,.normal,q.1,q.2)
   |false=>(js P call lf false (.region id ops false) t S).bind fun q=>.done (md,q.1,q.2.1,q.2.2)
  | []=>.fail
 |c,t,S=>(js P call lf false c t S).bind fun q=>.done (md,q.1,q.2.1,q.2.2)
theorem Xe{fR:fD}{call:cB}(hc:∀f args S r,(fR f args S).Has r→call f args S=some r){lf:Nat}{md:Md}:∀{c:apV} {t:Fr} {S:VS} {r:Md×bd×Fr×VS},
 (tL P fR lf md c t S).Has r→j7 P call lf md c t S=some r:=by
 intro c
 have oG:∀{c:apV} {t:Fr} {S:VS} {r:Md×bd×Fr×VS},((js P fR lf false c t S).bind fun q=>DT.done (md,q.1,q.2.1,q.2.2)).Has r→(dg P call lf false c t S).map (fun r=>(md,r))=some r:=by
  intro c t S r h
  obtain⟨q,h1,h2⟩:=DT.fx h
  rw[AJ P hc lf h1,DT.cw h2]
  rfl
 induction c with
 |seq a b iW k9=>
  intro t S r h
  unfold tL at h
  unfold j7
  obtain⟨p,h1,h2⟩:=DT.fx h
  obtain⟨fB,e,t1,S1⟩:=p
  rw[iW h1]
  cases e with
  |normal=>
   obtain⟨q,h3,h4⟩:=DT.fx h2
   dsimp only
   rw[AJ P hc lf h3,DT.cw h4]
   rfl
  |exit id=>rw[DT.cw h2]
  |ret=>rw[DT.cw h2]
  |panic v=>rw[DT.cw h2]
 |region id ops draw=>
  intro t S r h
  cases draw with
  |true=>unfold tL at h;unfold j7;exact oG h
  |false=>
   unfold tL at h
   unfold j7
   split at h
   ·rename_i o rest mz
    rw[mz]
    dsimp only
    split at h
    ·rename_i lL
     rw[lL]
     dsimp only
     obtain⟨t1,h1,h2⟩:=DT.fx h
     obtain⟨q,h3,h4⟩:=DT.fx h2
     rw[DT.ii h1]
     dsimp only
     rw[Mm P h3,DT.cw h4]
    ·rename_i lL
     rw[lL]
     dsimp only
     exact oG h
   ·cases h
 |_=>intro t S r h;unfold tL at h;unfold j7;exact oG h
def Fz(call:fD)(lf:Nat)(md:Md)(k:apQ)(args:List ape)(S:VS):DT (Md×VS):=match P.funcs[k]?with
 |none=>.fail
 |some fn=>match fn.body with
  |none=>.fail
  |some c=>match Fr.of args fn.ntmps with
   |none=>.fail
   |some t0=>(tL P call lf md c t0 S).bind fun p=>match p.2.1,p.2.2.1.ds,p.2.2.1.base with
    | .normal,[],[]=>(DT.fO (oh P p.2.2.1 fn p.2.2.2)).bind fun q=>.done (p.1,q.2)
    | .ret,[],[]=>(DT.fO (oh P p.2.2.1 fn p.2.2.2)).bind fun q=>.done (p.1,q.2)
    |_,_,_=>.fail
theorem Xf{fR:fD}{call:cB}(hc:∀f args S r,(fR f args S).Has r→call f args S=some r){lf:Nat}{md:Md}{k:apQ}{args:List ape}{S:VS}{r:Md×VS}
 (h:(Fz P fR lf md k args S).Has r):ti P call lf md k args S=some r:=by
 unfold Fz at h
 unfold ti
 split at h
 ·cases h
 ·rename_i fn gJ
  rw[gJ]
  dsimp only
  split at h
  ·cases h
  ·rename_i c hb
   rw[hb]
   dsimp only
   split at h
   ·cases h
   ·rename_i t0 lM
    rw[lM]
    dsimp only
    obtain⟨p,h1,h2⟩:=DT.fx h
    obtain⟨fB,e,t1,S1⟩:=p
    rw[Xe P hc h1]
    dsimp only at h2⊢
    split at h2
    ·rename_i h3 h4
     obtain⟨q,h5,h6⟩:=DT.fx h2
     rw[h3,h4]
     dsimp only
     rw[DT.ii h5,DT.cw h6]
    ·rename_i h3 h4
     obtain⟨q,h5,h6⟩:=DT.fx h2
     rw[h3,h4]
     dsimp only
     rw[DT.ii h5,DT.cw h6]
    ·cases h2
def AL(call:fD)(lf:Nat):List (apQ×List ape)→Md→VS→DT (Md×VS)
 | [],md,S=>.done (md,S)
 |(k,args)::l,md,S=>(Fz P call lf md k args S).bind fun p=>AL call lf l p.1 p.2
theorem Mn{fR:fD}{call:cB}(hc:∀f args S r,(fR f args S).Has r→call f args S=some r){lf:Nat}:∀{ds:List (apQ×List ape)} {md:Md} {S:VS} {r:Md×VS},
 (AL P fR lf ds md S).Has r→ol P call lf ds md S=some r
 | [],md,S,r,h=>by rw[DT.cw h];rfl
 |(k,args)::l,md,S,r,h=>by
  unfold AL at h
  obtain⟨p,h1,h2⟩:=DT.fx h
  unfold ol
  rw[Xf P hc h1]
  exact Mn hc h2
def x9(call:fD)(lf:Nat)(fn:Func)(md:Md)(t:Fr)(S:VS):DT (bx×VS):=match t.base with
 | []=>(AL P call lf t.ds md S).bind fun p=>match p.1 with
  | .ret=>DT.fO (oh P t fn p.2)
  | .mV v=>.done (.panic v,p.2)
 |_=>.fail
theorem FA{fR:fD}{call:cB}(hc:∀f args S r,(fR f args S).Has r→call f args S=some r){lf:Nat}{fn:Func}{md:Md}{t:Fr}{S:VS}{r:bx×VS}
 (h:(x9 P fR lf fn md t S).Has r):pj P call lf fn md t S=some r:=by
 unfold x9 at h
 unfold pj
 split at h
 ·rename_i hb
  rw[hb]
  dsimp only
  obtain⟨p,h1,h2⟩:=DT.fx h
  obtain⟨fB,S1⟩:=p
  rw[Mn P hc h1]
  cases fB with
  |ret=>exact DT.ii h2
  |mV v=>rw[DT.cw h2]
 ·cases h
def rP(ng:fD→fD)(lf:Nat):Nat→fD
 |0,_,_,_=>.fail
 |d+1,f,args,S=>match P.funcs[f]?with
  |none=>.fail
  |some fn=>match fn.body with
   |none=>.fail
   |some c=>match Fr.of args fn.ntmps with
    |none=>.fail
    |some t0=>(js P (ng (rP ng lf d)) lf true c t0 S).bind fun p=>match p.1 with
     | .normal=>x9 P (ng (rP ng lf d)) lf fn .ret p.2.1 p.2.2
     | .ret=>x9 P (ng (rP ng lf d)) lf fn .ret p.2.1 p.2.2
     | .panic v=>x9 P (ng (rP ng lf d)) lf fn (.mV v) p.2.1 p.2.2
     |_=>.fail
theorem FB{ng:fD→fD}{sp:cB→cB}(dk:∀(c:fD) (c':cB),(∀f args S r,(c f args S).Has r→c' f args S=some r)→∀f args S r,(ng c f args S).Has r→sp c' f args S=some r)(lf:Nat):
 ∀{d:Nat} {f:apQ} {args:List ape} {S:VS} {r:bx×VS},(rP P ng lf d f args S).Has r→mr P sp lf d f args S=some r
 |0,f,args,S,r,h=>by cases h
 |d+1,f,args,S,r,h=>by
  unfold rP at h
  unfold mr
  split at h
  ·cases h
  ·rename_i fn gJ
   split at h
   ·cases h
   ·rename_i c hb
    split at h
    ·cases h
    ·rename_i t0 lM
     obtain⟨p,h1,h2⟩:=DT.fx h
     obtain⟨e,t1,S1⟩:=p
     have:=AJ P (dk _ _ fun f args S r h=>FB dk lf h) lf h1
     rw[gJ]
     dsimp only
     rw[hb]
     dsimp only
     rw[lM]
     dsimp only
     rw[this]
     have jr:∀f args S r,(ng (rP P ng lf d) f args S).Has r→sp (mr P sp lf d) f args S=some r:=dk _ _ fun f args S r h=>FB dk lf h
     cases e with
     |normal=>exact FA P jr h2
     |ret=>exact FA P jr h2
     |panic v=>exact FA P jr h2
     |exit id=>cases h2
end
end Go.Proofs.YtnlkkgpcikkpoaaGreat.Vm
namespace Go.Proofs.YtnlkkgpcikkpoaaGreat.Vm
open Go.RowKit
def FC(p:Nat×Nat):Nat×Nat:=if p.1=0 then(p.2+1,0)else(p.1-1,p.2+1)
def nh:Nat→Nat×Nat
 |0=>(0,0)
 |n+1=>FC (nh n)
theorem FD:∀(s b:Nat),b≤s→∃n,nh n=(s-b,b)
 |0,0,_=>⟨0,rfl⟩
 |s+1,0,_=>by
  obtain⟨n,h⟩:=FD s s (apI s)
  exact⟨n+1,by simp[nh,h,FC]⟩
 |s,b+1,hb=>by
  obtain⟨n,h⟩:=FD s b (by omega)
  have h1:s-b≠0:=by omega
  exact⟨n+1,by simp[nh,h,FC,h1];omega⟩
termination_by s b=>(s,b)
theorem FE(a b:Nat):∃n,nh n=(a,b):=by
 obtain⟨n,h⟩:=FD (a+b) b (by omega)
 exact⟨n,by rw[h];congr 1;omega⟩
def vy(n:Nat):bN:=⟨(nh (nh n).1).1,(nh (nh n).1).2,(nh (nh n).2).1,(nh (nh n).2).2⟩
theorem Mo(r:bN):∃n,vy n=r:=by
 obtain⟨a,ha⟩:=FE r.aI r.sh
 obtain⟨b,hb⟩:=FE r.sz r.dy
 obtain⟨n,hn⟩:=FE a b
 exact⟨n,by simp[vy,hn,ha,hb]⟩
theorem AM(n:Nat):small (n+262144)=false:=by
 cases hs:small (n+262144)with
 |false=>rfl
 |true=>have:=gX.1 hs;omega
def Full(ρ:Ren):Prop:=∀r:bN,∃y,small y=false∧ρ y=some r
theorem ya{ρ ρ':Ren}:∀{l l':List ape},l.length=l'.length→(∀(i:Nat) (v v':ape),l[i]?=some v→l'[i]?=some v'→∃u,VR ρ' u v')→
 ∃lu:List ape,LR ρ' lu l'
 | [],[],_,_=>⟨[],LR.nil _⟩
 |v::l,v'::l',hl,h=>by
  obtain⟨u,hu⟩:=h 0 v v' rfl rfl
  obtain⟨lu,xx⟩:=ya (ρ:=ρ) (ρ':=ρ') (l:=l) (l':=l') (by simpa using hl) fun i a b ha hb=>h (i+1) a b (by simpa using ha) (by simpa using hb)
  exact⟨u::lu,LR.cons hu xx⟩
 | [],_::_,hl,_=>by simp at hl
 |_::_,[],hl,_=>by simp at hl
theorem VR.Xg{ρ ρ':Ren}(hm:∀x r,ρ x=some r→∃y,ρ' y=some r){v v':ape}(h:VR ρ v v'):∃u,VR ρ' u v':=by
 induction h with
 |bG v h=>exact⟨v,.bG v h⟩
 |ptr b off r h=>obtain⟨y,hy⟩:=hm b r h;exact⟨_,.ptr y off r hy⟩
 |sl b off len cap bw r h hc=>obtain⟨y,hy⟩:=hm b r h;exact⟨_,.sl y off len cap bw r hy hc⟩
 |eh a a'=>exact⟨_,.eh a a'⟩
 |mv b off t=>exact⟨_,.mv b off t⟩
 |mW b off t len cap=>exact⟨_,.mW b off t len cap⟩
 |map b r h=>obtain⟨y,hy⟩:=hm b r h;exact⟨_,.map y r hy⟩
 |func fn f f' c c' h h1 h2 h3 h4 DC DD=>
  obtain⟨lf,hf⟩:=ya (ρ:=ρ) h1 DC
  obtain⟨lc,hc⟩:=ya (ρ:=ρ) h3 DD
  exact⟨.func fn lf.toArray lc.toArray,.func fn _ _ _ _ h (by simpa using hf.len) (by simpa using hf.at_) (by simpa using hc.len) (by simpa using hc.at_)⟩
 |iface t v v' h ih=>obtain⟨u,hu⟩:=ih;exact⟨.iface t u,.iface t u v' hu⟩
 |agg c c' h1 h2 ih=>obtain⟨lu,hu⟩:=ya (ρ:=ρ) h1 ih;exact⟨.agg lu.toArray,VR.xp (by simpa using hu)⟩
 |tuple c c' h1 h2 ih=>obtain⟨lu,hu⟩:=ya (ρ:=ρ) h1 ih;exact⟨.tuple lu.toArray,VR.DE (by simpa using hu)⟩
theorem VR.full{ρ ρ':Ren}(hf:Full ρ'){v v':ape}(h:VR ρ v v'):∃u,VR ρ' u v':=h.Xg fun x r _=>let⟨y,_,hy⟩:=hf r;⟨y,hy⟩
def eX:List Nat→Nat→Option Nat
 | [],_=>none
 |y::l,x=>match apw y x with
  |true=>some 0
  |false=>match eX l x with
   |some i=>some (i+1)
   |none=>none
theorem AN:∀{σ:List Nat} {x i:Nat},eX σ x=some i→σ[i]?=some x
 | [],x,i,h=>by cases h
 |y::l,x,i,h=>by
  unfold eX at h
  split at h
  ·rename_i hb
   cases h
   simp[apz hb]
  ·split at h
   ·rename_i j hj
    cases h
    simpa using AN hj
   ·cases h
def mD(f:ape→Option ape):List ape→Option (List ape)
 | []=>some []
 |v::l=>match f v,mD f l with
  |some u,some r=>some (u::r)
  |_,_=>none
def ij(τ:Nat→Option Nat):Nat→ape→Option ape
 |_,.pointer (some ⟨b,off,none⟩)=>match τ b with
  |some i=>some (.pointer (some ⟨i,off,none⟩))
  |none=>none
 |_,.slice (some ⟨b,off,none⟩) len cap=>match τ b with
  |some i=>some (.slice (some ⟨i,off,none⟩) len cap)
  |none=>none
 |_,.map (some b)=>match τ b with
  |some i=>some (.map (some i))
  |none=>none
 |_,.pointer (some ⟨b,off,some t⟩)=>some (.pointer (some ⟨b,off,some t⟩))
 |_,.slice (some ⟨b,off,some t⟩) len cap=>some (.slice (some ⟨b,off,some t⟩) len cap)
 |d+1,.func fn f c=>match mD (ij τ d) f.toList,mD (ij τ d) c.toList with
  |some f',some c'=>some (.func fn f'.toArray c'.toArray)
  |_,_=>none
 |d+1,.iface t v=>match ij τ d v with
  |some u=>some (.iface t u)
  |none=>none
 |d+1,.agg c=>match mD (ij τ d) c.toList with
  |some c'=>some (.agg c'.toArray)
  |none=>none
 |d+1,.tuple c=>match mD (ij τ d) c.toList with
  |some c'=>some (.tuple c'.toArray)
  |none=>none
 |_,v=>match af v with
  |true=>some v
  |false=>none
theorem tM{ρ ρ':Ren}{f:ape→Option ape}(hf:∀v u v',f v=some u→VR ρ v v'→VR ρ' u v'):∀{l r l':List ape},mD f l=some r→LR ρ l l'→LR ρ' r l'
 | [],r,l',h,hl=>by cases h;rw[hl.kD];exact LR.nil _
 |v::l,r,l',h,hl=>by
  unfold mD at h
  split at h
  ·rename_i u q hu hq
   cases h
   obtain⟨v',l2,rfl,h1,h2⟩:=hl.gI
   exact LR.cons (hf v u v' hu h1) (tM hf hq h2)
  ·cases h
theorem qE{ρ ρ':Ren}{τ:Nat→Option Nat}(hσ:∀y i r,τ y=some i→ρ y=some r→ρ' i=some r):∀(d:Nat) (v u v':ape),ij τ d v=some u→VR ρ v v'→VR ρ' u v':=by
 intro d
 induction d with
 |zero=>
  intro v u v' h hv
  unfold ij at h
  split at h
  ·rename_i b off
   split at h
   ·rename_i i hi
    cases h
    obtain⟨r,hr,rfl⟩:=hv.kE
    exact .ptr i off r (hσ _ _ _ hi hr)
   ·cases h
  ·rename_i b off len cap
   split at h
   ·rename_i i hi
    cases h
    cases hv with
    |bG _ h=>cases h
    |sl _ _ _ _ bw r hr hc=>exact .sl i off len cap bw r (hσ _ _ _ hi hr) hc
    |eh _ a'=>exact .eh _ _
   ·cases h
  ·rename_i b
   split at h
   ·rename_i i hi
    cases h
    obtain⟨r,hr,rfl⟩:=hv.qg
    exact .map i r (hσ _ _ _ hi hr)
   ·cases h
  ·rename_i b off t
   cases h
   cases hv with
   |bG _ h=>cases h
   |mv=>exact .mv _ _ _
  ·rename_i b off t len cap
   cases h
   cases hv with
   |bG _ h=>cases h
   |eh _ a'=>exact .eh _ _
   |mW=>exact .mW _ _ _ _ _
  ·omega
  ·omega
  ·omega
  ·omega
  ·split at h
   ·rename_i hs
    cases h
    rw[VR.tj hs hv]
    exact .bG _ hs
   ·cases h
 |succ d ih=>
  intro v u v' h hv
  unfold ij at h
  split at h
  ·rename_i b off
   split at h
   ·rename_i i hi
    cases h
    obtain⟨r,hr,rfl⟩:=hv.kE
    exact .ptr i off r (hσ _ _ _ hi hr)
   ·cases h
  ·rename_i b off len cap
   split at h
   ·rename_i i hi
    cases h
    cases hv with
    |bG _ h=>cases h
    |sl _ _ _ _ bw r hr hc=>exact .sl i off len cap bw r (hσ _ _ _ hi hr) hc
    |eh _ a'=>exact .eh _ _
   ·cases h
  ·rename_i b
   split at h
   ·rename_i i hi
    cases h
    obtain⟨r,hr,rfl⟩:=hv.qg
    exact .map i r (hσ _ _ _ hi hr)
   ·cases h
  ·rename_i b off t
   cases h
   cases hv with
   |bG _ h=>cases h
   |mv=>exact .mv _ _ _
  ·rename_i b off t len cap
   cases h
   cases hv with
   |bG _ h=>cases h
   |eh _ a'=>exact .eh _ _
   |mW=>exact .mW _ _ _ _ _
  ·rename_i d' fn f c hd
   obtain rfl:=atY hd
   split at h
   ·rename_i f1 c1 h1 h2
    cases h
    cases hv with
    |bG _ h=>cases h
    |func _ _ f' _ c' gJ a1 a2 a3 a4=>
     have b1:=tM (fun v u v'=>ih v u v') h1 (⟨a1,a2⟩:LR ρ f.toList f'.toList)
     have b2:=tM (fun v u v'=>ih v u v') h2 (⟨a3,a4⟩:LR ρ c.toList c'.toList)
     exact .func _ _ _ _ _ gJ (by simpa using b1.len) (by simpa using b1.at_) (by simpa using b2.len) (by simpa using b2.at_)
   ·cases h
  ·rename_i hd
   obtain rfl:=atY hd
   split at h
   ·rename_i u1 h1
    cases h
    obtain⟨v1,rfl,h2⟩:=hv.xq
    exact .iface _ _ _ (ih _ _ _ h1 h2)
   ·cases h
  ·rename_i hd
   obtain rfl:=atY hd
   split at h
   ·rename_i c1 h1
    cases h
    obtain⟨c',rfl,h2⟩:=hv.DF
    exact .xp (by simpa using tM (fun v u v'=>ih v u v') h1 h2)
   ·cases h
  ·rename_i hd
   obtain rfl:=atY hd
   split at h
   ·rename_i c1 h1
    cases h
    obtain⟨c',rfl,h2⟩:=hv.Kp
    exact .DE (by simpa using tM (fun v u v'=>ih v u v') h1 h2)
   ·cases h
  ·split at h
   ·rename_i hs
    cases h
    rw[VR.tj hs hv]
    exact .bG _ hs
   ·cases h
theorem tN{f:ape→Option ape}:∀{l r:List ape},mD f l=some r→r.length=l.length
 | [],r,h=>by cases h;rfl
 |v::l,r,h=>by
  unfold mD at h
  split at h
  ·rename_i u q hu hq
   cases h
   simp[tN hq]
  ·cases h
def rQ(σ:Nat→Option Nat):List apM→Option (List apM)
 | []=>some []
 |e::l=>match ij σ 6 e.key,ij σ 6 e.val,rQ σ l with
  |some k,some v,some r=>some ({e with key:=k,val:=v}::r)
  |_,_,_=>none
def qF(τ:Nat→Option Nat):ape→Bool
 | .pointer (some ⟨b,_,none⟩)=>match τ b with|some i=>apw i b|none=>false
 | .slice (some ⟨b,_,none⟩) _ _=>match τ b with|some i=>apw i b|none=>false
 | .pointer (some ⟨_,_,some _⟩)=>true
 | .slice (some ⟨_,_,some _⟩) _ _=>true
 |v=>af v
theorem Mp{τ:Nat→Option Nat}{v:ape}(h:qF τ v=true):ij τ 6 v=some v:=by
 unfold qF at h
 split at h
 ·split at h
  ·rename_i i hi
   have:=apz h
   subst this
   simp only[ij,hi]
  ·cases h
 ·split at h
  ·rename_i i hi
   have:=apz h
   subst this
   simp only[ij,hi]
  ·cases h
 ·simp only[ij]
 ·simp only[ij]
 ·unfold af at h
  split at h<;>first|rfl|cases h
def dW(τ:Nat→Option Nat)(e:apM):ape:=match qF τ e.key&&qF τ e.val with
 |true=>.bool true
 |false=>.tuple #[]
def bt(bs:List Nat)(es:List apM):List ape:=es.map (dW (eX bs))
theorem FG{τ:Nat→Option Nat}:∀{es:List apM},(es.map (dW τ)).all af=true→rQ τ es=some es
 | [],_=>rfl
 |e::l,h=>by
  simp only[aqb,List.all_cons,apt]at h
  have h1:(qF τ e.key&&qF τ e.val)=true:=by
   have:=h.1
   unfold dW at this
   split at this
   ·assumption
   ·cases this
  rw[apt]at h1
  unfold rQ
  rw[Mp h1.1,Mp h1.2,FG h.2]
inductive ON(σ:Nat→Option Nat):ag→ag→Prop where
 |plain (c:List ape) (el:apq) (ro:Bool) (h:c.all af=true):ON σ (.cells c el ro) (.cells c el ro)
 |cells (c c':List ape) (el:apq) (ro:Bool) (h:mD (ij σ 6) c=some c'):ON σ (.cells c el ro) (.cells c' el ro)
 |map (es cN:List apM) (clock:Nat) (h:rQ σ es=some cN):ON σ (.map es clock) (.map cN clock)
 |kX (s:ByteArray) (pos:Nat):ON σ (.kX s pos) (.kX s pos)
 |rows (n size:Nat) (row:Nat→List SV):ON σ (.rows n size row) (.rows n size row)
 |abs (d:lD):ON σ (.abs d) (.abs d)
 |dead (o:ag):ON σ o .dead
theorem Mq{ρ ρ':Ren}{σ:Nat→Option Nat}(hσ:∀y i r,σ y=some i→ρ y=some r→ρ' i=some r):∀{es qG:List apM} {cN:List apM},rQ σ es=some qG→es.length=cN.length→
 (∀(i:Nat) (e e':apM),es[i]?=some e→cN[i]?=some e'→mZ ρ e e')→qG.length=cN.length∧∀(i:Nat) (e e':apM),qG[i]?=some e→cN[i]?=some e'→mZ ρ' e e'
 | [],qG,cN,h,hl,hr=>by cases h;exact⟨hl,fun i e e' h=>by simp at h⟩
 |e::es,qG,[],h,hl,hr=>by simp at hl
 |e::es,qG,e'::cN,h,hl,hr=>by
  unfold rQ at h
  split at h
  ·rename_i k v r hk hv hq
   cases h
   obtain⟨h1,h2⟩:=Mq hσ hq (by simpa using hl) fun i a b ha hb=>hr (i+1) a b (by simpa using ha) (by simpa using hb)
   have h0:=hr 0 e e' rfl rfl
   refine⟨by simp[h1],fun i a b ha hb=>?_⟩
   cases i with
   |zero=>
    simp only[ap3,api]at ha hb
    subst ha hb
    exact⟨qE hσ _ _ _ _ hk h0.key,qE hσ _ _ _ _ hv h0.val,h0.born⟩
   |succ i=>exact h2 i a b (by simpa using ha) (by simpa using hb)
  ·cases h
theorem ON.or{P:apu}{ρ ρ':Ren}{σ:Nat→Option Nat}(hσ:∀y i r,σ y=some i→ρ y=some r→ρ' i=some r){ob o:ag}(h:ON σ ob o){r:bN}(hl:Live o r=true):(∀o',OR P ρ r ob o'→OR P ρ' r o o'):=by
 intro o' ho
 cases h with
 |plain c el ro hc=>
  cases ho with
  |cells _ _ bU _ c' fr hp hs he hz hf jr=>
   refine .cells c el bU ro c' fr hp hs he hz hf fun i v hv=>?_
   obtain⟨v',a,b⟩:=jr i v hv
   have iE:=apR.1 hc v (apX hv)
   have:=VR.tj iE b
   subst this
   exact⟨_,a,.bG _ iE⟩
 |cells c c1 el ro hc=>
  cases ho with
  |cells _ _ bU _ c' fr hp hs he hz hf jr=>
   have hlen:=tN hc
   refine .cells c1 el bU ro c' fr hp (by rw[hlen];exact hs) he hz hf ?_
   have Xh:LR ρ c ((arO c.length).map fun i=>(c'[r.sh+i]?).getD undef):=by
    refine⟨by simp,fun i v v' hv fY=>?_⟩
    obtain⟨v2,a,b⟩:=jr i v hv
    have hi:i<c.length:=(app.1 hv).1
    rw[aqJ,asz hi]at fY
    simp only[aqA,api,a,aq4]at fY
    rw[←fY]
    exact b
   have h2:=tM (qE hσ 6) hc Xh
   intro i v hv
   obtain⟨v',b1,b2⟩:=h2.get hv
   have hi:i<c.length:=by rw[←hlen];exact(app.1 hv).1
   rw[aqJ,asz hi]at b1
   simp only[aqA,api]at b1
   have fk:r.sh+i<c'.size:=by omega
   rw[ara fk]at b1
   simp only[aq4]at b1
   exact⟨_,ara fk,by rw[b1];exact b2⟩
 |map es qG clock vj=>
  cases ho with
  |map _ cN _ h1 h2=>
   obtain⟨h3,h4⟩:=Mq hσ vj h1 h2
   exact .map qG cN clock h3 h4
 |kX s pos=>cases ho;exact .kX s pos
 |rows n size row=>cases hl
 |abs d=>cases hl
 |dead=>cases hl
theorem ON.ne{σ:Nat→Option Nat}{ob o:ag}(h:ON σ ob o)(bk:o≠ .dead):ob≠ .dead:=by
 cases h<;>first|exact absurd rfl bk|(intro e;cases e)
theorem ON.live{σ:Nat→Option Nat}{ob o:ag}(h:ON σ ob o){r:bN}(hl:Live o r=true):Live ob r=true∧(o.ro=false→ob.ro=false):=by
 cases h with
 |plain=>exact⟨hl,fun h=>h⟩
 |cells c c1 el ro hc=>
  refine⟨?_,fun h=>h⟩
  cases c with
  |nil=>cases hc;exact hl
  |cons v c=>rfl
 |map=>exact⟨rfl,fun h=>h⟩
 |kX=>exact⟨rfl,fun h=>h⟩
 |rows=>cases hl
 |abs=>cases hl
 |dead=>cases hl
theorem WR.FH{P:apu}{B:Nat→Prop}{w₀ w:aps}{ρ ρ':Ren}{m m':Nat→Option ag}(h:WR P B w₀ ρ m w)(σ:Nat→Option Nat)
 (hm:∀x o,m' x=some o→o≠ .dead→∃y ob,σ x=some y∧m y=some ob∧ob≠ .dead∧ρ' x=ρ y∧(∀r,Live o r=true→Live ob r=true∧(o.ro=false→ob.ro=false)∧∀o',OR P ρ r ob o'→OR P ρ' r o o')∧
  (∀n size row,o=.rows n size row→ob=o)∧(∀el ro,o=.cells [] el ro→ob=o)∧∀d,o=.abs d→ob=o)
 (xy:∀x y z,σ x=some z→σ y=some z→x=y)(Xi:∀x,m' x=none→ρ' x=none):WR P B w₀ ρ' m' w where
 env:=h.env
 below:=h.below
 size:=h.size
 live:=by
  intro x o r hx hr hl
  obtain⟨y,ob,h1,h2,_,h3,h4,_⟩:=hm x o hx (by rintro rfl;cases hl)
  obtain⟨h5,h6,h7⟩:=h4 r hl
  obtain⟨o',h8,h9,bJ⟩:=h.live y ob r h2 (h3▸hr) h5
  exact⟨o',h8,h7 o' h9,fun e=>bJ (h6 e)⟩
 inj:=by
  intro x y ox oy rx ry hx hy kN ct kO di hd he
  obtain⟨a,oa,a1,a2,_,a3,a4,_⟩:=hm x ox hx (by rintro rfl;cases kO)
  obtain⟨b,ob,b1,b2,_,b3,b4,_⟩:=hm y oy hy (by rintro rfl;cases di)
  obtain⟨a5,a6,_⟩:=a4 rx kO
  obtain⟨b5,b6,_⟩:=b4 ry di
  have:=h.inj a b oa ob rx ry a2 b2 (a3▸kN) (b3▸ct) a5 b5 (hd.imp a6 b6) he
  subst this
  exact xy x y a a1 b1
 fresh:=Xi
 rows:=by
  intro x n size row hx
  obtain⟨y,ob,h1,h2,_,h3,_,h5,_⟩:=hm x _ hx (by intro e;cases e)
  rw[h5 n size row rfl]at h2
  obtain⟨r,h6,h7⟩:=h.rows y n size row h2
  exact⟨r,by rw[h3,h6],h7⟩
 nil:=by
  intro x el ro r hx hr
  obtain⟨y,ob,h1,h2,_,h3,_,_,h5,_⟩:=hm x _ hx (by intro e;cases e)
  rw[h5 el ro rfl]at h2
  exact h.nil y el ro r h2 (h3▸hr)
 named:=by
  intro x o hx bk
  obtain⟨y,ob,h1,h2,h3,h4,_⟩:=hm x o hx bk
  rw[h4]
  exact h.named y ob h2 h3
 abs:=by
  obtain⟨F,a1,a2,a3⟩:=h.abs
  refine⟨fun x k=>∃y d,σ x=some y∧m' x=some (.abs d)∧F y k,fun x d hx=>?_,?_,?_⟩
  ·obtain⟨y,ob,h1,h2,_,h3,_,_,_,h5⟩:=hm x _ hx (by intro e;cases e)
   rw[h5 d rfl]at h2
   obtain⟨r,S,c,e,f⟩:=a1 y d h2
   exact⟨r,S,by rw[h3,c],e,fun k hk=>⟨y,d,h1,hx,f k hk⟩⟩
  ·rintro x k ⟨y,d,g1,g2,g3⟩
   obtain⟨_,b2,b3,b4⟩:=a2 y k g3
   refine⟨⟨d,g2⟩,b2,b3,fun z o r hz hr hl=>?_⟩
   obtain⟨y2,ob,h1,h2,_,h3,h4,_⟩:=hm z o hz (by rintro rfl;cases hl)
   exact b4 y2 ob r h2 (h3▸hr) (h4 r hl).1
  ·rintro x1 x2 k ⟨y1,_,g1,_,g3⟩ ⟨y2,_,q1,_,q3⟩
   have:=a3 y1 y2 k g3 q3
   subst this
   exact xy x1 x2 y1 g1 q1
def yb:List ag→Nat→Tr ag→Tr ag
 | [],_,t=>t
 |o::l,i,t=>yb l (i+1) (Tr.set 18 t i o)
def ld(l:List ag):VS:=⟨yb l 0 .nil,l.length,[],[]⟩
theorem Mr:∀(l:List ag) (i:Nat) (t:Tr ag) (x:Nat),i+l.length≤262144→gt (yb l i t) x=if i≤x∧x<i+l.length then l[x-i]?else gt t x
 | [],i,t,x,h=>by
  rw[if_neg (by simp only[arW];omega)];rfl
 |o::l,i,t,x,h=>by
  simp only[ap1]at h
  show gt (yb l (i+1) (Tr.set 18 t i o)) x=_
  rw[Mr l (i+1) _ x (by omega),xo (gX.2 (by omega))]
  simp only[ap1]
  by_cases h1:x=i
  ·subst h1
   rw[if_neg (by omega),e9,if_pos (by omega),Nat.sub_self];rfl
  ·rw[dV _ h1]
   by_cases h2:i≤x∧x<i+(l.length+1)
   ·rw[if_pos (by omega),if_pos h2,show x-i=x-(i+1)+1 by omega];rfl
   ·rw[if_neg (by omega),if_neg h2]
theorem Xj(x:Nat):gt (.nil:Tr ag) x=none:=by
 unfold gt
 split
 ·rw[Tr.Dz]
 ·rfl
theorem yc{l:List ag}(h:l.length≤262144)(x:Nat):gt (ld l).mem x=l[x]? :=by
 show gt (yb l 0 .nil) x=_
 rw[Mr l 0 .nil x (by omega),Xj]
 by_cases hx:x<l.length
 ·rw[if_pos (by omega),asc]
 ·rw[if_neg (by omega),aqr (by omega)]
def cm(objs:List ag):Nat→Option ag:=fun x=>match small x with
 |true=>objs[x]?
 |false=>some .dead
theorem cx{objs:List ag}{x:Nat}(h:small x=true):cm objs x=objs[x]? :=by unfold cm;rw[h]
theorem il{objs:List ag}{x:Nat}(h:small x=false):cm objs x=some .dead:=by unfold cm;rw[h]
abbrev AO(im:List ape):Fr:=⟨Fr.rj im 0 .nil,im.length,[],[]⟩
def gB(n:Nat)(u:Nat→ape)(l:List (Nat×ape)):List ape:=l.foldl (fun L p=>L.set p.1 p.2) ((arO n).map u)
def eH(n:Nat)(u:Nat→ape)(l:List (Nat×ape)):Fr:=AO (gB n u l)
theorem FR.Xk{ρ:Ren}{im:List ape}{a:Act}{b:List aqS}(h:LR ρ im a.tmps.toList)(hd:a.defers=b)(hn:im.length≤1024):FR ρ ((AO im).dH b) a:=by
 have hlen:im.length=a.tmps.size:=by have:=h.len;simpa using this
 refine⟨hlen.symm,hn,fun i=>?_,by rw[hd];exact .nil⟩
 show VR ρ (Fr.at ⟨Fr.rj im 0 .nil,im.length,[],[]⟩ i) _
 unfold Fr.at
 dsimp only
 by_cases hi:i<im.length
 ·rw[dQ.2 hi]
  dsimp only
  rw[Fr.xX (by omega) (by omega),if_pos (by omega),asc]
  obtain⟨v',h1,h2⟩:=h.get (apl hi)
  rw[apl hi,apW]
  have h3:a.tmps[i]?=some v':=by simpa using h1
  rw[h3]
  exact h2
 ·have hb:apy i im.length=false:=by cases hb:apy i im.length with
   |false=>rfl
   |true=>exact absurd (dQ.1 hb) hi
  rw[hb]
  dsimp only
  rw[apW,Array.getElem?_eq_none (by omega)]
  exact VR.undef ρ
theorem LR.set{ρ:Ren}{l l':List ape}(h:LR ρ l l'){i:Nat}{v v':ape}(fY:l'[i]?=some v')(hv:VR ρ v v'):LR ρ (l.set i v) l':=
 ⟨by simp[h.len],fun k u u' hu rJ=>by
  by_cases e:k=i
  ·subst e
   have hk:k<l.length:=by rw[h.len];exact(app.1 rJ).1
   rw[arP hk]at hu
   cases hu
   rw[fY]at rJ
   cases rJ
   exact hv
  ·rw[ar3 (Ne.symm e)]at hu
   exact h.at_ k u u' hu rJ⟩
theorem lN:∀(l:List (Nat×ape)) (L:List ape),(l.foldl (fun L p=>L.set p.1 p.2) L).length=L.length
 | [],L=>rfl
 |p::l,L=>by rw[ari,lN l,List.length_set]
theorem Ms{ρ:Ren}{L':List ape}:∀(l:List (Nat×ape)) (L:List ape),LR ρ L L'→(∀p∈l,∃v',L'[p.1]?=some v'∧VR ρ p.2 v')→LR ρ (l.foldl (fun L p=>L.set p.1 p.2) L) L'
 | [],L,h,_=>h
 |p::l,L,h,hl=>by
  rw[ari]
  obtain⟨v',h1,h2⟩:=hl p apC
  exact Ms l _ (h.set h1 h2) fun q hq=>hl q (apB _ hq)
theorem FR.make{ρ:Ren}{a:Act}{n:Nat}{b:List aqS}(cf:a.tmps.size=n)(hn:n≤1024)(hd:a.defers=b)(hok:∀i,∃u,VR ρ u (a.tmps.getD i undef)){l:List (Nat×ape)}
 (hl:∀p∈l,p.1<n∧VR ρ p.2 (a.tmps.getD p.1 undef)):∃u:Nat→ape,FR ρ ((eH n u l).dH b) a:=by
 refine⟨fun i=>Classical.choose (hok i),?_⟩
 have at_:∀i,i<n→a.tmps.toList[i]?=some (a.tmps.getD i undef):=fun i hi=>by
  rw[Array.getElem?_toList,apW,ara (by omega)];rfl
 refine FR.Xk (Ms l _ ⟨by simp[cf],fun i v v' hv fY=>?_⟩ fun p hp=>⟨_,at_ _ (hl p hp).1,(hl p hp).2⟩) hd (by unfold gB;rw[lN];simpa using hn)
 have hi:i<n:=by simpa using(app.1 hv).1
 rw[aqJ,asz hi]at hv
 simp only[aqA,api]at hv
 rw[at_ i hi]at fY
 cases fY
 rw[←hv]
 exact Classical.choose_spec (hok i)
structure aj where
 sl:List (Nat×ape)
 objs:List ag
structure vz where
 B:Nat→Prop
 w₀:aps
 k:Nat
 ρ₀:Ren
 n:Nat
 named:∀x,x<k→∃r,ρ₀ x=some r
def eQ(D:Nat):aqS:={target:=.collected D,args:= #[]}
structure Hd(P:apu)(X:vz)(d:aj)(ρ:Ren)(u:Nat→ape)(M:List Nat)(a:Act)(w:aps):Prop where
 full:Full ρ
 kept:∀x,x<X.k→ρ x=X.ρ₀ x
 fr:FR ρ ((eH X.n u d.sl).dH (M.map eQ)) a
 mem:WR P X.B X.w₀ ρ (cm d.objs) w
 bQ:d.objs.length≤262144
 quiet:∀D∈M,w.heap[D]?=some (.deferred (some []))
 fX:M.Nodup
 outside:∀D∈M,¬X.B D
def Holds(P:apu)(X:vz)(d:aj)(a:Act)(w:aps):Prop:=∃ρ u M,Hd P X d ρ u M a w
inductive dL{α β:Type}(R:α→β→Prop):List α→List β→Prop where
 |nil:dL R [] []
 |cons {a:α} {b:β} {l:List α} {l':List β} (h:R a b) (t:dL R l l'):dL R (a::l) (b::l')
theorem dL.len{α β:Type}{R:α→β→Prop}{l:List α}{l':List β}(h:dL R l l'):l.length=l'.length:=by
 induction h with
 |nil=>rfl
 |cons _ _ ih=>simp[ih]
theorem dL.get{α β:Type}{R:α→β→Prop}{l:List α}{l':List β}(h:dL R l l'):∀{i:Nat} {b:β},l'[i]?=some b→∃a,l[i]?=some a∧R a b:=by
 induction h with
 |nil=>intro i b hb;simp at hb
 |cons h t ih=>
  intro i b hb
  cases i with
  |zero=>simp only[ap3,api]at hb;subst hb;exact⟨_,rfl,h⟩
  |succ i=>simpa using ih (by simpa using hb)
def tP:Nat→List Nat→Nat→Bool
 |0,_,_=>true
 |k+1,y::l,i=>apw y i&&tP k l (i+1)
 |_+1,[],_=>false
theorem FI:∀{k i:Nat} {l:List Nat},tP k l i=true→∀x,x<k→l[x]?=some (i+x)
 |0,i,l,h,x,hx=>by omega
 |k+1,i,y::l,h,x,hx=>by
  simp only[tP,apt]at h
  cases x with
  |zero=>simp[apz h.1]
  |succ x=>simpa[show i+1+x=i+(x+1)by omega]using FI h.2 x (by omega)
 |k+1,i,[],h,x,hx=>by cases h
def iK:List Nat→Bool
 | []=>true
 |y::l=> !(l.any (apw y))&&iK l
theorem tQ:∀{l:List Nat},iK l=true→∀{x y z:Nat},l[x]?=some z→l[y]?=some z→x=y
 | [],h,x,y,z,hx,hy=>by simp at hx
 |a::l,h,x,y,z,hx,hy=>by
  simp only[iK,apt,Bool.not_eq_true',List.any_eq_false]at h
  have bk:∀i,l[i]? ≠some a:=fun i hi=>by
   have:=h.1 a (apX hi)
   simp at this
  cases x with
  |zero=>
   simp only[ap3,api]at hx
   subst hx
   cases y with
   |zero=>rfl
   |succ y=>exact absurd (by simpa using hy) (bk y)
  |succ x=>
   cases y with
   |zero=>
    simp only[ap3,api]at hy
    subst hy
    exact absurd (by simpa using hx) (bk x)
   |succ y=>exact congrArg (· +1) (tQ h.2 (x:=x) (y:=y) (z:=z) (by simpa using hx) (by simpa using hy))
def vA(σ:Nat→Option Nat):List Nat→List ape→Option (List (Nat×ape))
 | [],[]=>some []
 |i::l,v::vs=>match ij σ 6 v,vA σ l vs with
  |some u,some r=>some ((i,u)::r)
  |_,_=>none
 |_,_=>none
theorem FJ{σ:Nat→Option Nat}:∀{sl:List Nat} {vs:List ape} {r:List (Nat×ape)},vA σ sl vs=some r→∀p∈r,∃(j:Nat) (v:ape),sl[j]?=some p.1∧vs[j]?=some v∧ij σ 6 v=some p.2
 | [],[],r,h,p,hp=>by cases h;cases hp
 |i::l,v::vs,r,h,p,hp=>by
  unfold vA at h
  split at h
  ·rename_i u q hu hq
   cases h
   rcases apx.1 hp with rfl|hp
   ·exact⟨0,v,rfl,rfl,hu⟩
   ·obtain⟨j,v',h1,h2,h3⟩:=FJ hq p hp
    exact⟨j+1,v',by simpa using h1,by simpa using h2,h3⟩
  ·cases h
 | [],_::_,r,h,p,hp=>by cases h
 |_::_,[],r,h,p,hp=>by cases h
theorem Holds.Mu{P:apu}{X:vz}{ρ ρ':Ren}{m:Nat→Option ag}{t:Fr}{M:List Nat}{a:Act}{w:aps}(gK:Full ρ)(hle:ρ.le ρ')(hk:∀x,x<X.k→ρ x=X.ρ₀ x)
 (cu:FR ρ' t a)(Mv:t.n=X.n)(Xl:t.ds=[])(Xm:t.base=M.map eQ)(Xn:∀D∈M,w.heap[D]?=some (.deferred (some [])))(Xo:M.Nodup)(Xp:∀D∈M,¬X.B D)(hw:WR P X.B X.w₀ ρ' m w){sl:List Nat}{im:List ape}(tH:sl.map t.at=im){bl:List (Nat×ag)}(lO:∀p∈bl,m p.1=some p.2){d:aj}
 (mG:tP X.k (bl.map (·.1)) 0=true)(cX:iK (bl.map (·.1))=true)(DV:vA (eX (bl.map (·.1))) sl im=some d.sl)(e7:dL (ON (eX (bl.map (·.1)))) (bl.map (·.2)) d.objs)
 (Xq:sl.all (fun i=>apy i X.n)=true)(iL:apG d.objs.length 262144=true):Holds P X d a w:=by
 subst tH
 let σ:List Nat:=bl.map (·.1)
 let ρ2:Ren:=fun x=>match small x with
  |true=>(σ[x]?).bind ρ'
  |false=>ρ' x
 have eo:∀x,small x=true→ρ2 x=(σ[x]?).bind ρ':=fun x h=>by show(match small x with|true=>_|false=>_)=_;rw[h]
 have lg:∀x,small x=false→ρ2 x=ρ' x:=fun x h=>by show(match small x with|true=>_|false=>_)=_;rw[h]
 have vB:=apL iL
 have hlen:bl.length=d.objs.length:=by have:=e7.len;simpa using this
 have pD:Full ρ2:=fun r=>by
  obtain⟨y,h1,h2⟩:=gK r
  exact⟨y,h1,by rw[lg y h1];exact hle _ _ h2⟩
 have tR:∀i y,σ[i]?=some y→small i=true:=fun i y h=>gX.2 (by
  have:i<σ.length:=(app.1 h).1
  have e:σ.length=bl.length:=by simp[σ]
  have:(2:Nat)^18=262144:=rfl
  omega)
 have hσ:∀i y r,σ[i]?=some y→ρ' y=some r→ρ2 i=some r:=fun i y r h1 h2=>by rw[eo i (tR i y h1),h1];exact h2
 have rR:∀y i r,eX σ y=some i→ρ' y=some r→ρ2 i=some r:=fun y i r h1 h2=>hσ i y r (AN h1) h2
 obtain⟨u,hu⟩:∃u:Nat→ape,FR ρ2 ((eH X.n u d.sl).dH (M.map eQ)) a:=by
  refine FR.make (by rw[cu.size,Mv]) (by rw[←Mv];exact cu.small) ((cu.rK Xl).trans Xm) (fun i=>(cu.at_ i).full pD) fun p hp=>?_
  obtain⟨j,v,h1,h2,h3⟩:=FJ DV p hp
  rw[aqJ,h1]at h2
  simp only[aqA,api]at h2
  subst h2
  exact⟨dQ.1 (apR.1 Xq p.1 (apX h1)),qE rR 6 _ _ _ h3 (cu.at_ p.1)⟩
 refine⟨ρ2,u,M,pD,fun x hx=>?_,hu,?_,vB,Xn,Xo,Xp⟩
 ·have:=FI mG x hx
  rw[aqR]at this
  obtain⟨r,hr⟩:=X.named x hx
  rw[hσ x x r this (hle _ _ ((hk x hx).trans hr)),hr]
 ·have tz:∀(i:Nat) (o:ag),d.objs[i]?=some o→∃y ob,σ[i]?=some y∧m y=some ob∧ON (eX σ) ob o:=fun i o hi=>by
   obtain⟨ob,h1,h2⟩:=e7.get hi
   rw[aqJ]at h1
   cases hb:bl[i]?with
   |none=>rw[hb]at h1;cases h1
   |some p=>
    rw[hb]at h1
    simp only[aqA,api]at h1
    subst h1
    exact⟨p.1,p.2,by simp[σ,hb],lO p (apX hb),h2⟩
  refine hw.FH (fun x=>match small x with
   |true=>σ[x]?
   |false=>none) (fun x o hx bk=>?_) (fun x y z hx hy=>?_) fun x hx=>?_
  ·cases hs:small x with
   |false=>rw[il hs]at hx;cases hx;exact absurd rfl bk
   |true=>
    rw[cx hs]at hx
    obtain⟨y,ob,h1,h2,h3⟩:=tz x o hx
    refine⟨y,ob,h1,h2,h3.ne bk,?_,fun r hl=>⟨(h3.live hl).1,(h3.live hl).2,h3.or rR hl⟩,fun n size row e=>?_,fun el ro e=>?_,fun d e=>?_⟩
    ·rw[eo x hs,h1];rfl
    ·subst e;cases h3;rfl
    ·subst e
     cases h3 with
     |plain=>rfl
     |cells c _ _ _ h=>
      cases c with
      |nil=>rfl
      |cons v c=>have:=tN h;simp at this
    ·subst e;cases h3;rfl
  ·have key:∀q,(match small q with|true=>σ[q]? |false=>none)=some z→σ[q]?=some z:=fun q hq=>by
    cases hs:small q with
    |true=>rw[hs]at hq;exact hq
    |false=>rw[hs]at hq;cases hq
   exact tQ cX (key x hx) (key y hy)
  ·cases hs:small x with
   |false=>rw[il hs]at hx;cases hx
   |true=>
    rw[cx hs]at hx
    rw[eo x hs]
    have:σ[x]?=none:=by
     rw[aq3]at hx⊢
     simp[σ]
     omega
    rw[this]
    rfl
def aY:apV→List apV
 | .seq a b=>aY a++aY b
 |c=>[c]
def jh(P:apu):List apV→(arB→Act→aps→Prop)→Act→aps→Prop
 | [],Q,a,w=>Q .normal a w
 |c::l,Q,a,w=>c.wp P (Exit.then (jh P l Q) Q) a w
theorem yd{P:apu}:∀{l:List apV} {Q Q':arB→Act→aps→Prop} {a:Act} {w:aps},jh P l Q a w→(∀e a w,Q e a w→Q' e a w)→jh P l Q' a w
 | [],Q,Q',a,w,h,hq=>hq _ _ _ h
 |c::l,Q,Q',a,w,h,hq=>atz h fun e a w he=>by
  cases e with
  |normal=>exact yd he hq
  |_=>exact hq _ _ _ he
theorem FK{P:apu}:∀{l l':List apV} {Q:arB→Act→aps→Prop} {a:Act} {w:aps},jh P l (Exit.then (jh P l' Q) Q) a w→jh P (l++l') Q a w
 | [],l',Q,a,w,h=>h
 |c::l,l',Q,a,w,h=>atz h fun e a w he=>by
  cases e with
  |normal=>exact FK he
  |_=>exact he
theorem ye{P:apu}:∀{c:apV} {Q:arB→Act→aps→Prop} {a:Act} {w:aps},jh P (aY c) Q a w→c.wp P Q a w:=by
 intro c
 induction c with
 |seq a b iW k9=>
  intro Q t w h
  have h:jh P (aY a++aY b) Q t w:=h
  refine wp_seq (iW ?_)
  -- take apart what stands one behind the other
  have key:∀(l l':List apV) (Q:arB→Act→aps→Prop) (t:Act) (w:aps),jh P (l++l') Q t w→jh P l (Exit.then (jh P l' Q) Q) t w:=by
   intro l
   induction l with
   |nil=>intro l' Q t w h;exact h
   |cons c l ih=>
    intro l' Q t w h
    refine atz (show c.wp P (Exit.then (jh P (l++l') Q) Q) t w from h) fun e t w he=>?_
    cases e with
    |normal=>exact ih l' Q t w he
    |_=>exact he
  refine yd (key _ _ _ _ _ h) fun e t w he=>?_
  cases e with
  |normal=>exact k9 he
  |_=>exact he
 |_=>
  intro Q t w h
  refine atz (show Code.wp P _ (Exit.then (jh P [] Q) Q) t w from h) fun e t w he=>?_
  cases e<;>exact he
def tS(P:apu)(call:fD)(lf:Nat):List apV→Fr→VS→DT (bd×Fr×VS)
 | [],t,S=>.done (.normal,t,S)
 |c::l,t,S=>(js P call lf false c t S).bind fun p=>match p.1 with
  | .normal=>tS P call lf l p.2.1 p.2.2
  |_=>.done p
def lh(P:apu)(call:cB)(lf:Nat):List apV→Fr→VS→Option (bd×Fr×VS)
 | [],t,S=>some (.normal,t,S)
 |c::l,t,S=>match dg P call lf false c t S with
  |some (.normal,t1,S1)=>lh P call lf l t1 S1
  |r=>r
structure dw(P:apu)(cO:fD):Prop where
 ex:∃cV:cB,ic P cV∧∀f args S r,(cO f args S).Has r→cV f args S=some r
theorem FL{P:apu}{fR:fD}{call:cB}(hc:∀f args S r,(fR f args S).Has r→call f args S=some r)(lf:Nat):∀{l:List apV} {t:Fr} {S:VS} {r:bd×Fr×VS},
 (tS P fR lf l t S).Has r→lh P call lf l t S=some r
 | [],t,S,r,h=>by rw[DT.cw h];rfl
 |c::l,t,S,r,h=>by
  unfold tS at h
  obtain⟨p,h1,h2⟩:=DT.fx h
  obtain⟨e,t1,S1⟩:=p
  unfold lh
  rw[AJ P hc lf h1]
  cases e with
  |normal=>exact FL hc lf h2
  |exit id=>rw[DT.cw h2]
  |ret=>rw[DT.cw h2]
  |panic v=>rw[DT.cw h2]
theorem yf{P:apu}{call:cB}(hc:ic P call)(lf:Nat):∀{l:List apV} {t t1:Fr} {S S1:VS} {x:bd},lh P call lf l t S=some (x,t1,S1)→dK S S1
 | [],t,t1,S,S1,x,h=>by
  simp only[lh,api,apn]at h
  obtain⟨_,_,rfl⟩:=h
  exact dK.refl S
 |c::l,t,t1,S,S1,x,h=>by
  unfold lh at h
  split at h
  ·rename_i t2 S2 hx
   exact(nL hc lf hx).trans (yf hc lf h)
  ·exact nL hc lf h
theorem Mw{P:apu}(hP:iG P=true)(fw:P.follows .mixedOrders=true){call:cB}(hc:ic P call)(lf:Nat):∀{l:List apV} {t t1:Fr} {S S1:VS} {x:bd},lh P call lf l t S=some (x,t1,S1)→
 ∀{B:Nat→Prop} {w₀:aps} {ρ:Ren} {m:Nat→Option ag} {w:aps} {a:Act},FR ρ t a→WR P B w₀ ρ m w→fG S S1 m→
 ∀{Q:arB→Act→aps→Prop},(∀(ρ':Ren) (e:arB) (a':Act) (w':aps),ρ.le ρ'→XR ρ' x e→FR ρ' t1 a'→WR P B w₀ ρ' (post m S1) w'→Q e a' w')→jh P l Q a w
 | [],t,t1,S,S1,x,h,B,w₀,ρ,m,w,a,ht,hw,hm,Q,hQ=>by
  simp only[lh,api,apn]at h
  obtain⟨rfl,rfl,rfl⟩:=h
  exact hQ ρ _ a w (Ren.le_refl ρ) .normal ht (by rw[oE hm];exact hw)
 |c::l,t,t1,S,S1,x,h,B,w₀,ρ,m,w,a,ht,hw,hm,Q,hQ=>by
  unfold lh at h
  split at h
  ·rename_i t2 S2 hx
   have e2:=yf hc lf h
   refine(as8 (n:=0)).1 (tJ hP fw hc lf (r:=none) (fun h=>by cases h) c hx ht hw (hm.first e2) fun ρ' e a' w' hle dF cu cH=>?_)
   cases dF
   refine Mw hP fw hc lf h cu cH (hm.next (nL hc lf hx)) fun ρ2 qB a2 w2 km jR lK ig=>?_
   rw[oD e2]at ig
   exact hQ ρ2 qB a2 w2 (Ren.le_trans hle km) jR lK ig
  ·rename_i bk
   refine(as8 (n:=0)).1 (tJ hP fw hc lf (r:=none) (fun h=>by cases h) c h ht hw hm fun ρ' e a' w' hle dF cu cH=>?_)
   cases dF with
   |normal=>exact absurd h (bk _ _)
   |_=>exact hQ ρ' _ a' w' hle (by constructor<;>assumption) cu cH
theorem FM{P:apu}{call:cB}{lf:Nat}(b:List aqS):∀{l:List apV} {t t1:Fr} {S S1:VS} {x:bd},lh P call lf l t S=some (x,t1,S1)→lh P call lf l (t.dH b) S=some (x,t1.dH b,S1)
 | [],t,t1,S,S1,x,h=>by
  simp only[lh,api,apn]at h
  obtain⟨rfl,rfl,rfl⟩:=h
  rfl
 |c::l,t,t1,S,S1,x,h=>by
  unfold lh at h⊢
  rw[Wx]
  cases hx:dg P call lf false c t S with
  |none=>rw[hx]at h;cases h
  |some p=>
   obtain⟨e,t2,S2⟩:=p
   rw[hx]at h
   cases e with
   |normal=>exact FM b h
   |exit j=>simp only[api,apn]at h;obtain⟨rfl,rfl,rfl⟩:=h;rfl
   |ret=>simp only[api,apn]at h;obtain⟨rfl,rfl,rfl⟩:=h;rfl
   |panic v=>simp only[api,apn]at h;obtain⟨rfl,rfl,rfl⟩:=h;rfl
theorem Mx{w:aps}{M:List Nat}(hq:∀D∈M,w.heap[D]?=some (.deferred (some []))):∀D∈M,∃o,w.heap[D]?=some o∧rM o=true:=fun D hD=>⟨_,hq D hD,rfl⟩
def pE:List Nat→VS→Option (List (Nat×ag))
 | [],_=>some []
 |x::l,S=>match gt S.mem x,pE l S with
  |some o,some r=>some ((x,o)::r)
  |_,_=>none
theorem FN:∀{bs:List Nat} {S:VS} {r:List (Nat×ag)},pE bs S=some r→∀p∈r,gt S.mem p.1=some p.2
 | [],S,r,h,p,hp=>by
  simp only[pE,api]at h
  rw[←h]at hp
  cases hp
 |x::l,S,r,h,p,hp=>by
  unfold pE at h
  split at h
  ·rename_i o r' h1 h3
   simp only[api]at h
   rw[←h]at hp
   rcases apx.1 hp with rfl|hp
   ·exact h1
   ·exact FN h3 p hp
  ·cases h
def an(P:apu)(n k:Nat)(l:List apV)(d:aj)(Q:bd→aj→Prop):Prop:=
 ∀(X:vz),X.n=n→X.k=k→∀(a:Act) (w:aps),Holds P X d a w→jh P l (fun e a' w'=>∃x d',Q x d'∧XR (fun _=>none) x e∧Holds P X d' a' w') a w
theorem an.mono{P:apu}{n k:Nat}{l:List apV}{d:aj}{Q Q':bd→aj→Prop}(h:an P n k l d Q)(hq:∀x d',Q x d'→Q' x d'):an P n k l d Q':=
 fun X hn hk a w hd=>yd (h X hn hk a w hd) fun e a w ⟨x,d',h1,h2,h3⟩=>⟨x,d',hq x d' h1,h2,h3⟩
theorem an.nil{P:apu}{n k:Nat}{d:aj}{Q:bd→aj→Prop}(h:Q .normal d):an P n k [] d Q:=fun X hn hk a w hd=>⟨.normal,d,h,.normal,hd⟩
def Xr:bd→Bool
 | .panic v=>fl v
 |_=>true
def inner:List apV→apV
 | .block _ c::_=>c
 | .loop c::_=>c
 | .scope c::_=>c
 |_=>.skip
def FO:List apV→Option Nat
 | .block id _::_=>some id
 |_=>none
def FP:List apV→Bool
 | .loop _::_=>true
 |_=>false
def QB(id:Nat)(N:aj→Prop)(Q:bd→aj→Prop):bd→aj→Prop
 | .normal,d=>N d
 | .exit j,d=>match apw j id with
  |true=>N d
  |false=>Q (.exit j) d
 |x,d=>Q x d
theorem an.block{P:apu}{n k id:Nat}{l:List apV}{d:aj}{Q:bd→aj→Prop}(hl:FO l=some id)(h:an P n k (aY (inner l)) d (QB id (fun d'=>an P n k l.tail d' Q) Q)):an P n k l d Q:=by
 intro X hn hk a w hd
 unfold FO at hl
 split at hl
 ·rename_i anH c l'
  cases hl
  refine wp_block (atz (ye (h X hn hk a w hd)) fun e a' w' he=>?_)
  obtain⟨x,d',h1,h2,h3⟩:=he
  cases h2 with
  |normal=>exact h1 X hn hk a' w' h3
  |exit j=>
   by_cases hj:j=id
   ·subst hj
    simp only[QB,aqn]at h1
    simp only[atj,if_true]
    exact h1 X hn hk a' w' h3
   ·have hb:apw j id=false:=by
     cases hb:apw j id with
     |false=>rfl
     |true=>exact absurd (apz hb) hj
    simp only[QB,hb]at h1
    simp only[atj,hj,if_false]
    exact⟨_,d',h1,.exit j,h3⟩
  |ret=>exact⟨_,d',h1,.ret,h3⟩
  |panic v v' hv=>exact⟨_,d',h1,.panic v v' hv,h3⟩
 ·cases hl
theorem an.loop{P:apu}{n k:Nat}{l:List apV}{Q:bd→aj→Prop}{σ:Type}(I:σ→aj)(μ:σ→Nat)(ok:σ→Prop)(hl:FP l=true)
 (h:∀s,ok s→an P n k (aY (inner l)) (I s) (fun x d'=>match x with
  | .normal=>∃s',ok s'∧μ s'<μ s∧d'=I s'
  |x=>Q x d')):∀s,ok s→an P n k l (I s) Q:=by
 intro s hs X hn hk a w hd
 unfold FP at hl
 split at hl
 ·rename_i c l'
  have key:∀m s a w,ok s→μ s≤m→Holds P X (I s) a w→Code.rounds P c (Exit.then (jh P l' fun e a' w'=>∃x d',Q x d'∧XR (fun _=>none) x e∧Holds P X d' a' w') fun e a' w'=>∃x d',Q x d'∧XR (fun _=>none) x e∧Holds P X d' a' w') (m+1) a w:=by
   intro m
   induction m with
   |zero=>
    intro s a w hs hm hd
    rw[rounds_succ]
    refine atz (ye (h s hs X hn hk a w hd)) fun e a' w' he=>?_
    obtain⟨x,d',h1,h2,h3⟩:=he
    cases h2 with
    |normal=>obtain⟨s',_,hlt,_⟩:=h1;omega
    |exit j=>exact⟨_,d',h1,.exit j,h3⟩
    |ret=>exact⟨_,d',h1,.ret,h3⟩
    |panic v v' hv=>exact⟨_,d',h1,.panic v v' hv,h3⟩
   |succ m ih=>
    intro s a w hs hm hd
    rw[rounds_succ]
    refine atz (ye (h s hs X hn hk a w hd)) fun e a' w' he=>?_
    obtain⟨x,d',h1,h2,h3⟩:=he
    cases h2 with
    |normal=>
     obtain⟨s',nH,hlt,rfl⟩:=h1
     exact ih s' a' w' nH (by omega) h3
    |exit j=>exact⟨_,d',h1,.exit j,h3⟩
    |ret=>exact⟨_,d',h1,.ret,h3⟩
    |panic v v' hv=>exact⟨_,d',h1,.panic v v' hv,h3⟩
  exact wp_loop_rounds _ (key _ s a w hs (apI _) hd)
 ·cases hl
def AP:List apV→Option Nat
 | .cond (.tmp i) _ _::_=>some i
 |_=>none
def pF(b:Bool):List apV→apV
 | .cond _ x y::_=>if b then x else y
 |_=>.skip
def jC:List (Nat×ape)→Nat→Option ape
 | [],_=>none
 |p::l,i=>match jC l i with
  |some v=>some v
  |none=>match apw p.1 i with
   |true=>some p.2
   |false=>none
theorem My{n:Nat}{u:Nat→ape}:∀(l:List (Nat×ape)) (L:List ape) (i:Nat) (v:ape),jC l i=some v→i<L.length→(l.foldl (fun L p=>L.set p.1 p.2) L)[i]?=some v
 | [],L,i,v,h,hi=>by cases h
 |p::l,L,i,v,h,hi=>by
  rw[ari]
  unfold jC at h
  split at h
  ·rename_i v' hv
   cases h
   exact My (n:=n) (u:=u) l _ i v hv (by simpa using hi)
  ·rename_i hn
   split at h
   ·rename_i hb
    cases h
    have hb:=apz hb
    subst hb
    have key:∀(l:List (Nat×ape)) (L:List ape) (i:Nat),jC l i=none→(l.foldl (fun L p=>L.set p.1 p.2) L)[i]?=L[i]? :=by
     intro l
     induction l with
     |nil=>intro L i _;rfl
     |cons q l ih=>
      intro L i h
      rw[ari]
      unfold jC at h
      split at h
      ·cases h
      ·rename_i h'
       rw[ih _ _ h']
       split at h
       ·cases h
       ·rename_i hb
        rw[ar3]
        intro e
        rw[e,aqn]at hb
        cases hb
    rw[key l _ _ hn,arP hi]
   ·cases h
theorem vC{n:Nat}{u:Nat→ape}{l:List (Nat×ape)}{i:Nat}{v:ape}(hn:n≤1024)(hi:i<n)(h:jC l i=some v):(eH n u l).at i=v:=by
 have hlen:(gB n u l).length=n:=by unfold gB;rw[lN];simp
 have:=My (n:=n) (u:=u) l ((arO n).map u) i v h (by simpa using hi)
 unfold eH AO Fr.at
 dsimp only
 rw[dQ.2 (by omega)]
 dsimp only
 rw[Fr.xX (by omega) (by omega),if_pos (by omega),asc]
 have:(gB n u l)[i]?=some v:=this
 rw[this]
theorem an.cond{P:apu}{n k i:Nat}{l:List apV}{d:aj}{Q:bd→aj→Prop}{b:Bool}(hl:AP l=some i)(hi:apy i n=true)(hv:jC d.sl i=some (.bool b))
 (h:an P n k (aY (pF b l)++l.tail) d Q):an P n k l d Q:=by
 intro X hn hk a w hd
 unfold AP at hl
 split at hl
 ·rename_i i' x y l'
  simp only[api]at hl
  subst hl
  have h0:jh P (aY (if b then x else y)++l') _ a w:=h X hn hk a w hd
  obtain⟨ρ,u,M,hd⟩:=hd
  subst hn
  have eo:=hd.fr.small
  have AE:((eH X.n u d.sl).dH (M.map eQ)).n=X.n:=by show(gB X.n u d.sl).length=_;unfold gB;rw[lN];simp
  have my:a.eval (.tmp i')=.bool b:=hd.fr.EJ (c:=.tmp i') (vC (by omega) (dQ.1 hi) hv)
  have key:∀(l l':List apV) (Q:arB→Act→aps→Prop) (t:Act) (w:aps),jh P (l++l') Q t w→jh P l (Exit.then (jh P l' Q) Q) t w:=by
   intro l
   induction l with
   |nil=>intro l' Q t w h;exact h
   |cons c l ih=>
    intro l' Q t w h
    refine atz (show c.wp P (Exit.then (jh P (l++l') Q) Q) t w from h) fun e t w he=>?_
    cases e with
    |normal=>exact ih l' Q t w he
    |_=>exact he
  have h2:=ye (key _ _ _ _ _ h0)
  cases b with
  |true=>exact wp_cond_true my h2
  |false=>exact wp_cond_false my h2
 ·cases hl
def vD:List ape→Nat→List (Nat×ape)
 | [],_=>[]
 |v::l,i=>(i,v)::vD l (i+1)
theorem Mz:∀{l:List ape} {i:Nat} {p:Nat×ape},p∈vD l i→∃j,p.1=i+j∧l[j]?=some p.2
 | [],i,p,h=>by cases h
 |v::l,i,p,h=>by
  rcases apx.1 h with rfl|h
  ·exact⟨0,rfl,rfl⟩
  ·obtain⟨j,h1,h2⟩:=Mz h
   exact⟨j+1,by omega,by simpa using h2⟩
theorem WR.vE{P:apu}{B:Nat→Prop}{w₀ w:aps}{ρ:Ren}{g:Nat→Option ag}(h:WR P B w₀ ρ g w){D:Nat}{o:Obj}(hB:¬B D)(hD:w.heap[D]?=some o)(ho:rM o=true)(o2:Obj):WR P B w₀ ρ g (w.putObj D o2) where
 env:=h.env
 below:=h.below.trans ⟨rfl,rfl,rfl,by simp,fun k hk=>aqC (fun e=>hB (e▸hk))⟩
 size:=fun k hk=>by simpa using h.size k hk
 live:=fun x ob r hx hr hl=>by
  obtain⟨o',h1,h2,h3⟩:=h.live x ob r hx hr hl
  refine⟨o',?_,h2,h3⟩
  rw[aqC]
  ·exact h1
  ·intro e
   rw[e,hD]at h1
   cases h1
   rw[h2.row]at ho
   cases ho
 inj:=h.inj
 fresh:=h.fresh
 rows:=h.rows
 nil:=h.nil
 named:=h.named
 abs:=by
  obtain⟨F,a1,a2,a3⟩:=h.abs
  refine⟨fun x k=>F x k∧k≠D,fun x d hx=>?_,fun x k hk=>?_,fun x y k p q=>a3 x y k p.1 q.1⟩
  ·obtain⟨r,S,c,ca,f⟩:=a1 x d hx
   have yg:∀k,S k→k≠D:=fun k hk e=>by
    obtain⟨q,hq,hr⟩:=ca.row k hk
    rw[e,hD]at hq
    cases hq
    cases o<;>first|(cases hr;done)|(cases ho;done)
   exact⟨r,S,c,ca.frame fun k hk=>aqC (yg k hk),fun k hk=>⟨f k hk,yg k hk⟩⟩
  ·obtain⟨b1,b2,b3⟩:=a2 x k hk.1
   exact⟨b1,by simpa using b2,b3⟩
theorem MA{P:apu}{B:Nat→Prop}{w₀:aps}{ρ:Ren}{g:Nat→Option ag}{fn:Func}{tmps:Array ape}{R:Ending→aps→Prop}{mode:FrameMode}(hm:mode≠ .run)(hl:∀w2,WR P B w₀ ρ g w2→LeavesIn are 0 P fn tmps R [] mode w2):
 ∀(M:List Nat) (w:aps),M.Nodup→(∀D∈M,¬B D∧w.heap[D]?=some (.deferred (some [])))→WR P B w₀ ρ g w→LeavesInM are 0 P fn tmps R (M.map eQ) mode w
 | [],w,_,_,hw=>hl w hw
 |D::M,w,hn,hq,hw=>by
  obtain⟨h1,h2⟩:=hq D apC
  have zD:=List.nodup_cons.1 hn
  refine⟨hm,.inl ⟨D,_,rfl,run_takeDeferred h2,MA hm hl M _ zD.2 (fun E hE=>?_) (hw.vE h1 h2 rfl _)⟩⟩
  obtain⟨h3,h4⟩:=hq E (apB _ hE)
  refine⟨h3,?_⟩
  rw[aqC]
  ·exact h4
  ·rintro rfl
   exact zD.1 hE
theorem FQ{P:apu}(b:List aqS)(t:Fr):∀l:List ResultVar,hI P (t.dH b) l=hI P t l
 | []=>rfl
 | .tmp i::l=>by unfold hI;rw[FQ b t l];rfl
 | .cell a ty::l=>by unfold hI;rw[FQ b t l];rfl
def aE(P:apu)(f:apQ)(args:List ape)(objs:List ag)(Q:bx→List ag→Prop):Prop:=
 ∀(B:Nat→Prop) (w₀:aps) (ρ:Ren) (w:aps) (args':Array ape),Full ρ→(∀x,x<objs.length→∃r,ρ x=some r)→LR ρ args args'.toList→WR P B w₀ ρ (cm objs) w→
  Calls P f args' w fun e w'=>∃r ji ρ',Q r ji∧CR ρ' r e∧Full ρ'∧WR P B w₀ ρ' (cm ji) w'∧ji.length≤262144∧∀x,x<objs.length→ρ' x=ρ x
theorem aE.mono{P:apu}{f:apQ}{args:List ape}{objs:List ag}{Q Q':bx→List ag→Prop}(h:aE P f args objs Q)(hq:∀r o,Q r o→Q' r o):aE P f args objs Q':=
 fun B w₀ ρ w args' h1 h2 h3 h4=>(h B w₀ ρ w args' h1 h2 h3 h4).mono fun e w' ⟨r,o,ρ',a,b⟩=>⟨r,o,ρ',hq r o a,b⟩
def Fin(P:apu)(fn:Func)(Q:bx→List ag→Prop):bd→aj→Prop
 | .normal,d=>∃vs l,(∀u,(hI P (eH fn.ntmps u d.sl) fn.results.toList).run (gt (ld d.objs).mem)=some (vs,l))∧Q (.ret (mU vs)) d.objs
 | .ret,d=>∃vs l,(∀u,(hI P (eH fn.ntmps u d.sl) fn.results.toList).run (gt (ld d.objs).mem)=some (vs,l))∧Q (.ret (mU vs)) d.objs
 | .panic v,d=>Q (.panic v) d.objs
 |_,_=>False
theorem aE.Xs{P:apu}{f:apQ}{fn:Func}{c:apV}(hf:P.funcs[f]?=some fn)(hb:fn.body=some c){args:List ape}{objs:List ag}{Q:bx→List ag→Prop}
 (hn:(apG args.length fn.ntmps&&apG fn.ntmps 1024&&apG objs.length 262144)=true)(h:an P fn.ntmps objs.length (aY c) ⟨vD args 0,objs⟩ (Fin P fn Q)):aE P f args objs Q:=by
 intro B w₀ ρ w args' gK AQ ia hw
 simp only[apt]at hn
 obtain⟨⟨kn,mu⟩,Xt⟩:=hn
 have kn:=apL kn
 have mu:=apL mu
 refine(callsIn_wide (n:=0)).1 (callsIn_of_wp_marks hf hb trivial (as8.2 ?_) rfl)
 have MB:Fr.of args fn.ntmps=some ⟨Fr.rj args 0 .nil,fn.ntmps,[],[]⟩:=by
  unfold Fr.of
  rw[apU kn,apU mu]
  rfl
 have cu:=Fr.EQ ia MB
 have hlen:args.length=args'.size:=by have:=ia.len;simpa using this
 obtain⟨u,hu⟩:∃u:Nat→ape,FR ρ ((eH fn.ntmps u (vD args 0)).dH (([]:List Nat).map eQ)) {tmps:=args'++Array.replicate (fn.ntmps-args'.size) undef,defers:=[]}:=by
  refine FR.make (b:=[]) (by simp;omega) mu rfl (fun i=>(cu.at_ i).full gK) fun p hp=>?_
  obtain⟨j,h1,h2⟩:=Mz hp
  have hj:j<args.length:=(app.1 h2).1
  rw[aqR]at h1
  refine⟨by omega,?_⟩
  obtain⟨v',h3,h4⟩:=ia.get h2
  rw[h1,apW,Array.getElem?_append_left (by omega)]
  have h5:args'[j]?=some v':=by simpa using h3
  rw[h5]
  exact h4
 refine ye (yd (h ⟨B,w₀,objs.length,ρ,fn.ntmps,AQ⟩ rfl rfl _ w ⟨ρ,u,[],gK,fun _ _=>rfl,hu,hw,apL Xt,(fun D hD=>by cases hD),.nil,fun D hD=>by cases hD⟩) fun e a' w' he=>?_)
 obtain⟨x,d',h1,h2,ρ',u',M,hd⟩:=he
 have lm:∀mode,mode≠FrameMode.run→(∀w2,WR P B w₀ ρ' (cm d'.objs) w2→LeavesIn are 0 P fn a'.tmps (fun e w'=>∃r ji ρ',Q r ji∧CR ρ' r e∧Full ρ'∧WR P B w₀ ρ' (cm ji) w'∧ji.length≤262144∧∀x,x<objs.length→ρ' x=ρ x) [] mode w2)→
  LeavesInM are 0 P fn a'.tmps (fun e w'=>∃r ji ρ',Q r ji∧CR ρ' r e∧Full ρ'∧WR P B w₀ ρ' (cm ji) w'∧ji.length≤262144∧∀x,x<objs.length→ρ' x=ρ x) a'.defers mode w':=fun mode hm hl=>by
  rw[hd.fr.rK rfl]
  exact MA hm hl M w' hd.fX (fun D hD=>⟨hd.outside D hD,hd.quiet D hD⟩) hd.mem
 have fin:(∃vs l,(∀u,(hI P (eH fn.ntmps u d'.sl) fn.results.toList).run (gt (ld d'.objs).mem)=some (vs,l))∧Q (.ret (mU vs)) d'.objs)→∀w2,WR P B w₀ ρ' (cm d'.objs) w2→∃v,(results fn a'.tmps).run P w2=.ok v w2∧
  ∃r ji ρ',Q r ji∧CR ρ' r (.returned v)∧Full ρ'∧WR P B w₀ ρ' (cm ji) w2∧ji.length≤262144∧∀x,x<objs.length→ρ' x=ρ x:=by
  rintro⟨vs,l,h3,h4⟩ w2 dG
  have h5:(hI P (eH fn.ntmps u' d'.sl) fn.results.toList).run (cm d'.objs)=some (vs,l):=Rd.zG (h3 u') fun y hy=>by
   obtain⟨o,ho⟩:=Rd.zH (h3 u') y hy
   rw[cx (po ho),yc hd.bQ]
  obtain⟨v',h6,h7⟩:=EP (t:=(eH fn.ntmps u' d'.sl).dH (M.map eQ)) dG hd.fr (by rw[FQ];exact h5)
  exact⟨v',h6,.ret (mU vs),d'.objs,ρ',h4,h7,hd.full,dG,hd.bQ,hd.kept⟩
 cases h2 with
 |normal=>exact lm _ (by intro e;cases e) (fin h1)
 |ret=>exact lm _ (by intro e;cases e) (fin h1)
 |exit id=>exact h1.elim
 |panic v v' hv=>exact lm _ (by intro e;cases e) fun w2 dG=>⟨.panic v,d'.objs,ρ',h1,⟨v',rfl,hv.mono (fun x r h=>by cases h)⟩,hd.full,dG,hd.bQ,hd.kept⟩
inductive QT(α:Type) where
 |done (a:α)
 |fail
 |ask (d:Bool) (k:Bool→QT α)
def QT.run{α:Type}:QT α→Option α
 | .done a=>some a
 | .fail=>none
 | .ask d k=>(k d).run
def QT.dt{α:Type}:QT α→DT α
 | .done a=>.done a
 | .fail=>.fail
 | .ask d k=>.ask d fun b=>(k b).dt
def QT.bind{α β:Type}:QT α→(α→QT β)→QT β
 | .done a,f=>f a
 | .fail,_=>.fail
 | .ask d k,f=>.ask d fun b=>(k b).bind f
def QT.rS{α:Type}(d:Bool)(k:QT α):QT α:=.ask d fun b=>match b with
 |true=>k
 |false=>.fail
theorem QT.Xu{α:Type}{q:QT α}{a:α}(h:q.dt.Has a):q.run=some a:=by
 induction q with
 |done b=>have:=DT.cw h;subst this;rfl
 |fail=>cases h
 |ask d k ih=>exact ih d (DT.oI h)
theorem QT.run_bind{α β:Type}{q:QT α}{f:α→QT β}{b:β}(h:(q.bind f).run=some b):∃a,q.run=some a∧(f a).run=some b:=by
 induction q with
 |done a=>exact⟨a,rfl,h⟩
 |fail=>cases h
 |ask d k ih=>exact ih d h
theorem QT.tT{α:Type}{d:Bool}{k:QT α}{a:α}(h:(QT.rS d k).run=some a):d=true∧k.run=some a:=by
 cases d with
 |true=>exact⟨rfl,h⟩
 |false=>cases h
structure Sum where
 names:List ape→(Nat→Option ag)→Option (List Nat)
 spec:List ape→List ag→QT (bx×List ag)
def bp(P:apu)(f:apQ)(s:Sum):Prop:=
 ∀(args:List ape) (objs:List ag) (r:bx) (ji:List ag),(s.spec args objs).run=some (r,ji)→aE P f args objs fun r' o'=>r'=r∧o'=ji
section
variable (P:apu)
def FT:Nat→apq→Bool
 |0,t=>match P.underlying t with
  |some .bool|some (.int _)|some .string|some (.float _)=>true
  |_=>false
 |d+1,t=>match P.underlying t with
  |some .bool|some (.int _)|some .string|some (.float _)=>true
  |some (.struct fs)=>fs.toList.all fun f=>FT d f.type
  |some (.array _ e)=>FT d e
  |_=>false
def MC(t:apq):Bool:=FT P 3 t
def AR(τ:Nat→Option Nat):ag→QT ag
 | .cells c el ro=>match MC P el with
  |true=>.rS (c.all af) (.done (.cells c el ro))
  |false=>match mD (ij τ 6) c with
   |some c'=>.done (.cells c' el ro)
   |none=>.fail
 | .map es clock=>.ask ((es.map (dW τ)).all af) fun b=>match b with
  |true=>.done (.map es clock)
  |false=>match rQ τ es with
   |some cN=>.done (.map cN clock)
   |none=>.fail
 | .kX s p=>.done (.kX s p)
 | .rows n s r=>.done (.rows n s r)
 | .abs d=>.done (.abs d)
 | .dead=>.fail
def yh(τ:Nat→Option Nat):List ag→QT (List ag)
 | []=>.done []
 |o::l=>(AR P τ o).bind fun o'=>(yh τ l).bind fun r=>.done (o'::r)
def getAll(g:Nat→Option ag):List Nat→Option (List ag)
 | []=>some []
 |x::l=>match g x,getAll g l with
  |some o,some r=>some (o::r)
  |_,_=>none
def rT(τ:Nat→Option Nat):List ag→List ag→QT (List ag)
 |ob::cc,o::l=>match ob.ro with
  |true=>(rT τ cc l).bind fun r=>.done (ob::r)
  |false=>match o with
   | .dead=>(rT τ cc l).bind fun r=>.done (.dead::r)
   |o=>(AR P τ o).bind fun o'=>match o'.ro with
    |true=>.fail
    |false=>(rT τ cc l).bind fun r=>.done (o'::r)
 | [],l=>(yh P τ l).bind fun r=>match r.all (fun o=> !o.ro)with
  |true=>.done r
  |false=>.fail
 |_::_,[]=>.fail
def tU:List Nat→List ag→List ag→Tr ag×List Nat→Option (Tr ag×List Nat×List ag)
 |x::σ,ob::cc,o::l,(t,wr)=>match ob.ro with
  |true=>tU σ cc l (t,wr)
  |false=>tU σ cc l (t.set 18 x o,x::wr)
 | [],[],l,(t,wr)=>some (t,wr,l)
 |_,_,_,_=>none
def ff:Nat→Nat→List Nat
 |_,0=>[]
 |k,n+1=>k::ff (k+1) n
def qH(τ:Nat→Option Nat):bx→Option bx
 | .ret v=>match ij τ 6 v with
  |some u=>some (.ret u)
  |none=>none
 | .panic v=>match fl v with
  |true=>some (.panic v)
  |false=>none
def AS(s:Sum)(args:List ape)(S:VS):QT (bx×VS):=match s.names args (gt S.mem)with
 |none=>.fail
 |some σ=>match getAll (gt S.mem) σ,mD (ij (eX σ) 6) args,iK σ&&apG σ.length 262144 with
  |some cc,some pI,true=>(yh P (eX σ) cc).bind fun jD=>(s.spec pI jD).bind fun p=>
   (rT P (fun i=>(σ++ff S.next (p.2.length-σ.length))[i]?) cc p.2).bind fun jj=>
    match qH (fun i=>(σ++ff S.next (p.2.length-σ.length))[i]?) p.1,tU σ cc jj (S.mem,S.wr)with
    |some r,some (t,wr,news)=>match rA news ⟨t,S.next,σ++S.rd,wr⟩with
     |some S1=>.done (r,S1)
     |none=>.fail
    |_,_=>.fail
  |_,_,_=>.fail
end
section
variable {P:apu}
theorem MD{τ:Nat→Option Nat}{o o':ag}(h:(AR P τ o).run=some o'):ON τ o o'∧o'.ro=o.ro∧o≠ .dead∧o'≠ .dead:=by
 unfold AR at h
 split at h
 ·split at h
  ·obtain⟨h1,h⟩:=QT.tT h
   cases h
   exact⟨.plain _ _ _ h1,rfl,(by intro e;cases e),(by intro e;cases e)⟩
  ·split at h
   ·rename_i hc
    cases h
    exact⟨.cells _ _ _ _ hc,rfl,(by intro e;cases e),(by intro e;cases e)⟩
   ·cases h
 ·rename_i es clock
  cases hb:(es.map (dW τ)).all af with
  |true=>
   simp only[QT.run,hb]at h
   cases h
   exact⟨.map _ _ _ (FG hb),rfl,(by intro e;cases e),(by intro e;cases e)⟩
  |false=>
   simp only[QT.run,hb]at h
   split at h
   ·rename_i vj
    cases h
    exact⟨.map _ _ _ vj,rfl,(by intro e;cases e),(by intro e;cases e)⟩
   ·cases h
 ·cases h;exact⟨.kX _ _,rfl,(by intro e;cases e),(by intro e;cases e)⟩
 ·cases h;exact⟨.rows _ _ _,rfl,(by intro e;cases e),(by intro e;cases e)⟩
 ·cases h;exact⟨.abs _,rfl,(by intro e;cases e),(by intro e;cases e)⟩
 ·cases h
theorem FU{τ:Nat→Option Nat}:∀{l l':List ag},(yh P τ l).run=some l'→dL (fun o o'=>ON τ o o'∧o'.ro=o.ro∧o≠ .dead∧o'≠ .dead) l l'
 | [],l',h=>by cases h;exact .nil
 |o::l,l',h=>by
  unfold yh at h
  obtain⟨o',h1,h⟩:=QT.run_bind h
  obtain⟨r,h2,h⟩:=QT.run_bind h
  cases h
  exact .cons (MD h1) (FU h2)
theorem AU{τ:Nat→Option Nat}:∀{cc l l':List ag},(rT P τ cc l).run=some l'→l'.length=l.length∧cc.length≤l.length∧
 ∀(i:Nat) (o o':ag),l[i]?=some o→l'[i]?=some o'→(∀ob:ag,cc[i]?=some ob→ob.ro=false)→ON τ o o'∧o'.ro=false∧True
 | [],l,l',h=>by
  unfold rT at h
  obtain⟨r,h1,h⟩:=QT.run_bind h
  split at h
  ·rename_i kJ
   cases h
   have h2:=FU h1
   refine⟨h2.len.symm,by simp,fun i o o' ho AV _=>?_⟩
   obtain⟨o2,h3,h4,h5,h6,h7⟩:=h2.get AV
   rw[ho]at h3
   cases h3
   have:=apR.1 kJ o' (apX AV)
   exact⟨h4,by simpa using this,trivial⟩
  ·cases h
 |ob::cc,[],l',h=>by cases h
 |ob::cc,o::l,l',h=>by
  unfold rT at h
  split at h
  ·rename_i dh
   obtain⟨r,h1,h⟩:=QT.run_bind h
   cases h
   obtain⟨h2,h3,h4⟩:=AU h1
   refine⟨by simp[h2],by simpa using h3,fun i a a' ha fZ e7=>?_⟩
   cases i with
   |zero=>have:=e7 ob rfl;rw[dh]at this;cases this
   |succ i=>exact h4 i a a' (by simpa using ha) (by simpa using fZ) fun q hq=>e7 q (by simpa using hq)
  ·split at h
   ·obtain⟨r,h1,h⟩:=QT.run_bind h
    cases h
    obtain⟨h2,h3,h4⟩:=AU h1
    refine⟨by simp[h2],by simpa using h3,fun i a a' ha fZ e7=>?_⟩
    cases i with
    |zero=>
     simp only[ap3,api]at ha fZ
     subst ha fZ
     exact⟨.dead _,rfl,trivial⟩
    |succ i=>exact h4 i a a' (by simpa using ha) (by simpa using fZ) fun q hq=>e7 q (by simpa using hq)
   ·obtain⟨o',h0,h⟩:=QT.run_bind h
    split at h
    ·cases h
    ·rename_i AW
     obtain⟨r,h1,h⟩:=QT.run_bind h
     cases h
     obtain⟨h2,h3,h4⟩:=AU h1
     refine⟨by simp[h2],by simpa using h3,fun i a a' ha fZ e7=>?_⟩
     cases i with
     |zero=>
      simp only[ap3,api]at ha fZ
      subst ha fZ
      exact⟨(MD h0).1,by simpa using AW,trivial⟩
     |succ i=>exact h4 i a a' (by simpa using ha) (by simpa using fZ) fun q hq=>e7 q (by simpa using hq)
theorem AX{g:Nat→Option ag}:∀{σ:List Nat} {cc:List ag},getAll g σ=some cc→σ.length=cc.length∧∀(i x:Nat),σ[i]?=some x→∃o,cc[i]?=some o∧g x=some o
 | [],cc,h=>by cases h;exact⟨rfl,fun i x h=>by simp at h⟩
 |y::σ,cc,h=>by
  unfold getAll at h
  split at h
  ·rename_i o r h1 h2
   cases h
   obtain⟨h3,h4⟩:=AX h2
   refine⟨by simp[h3],fun i x hx=>?_⟩
   cases i with
   |zero=>simp only[ap3,api]at hx;subst hx;exact⟨o,rfl,h1⟩
   |succ i=>simpa using h4 i x (by simpa using hx)
  ·cases h
def mH(m:Nat→Option ag):List Nat→List ag→List ag→Nat→Option ag
 |x::σ,ob::cc,o::l=>mH (bif ob.ro then m else cJ m x o) σ cc l
 |_,_,_=>m
theorem qI{x:Nat}:∀{σ:List Nat} {cc l:List ag} {m:Nat→Option ag},(∀(i:Nat) (ob:ag),σ[i]?=some x→cc[i]?=some ob→ob.ro=true)→mH m σ cc l x=m x
 | [],cc,l,m,h=>by cases cc<;>rfl
 |y::σ,[],l,m,h=>rfl
 |y::σ,ob::cc,[],m,h=>rfl
 |y::σ,ob::cc,o::l,m,h=>by
  show mH (bif ob.ro then m else cJ m y o) σ cc l x=m x
  have h':∀(i:Nat) (pJ:ag),σ[i]?=some x→cc[i]?=some pJ→pJ.ro=true:=fun i pJ h1 h2=>h (i+1) pJ (by simpa using h1) (by simpa using h2)
  rw[qI h']
  cases dh:ob.ro with
  |true=>rfl
  |false=>
   show cJ m y o x=m x
   rw[dV]
   rintro rfl
   have:=h 0 ob rfl rfl
   rw[dh]at this
   cases this
theorem vF{x:Nat}:∀{σ:List Nat} {cc l:List ag} {m:Nat→Option ag} {i:Nat} {ob o:ag},iK σ=true→σ[i]?=some x→cc[i]?=some ob→l[i]?=some o→ob.ro=false→mH m σ cc l x=some o
 | [],cc,l,m,i,ob,o,hn,h1,h2,h3,h4=>by simp at h1
 |y::σ,[],l,m,i,ob,o,hn,h1,h2,h3,h4=>by simp at h2
 |y::σ,b::cc,[],m,i,ob,o,hn,h1,h2,h3,h4=>by simp at h3
 |y::σ,b::cc,a::l,m,i,ob,o,hn,h1,h2,h3,h4=>by
  have pK:=hn
  simp only[iK,apt]at hn
  show mH (bif b.ro then m else cJ m y a) σ cc l x=some o
  cases i with
  |zero=>
   simp only[ap3,api]at h1 h2 h3
   subst h1 h2 h3
   rw[h4]
   show mH (cJ m y a) σ cc l y=some a
   rw[qI,e9]
   intro j pJ hj _
   have:=tQ pK (x:=0) (y:=j+1) (z:=y) rfl (by simpa using hj)
   omega
  |succ i=>exact vF hn.2 (by simpa using h1) (by simpa using h2) (by simpa using h3) h4
theorem AY:∀{σ:List Nat} {cc l:List ag} {t t':Tr ag} {wr qJ:List Nat} {news:List ag},tU σ cc l (t,wr)=some (t',qJ,news)→(∀x∈σ,small x=true)→
 gt t'=mH (gt t) σ cc l∧σ.length=cc.length∧(∃rU,l=rU++news∧rU.length=σ.length)∧(∀x,x∈wr→x∈qJ)∧
 (∀x,x∈qJ→x∈wr∨x∈σ)∧∀(i x:Nat) (ob:ag),σ[i]?=some x→cc[i]?=some ob→ob.ro=false→x∈qJ
 | [],[],l,t,t',wr,qJ,news,h,hs=>by
  simp only[tU,api,apn]at h
  obtain⟨rfl,rfl,rfl⟩:=h
  exact⟨rfl,rfl,⟨[],rfl,rfl⟩,fun _ h=>h,fun _ h=>.inl h,fun i x ob h=>by simp at h⟩
 |x::σ,ob::cc,o::l,t,t',wr,qJ,news,h,hs=>by
  unfold tU at h
  split at h
  ·rename_i dh
   obtain⟨h1,h2,⟨rU,h3,h4⟩,h5,h6,h7⟩:=AY h fun y hy=>hs y (apB _ hy)
   refine⟨?_,by simp[h2],⟨o::rU,by simp[h3],by simp[h4]⟩,h5,fun y hy=>(h6 y hy).imp id (apB _),fun i y pJ a b c=>?_⟩
   ·rw[h1];show _=mH (bif ob.ro then gt t else cJ (gt t) x o) σ cc l;rw[dh];rfl
   ·cases i with
    |zero=>simp only[ap3,api]at b;subst b;rw[dh]at c;cases c
    |succ i=>exact h7 i y pJ (by simpa using a) (by simpa using b) c
  ·rename_i dh
   obtain⟨h1,h2,⟨rU,h3,h4⟩,h5,h6,h7⟩:=AY h fun y hy=>hs y (apB _ hy)
   refine⟨?_,by simp[h2],⟨o::rU,by simp[h3],by simp[h4]⟩,fun y hy=>h5 y (apB _ hy),fun y hy=>?_,fun i y pJ a b c=>?_⟩
   ·rw[h1,xo (hs x apC)]
    show _=mH (bif ob.ro then gt t else cJ (gt t) x o) σ cc l
    rw[dh]
    rfl
   ·rcases h6 y hy with hy|hy
    ·rcases apx.1 hy with rfl|hy
     ·exact .inr apC
     ·exact .inl hy
    ·exact .inr (apB _ hy)
   ·cases i with
    |zero=>simp only[ap3,api]at a;subst a;exact h5 _ apC
    |succ i=>exact h7 i y pJ (by simpa using a) (by simpa using b) c
 | [],_::_,l,t,t',wr,qJ,news,h,hs=>by cases h
 |_::_,[],l,t,t',wr,qJ,news,h,hs=>by cases h
 |_::_,_::_,[],t,t',wr,qJ,news,h,hs=>by cases h
theorem FV:∀{n k i:Nat},(ff k n)[i]?=if i<n then some (k+i)else none
 |0,k,i=>by simp[ff]
 |n+1,k,i=>by
  cases i with
  |zero=>simp[ff]
  |succ i=>
   simp only[ff,aqt]
   rw[FV]
   by_cases h:i<n
   ·rw[if_pos h,if_pos (by omega)];congr 1;omega
   ·rw[if_neg h,if_neg (by omega)]
theorem SR.mono{w₀ w:aps}{B B':Nat→Prop}(hB:∀b,B b→B' b∧w.heap[b]?=w₀.heap[b]?){s:SV}{v:ape}(h:SR P w₀ B s v):SR P w B' s v:=by
 induction h with
 |val v h=>exact .val v h
 |nil el a=>exact .nil el a
 |cells n c el b off cap c' bU fr h1 h2 h3 h4 h5 h6=>exact .cells n c el b off cap c' bU fr (hB b h1).1 ((hB b h1).2.trans h2) h3 h4 h5 h6
 |nE size row a=>exact .nE size row a
 |rows n size row b off cap c' bU fr h1 h2 h3 h4 h5 h6 u h7 h8 ih=>exact .rows n size row b off cap c' bU fr (hB b h1).1 ((hB b h1).2.trans h2) h3 h4 h5 h6 u h7 ih
theorem mY.mono{w₀ w:aps}{B B':Nat→Prop}(hB:∀b,B b→B' b∧w.heap[b]?=w₀.heap[b]?){r:bN}{n size:Nat}{row:Nat→List SV}(h:mY P w₀ B r n size row):mY P w B' r n size row:=by
 obtain⟨c',bU,fr,h1,h2,h3,h4⟩:=h.at_
 exact⟨(hB _ h.aI).1,h.sz,c',bU,fr,(hB _ h.aI).2.trans h1,h2,h3,fun i hi=>⟨(h4 i hi).1,fun k sv hk=>let⟨v',a,b⟩:=(h4 i hi).2 k sv hk;⟨v',a,b.mono hB⟩⟩⟩
end
end Go.Proofs.YtnlkkgpcikkpoaaGreat.Vm
namespace Go.Proofs.YtnlkkgpcikkpoaaGreat.Vm
open Go.RowKit
section
variable {P:apu}
structure rV(P:apu)(s:Sum)(args:List ape)(S S':VS)(r:bx) where
 σ:List Nat
 cc:List ag
 pI:List ape
 jD:List ag
 r1:bx
 jj:List ag
 back:List ag
 t:Tr ag
 wr:List Nat
 news:List ag
 e7:getAll (gt S.mem) σ=some cc
 FW:mD (ij (eX σ) 6) args=some pI
 cX:iK σ=true
 iL:σ.length≤262144
 rW:dL (fun o o'=>ON (eX σ) o o'∧o'.ro=o.ro∧o≠ .dead∧o'≠ .dead) cc jD
 tV:(s.spec pI jD).run=some (r1,jj)
 FX:(rT P (fun i=>(σ++ff S.next (jj.length-σ.length))[i]?) cc jj).run=some back
 hr:qH (fun i=>(σ++ff S.next (jj.length-σ.length))[i]?) r1=some r
 AZ:tU σ cc back (S.mem,S.wr)=some (t,wr,news)
 u6:rA news ⟨t,S.next,σ++S.rd,wr⟩=some S'
theorem ME{s:Sum}{args:List ape}{S S':VS}{r:bx}(h:(AS P s args S).run=some (r,S')):Nonempty (rV P s args S S' r):=by
 unfold AS at h
 split at h
 ·cases h
 ·rename_i σ hσ
  split at h
  ·rename_i cc pI h1 h2 h3
   simp only[apt]at h3
   obtain⟨jD,h4,h⟩:=QT.run_bind h
   obtain⟨⟨r1,jj⟩,h5,h⟩:=QT.run_bind h
   obtain⟨back,h6,h⟩:=QT.run_bind h
   dsimp only at h h6
   split at h
   ·rename_i r' t wr news h7 h8
    split at h
    ·rename_i S1 h9
     simp only[QT.run,api,apn]at h
     obtain⟨rfl,rfl⟩:=h
     exact⟨⟨σ,cc,pI,jD,r1,jj,back,t,wr,news,h1,h2,h3.1,apL h3.2,FU h4,h5,h6,h7,h8,h9⟩⟩
    ·cases h
   ·cases h
  ·cases h
theorem rV.FY{s:Sum}{args:List ape}{S S':VS}{r:bx}(A:rV P s args S S' r):∀x∈A.σ,small x=true:=fun x hx=>by
 obtain⟨i,hi⟩:=aqG hx
 obtain⟨o,_,h⟩:=(AX A.e7).2 i x hi
 exact po h
theorem rV.ext{s:Sum}{args:List ape}{S S':VS}{r:bx}(A:rV P s args S S' r):dK S S':=by
 obtain⟨h1,h2,_,h4,h5,h6⟩:=AY A.AZ A.FY
 obtain⟨e,gd,_,_⟩:=xL A.u6
 refine dK.trans (b:=⟨A.t,S.next,A.σ++S.rd,A.wr⟩) ⟨fun x hx=>List.mem_append_right _ hx,h4,fun x hx=>?_,fun hS x hx=>?_⟩ e
 ·show gt A.t x=gt S.mem x
  rw[h1,qI]
  intro i ob hi e7
  cases dh:ob.ro with
  |true=>rfl
  |false=>exact absurd (h6 i x ob hi e7 dh) hx
 ·rcases hx with hx|hx
  ·rcases List.mem_append.1 hx with hx|hx
   ·exact A.FY x hx
   ·exact hS x (.inl hx)
  ·rcases h5 x hx with hx|hx
   ·exact hS x (.inr hx)
   ·exact A.FY x hx
theorem rV.call{f:apQ}{s:Sum}(hs:bp P f s){args:List ape}{S S':VS}{r:bx}(A:rV P s args S S' r){B:Nat→Prop}{w₀:aps}{ρ:Ren}{m:Nat→Option ag}{w:aps}{args':Array ape}
 (ha:LR ρ args args'.toList)(hw:WR P B w₀ ρ m w)(hm:fG S S' m):Calls P f args' w fun e w'=>∃ρ',ρ.le ρ'∧CR ρ' r e∧WR P B w₀ ρ' (post m S') w':=by
 obtain⟨σ,cc,pI,jD,r1,jj,back,t,wr,news,e7,FW,cX,iL,rW,tV,FX,hr,AZ,u6⟩:=A
 have hA:rV P s args S S' r:=⟨σ,cc,pI,jD,r1,jj,back,t,wr,news,e7,FW,cX,iL,rW,tV,FX,hr,AZ,u6⟩
 obtain⟨pM,vG⟩:=AX e7
 have Xv:∀x∈σ,small x=true:=fun x hx=>by
  obtain⟨i,hi⟩:=aqG hx
  obtain⟨o,_,h⟩:=vG i x hi
  exact po h
 obtain⟨l1,l2,⟨rU,l3,anI⟩,l4,l5,l6⟩:=AY AZ Xv
 obtain⟨e1,gd,Ae,tE⟩:=xL u6
 obtain⟨b1,b2,b3⟩:=AU FX
 -- the caller's memory at the old names
 have vH:∀(i x:Nat),σ[i]?=some x→∃o,cc[i]?=some o∧m x=some o:=fun i x hi=>by
  obtain⟨o,h1,h2⟩:=vG i x hi
  refine⟨o,h1,?_⟩
  rw[hm x (.inl (by rw[gd];exact List.mem_append_left _ (apX hi)))]
  exact h2
 obtain⟨F,fa,fb,fc⟩:=hw.abs
 have Xw:jD.length=σ.length:=by rw[←rW.len,pM]
 have bk:∀(i:Nat) (o:ag),cc[i]?=some o→o≠ .dead:=fun i o hi=>by
  obtain⟨o',AV⟩:∃o',jD[i]?=some o':=by
   have:i<jD.length:=by rw[←rW.len];exact(app.1 hi).1
   exact⟨_,apl this⟩
  obtain⟨o2,h1,_,_,h2,_⟩:=rW.get AV
  rw[hi]at h1
  cases h1
  exact h2
 have MF:∀(i x:Nat),σ[i]?=some x→∃q,ρ x=some q:=fun i x hi=>by
  obtain⟨o,h1,h2⟩:=vH i x hi
  exact hw.named x o h2 (bk i o h1)
 -- the callee's names
 let ρ1:Ren:=fun x=>match small x with
  |true=>(σ[x]?).bind ρ
  |false=>some (vy (x-262144))
 have mI:∀x,small x=true→ρ1 x=(σ[x]?).bind ρ:=fun x h=>by show(match small x with|true=>_|false=>_)=_;rw[h]
 have ni:∀x,small x=false→ρ1 x=some (vy (x-262144)):=fun x h=>by show(match small x with|true=>_|false=>_)=_;rw[h]
 have vI:∀(i x:Nat),σ[i]?=some x→small i=true:=fun i x h=>gX.2 (by
  have:i<σ.length:=(app.1 h).1
  have:(2:Nat)^18=262144:=rfl
  omega)
 have MG:∀y i q,eX σ y=some i→ρ y=some q→ρ1 i=some q:=fun y i q h1 h2=>by
  have h3:=AN h1
  rw[mI i (vI i y h3),h3]
  exact h2
 have gK:Full ρ1:=fun q=>by
  obtain⟨n,h⟩:=Mo q
  exact⟨n+262144,AM n,by rw[ni _ (AM n)];simp[h]⟩
 let B1:Nat→Prop:=fun b=>b<w.heap.size∧(∀(i x:Nat) (o:ag) (q:bN),σ[i]?=some x→cc[i]?=some o→ρ x=some q→o.ro=false→Live o q=true→q.aI≠b)∧∀(i x:Nat) (d:lD),σ[i]?=some x→cc[i]?=some (.abs d)→¬F x b
 have pN:∀b,B b→B1 b:=fun b hb=>⟨hw.size b hb,fun i x o q h1 h2 h3 h4 h5 e=>by
  obtain⟨o',h6,h7⟩:=vH i x h1
  rw[h2]at h6
  cases h6
  obtain⟨_,_,_,h8⟩:=hw.live x o q h7 h3 h5
  exact h8 h4 (e▸hb),fun i x d _ _ hF=>(fb x b hF).2.2.1 hb⟩
 have FZ:∀b,B b→B1 b∧w.heap[b]?=w₀.heap[b]? :=fun b hb=>⟨pN b hb,hw.below.block b hb⟩
 have nO:∀(i:Nat) (o':ag),jD[i]?=some o'→∃x o,σ[i]?=some x∧cc[i]?=some o∧m x=some o∧ON (eX σ) o o'∧o'.ro=o.ro:=fun i o' hi=>by
  obtain⟨o,h1,h2,h3,_,_⟩:=rW.get hi
  have hlt:i<σ.length:=by rw[←Xw];exact(app.1 hi).1
  obtain⟨o2,h4,h5⟩:=vH i _ (apl hlt)
  rw[h1]at h4
  cases h4
  exact⟨_,o,apl hlt,h1,h5,h2,h3⟩
 have rX:∀x o',cm jD x=some o'→o'≠ .dead→small x=true∧jD[x]?=some o':=fun x o' hx bk=>by
  cases jE:small x with
  |true=>rw[cx jE]at hx;exact⟨rfl,hx⟩
  |false=>rw[il jE]at hx;cases hx;exact absurd rfl bk
 have gQ:WR P B1 w ρ1 (cm jD) w:=
  {below:=gu.refl _ _
   env:=hw.env.next hw.below pN
   size:=fun k hk=>hk.1
   live:=by
    intro x o' q hx hq hl
    obtain⟨jE,gA⟩:=rX x o' hx (by rintro rfl;cases hl)
    obtain⟨y,o,h1,h2,h3,h4,h5⟩:=nO x o' gA
    rw[mI x jE,h1]at hq
    have hq:ρ y=some q:=hq
    obtain⟨qu,_⟩:=h4.live hl
    obtain⟨oo,h6,h7,h8⟩:=hw.live y o q h3 hq qu
    exact⟨oo,h6,h4.or MG hl oo h7,fun dh hb=>hb.2.1 x y o q h1 h2 hq (h5▸dh) qu rfl⟩
   inj:=by
    intro x y ox oy rx ry hx hy kN ct kO di hd he
    obtain⟨jE,gA⟩:=rX x ox hx (by rintro rfl;cases kO)
    obtain⟨Xx,kF⟩:=rX y oy hy (by rintro rfl;cases di)
    obtain⟨a,oa,a1,a2,a3,a4,a5⟩:=nO x ox gA
    obtain⟨b,ob,c1,c2,c3,c4,c5⟩:=nO y oy kF
    rw[mI x jE,a1]at kN
    rw[mI y Xx,c1]at ct
    have:=hw.inj a b oa ob rx ry a3 c3 kN ct (a4.live kO).1 (c4.live di).1 (hd.imp (fun h=>a5▸h) (fun h=>c5▸h)) he
    subst this
    exact tQ cX a1 c1
   fresh:=by
    intro x hx
    cases jE:small x with
    |true=>
     rw[cx jE]at hx
     rw[mI x jE]
     have:σ[x]?=none:=by
      rw[aq3]at hx⊢
      omega
     rw[this];rfl
    |false=>rw[il jE]at hx;cases hx
   rows:=by
    intro x n size row hx
    obtain⟨jE,gA⟩:=rX x _ hx (by intro e;cases e)
    obtain⟨y,o,h1,h2,h3,h4,h5⟩:=nO x _ gA
    cases h4
    obtain⟨q,h6,h7⟩:=hw.rows y n size row h3
    exact⟨q,by rw[mI x jE,h1];exact h6,fun hn=>(h7 hn).mono FZ⟩
   nil:=by
    intro x el ro q hx hq
    obtain⟨jE,gA⟩:=rX x _ hx (by intro e;cases e)
    obtain⟨y,o,h1,h2,h3,h4,h5⟩:=nO x _ gA
    rw[mI x jE,h1]at hq
    have hq:ρ y=some q:=hq
    cases h4 with
    |plain=>exact hw.nil y el ro q h3 hq
    |cells c _ _ _ h=>
     cases c with
     |nil=>exact hw.nil y el ro q h3 hq
     |cons v c=>have:=tN h;simp at this
   named:=by
    intro x o' hx A0
    obtain⟨jE,gA⟩:=rX x o' hx A0
    obtain⟨y,o,h1,h2,h3,h4,h5⟩:=nO x o' gA
    obtain⟨q,hq⟩:=MF x y h1
    exact⟨q,by rw[mI x jE,h1];exact hq⟩
   abs:=by
    refine⟨fun i k=>∃x d,σ[i]?=some x∧cc[i]?=some (.abs d)∧F x k,fun i d hi=>?_,?_,?_⟩
    ·obtain⟨jE,gA⟩:=rX i _ hi (by intro e;cases e)
     obtain⟨y,o,h1,h2,h3,h4,h5⟩:=nO i _ gA
     cases h4
     obtain⟨r,S,c,e,f⟩:=fa y d h3
     exact⟨r,S,by rw[mI i jE,h1];exact c,e,fun k hk=>⟨y,d,h1,h2,f k hk⟩⟩
    ·rintro i k ⟨x,d,g1,g2,g3⟩
     obtain⟨_,b2,b3,b4⟩:=fb x k g3
     have hlt:i<jD.length:=by rw[←rW.len];exact(app.1 g2).1
     obtain⟨o2,q1,q2,q3,_,q5⟩:=rW.get (apl hlt)
     rw[g2]at q1
     cases q1
     have hi:cm jD i=some (.abs d):=by
      rw[cx (vI i x g1),apl hlt]
      generalize jD[i]=oo at q2 q5
      cases q2 with
      |abs=>rfl
      |dead=>exact absurd rfl q5
     refine⟨⟨d,hi⟩,b2,fun hk=>hk.2.2 i x d g1 g2 g3,fun z o' q hz hq hl=>?_⟩
     obtain⟨jE,gA⟩:=rX z o' hz (by rintro rfl;cases hl)
     obtain⟨y,o,h1,h2,h3,h4,h5⟩:=nO z o' gA
     rw[mI z jE,h1]at hq
     exact b4 y o q h3 hq (h4.live hl).1
    ·rintro i j k ⟨x,_,g1,_,g3⟩ ⟨x',_,Xy,_,Xz⟩
     have:=fc x x' k g3 Xz
     subst this
     exact tQ cX g1 Xy}
 have XA:∀x,x<jD.length→∃q,ρ1 x=some q:=fun x hx=>by
  have hlt:x<σ.length:=by omega
  obtain⟨q,hq⟩:=MF x _ (apl hlt)
  exact⟨q,by rw[mI x (vI x _ (apl hlt)),apl hlt];exact hq⟩
 have XB:LR ρ1 pI args'.toList:=tM (qE MG 6) FW ha
 refine(hs pI jD r1 jj tV B1 w ρ1 w args' gK XA XB gQ).mono fun e w' he=>?_
 obtain⟨r2,XC,ρ2,⟨eO,x6⟩,jk,pD,dG,XD,mG⟩:=he
 rw[eO]at jk
 rw[x6]at dG XD
 clear eO x6 r2 XC
 -- the caller's names behind the call
 let N:Nat:=jj.length-σ.length
 have XE:back.length=jj.length:=b1
 have anJ:news.length=N:=by
  have:=congrArg List.length l3
  rw[List.length_append]at this
  show news.length=jj.length-σ.length
  omega
 have hle:σ.length≤jj.length:=by omega
 let ρ':Ren:=fun y=>if S.next≤y∧y<S.next+N then ρ2 (σ.length+(y-S.next))else ρ y
 have pB:∀j,j<N→m (S.next+j)=none:=fun j hj=>by
  obtain⟨h1,h2⟩:=Ae j (by omega)
  have h1:gt t (S.next+j)=none:=h1
  have h2:S.next+j∈S'.wr:=h2
  rw[hm _ (.inr h2)]
  rw[l1,qI]at h1
  ·exact h1
  ·intro i ob hi e7
   cases dh:ob.ro with
   |true=>rfl
   |false=>
    exfalso
    have fj:i<back.length:=by have:=(app.1 hi).1;omega
    rw[vF cX hi e7 (apl fj) dh]at h1
    cases h1
 have F0:∀(i x:Nat),σ[i]?=some x→¬(S.next≤x∧x<S.next+N):=fun i x hi hx=>by
  obtain⟨o,_,h2⟩:=vH i x hi
  have:=pB (x-S.next) (by omega)
  rw[show S.next+(x-S.next)=x by omega,h2]at this
  cases this
 have MH:∀j,j<N→ρ' (S.next+j)=ρ2 (σ.length+j):=fun j hj=>by
  show(if _ then _ else _)=_
  rw[if_pos ⟨by omega,by omega⟩,show S.next+j-S.next=j by omega]
 have A1:∀y,¬(S.next≤y∧y<S.next+N)→ρ' y=ρ y:=fun y hy=>by
  show(if _ then _ else _)=_
  rw[if_neg hy]
 have MI:∀(i x:Nat),σ[i]?=some x→ρ' x=ρ2 i:=fun i x hi=>by
  have hlt:i<σ.length:=(app.1 hi).1
  rw[A1 x (F0 i x hi),mG i (by omega),mI i (vI i x hi),hi]
  rfl
 have E7:ρ.le ρ':=fun y q hy=>by
  by_cases fk:S.next≤y∧y<S.next+N
  ·have:=hw.fresh _ (pB (y-S.next) (by omega))
   rw[show S.next+(y-S.next)=y by omega,hy]at this
   cases this
  ·rw[A1 y fk,hy]
 let τ:Nat→Option Nat:=fun i=>(σ++ff S.next (jj.length-σ.length))[i]?
 have hτ:∀i y,τ i=some y→(σ[i]?=some y)∨(σ.length≤i∧i-σ.length<N∧y=S.next+(i-σ.length)):=fun i y h=>by
  have h:(σ++ff S.next N)[i]?=some y:=h
  by_cases hi:i<σ.length
  ·rw[ap5 hi]at h;exact .inl h
  ·rw[apZ (by omega),FV]at h
   split at h
   ·rename_i h3;cases h;exact .inr ⟨by omega,h3,rfl⟩
   ·cases h
 have MJ:∀i y q,τ i=some y→ρ2 i=some q→ρ' y=some q:=fun i y q h1 h2=>by
  rcases hτ i y h1 with h3|⟨h3,h4,rfl⟩
  ·rw[MI i y h3,h2]
  ·rw[MH _ h4,show σ.length+(i-σ.length)=i by omega,h2]
 have XF:CR ρ' r e:=by
  unfold qH at hr
  split at hr
  ·rename_i v
   split at hr
   ·rename_i u hu
    cases hr
    cases e with
    |returned v'=>exact qE MJ 6 v u v' hu jk
    |panicked chain=>cases jk
    |outgrown=>cases jk
   ·cases hr
  ·rename_i v
   split at hr
   ·rename_i fP
    cases hr
    cases e with
    |returned v'=>cases jk
    |panicked chain=>
     obtain⟨v',h1,h2⟩:=jk
     have:=mX fP h2
     subst this
     exact⟨v',h1,nD fP⟩
    |outgrown=>cases jk
   ·cases hr
 -- the memory behind the call
 let m0:Nat→Option ag:=mH m σ cc back
 have vJ:fG ⟨t,S.next,σ++S.rd,wr⟩ S' m0:=fun x hx=>by
  show mH m σ cc back x=gt t x
  rw[l1]
  by_cases hex:∃(i:Nat) (ob:ag),σ[i]?=some x∧cc[i]?=some ob∧ob.ro=false
  ·obtain⟨i,ob,h1,h2,h3⟩:=hex
   have fj:i<back.length:=by have:=(app.1 h1).1;omega
   rw[vF cX h1 h2 (apl fj) h3,vF cX h1 h2 (apl fj) h3]
  ·have kJ:∀(i:Nat) (ob:ag),σ[i]?=some x→cc[i]?=some ob→ob.ro=true:=fun i ob h1 h2=>by
    cases h3:ob.ro with
    |true=>rfl
    |false=>exact absurd ⟨i,ob,h1,h2,h3⟩ hex
   rw[qI kJ,qI kJ]
   exact hm x hx
 have F1:post m S'=iV m0 S.next news:=by
  have h1:=tE m0 vJ
  have h1:post m0 S'=iV m0 S.next news:=h1
  rw[←h1]
  funext x
  unfold post
  by_cases hx:x∈S'.wr
  ·rw[if_pos hx,if_pos hx]
  ·rw[if_neg hx,if_neg hx]
   show m x=mH m σ cc back x
   rw[qI]
   intro i ob h1 h2
   cases h3:ob.ro with
   |true=>rfl
   |false=>exact absurd (e1.wr x (l6 i x ob h1 h2 h3)) hx
 have MK:∀(l:List ag) (k j:Nat) (g:Nat→Option ag),j<l.length→iV g k l (k+j)=l[j]? :=by
  intro l
  induction l with
  |nil=>intro k j g h;simp at h
  |cons o l ih=>
   intro k j g h
   cases j with
   |zero=>
    show iV (cJ g k o) (k+1) l (k+0)=_
    rw[zX (.inl (by omega)),arx,e9]
    rfl
   |succ j=>
    show iV (cJ g k o) (k+1) l (k+(j+1))=_
    rw[show k+(j+1)=k+1+j by omega,ih (k+1) j _ (by simpa using h)]
    rfl
 -- each name of the caller's: another's, or one of the callee's
 have lH:∀y o,post m S' y=some o→(m y=some o∧ρ' y=ρ y∧∀(i:Nat) (ob:ag),σ[i]?=some y→cc[i]?=some ob→ob.ro=true)∨
  ∃i o2,τ i=some y∧small i=true∧cm jj i=some o2∧ON τ o2 o∧o.ro=false∧True∧ρ' y=ρ2 i:=fun y o hy=>by
  rw[F1]at hy
  by_cases fk:S.next≤y∧y<S.next+N
  ·right
   have hj:y-S.next<news.length:=by omega
   rw[show y=S.next+(y-S.next)by omega,MK news _ _ _ hj]at hy
   have A2:back[σ.length+(y-S.next)]?=some o:=by
    rw[l3,apZ (by omega),show σ.length+(y-S.next)-rU.length=y-S.next by omega]
    exact hy
   have hi:σ.length+(y-S.next)<jj.length:=by rw[←XE];exact(app.1 A2).1
   obtain⟨c1,c2,c3⟩:=b3 _ _ o (apl hi) A2 (fun ob e7=>by
    have:=(app.1 e7).1
    omega)
   have yi:small (σ.length+(y-S.next))=true:=gX.2 (by have:(2:Nat)^18=262144:=rfl;omega)
   refine⟨σ.length+(y-S.next),_,?_,yi,by rw[cx yi,apl hi],c1,c2,c3,?_⟩
   ·show(σ++ff S.next N)[σ.length+(y-S.next)]?=some y
    rw[apZ (by omega),FV,if_pos (by omega)]
    congr 1
    omega
   ·have:=MH (y-S.next) (by omega)
    rwa[show S.next+(y-S.next)=y by omega]at this
  ·rw[zX (by omega)]at hy
   have hy:mH m σ cc back y=some o:=hy
   by_cases hex:∃(i:Nat) (ob:ag),σ[i]?=some y∧cc[i]?=some ob∧ob.ro=false
   ·right
    obtain⟨i,ob,h1,h2,h3⟩:=hex
    have fj:i<back.length:=by have:=(app.1 h1).1;omega
    rw[vF cX h1 h2 (apl fj) h3]at hy
    have A2:back[i]?=some o:=by rw[apl fj,←hy]
    have vK:i<jj.length:=by omega
    obtain⟨c1,c2,c3⟩:=b3 _ _ o (apl vK) A2 (fun pJ e7=>by rw[h2]at e7;cases e7;exact h3)
    refine⟨i,_,?_,vI i y h1,by rw[cx (vI i y h1),apl vK],c1,c2,c3,MI i y h1⟩
    show(σ++ff S.next N)[i]?=some y
    rw[ap5 (app.1 h1).1,h1]
   ·left
    have kJ:∀(i:Nat) (ob:ag),σ[i]?=some y→cc[i]?=some ob→ob.ro=true:=fun i ob h1 h2=>by
     cases h3:ob.ro with
     |true=>rfl
     |false=>exact absurd ⟨i,ob,h1,h2,h3⟩ hex
    rw[qI kJ]at hy
    exact⟨hy,A1 y fk,kJ⟩
 have anK:∀i j y,τ i=some y→τ j=some y→i=j:=fun i j y h1 h2=>by
  rcases hτ i y h1 with h3|⟨h3,h4,h5⟩<;>rcases hτ j y h2 with h6|⟨h6,h7,h8⟩
  ·exact tQ cX h3 h6
  ·exact absurd ⟨by omega,by omega⟩ (F0 i y h3)
  ·exact absurd ⟨by omega,by omega⟩ (F0 j y h6)
  ·omega
 have hold:∀y o q,m y=some o→ρ y=some q→Live o q=true→(∀(i:Nat) (ob:ag),σ[i]?=some y→cc[i]?=some ob→ob.ro=true)→B1 q.aI:=fun y o q h1 h2 h3 h4=>by
  obtain⟨oo,h5,_⟩:=hw.live y o q h1 h2 h3
  refine⟨(Array.getElem?_eq_some_iff.1 h5).1,fun i x o' q' g1 g2 g3 g4 g5 e=>?_,fun i x d _ _ hF=>(fb x q.aI hF).2.2.2 y o q h1 h2 h3 rfl⟩
  obtain⟨o2,g6,g7⟩:=vH i x g1
  rw[g2]at g6
  cases g6
  have:=hw.inj x y o' o q' q g7 h1 g3 h2 g5 h3 (.inl g4) e
  subst this
  have:=h4 i o' g1 g2
  rw[g4]at this
  cases this
 refine⟨ρ',E7,XF,
  {env:=hw.env
   below:=hw.below.trans ⟨dG.below.os,dG.below.tape,dG.below.output,dG.below.size,fun k hk=>dG.below.block k (pN k hk)⟩
   size:=fun k hk=>arC (hw.size k hk) dG.below.size
   live:=?_,inj:=?_,fresh:=?_,rows:=?_,nil:=?_,named:=?_,abs:=?_}⟩
 ·intro y o q hy hq hl
  rcases lH y o hy with⟨h1,h2,h3⟩|⟨i,o2,h1,h2,h3,h4,h5,_,h6⟩
  ·rw[h2]at hq
   obtain⟨oo,g1,g2,g3⟩:=hw.live y o q h1 hq hl
   exact⟨oo,by rw[dG.below.block _ (hold y o q h1 hq hl h3)];exact g1,g2.mono E7,g3⟩
  ·rw[h6]at hq
   obtain⟨oo,g1,g2,g3⟩:=dG.live i o2 q h3 hq (h4.live hl).1
   exact⟨oo,g1,h4.or MJ hl oo g2,fun dh hb=>g3 ((h4.live hl).2 dh) (pN _ hb)⟩
 ·intro x y ox oy rx ry hx hy kN ct kO di hd he
  rcases lH x ox hx with⟨h1,h2,h3⟩|⟨i,o2,h1,h2,h3,h4,h5,_,h6⟩<;>rcases lH y oy hy with⟨g1,g2,g3⟩|⟨j,o3,g1,g2,g3,g4,g5,_,g6⟩
  ·rw[h2]at kN
   rw[g2]at ct
   exact hw.inj x y ox oy rx ry h1 g1 kN ct kO di hd he
  ·rw[h2]at kN
   rw[g6]at ct
   obtain⟨_,_,_,g7⟩:=dG.live j o3 ry g3 ct (g4.live di).1
   exact absurd (hold x ox rx h1 kN kO h3) (he▸g7 ((g4.live di).2 g5))
  ·rw[h6]at kN
   rw[g2]at ct
   obtain⟨_,_,_,h7⟩:=dG.live i o2 rx h3 kN (h4.live kO).1
   exact absurd (hold y oy ry g1 ct di g3) (he▸h7 ((h4.live kO).2 h5))
  ·rw[h6]at kN
   rw[g6]at ct
   have:=dG.inj i j o2 o3 rx ry h3 g3 kN ct (h4.live kO).1 (g4.live di).1 (.inl ((h4.live kO).2 h5)) he
   subst this
   rw[h1]at g1
   cases g1
   rfl
 ·intro y hy
  by_cases fk:S.next≤y∧y<S.next+N
  ·rw[F1,show y=S.next+(y-S.next)by omega,MK news _ _ _ (by omega)]at hy
   rw[aq3]at hy
   omega
  ·rw[F1,zX (by omega)]at hy
   have hy:mH m σ cc back y=none:=hy
   rw[A1 y fk]
   by_cases hex:∃(i:Nat) (ob:ag),σ[i]?=some y∧cc[i]?=some ob∧ob.ro=false
   ·obtain⟨i,ob,h1,h2,h3⟩:=hex
    have fj:i<back.length:=by have:=(app.1 h1).1;omega
    rw[vF cX h1 h2 (apl fj) h3]at hy
    cases hy
   ·rw[qI (fun i ob h1 h2=>by
     cases h3:ob.ro with
     |true=>rfl
     |false=>exact absurd ⟨i,ob,h1,h2,h3⟩ hex)]at hy
    exact hw.fresh y hy
 ·intro y n size row hy
  rcases lH y _ hy with⟨h1,h2,h3⟩|⟨i,o2,h1,h2,h3,h4,h5,_,h6⟩
  ·obtain⟨q,g1,g2⟩:=hw.rows y n size row h1
   exact⟨q,by rw[h2];exact g1,g2⟩
  ·cases h5
 ·intro y el ro q hy hq
  rcases lH y _ hy with⟨h1,h2,h3⟩|⟨i,o2,h1,h2,h3,h4,h5,_,h6⟩
  ·rw[h2]at hq;exact hw.nil y el ro q h1 hq
  ·rw[h6]at hq
   cases h4 with
   |plain=>exact dG.nil i el ro q h3 hq
   |cells c _ _ _ h=>
    cases c with
    |nil=>exact dG.nil i el ro q h3 hq
    |cons v c=>have:=tN h;simp at this
 ·intro y o hy A0
  rcases lH y o hy with⟨h1,h2,h3⟩|⟨i,o2,h1,h2,h3,h4,h5,_,h6⟩
  ·rw[h2];exact hw.named y o h1 A0
  ·rw[h6];exact dG.named i o2 h3 (h4.ne A0)
 ·obtain⟨F2,ga,gb,gc⟩:=dG.abs
  have yg:∀(y:Nat) (d:lD) (k:Nat),(∀(i:Nat) (ob:ag),σ[i]?=some y→cc[i]?=some ob→ob.ro=true)→F y k→B1 k:=fun y d k dh hk=>by
   obtain⟨_,b2,b3,b4⟩:=fb y k hk
   refine⟨b2,fun i x o q g1 g2 g3 g4 g5=>?_,fun i x d' g1 g2 hF=>?_⟩
   ·obtain⟨o2,g6,g7⟩:=vH i x g1
    rw[g2]at g6
    cases g6
    exact b4 x o q g7 g3 g5
   ·have:=fc x y k hF hk
    subst this
    have:=dh i _ g1 g2
    cases this
  refine⟨fun y k=>(∃d,post m S' y=some (.abs d)∧F y k∧B1 k)∨∃i d,τ i=some y∧post m S' y=some (.abs d)∧F2 i k,fun y d hy=>?_,fun y k hk=>?_,fun y1 y2 k vL ko=>?_⟩
  ·rcases lH y _ hy with⟨h1,h2,h3⟩|⟨i,o2,h1,h2,h3,h4,h5,_,h6⟩
   ·obtain⟨r,S,c,e,f⟩:=fa y d h1
    exact⟨r,S,by rw[h2,c],e.frame fun k hk=>dG.below.block k (yg y d k h3 (f k hk)),fun k hk=>.inl ⟨d,hy,f k hk,yg y d k h3 (f k hk)⟩⟩
   ·cases h4
    obtain⟨r,S,c,e,f⟩:=ga i d h3
    exact⟨r,S,by rw[h6,c],e,fun k hk=>.inr ⟨i,d,h1,hy,f k hk⟩⟩
  ·rcases hk with⟨d,p1,p3,p4⟩|⟨i,d,p1,p2,p4⟩
   ·obtain⟨_,b2,b3,b4⟩:=fb y k p3
    refine⟨⟨d,p1⟩,arC b2 dG.below.size,b3,fun z o r hz hr hl=>?_⟩
    rcases lH z o hz with⟨h1,h2,h3⟩|⟨i,o2,h1,h2,h3,h4,h5,_,h6⟩
    ·rw[h2]at hr;exact b4 z o r h1 hr hl
    ·rw[h6]at hr
     obtain⟨_,_,_,g3⟩:=dG.live i o2 r h3 hr (h4.live hl).1
     exact fun e=>g3 ((h4.live hl).2 h5) (e▸p4)
   ·obtain⟨_,q2,q3,q4⟩:=gb i k p4
    refine⟨⟨d,p2⟩,q2,fun hB=>q3 (pN k hB),fun z o r hz hr hl=>?_⟩
    rcases lH z o hz with⟨h1,h2,h3⟩|⟨j,o2,h1,h2,h3,h4,h5,_,h6⟩
    ·rw[h2]at hr;exact fun e=>q3 (e▸hold z o r h1 hr hl h3)
    ·rw[h6]at hr;exact q4 j o2 r h3 hr (h4.live hl).1
  ·rcases vL with⟨d,p1,p3,p4⟩|⟨i,d,p1,p2,p4⟩<;>rcases ko with⟨d',s1,s3,s4⟩|⟨j,d',s1,s2,s4⟩
   ·exact fc y1 y2 k p3 s3
   ·exact absurd p4 (gb j k s4).2.2.1
   ·exact absurd s4 (gb i k p4).2.2.1
   ·have:=gc i j k p4 s4
    subst this
    rw[p1]at s1
    cases s1
    rfl
end
def A3(P:apu)(mJ:apQ→Option Sum)(base:fD):fD:=fun f args S=>match mJ f with
 |some s=>(AS P s args S).dt
 |none=>base f args S
def tW(P:apu)(mJ:apQ→Option Sum)(base:cB):cB:=fun f args S=>match mJ f with
 |some s=>(AS P s args S).run
 |none=>base f args S
def dM(P:apu)(mJ:apQ→Option Sum)(lf d:Nat):fD:=A3 P mJ (rP P (A3 P mJ) lf d)
theorem dR{P:apu}(hP:iG P=true)(fw:P.follows .mixedOrders=true){mJ:apQ→Option Sum}(ht:∀f s,mJ f=some s→bp P f s)(lf d:Nat):dw P (dM P mJ lf d):=by
 have h1:∀call,ic P call→ic P (tW P mJ call):=fun call hc=>
  {ext:=by
    intro f args S r S' h
    unfold tW at h
    split at h
    ·rename_i s hs
     obtain⟨A⟩:=ME h
     exact A.ext
    ·exact hc.ext h
   ok:=by
    intro f args S r S' h B w₀ ρ m w args' ha hw hm
    unfold tW at h
    split at h
    ·rename_i s hs
     obtain⟨A⟩:=ME h
     exact A.call (ht f s hs) ha hw hm
    ·exact hc.ok h ha hw hm}
 have h2:∀(c:fD) (c':cB),(∀f args S r,(c f args S).Has r→c' f args S=some r)→∀f args S r,(A3 P mJ c f args S).Has r→tW P mJ c' f args S=some r:=by
  intro c c' hc f args S r h
  unfold A3 at h
  unfold tW
  split at h
  ·exact QT.Xu h
  ·exact hc f args S r h
 exact⟨tW P mJ (mr P (tW P mJ) lf d),h1 _ (LW hP fw h1 lf d),h2 _ _ fun f args S r h=>FB P h2 lf h⟩
end Go.Proofs.YtnlkkgpcikkpoaaGreat.Vm
namespace Go.Proofs.YtnlkkgpcikkpoaaGreat.Vm
open Go.RowKit
theorem an.done{P:apu}{n k:Nat}{l:List apV}{d:aj}{Q:bd→aj→Prop}(hl:l.isEmpty=true)(h:Q .normal d):an P n k l d Q:=by
 cases l with
 |nil=>exact an.nil h
 |cons c l=>cases hl
def dz(P:apu)(f:apQ):apV:=match(P.funcs[f]?).bind (·.body)with
 |some c=>c
 |none=>.skip
def rY(P:apu)(f:apQ):List ResultVar:=match P.funcs[f]?with
 |some fn=>fn.results.toList
 |none=>[]
def cn(P:apu)(f:apQ):Nat:=match P.funcs[f]?with
 |some fn=>fn.ntmps
 |none=>0
def ML(P:apu)(f:apQ)(n:Nat)(Q:bx→List ag→Prop):bd→aj→Prop
 | .normal,d=>∃vs l,(∀u,(hI P (eH n u d.sl) (rY P f)).run (gt (ld d.objs).mem)=some (vs,l))∧Q (.ret (mU vs)) d.objs
 | .ret,d=>∃vs l,(∀u,(hI P (eH n u d.sl) (rY P f)).run (gt (ld d.objs).mem)=some (vs,l))∧Q (.ret (mU vs)) d.objs
 | .panic v,d=>Q (.panic v) d.objs
 |_,_=>False
theorem aE.of{P:apu}{f:apQ}{n:Nat}{args:List ape}{objs:List ag}{Q:bx→List ag→Prop}
 (hf:(((P.funcs[f]?).bind (·.body)).isSome&&apw (cn P f) n&&apG args.length n&&apG n 1024&&apG objs.length 262144)=true)
 (h:an P n objs.length (aY (dz P f)) ⟨vD args 0,objs⟩ (ML P f n Q)):aE P f args objs Q:=by
 simp only[apt]at hf
 obtain⟨⟨⟨⟨h1,h2⟩,h3⟩,h4⟩,h5⟩:=hf
 cases gJ:P.funcs[f]?with
 |none=>rw[gJ]at h1;cases h1
 |some fn=>
  cases hb:fn.body with
  |none=>rw[gJ]at h1;dsimp only[atW]at h1;rw[hb]at h1;cases h1
  |some c=>
   have e1:dz P f=c:=by unfold dz;rw[gJ];dsimp only[atW];rw[hb]
   have e2:rY P f=fn.results.toList:=by unfold rY;rw[gJ]
   have e3:fn.ntmps=n:=by have:=apz h2;unfold cn at this;rw[gJ]at this;exact this
   subst e3
   refine aE.Xs gJ hb (by rw[h3,h4,h5];rfl) ?_
   rw[e1]at h
   refine h.mono fun x d' hx=>?_
   unfold ML at hx
   rw[e2]at hx
   cases x<;>exact hx
def ai(b:ByteArray):List ape:=b.data.toList.map fun x=>.int .u8 x.toNat
def ap(l:List ByteArray):List ape:=l.map Value.string
def aq(l:List Int):List ape:=l.map (apm .i64)
theorem nj(b:ByteArray):(ai b).length=b.size:=by unfold ai;simp
theorem yj(l:List ByteArray):(ap l).length=l.length:=by unfold ap;simp
theorem A4(l:List Int):(aq l).length=l.length:=by unfold aq;simp
theorem aH(b:ByteArray):(ai b).all af=true:=by unfold ai;rw[List.all_map];exact apR.2 fun _ _=>rfl
theorem aZ(l:List ByteArray):(ap l).all af=true:=by unfold ap;simp[af]
theorem aG(l:List Int):(aq l).all af=true:=by unfold aq;simp[af]
theorem iq{a b:List ape}(ha:a.all af=true)(hb:b.all af=true):(a++b).all af=true:=by rw[List.all_append,ha,hb];rfl
theorem A5{a:List ape}(ha:a.all af=true)(n:Nat):(a.drop n).all af=true:=by
 rw[apR]at ha⊢
 exact fun x hx=>ha x (List.mem_of_mem_drop hx)
theorem oL{a:List ape}(ha:a.all af=true)(n:Nat):(a.take n).all af=true:=by
 rw[apR]at ha⊢
 exact fun x hx=>ha x (List.mem_of_mem_take hx)
theorem li{a b:List ape}(ha:a.all af=true)(hb:b.all af=true)(n:Nat):(a8 a n b).all af=true:=by
 unfold a8
 exact iq (iq (oL ha n) hb) (A5 ha _)
theorem lj(b:List UInt8):(b.map fun x=>apm .u8 (x.toNat:Int)).all af=true:=by simp[af]
theorem tX{c:List ape}(h:c.all af=true):c.all aqg=true:=by
 rw[apR]at h⊢
 intro x hx
 have:=h x hx
 cases x<;>first|rfl|cases this
theorem MM:∀l:List UInt8,bytesOf (l.map fun x=>apm .u8 (x.toNat:Int))=some l
 | []=>rfl
 |x::l=>by
  simp only[aqb,bytesOf,MM l]
  simp
theorem F3{l:List Int}{i:Nat}(h:i<l.length):av (aq l) i=l[i]:=by unfold av aq;simp[h]
theorem A6{l:List Int}{i:Nat}(h:i<l.length):cA .i64 (aq l) i=true:=by unfold cA aq;simp[h]
theorem MN{l:List ByteArray}{i:Nat}(h:i<l.length):aX (ap l) i=l[i]:=by unfold aX ap;simp[h]
theorem MO{l:List ByteArray}{i:Nat}(h:i<l.length):eS (ap l) i=true:=by unfold eS ap;simp[h]
theorem MP{b:ByteArray}{i:Nat}(h:i<b.size):av (ai b) i=(b[i].toNat:Int):=by
 unfold av ai
 have:i<b.data.toList.length:=by simpa using h
 simp only[aqJ,apl this,aqA]
 rfl
theorem MQ{b:ByteArray}{i:Nat}(h:i<b.size):cA .u8 (ai b) i=true:=by
 unfold cA ai
 have:i<b.data.toList.length:=by simpa using h
 simp[aqJ,apl this]
theorem nk{x:Int}(h0: -9223372036854775808≤x)(h1:x≤9223372036854775807):apr.wrap x=x:=by
 rw[IntKind.wrap_i64];omega
end Go.Proofs.YtnlkkgpcikkpoaaGreat.Vm
