/- Part of the proof: Vc. -/
import Derived.Test.YtnlkkgpcikkpoaaGreatJAb
import Derived.LoopN
import Derived.RangeFuncLeaves
import Derived.RangeFuncRecord
open Array renaming getD_eq_getD_getElem?→apx,getElem?_eq_getElem→aqL
open Bool renaming and_eq_true→ao3,and_self→aqH,false_and→asp
open Go renaming BinOp→aty,Code→apw,Deferred→aqx,Exit→arc,FuncId→apr,MapEntry→apl,Oper→apS,Operand→aqo,Program→ao7,TypeId→ao1,Value→aoP,World→ao4,wpIn_wide→asH,wp_mono→as7
open Go.Exit renaming inBlock→asR
open Go.Fence renaming wide→aqO
open Go.Instr renaming index→ar8,sliceAt→aq3,sliceBound→ar2
open Go.IntKind renaming i64→ao2
open Go.Next renaming value→ap4
open Go.Region renaming wanted→aqt
open Go.Value renaming int→aoW,oneCell'→apR
open Go.World renaming putObj_heap_other→aqd
open List renaming all_eq_true→aps,ext_getElem?→arX,foldl_cons→aqS,getElem?_append_left→apH,getElem?_append_right→apz,getElem?_cons_succ→ap5,getElem?_cons_zero→apE,getElem?_eq_getElem→aoV,getElem?_eq_none→ap3,getElem?_eq_none_iff→aqE,getElem?_eq_some_iff→ao0,getElem?_map→aqk,getElem?_of_mem→aqg,getElem?_range→ar9,getElem?_set_ne→arE,getElem?_set_self→arn,length_cons→apC,length_nil→arw,map_cons→apM,mem_cons→ao8,mem_cons_of_mem→apc,mem_cons_self→ape,mem_of_getElem?→apy,range→arm
open Nat renaming add_zero→aq8,beq→ao6,beq_refl→apY,ble→apf,ble_eq_true_of_le→apu,blt→ao9,eq_of_beq_eq_true→apa,le_of_ble_eq_true→apk,le_refl→apn,lt_of_lt_of_le→ard,sub_zero→ara,zero_add→aqr
open Nat.succ renaming inj→ats
open Option renaming bind_some→atq,getD_some→aqG,map_some→aqc
open Option.some renaming injEq→aoU
open Prod.mk renaming injEq→aoX
set_option linter.unusedVariables false
set_option linter.unusedSimpArgs false
set_option maxRecDepth 100000
namespace Go.Proofs.YtnlkkgpcikkpoaaGreat.Vm
open Go.RowKit
inductive DT(α:Type) where
 |done (a:α)
 |fail
 |ask (d:Bool) (k:Bool→DT α)
 |fC (p:Bool) (x y:DT α)
inductive DT.Has{α:Type}:DT α→α→Prop where
 |done (a:α):Has (.done a) a
 |ask (d:Bool) (k:Bool→DT α) (a:α) (h:Has (k d) a):Has (.ask d k) a
 |left(p:Bool) (x y:DT α) (a:α) (h:Has x a):Has (.fC p x y) a
 |right(p:Bool) (x y:DT α) (a:α) (h:Has y a):Has (.fC p x y) a
def DT.bind{α β:Type}:DT α→(α→DT β)→DT β
 | .done a,f=>f a
 | .fail,_=>.fail
 | .ask d k,f=>.ask d fun b=>(k b).bind f
 | .fC p x y,f=>.fC p (x.bind f) (y.bind f)
def DT.fP{α:Type}:Option α→DT α
 |some a=>.done a
 |none=>.fail
theorem DT.cC{α:Type}{a b:α}(h:(DT.done a).Has b):b=a:=by cases h;rfl
theorem DT.Wh{α:Type}{b:α}(h:(DT.fail:DT α).Has b):False:=by cases h
theorem DT.oM{α:Type}{d:Bool}{k:Bool→DT α}{b:α}(h:(DT.ask d k).Has b):(k d).Has b:=by cases h;assumption
theorem DT.nP{α:Type}{p:Bool}{x y:DT α}{b:α}(h:(DT.fC p x y).Has b):x.Has b∨y.Has b:=by
 cases h with
 |left _ _ _ _ h=>exact .inl h
 |right _ _ _ _ h=>exact .inr h
theorem DT.ib{α:Type}{o:Option α}{b:α}(h:(DT.fP o).Has b):o=some b:=by
 cases o with
 |none=>cases h
 |some a=>rw[DT.cC h]
theorem DT.fz{α β:Type}:∀{x:DT α} {f:α→DT β} {b:β},(x.bind f).Has b→∃a,x.Has a∧(f a).Has b:=by
 intro x
 induction x with
 |done a=>intro f b h;exact⟨a,.done a,h⟩
 |fail=>intro f b h;cases h
 |ask d k ih=>
  intro f b h
  obtain⟨a,h1,h2⟩:=ih d (DT.oM h)
  exact⟨a,.ask d k a h1,h2⟩
 |fC p x y qD qE=>
  intro f b h
  rcases DT.nP h with h|h
  ·obtain⟨a,h1,h2⟩:=qD h;exact⟨a,.left _ _ _ _ h1,h2⟩
  ·obtain⟨a,h1,h2⟩:=qE h;exact⟨a,.right _ _ _ _ h1,h2⟩
inductive AT(α:Type) where
 |done (n:Nat) (a:α)
 |fail (n:Nat)
def mark{α:Type}(n:Nat)(x:AT α):AT α:=x
abbrev EO:=DT (bq×List Nat)
def kH(v:aoP)(l:List Nat):EO:=.done (⟨.val v,[],none⟩,l)
theorem kZ{v:aoP}{l l':List Nat}{out:bq}(h:(kH v l).Has (out,l')):out=⟨.val v,[],none⟩∧l'=l:=by
 have:=DT.cC h
 simpa using this
def eG{α:Type}(d:Bool)(k:DT α):DT α:=.ask d fun b=>match b with
 |true=>k
 |false=>.fail
theorem eI{α:Type}{d:Bool}{k:DT α}{a:α}(h:(eG d k).Has a):d=true∧k.Has a:=by
 have:=DT.oM h
 cases d with
 |true=>exact⟨rfl,this⟩
 |false=>exact(DT.Wh this).elim
section
variable (P:ao7)
def EH(t:ao1)(x i:aoP):EO:=match P.underlying t,x,i with
 |some (.array k el),.pointer (some ⟨b,off,none⟩),.int _ z=>match b7 P el with
  |some size=>eG (decide (0≤z)) (eG (ao9 z.toNat k) (kH (.pointer (some ⟨b,off+z.toNat*size,none⟩)) []))
  |none=>.fail
 |some (.slice el),.slice (some ⟨b,off,none⟩) len _,.int _ z=>match b7 P el with
  |some size=>eG (decide (0≤z)) (eG (ao9 z.toNat len) (kH (.pointer (some ⟨b,off+z.toNat*size,none⟩)) []))
  |none=>.fail
 |_,_,_=>.fail
theorem Ao{k:IntKind}{z:Int}(h:decide (0≤z)=true):pe (.int k z)=some z.toNat:=by
 have:0≤z:=by simpa using h
 cases z with
 |ofNat n=>rfl
 |negSucc n=>omega
theorem Wi{t:ao1}{x i:aoP}{out:bq}{l:List Nat}{g:Nat→Option ak}(h:(EH P t x i).Has (out,l)):(tb P t x i).run g=some (out,l):=by
 unfold EH at h
 unfold tb
 split at h
 ·rename_i k el b off ik z ht
  split at h
  ·rename_i size hs
   obtain⟨h1,h⟩:=eI h
   obtain⟨h2,h⟩:=eI h
   obtain⟨rfl,rfl⟩:=kZ h
   simp only[ht,Ao h1,hs,h2]
   rfl
  ·cases h
 ·rename_i el b off len cap ik z ht
  split at h
  ·rename_i size hs
   obtain⟨h1,h⟩:=eI h
   obtain⟨h2,h⟩:=eI h
   obtain⟨rfl,rfl⟩:=kZ h
   simp only[ht,Ao h1,hs,h2]
   rfl
  ·cases h
 ·cases h
def ay(c:List aoP)(i:Nat):Int:=match c[i]?with
 |some (.int _ x)=>x
 |_=>0
def cH(k:IntKind)(c:List aoP)(i:Nat):Bool:=match c[i]?with
 |some (.int k' _)=>decide (k'=k)
 |_=>false
def bc(c:List aoP)(i:Nat):ByteArray:=match c[i]?with
 |some (.string x)=>x
 |_=>ByteArray.empty
def eQ(c:List aoP)(i:Nat):Bool:=match c[i]?with
 |some (.string _)=>true
 |_=>false
def gQ(c:List aoP)(i:Nat):Bool:=match c[i]?with
 |some (.bool x)=>x
 |_=>false
def oN(c:List aoP)(i:Nat):Bool:=match c[i]?with
 |some (.bool _)=>true
 |_=>false
def EI(t:ao1)(c:List aoP)(off:Nat):DT aoP:=match P.underlying t with
 |some (.int k)=>eG (cH k c off) (.done (.int k (ay c off)))
 |some .string=>eG (eQ c off) (.done (.string (bc c off)))
 |some .bool=>eG (oN c off) (.done (.bool (gQ c off)))
 |_=>.fail
theorem Wj{t:ao1}{c:List aoP}{off:Nat}{v:aoP}(h:(EI P t c off).Has v):og P t=some false∧c[off]?=some v:=by
 unfold EI at h
 unfold og
 split at h
 ·rename_i k ht
  obtain⟨h1,h⟩:=eI h
  have h2:=DT.cC h
  unfold cH at h1
  unfold ay at h2
  split at h1
  ·rename_i k' x hc
   have:k'=k:=by simpa using h1
   subst this
   rw[hc]at h2⊢
   rw[ht,h2]
   exact⟨rfl,rfl⟩
  ·cases h1
 ·rename_i ht
  obtain⟨h1,h⟩:=eI h
  have h2:=DT.cC h
  unfold eQ at h1
  unfold bc at h2
  split at h1
  ·rename_i x hc
   rw[hc]at h2⊢
   rw[ht,h2]
   exact⟨rfl,rfl⟩
  ·cases h1
 ·rename_i ht
  obtain⟨h1,h⟩:=eI h
  have h2:=DT.cC h
  unfold oN at h1
  unfold gQ at h2
  split at h1
  ·rename_i x hc
   rw[hc]at h2⊢
   rw[ht,h2]
   exact⟨rfl,rfl⟩
  ·cases h1
 ·cases h
def EJ(g:Nat→Option ak)(t:ao1)(a:aoP):EO:=match a with
 | .pointer (some ⟨b,off,none⟩)=>match g b with
  |some (.cells c _ _)=>(EI P t c off).bind fun v=>kH v [b]
  |_=>.fail
 |_=>.fail
theorem Wk{t:ao1}{a:aoP}{out:bq}{l:List Nat}{g:Nat→Option ak}(h:(EJ P g t a).Has (out,l)):(sY P t a).run g=some (out,l):=by
 unfold EJ at h
 split at h
 ·rename_i b off
  split at h
  ·rename_i c el ro hb
   obtain⟨v,h1,h2⟩:=DT.fz h
   obtain⟨rfl,rfl⟩:=kZ h2
   obtain⟨h3,h4⟩:=Wj P h1
   unfold sY qf
   rw[Rd.run_bind]
   refine⟨v,[b],[],?_,rfl,rfl⟩
   simp only[Rd.run,hb,h3,h4]
  ·cases h
 ·cases h
def EK(c:List aoP)(i:Nat):Bool:=match c[i]?with
 |some (.slice none 0 0)=>true
 |_=>false
def LN(c:List aoP)(i:Nat):Bool:=match c[i]?with
 |some (.slice (some ⟨2,_,none⟩) _ _)=>true
 |_=>false
def LO(c:List aoP)(i:Nat):Nat:=match c[i]?with
 |some (.slice (some ⟨_,o,_⟩) _ _)=>o
 |_=>0
def LP(c:List aoP)(i:Nat):Nat:=match c[i]?with
 |some (.slice _ n _)=>n
 |_=>0
def LQ(c:List aoP)(i:Nat):Nat:=match c[i]?with
 |some (.slice _ _ n)=>n
 |_=>0
def EL(z:aoP)(c:List aoP)(i:Nat):DT aoP:=match z with
 | .int k _=>eG (cH k c i) (.done (.int k (ay c i)))
 | .string _=>eG (eQ c i) (.done (.string (bc c i)))
 | .bool _=>eG (oN c i) (.done (.bool (gQ c i)))
 | .slice none 0 0=>.ask (EK c i) fun b=>match b with
  |true=>.done (.slice none 0 0)
  |false=>eG (LN c i) (.done (.slice (some ⟨2,LO c i,none⟩) (LP c i) (LQ c i)))
 |_=>.fail
theorem Wl{z:aoP}{c:List aoP}{i:Nat}{v:aoP}(h:(EL z c i).Has v):c[i]?=some v:=by
 unfold EL at h
 split at h
 ·rename_i k _
  obtain⟨h1,h⟩:=eI h
  have h2:=DT.cC h
  unfold cH at h1
  unfold ay at h2
  split at h1
  ·rename_i k' x hc
   have:k'=k:=by simpa using h1
   subst this
   rw[hc]at h2⊢
   rw[h2]
  ·cases h1
 ·obtain⟨h1,h⟩:=eI h
  have h2:=DT.cC h
  unfold eQ at h1
  unfold bc at h2
  split at h1
  ·rename_i x hc;rw[hc]at h2⊢;rw[h2]
  ·cases h1
 ·obtain⟨h1,h⟩:=eI h
  have h2:=DT.cC h
  unfold oN at h1
  unfold gQ at h2
  split at h1
  ·rename_i x hc;rw[hc]at h2⊢;rw[h2]
  ·cases h1
 ·have h:=DT.oM h
  cases hn:EK c i with
  |true=>
   rw[hn]at h
   have h2:=DT.cC h
   unfold EK at hn
   split at hn
   ·rename_i hc;rw[hc,h2]
   ·cases hn
  |false=>
   rw[hn]at h
   obtain⟨h1,h⟩:=eI h
   have h2:=DT.cC h
   unfold LN at h1
   unfold LO LP LQ at h2
   split at h1
   ·rename_i o n m hc;rw[hc]at h2⊢;rw[h2]
   ·cases h1
 ·cases h
def Ap:List aoP→List aoP→Nat→DT (List aoP)
 | [],_,_=>.done []
 |z::zs,c,i=>(EL z c i).bind fun v=>(Ap zs c (i+1)).bind fun r=>.done (v::r)
theorem LS:∀{zs c:List aoP} {i:Nat} {r:List aoP},(Ap zs c i).Has r→r.length=zs.length∧∀j v,r[j]?=some v→c[i+j]?=some v
 | [],c,i,r,h=>by rw[DT.cC h];exact⟨rfl,fun j v hv=>by simp at hv⟩
 |z::zs,c,i,r,h=>by
  unfold Ap at h
  obtain⟨v,h1,h2⟩:=DT.fz h
  obtain⟨r',h3,h4⟩:=DT.fz h2
  rw[DT.cC h4]
  obtain⟨h5,h6⟩:=LS h3
  refine⟨by simp[h5],fun j u hu=>?_⟩
  cases j with
  |zero=>
   simp only[apE,aoU]at hu
   subst hu
   exact Wl h1
  |succ j=>
   simp only[ap5]at hu
   have:=h6 j u hu
   rwa[show i+1+j=i+(j+1)by omega]at this
def EM(g:Nat→Option ak)(t:ao1)(a:aoP):EO:=match a with
 | .pointer (some ⟨b,off,none⟩)=>match g b,og P t,zeroOf P t,b7 P t with
  |some (.cells c _ _),some true,some (.agg z),some (n+1)=>match ao6 z.toList.length (n+1)with
   |true=>eG (apf (off+(n+1)) c.length) ((Ap z.toList c off).bind fun l=>kH (.agg l.toArray) [b])
   |false=>.fail
  |_,_,_,_=>.fail
 |_=>.fail
theorem Wn{t:ao1}{a:aoP}{out:bq}{l:List Nat}{g:Nat→Option ak}(h:(EM P g t a).Has (out,l)):(sY P t a).run g=some (out,l):=by
 unfold EM at h
 split at h
 ·rename_i b off
  split at h
  ·rename_i c el ro z n hb m5 hz hn
   split at h
   ·rename_i hlen
    have hlen:=apa hlen
    obtain⟨hle,h⟩:=eI h
    obtain⟨r,h1,h2⟩:=DT.fz h
    obtain⟨rfl,rfl⟩:=kZ h2
    obtain⟨h3,h4⟩:=LS h1
    have EN:=apk hle
    have qn:cut c off (n+1)=some r:=by
     unfold cut
     rw[hle]
     refine congrArg some (arX fun j=>?_)
     rw[List.getElem?_take]
     by_cases hj:j<n+1
     ·rw[if_pos hj,List.getElem?_drop]
      have LU:j<r.length:=by omega
      rw[aoV LU]
      exact(h4 j _ (aoV LU)).trans rfl
     ·rw[if_neg hj,ap3 (by omega)]
    unfold sY qf
    rw[Rd.run_bind]
    refine⟨.agg r.toArray,[b],[],?_,rfl,rfl⟩
    simp only[Rd.run,hb,m5,hn,qn]
   ·cases h
  ·cases h
 ·cases h
def rK(off:Nat)(v:aoP):Nat→List aoP→DT (List aoP)
 |_,[]=>.done []
 |i,c::cs=>match c,v with
  | .string s,.string s'=>(rK off v (i+1) cs).bind fun r=>.done (.string (bif ao6 off i then s' else s)::r)
  | .int k x,.int k' x'=>match decide (k=k')with
   |true=>(rK off v (i+1) cs).bind fun r=>.done (.int k (bif ao6 off i then x' else x)::r)
   |false=>.ask (ao6 off i) fun b=>match b with
    |true=>.fail
    |false=>(rK off v (i+1) cs).bind fun r=>.done (c::r)
  |_,_=>.ask (ao6 off i) fun b=>match b with
   |true=>.fail
   |false=>(rK off v (i+1) cs).bind fun r=>.done (c::r)
theorem LV{off:Nat}{v:aoP}:∀{i:Nat} {c r:List aoP},(rK off v i c).Has r→r.length=c.length∧∀j,r[j]?=if i+j=off∧j<c.length then some v else c[j]?
 |i,[],r,h=>by
  have:=DT.cC h
  subst this
  exact⟨rfl,fun j=>by simp⟩
 |i,c::cs,r,h=>by
  have fin:∀(x:aoP) (r':List aoP),(rK off v (i+1) cs).Has r'→(x=if i=off then v else c)→(x::r').length=(c::cs).length∧∀j,(x::r')[j]?=if i+j=off∧j<(c::cs).length then some v else(c::cs)[j]? :=by
   intro x r' hr hx
   obtain⟨h1,h2⟩:=LV hr
   refine⟨by simp[h1],fun j=>?_⟩
   cases j with
   |zero=>
    simp only[apE,aq8,apC]
    rw[hx]
    by_cases e:i=off
    ·rw[if_pos e,if_pos ⟨e,by omega⟩]
    ·rw[if_neg e,if_neg fun h=>e h.1]
   |succ j=>
    simp only[ap5,apC]
    rw[h2 j]
    by_cases e:i+1+j=off∧j<cs.length
    ·rw[if_pos e,if_pos ⟨by omega,by omega⟩]
    ·rw[if_neg e,if_neg fun h=>e ⟨by omega,by omega⟩]
  have hb:∀{b:Bool},ao6 off i=b→(i=off↔b=true):=by
   intro b hb
   rw[Wo off i]at hb
   rw[←hb]
   exact⟨fun e=>by rw[e];exact apY _,fun e=>apa e⟩
  unfold rK at h
  split at h
  ·rename_i s s'
   obtain⟨r',h1,h2⟩:=DT.fz h
   have:=DT.cC h2
   subst this
   refine fin _ r' h1 ?_
   cases hq:ao6 off i with
   |true=>rw[if_pos ((hb hq).2 rfl)];rfl
   |false=>rw[if_neg fun e=>by cases(hb hq).1 e];rfl
  ·rename_i k x k' x'
   split at h
   ·rename_i hk
    have hk:k=k':=by simpa using hk
    subst hk
    obtain⟨r',h1,h2⟩:=DT.fz h
    have:=DT.cC h2
    subst this
    refine fin _ r' h1 ?_
    cases hq:ao6 off i with
    |true=>rw[if_pos ((hb hq).2 rfl)];rfl
    |false=>rw[if_neg fun e=>by cases(hb hq).1 e];rfl
   ·have h:=DT.oM h
    cases hq:ao6 off i with
    |true=>rw[hq]at h;cases h
    |false=>
     rw[hq]at h
     obtain⟨r',h1,h2⟩:=DT.fz h
     have:=DT.cC h2
     subst this
     exact fin _ r' h1 (by rw[if_neg fun e=>by cases(hb hq).1 e])
  ·have h:=DT.oM h
   cases hq:ao6 off i with
   |true=>rw[hq]at h;cases h
   |false=>
    rw[hq]at h
    obtain⟨r',h1,h2⟩:=DT.fz h
    have:=DT.cC h2
    subst this
    exact fin _ r' h1 (by rw[if_neg fun e=>by cases(hb hq).1 e])
where
 Wo (a b:Nat):ao6 a b=ao6 b a:=by
  rw[Bool.eq_iff_iff]
  exact⟨fun e=>by rw[apa e];exact apY _,fun e=>by rw[apa e];exact apY _⟩
def EP(g:Nat→Option ak)(t:ao1)(a x:aoP):EO:=match a,b7 P t with
 | .pointer (some ⟨b,off,none⟩),some size=>match g b with
  |some (.cells c el false)=>match ao6 x.cells.size size&&x.cells.toList.all apR with
   |true=>eG (apf (off+size) c.length) (.done (⟨.skip,[(b,.cells (bf c off x.cells.toList) el false)],none⟩,[b]))
   |false=>.fail
  |_=>.fail
 |_,_=>.fail
theorem Wp{t:ao1}{a x:aoP}{out:bq}{l:List Nat}{g:Nat→Option ak}(h:(EP P g t a x).Has (out,l)):(sZ P t a x).run g=some (out,l):=by
 unfold EP at h
 split at h
 ·rename_i b off size hs
  split at h
  ·rename_i c el hb
   split at h
   ·rename_i hx
    simp only[ao3]at hx
    obtain⟨h1,h⟩:=eI h
    have h4:=DT.cC h
    simp only[aoX]at h4
    obtain⟨rfl,rfl⟩:=h4
    unfold sZ
    simp only[hs,Rd.run,hb,hx.1,hx.2,h1,aqH]
   ·cases h
  ·cases h
 ·cases h
def Wq(el:ao1):Bool:=match P.underlying el with
 |some (.struct fs)=>fs.toList.all fun f=>match P.underlying f.type with
  |some (.int _)|some .string|some .bool=>true
  |_=>false
 |_=>false
def rowOf(g:Nat→Option ak)(t:ao1)(a:aoP):Bool:=match a with
 | .pointer (some ⟨b,_,_⟩)=>match g b with
  |some (.cells _ el _)=>ao6 el t||Wq P el
  |_=>false
 |_=>false
def EQ(g:Nat→Option ak)(t:ao1)(a x:aoP):EO:=match a,b7 P t with
 | .pointer (some ⟨b,off,none⟩),some 1=>match g b with
  |some (.cells c el false)=>match ao6 x.cells.size 1&&x.cells.toList.all apR&&x.oneCell' with
   |true=>eG (ao9 off c.length) ((rK off x 0 c).bind fun r=>.done (⟨.skip,[(b,.cells r el false)],none⟩,[b]))
   |false=>.fail
  |_=>.fail
 |_,_=>.fail
theorem Wr{x:aoP}(h:x.oneCell'=true):x.cells.toList=[x]:=by
 cases x<;>first|rfl|cases h
theorem Wt{t:ao1}{a x:aoP}{out:bq}{l:List Nat}{g:Nat→Option ak}(h:(EQ P g t a x).Has (out,l)):(sZ P t a x).run g=some (out,l):=by
 unfold EQ at h
 split at h
 ·rename_i b off hs
  split at h
  ·rename_i c el hb
   split at h
   ·rename_i hx
    simp only[ao3]at hx
    obtain⟨⟨fR,jM⟩,Wu⟩:=hx
    obtain⟨h1,h⟩:=eI h
    obtain⟨r,h2,h3⟩:=DT.fz h
    have h4:=DT.cC h3
    simp only[aoX]at h4
    obtain⟨rfl,rfl⟩:=h4
    obtain⟨h5,h6⟩:=LV h2
    have hlt:=dV.1 h1
    have hr:r=bf c off [x]:=by
     apply arX
     intro j
     rw[h6 j,Dv (by simp only[apC,arw];omega) j]
     simp only[apC,arw,aqr]
     by_cases e:j=off
     ·subst e;simp[hlt]
     ·have e1:¬(j=off∧j<c.length):=fun h=>e h.1
      rw[if_neg e1]
      by_cases e2:off≤j∧j<off+1
      ·exact absurd (by omega) e
      ·rw[if_neg e2]
    have hle:apf (off+1) c.length=true:=apu hlt
    unfold sZ
    simp only[hs,Rd.run,hb,fR,jM,hle,aqH]
    rw[hr,Wr Wu]
   ·cases h
  ·cases h
 ·cases h
def ER(g:Nat→Option ak)(src dst:ao1)(x:aoP):EO:=match P.underlying src,P.underlying dst,x with
 |some (.slice el),some .string,.slice (some ⟨b,off,none⟩) len cap=>match P.underlying el with
  |some (.int .u8)=>match g b with
   |some (.cells c _ _)=>eG ((cut c off len).bind bytesOf).isSome (kH (.string ⟨(((cut c off len).bind bytesOf).getD []).toArray⟩) [b])
   |_=>.fail
  |_=>.fail
 |_,_,_=>.fail
theorem Wv{src dst:ao1}{x:aoP}{n:Nat}{out:bq}{l:List Nat}{g:Nat→Option ak}(h:(ER P g src dst x).Has (out,l)):(w8 P src dst x n).run g=some (out,l):=by
 unfold ER at h
 split at h
 ·rename_i el b off len cap h1 h2
  split at h
  ·rename_i he
   split at h
   ·rename_i c ce ro hb
    obtain⟨h3,h⟩:=eI h
    obtain⟨rfl,rfl⟩:=kZ h
    unfold w8
    simp only[h1,h2,he,Rd.run,hb]
    cases hq:(cut c off len).bind bytesOf with
    |none=>rw[hq]at h3;cases h3
    |some l=>rfl
   ·cases h
  ·cases h
 ·cases h
def vk:Nat→Option aoP→(Nat→EO)→EO
 |d,none,k=>k d
 |_,some (.int _ z),k=>eG (decide (0≤z)) (k z.toNat)
 |_,_,_=>.fail
theorem Aq{d:Nat}{o:Option aoP}{k:Nat→EO}{a:bq×List Nat}(h:(vk d o k).Has a):∃n,oh d o=some n∧(k n).Has a:=by
 unfold vk at h
 split at h
 ·exact⟨_,rfl,h⟩
 ·obtain⟨h1,h⟩:=eI h
  exact⟨_,Ao h1,h⟩
 ·cases h
def ES(g:Nat→Option ak)(t:ao1)(x:aoP)(lo hi mx:Option aoP):EO:=match P.underlying t,x,mx with
 |some (.slice el),.slice (some ⟨b,off,none⟩) len cap,none=>vk 0 lo fun l=>vk len hi fun h=>match b7 P el with
  |some size=>eG (apf l h) (eG (apf h cap) (match g b with
   |some (.cells c eb _)=>match b7 P eb with
    |some sb=>match apf size sb with
     |true=>kH (.slice (some ⟨b,off+l*size,none⟩) (h-l) (cap-l)) [b]
     |false=>.fail
    |none=>.fail
   |_=>.fail))
  |none=>.fail
 |some (.array k el),.pointer (some ⟨b,off,none⟩),none=>vk 0 lo fun l=>vk k hi fun h=>match b7 P el with
  |some size=>eG (apf l h) (eG (apf h k) (kH (.slice (some ⟨b,off+(if ao6 k l then 0 else l*size),none⟩) (h-l) (k-l)) []))
  |none=>.fail
 |_,_,_=>.fail
theorem Ww{t:ao1}{x:aoP}{lo hi mx:Option aoP}{out:bq}{l:List Nat}{g:Nat→Option ak}(h:(ES P g t x lo hi mx).Has (out,l)):(rl P t x lo hi mx).run g=some (out,l):=by
 unfold ES at h
 split at h
 ·rename_i el b off len cap ht
  obtain⟨n1,h1,h⟩:=Aq h
  obtain⟨n2,h2,h⟩:=Aq h
  split at h
  ·rename_i size hs
   obtain⟨h3,h⟩:=eI h
   obtain⟨h4,h⟩:=eI h
   split at h
   ·rename_i c eb ro hb
    split at h
    ·rename_i sb DJ
     split at h
     ·rename_i hle
      obtain⟨rfl,rfl⟩:=kZ h
      have fQ:fl (.slice (some ⟨b,off,none⟩) len cap)=false:=by unfold fl flat;rfl
      unfold rl
      simp only[fQ,ht,h1,h2,hs,h3,h4,aqH,Rd.run,hb,DJ,hle]
      rfl
     ·cases h
    ·cases h
   ·cases h
  ·cases h
 ·rename_i k el b off ht
  obtain⟨n1,h1,h⟩:=Aq h
  obtain⟨n2,h2,h⟩:=Aq h
  split at h
  ·rename_i size hs
   obtain⟨h3,h⟩:=eI h
   obtain⟨h4,h⟩:=eI h
   obtain⟨rfl,rfl⟩:=kZ h
   have fQ:fl (.pointer (some ⟨b,off,none⟩))=false:=by unfold fl flat;rfl
   unfold rl
   simp only[fQ,ht,h1,h2,hs,h3,h4,aqH]
   rfl
  ·cases h
 ·cases h
def ET(c a b:aoP):EO:=match c with
 | .bool d=>.ask d fun d=>match d with
  |true=>kH a []
  |false=>kH b []
 |_=>.fail
theorem Wx{c a b:aoP}{out:bq}{l:List Nat}{g:Nat→Option ak}(h:(ET c a b).Has (out,l)):(zp c a b).run g=some (out,l):=by
 unfold ET at h
 split at h
 ·rename_i d
  have h:=DT.oM h
  cases d with
  |true=>obtain⟨rfl,rfl⟩:=kZ h;rfl
  |false=>obtain⟨rfl,rfl⟩:=kZ h;rfl
 ·cases h
def EU(g:Nat→Option ak)(size:Nat):aoP→Nat→DT (List aoP×List Nat)
 | .slice (some ⟨b,off,none⟩) _ _,n=>match g b with
  |some (.cells c _ _)=>eG (apf (off+n*size) c.length) (.done ((c.drop off).take (n*size),[b]))
  |_=>.fail
 | .slice none _ _,_=>.done ([],[])
 | .string s,n=>.done ((s.data.toList.take n).map fun b=>.int .u8 b.toNat,[])
 |_,_=>.fail
theorem Wy{g:Nat→Option ak}{size n:Nat}{x:aoP}{p:List aoP×List Nat}(h:(EU g size x n).Has p):(ri size x n).run g=some p:=by
 unfold EU at h
 split at h
 ·split at h
  ·rename_i c el ro hb
   obtain⟨h1,h⟩:=eI h
   rw[DT.cC h]
   unfold ri
   simp only[Rd.run,hb,fP,cut,h1]
  ·cases h
 ·rw[DT.cC h];rfl
 ·rw[DT.cC h];rfl
 ·cases h
def EV(g:Nat→Option ak)(elem:ao1)(size len k:Nat)(base:Option Addr)(xs:List aoP)(l1:List Nat)(n:Nat):EO:=match base with
 |none=>match len with
  |0=>.done (⟨.val (.slice (some ⟨n,0,none⟩) k k),[],some (.cells xs elem false)⟩,l1++[])
  |_=>.fail
 |some ⟨b,off,none⟩=>match g b with
  |some (.cells c el false)=>eG (ao6 (off+len*size) c.length) (match ao6 el elem with
   |true=>.done (⟨.val (.slice (some ⟨n,0,none⟩) (len+k) (len+k)),[(b,.dead)],some (.cells (c.drop off++xs) elem false)⟩,l1++[b])
   |false=>.fail)
  |_=>.fail
 |_=>.fail
def EW(g:Nat→Option ak)(size len cap k:Nat)(base:Option Addr)(xs:List aoP)(l1:List Nat):EO:=match base with
 |some ⟨b,off,none⟩=>match g b with
  |some (.cells c el false)=>eG (apf (len+k) cap) (eG (apf (off+len*size+xs.length) c.length)
   (.done (⟨.val (.slice (some ⟨b,off,none⟩) (len+k) cap),[(b,.cells (bf c (off+len*size) xs) el false)],none⟩,l1++[b])))
  |_=>.fail
 |_=>.fail
theorem Wz{elem:ao1}{size len k n:Nat}{base:Option Addr}{xs:List aoP}{l1 l:List Nat}{out:bq}{g:Nat→Option ak}(h:(EV g elem size len k base xs l1 n).Has (out,l)):
 ∃l2,(uR elem size len k base xs n).run g=some (out,l2)∧l=l1++l2:=by
 unfold EV at h
 split at h
 ·split at h
  ·have h:=DT.cC h
   simp only[aoX]at h
   obtain⟨rfl,rfl⟩:=h
   exact⟨[],rfl,rfl⟩
  ·cases h
 ·rename_i b off
  split at h
  ·rename_i c el hb
   obtain⟨bJ,h⟩:=eI h
   split at h
   ·rename_i bk
    have h:=DT.cC h
    simp only[aoX]at h
    obtain⟨rfl,rfl⟩:=h
    exact⟨[b],by simp only[uR,Rd.run,hb,bJ,bk,aqH],rfl⟩
   ·cases h
  ·cases h
 ·cases h
theorem WA{size len cap k:Nat}{base:Option Addr}{xs:List aoP}{l1 l:List Nat}{out:bq}{g:Nat→Option ak}(h:(EW g size len cap k base xs l1).Has (out,l)):
 ∃l2,(wW size len cap k base xs).run g=some (out,l2)∧l=l1++l2:=by
 unfold EW at h
 split at h
 ·rename_i b off
  split at h
  ·rename_i c el hb
   obtain⟨bJ,h⟩:=eI h
   obtain⟨bk,h⟩:=eI h
   have h:=DT.cC h
   simp only[aoX]at h
   obtain⟨rfl,rfl⟩:=h
   exact⟨[b],by simp only[wW,Rd.run,hb,bJ,bk,aqH],rfl⟩
  ·cases h
 ·cases h
def EX(g:Nat→Option ak)(argTypes:List ao1)(args:List aoP)(n:Nat):EO:=match argTypes,args with
 |sT::xT::_,.slice base len cap::x::_=>match P.underlying sT,P.underlying xT with
  |some (.slice elem),some xd=>match b7 P elem,rj x,zeroOf P elem,(P.info? elem).map (·.bytes)with
   |some size,some k,some z,some bytes=>match !isInt xd&&apf bytes 1000000&&ao6 z.cells.size size&&ao9 0 size with
    |false=>.fail
    |true=>(EU g size x k).bind fun p=>eG (apf (len+k) 1000000) (eG (p.1.all apR) (eG (ao6 p.1.length (k*size)) (.ask (full len cap) fun d=>match d with
     |true=>EV g elem size len k base p.1 p.2 n
     |false=>EW g size len cap k base p.1 p.2)))
   |_,_,_,_=>.fail
  |_,_=>.fail
 |_,_=>.fail
theorem WB{argTypes:List ao1}{args:List aoP}{n:Nat}{out:bq}{l:List Nat}{g:Nat→Option ak}(h:(EX P g argTypes args n).Has (out,l)):(wX P argTypes args n).run g=some (out,l):=by
 unfold EX at h
 split at h
 ·rename_i sT xT r1 base len cap x r2
  split at h
  ·rename_i elem xd h1 h2
   split at h
   ·rename_i size k z bytes h3 h4 h5 h6
    split at h
    ·cases h
    ·rename_i h7
     obtain⟨p,h8,h⟩:=DT.fz h
     obtain⟨h9,h⟩:=eI h
     obtain⟨bP,h⟩:=eI h
     obtain⟨bQ,h⟩:=eI h
     have h:=DT.oM h
     have h8:=Wy h8
     obtain⟨xs,l1⟩:=p
     dsimp only at h9 bP bQ h
     unfold wX
     simp only[h1,h2,h3,h4,h5,h6,h7]
     rw[Rd.run_bind]
     cases hf:full len cap with
     |true=>
      rw[hf]at h
      obtain⟨l2,bJ,bk⟩:=Wz h
      exact⟨xs,l1,l2,h8,by simp only[h9,bP,bQ,aqH];exact bJ,bk⟩
     |false=>
      rw[hf]at h
      obtain⟨l2,bJ,bk⟩:=WA h
      exact⟨xs,l1,l2,h8,by simp only[h9,bP,bQ,aqH];exact bJ,bk⟩
   ·cases h
  ·cases h
 ·cases h
def EY(op:aty)(a b:aoP):EO:=match op,a,b with
 | .quo,.int k x,.int k' y=>match decide (k=k')with
  |true=>eG (!decide (y=0)) (kH (.int k (k.wrap (x.tdiv y))) [])
  |false=>.fail
 | .rem,.int k x,.int k' y=>match decide (k=k')with
  |true=>eG (!decide (y=0)) (kH (.int k (x.tmod y)) [])
  |false=>.fail
 | .add,.string x,.string y=>eG (decide (((x.size+y.size:Nat):Int)≤ao2.max)) (kH (.string (x++y)) [])
 |_,_,_=>.fail
theorem EZ{s:Sem aoP}{v:aoP}(h:s=pure v)(hv:fl v=true){g:Nat→Option ak}:(kr P (do let u ←s;pure (.value u))).run g=some (⟨.val v,[],none⟩,[]):=by
 subst h
 unfold kr
 have:gE P (do let u ←(pure v:Sem aoP);pure (ap4 u))=some (.ok (.value v)):=rfl
 rw[this]
 dsimp only
 rw[hv]
 rfl
theorem WC{op:aty}{t:ao1}{x y:aqo}{a b:aoP}{out:bq}{l:List Nat}{g:Nat→Option ak}(h:(EY op a b).Has (out,l)):(ta P op t x y a b).run g=some (out,l):=by
 unfold EY at h
 split at h
 ·rename_i k n k' m
  split at h
  ·rename_i hk
   have hk:=of_decide_eq_true hk
   subst hk
   obtain⟨hm,h⟩:=eI h
   obtain⟨rfl,rfl⟩:=kZ h
   have hm:m≠0:=by simpa using hm
   refine EZ P (s:=(do eqGuard .quo t x y (.int k n) (.int k m);binOp .quo t (.int k n) (.int k m))) ?_ rfl
   show binOp .quo t (.int k n) (.int k m)=_
   simp only[binOp,ne_eq,not_true_eq_false,if_false,Op.intDiv,hm]
  ·cases h
 ·rename_i k n k' m
  split at h
  ·rename_i hk
   have hk:=of_decide_eq_true hk
   subst hk
   obtain⟨hm,h⟩:=eI h
   obtain⟨rfl,rfl⟩:=kZ h
   have hm:m≠0:=by simpa using hm
   refine EZ P (s:=(do eqGuard .rem t x y (.int k n) (.int k m);binOp .rem t (.int k n) (.int k m))) ?_ rfl
   show binOp .rem t (.int k n) (.int k m)=_
   simp only[binOp,ne_eq,not_true_eq_false,if_false,Op.intDiv,hm]
  ·cases h
 ·rename_i n m
  obtain⟨hm,h⟩:=eI h
  obtain⟨rfl,rfl⟩:=kZ h
  have hm:¬((n.size+m.size:Nat):Int)>ao2.max:=by have:=of_decide_eq_true hm;omega
  refine EZ P (s:=(do eqGuard .add t x y (.string n) (.string m);binOp .add t (.string n) (.string m))) ?_ rfl
  show binOp .add t (.string n) (.string m)=_
  simp only[binOp,Op.stringOp,hm,if_false]
 ·cases h
theorem nQ{α β:Type}{f:α→Sem β}{a:α}:∀{P:ao7} {x:Sem α},gE P x=some (.ok a)→gE P (x>>=f)=gE P (f a):=by
 intro P x
 induction x with
 |pure b=>intro h;simp only[gE,aoU,Except.ok.injEq]at h;subst h;rfl
 |program k ih=>intro h;exact ih P h
 |mark m k ih=>intro h;exact ih h
 |halt x=>intro h;cases x<;>simp[gE]at h
 |_=>intro h;simp[gE]at h
theorem E0{t:ao1}{d:TypeDesc}(h:P.underlying t=some d):gE P (underlying t)=some (.ok d):=by
 have:underlying t=Sem.program fun p=>(match p.underlying t with
  |some d=>pure d
  |none=>stuck "no such type"):=rfl
 rw[this]
 show gE P (match P.underlying t with
  |some d=>pure d
  |none=>stuck "no such type")=_
 rw[h]
 rfl
def E1(t:ao1)(x i:aoP):EO:=match P.underlying t,x,i with
 |some .string,.string s,.int _ z=>eG (decide (0≤z)) (eG (ao9 z.toNat s.size) (kH (.int .u8 ((s.data.toList.getD z.toNat 0).toNat)) []))
 |_,_,_=>.fail
theorem WD{t:ao1}{x i:aoP}{out:bq}{l:List Nat}{g:Nat→Option ak}(h:(E1 P t x i).Has (out,l)):(w9 P t x i).run g=some (out,l):=by
 unfold E1 at h
 split at h
 ·rename_i s k z ht
  obtain⟨h1,h⟩:=eI h
  obtain⟨h2,h⟩:=eI h
  obtain⟨rfl,rfl⟩:=kZ h
  have h1:0≤z:=by simpa using h1
  have h2:=dV.1 h2
  have hg:s[z.toNat]?=some (s.data.toList.getD z.toNat 0):=by
   have h3:z.toNat<s.data.toList.length:=by simpa using h2
   rw[getElem?_pos s z.toNat h2,List.getD_eq_getElem?_getD,aoV h3]
   rfl
  unfold w9
  show(kr P (do let v ←ar8 t (.string s) (.int k z);pure (.value v))).run g=_
  unfold kr
  have:gE P (do let u ←ar8 t (.string s) (.int k z);pure (ap4 u))=some (.ok (.value (.int .u8 ((s.data.toList.getD z.toNat 0).toNat)))):=by
   refine(nQ (a:=(.int .u8 ((s.data.toList.getD z.toNat 0).toNat):aoP)) ?_).trans rfl
   unfold ar8
   refine(nQ (a:=(k,z)) rfl).trans ?_
   refine(nQ (E0 P ht)).trans ?_
   simp only[h1,if_true,hg]
   rfl
  rw[this]
  rfl
 ·cases h
def Ar:Nat→Option aoP→(Nat→EO)→EO
 |d,none,k=>k d
 |_,some (.int _ z),k=>eG (decide (0≤z)) (k z.toNat)
 |_,_,_=>.fail
def E2(t:ao1)(x:aoP)(lo hi mx:Option aoP):EO:=match P.underlying t,x,mx with
 |some .string,.string s,none=>match lo.all fl&&hi.all fl with
  |true=>Ar 0 lo fun l=>Ar s.size hi fun h=>eG (apf h s.size) (eG (apf l h) (kH (.string (s.extract l h)) []))
  |false=>.fail
 |_,_,_=>.fail
theorem LW{d:Nat}{o:Option aoP}{k:Nat→EO}{a:bq×List Nat}(h:(Ar d o k).Has a):∃n,(k n).Has a∧((o=none∧n=d)∨∃ik z,o=some (.int ik z)∧0≤z∧n=z.toNat):=by
 unfold Ar at h
 split at h
 ·exact⟨_,h,.inl ⟨rfl,rfl⟩⟩
 ·rename_i ik z
  obtain⟨h1,h⟩:=eI h
  exact⟨_,h,.inr ⟨ik,z,rfl,by simpa using h1,rfl⟩⟩
 ·cases h
theorem As{ik:IntKind}{z:Int}{y:Nat}{code:BoundsCode}(h0:0≤z)(h1:z.toNat≤y):gE P (ar2 (.int ik z) y code)=some (.ok z.toNat):=by
 unfold ar2
 refine(nQ (a:=(ik,z)) rfl).trans ?_
 have:0≤z∧z≤(y:Int):=⟨h0,by omega⟩
 simp only[this,and_self,if_true]
 rfl
theorem WE{t:ao1}{x:aoP}{lo hi mx:Option aoP}{out:bq}{l:List Nat}{g:Nat→Option ak}(h:(E2 P t x lo hi mx).Has (out,l)):(rl P t x lo hi mx).run g=some (out,l):=by
 unfold E2 at h
 split at h
 ·rename_i s ht
  split at h
  ·rename_i fQ
   obtain⟨n1,h,kJ⟩:=LW h
   obtain⟨n2,h,mo⟩:=LW h
   obtain⟨h2,h⟩:=eI h
   obtain⟨h1,h⟩:=eI h
   obtain⟨rfl,rfl⟩:=kZ h
   have h1:=apk h1
   have h2:=apk h2
   unfold rl
   have rL:fl (.string s)=true:=rfl
   rw[rL]
   dsimp only
   rw[fQ]
   have hr:gE P (aq3 t (.string s) lo hi none)=some (.ok (.string (s.extract n1 n2))):=by
    unfold aq3
    refine(nQ (E0 P ht)).trans ?_
    dsimp only
    unfold Instr.slice
    refine(nQ (E0 P ht)).trans ?_
    dsimp only
    refine(nQ (a:=(n1,n2,s.size)) ?_).trans rfl
    rcases mo with⟨rfl,rfl⟩|⟨ik,z,rfl,hz,rfl⟩<;>rcases kJ with⟨rfl,rfl⟩|⟨WG,z',rfl,qi,rfl⟩
    ·rfl
    ·exact(nQ (f:=fun l=>pure (l,s.size,s.size)) (As P qi h1)).trans rfl
    ·exact(nQ (f:=fun h=>pure (0,h,s.size)) (As P hz h2)).trans rfl
    ·exact(nQ (f:=fun h=>(ar2 (.int WG z') h .sliceB).bind fun l=>pure (l,h,s.size)) (As P hz h2)).trans ((nQ (f:=fun l=>pure (l,z.toNat,s.size)) (As P qi h1)).trans rfl)
   show(kr P _).run g=_
   unfold kr
   have eL:gE P (do let v ←aq3 t (.string s) lo hi none;pure (ap4 v))=some (.ok (.value (.string (s.extract n1 n2)))):=nQ hr
   rw[eL]
   rfl
  ·cases h
 ·cases h
def E3(g:Nat→Option ak)(argTypes:List ao1)(args:List aoP):EO:=match argTypes,args with
 |t::_,x::_=>match P.underlying t,x with
  |some (.slice el),.slice (some ⟨b,off,none⟩) k _=>.ask (ao6 k 0) fun d=>match d with
   |true=>kH (.tuple #[]) []
   |false=>match b7 P el,zeroOf P el,g b with
    |some size,some z,some (.cells c ce false)=>eG (apf (off+k*size) c.length) (match fl z&&ao6 z.cells.size size&&z.cells.toList.all apR with
     |true=>.done (⟨.val (.tuple #[]),[(b,.cells (bf c off (fg z.cells.toList k)) ce false)],none⟩,[b])
     |false=>.fail)
    |_,_,_=>.fail
  |_,_=>.fail
 |_,_=>.fail
theorem WH{argTypes:List ao1}{args:List aoP}{out:bq}{l:List Nat}{g:Nat→Option ak}(h:(E3 P g argTypes args).Has (out,l)):(w5 P argTypes args).run g=some (out,l):=by
 unfold E3 at h
 unfold w5
 split at h
 ·rename_i t _ x _
  dsimp only
  split at h
  ·rename_i el b off k cap ht
   have h:=DT.oM h
   rw[ht]
   cases k with
   |zero=>
    obtain⟨rfl,rfl⟩:=kZ h
    rfl
   |succ k=>
    have hk:ao6 (k+1) 0=false:=rfl
    rw[hk]at h
    dsimp only at h
    show(match b7 P el,zeroOf P el with
     |some size,some z=>Rd.read b fun
      | .cells c ce false=>match fl z&&ao6 z.cells.size size&&apf (off+(k+1)*size) c.length&&z.cells.toList.all apR with
       |true=>.done ⟨.val (.tuple #[]),[(b,.cells (bf c off (fg z.cells.toList (k+1))) ce false)],none⟩
       |false=>.fail
      |_=>.fail
     |_,_=>.fail:Rd bq).run g=_
    split at h
    ·rename_i size z c ce hs hz hg
     obtain⟨hb,h⟩:=eI h
     split at h
     ·rename_i hf
      rw[hs,hz]
      simp only[Rd.run,hg]
      simp only[ao3]at hf
      obtain⟨⟨f1,f2⟩,f3⟩:=hf
      rw[f1,f2,hb,f3]
      cases DT.cC h
      rfl
     ·cases h
    ·cases h
  ·cases h
 ·cases h
def xV(es:List apl)(k:aoP):Bool:=match fm k es 0 with
 |some none=>true
 |_=>false
def vn(es:List apl)(k:aoP):Bool:=(fm k es 0).isSome
def oO(es:List apl)(k:aoP):List apl:=match fm k es 0 with
 |some (some (i,_))=>es.eraseIdx i
 |_=>es
def E4(g:Nat→Option ak)(t:ao1)(x k v:aoP):EO:=match P.underlying t with
 |some (.map kt _)=>match pf P kt k,x with
  |true,.map (some r)=>match g r with
   |some (.map es clock)=>eG (xV es k) (.done (⟨.skip,[(r,.map (es++[{key:=k,val:=v,born:=clock}]) (clock+1))],none⟩,[r]))
   |_=>.fail
  |_,_=>.fail
 |_=>.fail
theorem WI{g:Nat→Option ak}{t:ao1}{x k v:aoP}{out:bq}{l:List Nat}(h:(E4 P g t x k v).Has (out,l)):(wY P t x k v).run g=some (out,l):=by
 unfold E4 at h
 unfold wY
 split at h
 ·rename_i kt _ ht
  rw[ht]
  split at h
  ·rename_i r hk
   simp only[hk]
   split at h
   ·rename_i es clock hg
    obtain⟨h1,h⟩:=eI h
    have:=DT.cC h
    cases this
    unfold xV at h1
    split at h1
    ·rename_i hf
     simp only[Rd.run,hg,hf]
    ·cases h1
   ·cases h
  ·cases h
 ·cases h
def E5(g:Nat→Option ak)(argTypes:List ao1)(args:List aoP):EO:=match argTypes,args with
 |t::_,.map (some r)::k::_=>match P.underlying t with
  |some (.map kt _)=>match pf P kt k with
   |true=>match g r with
    |some (.map es clock)=>eG (vn es k) (.done (⟨.val (.tuple #[]),[(r,.map (oO es k) clock)],none⟩,[r]))
    |_=>.fail
   |false=>.fail
  |_=>.fail
 |_,_=>.fail
theorem WJ{g:Nat→Option ak}{argTypes:List ao1}{args:List aoP}{out:bq}{l:List Nat}(h:(E5 P g argTypes args).Has (out,l)):(wZ P argTypes args).run g=some (out,l):=by
 unfold E5 at h
 unfold wZ
 split at h
 ·rename_i t _ r k _
  dsimp only
  split at h
  ·rename_i kt _ ht
   rw[ht]
   dsimp only
   split at h
   ·rename_i hk
    rw[hk]
    dsimp only
    split at h
    ·rename_i es clock hg
     obtain⟨h1,h⟩:=eI h
     have:=DT.cC h
     cases this
     unfold vn at h1
     cases hf:fm k es 0 with
     |none=>rw[hf]at h1;cases h1
     |some f=>
      cases f with
      |none=>simp only[Rd.run,hg,hf,oO]
      |some p=>simp only[Rd.run,hg,hf,oO]
    ·cases h
   ·cases h
  ·cases h
 ·cases h
def LX(g:Nat→Option ak)(x:aoP):Bool:=match x with
 | .map (some r)=>match g r with
  |some (.map es _)=>ao6 es.length es.length
  |_=>true
 |_=>true
def WK(g:Nat→Option ak)(e:aqo→aoP)(c:Call):Bool:=match c.callee with
 | .builtin .delete=>match c.args.toList.map e with
  |x::_=>LX g x
  |_=>true
 |_=>true
def fS(e:aqo→aoP)(g:Nat→Option ak)(c:Call)(n:Nat):EO:=match c.callee with
 | .builtin .append=>EX P g c.argTypes.toList (c.args.toList.map e) n
 | .builtin .clear=>E3 P g c.argTypes.toList (c.args.toList.map e)
 | .builtin .delete=>E5 P g c.argTypes.toList (c.args.toList.map e)
 |_=>.fail
def LY(l:List aoP):Bool:=match l with
 |v::w::_=>(match v with
  | .slice _ n c=>ao6 n n&&ao6 c c
  |_=>true)&&(match w with
  | .slice _ n _=>ao6 n n
  | .string s=>ao6 s.size s.size
  |_=>true)
 |_=>true
def WL(e:aqo→aoP)(c:Call):Bool:=match c.callee with
 | .builtin .append=>LY (c.args.toList.map e)
 | .builtin .clear=>LY (c.args.toList.map e++[.nilFunc])
 |_=>true
def WM(op:aty)(a b:aoP):Option Bool:=match op,a,b with
 | .quo,.int _ _,.int _ y=>some (decide (y=y))
 | .rem,.int _ _,.int _ y=>some (decide (y=y))
 | .add,.string x,.string y=>some (ao6 (x.size+y.size) (x.size+y.size))
 |_,_,_=>none
def LZ:aoP→Nat
 | .pointer (some ⟨_,off,_⟩)=>off
 |_=>0
def isClosed(n:Nat):Bool:=ao6 n n
def vo:aoP→Bool
 | .int _ z=>decide (z=z)
 |_=>true
def L0:aoP→Bool
 | .slice _ n c=>ao6 n n&&ao6 c c
 |_=>true
def WN(g:Nat→Option ak):aoP→Bool
 | .slice (some ⟨b,off,_⟩) len _=>match g b with
  |some (.cells c _ _)=>((cut c off len).bind bytesOf).isSome
  |_=>true
 |_=>true
def E6(op:aty)(a b:aoP):Option (Nat×Bool):=match op,a,b with
 | .eql,.slice (some _) _ c,.slice none 0 0=>some (c,false)
 | .neq,.slice (some _) _ c,.slice none 0 0=>some (c,true)
 |_,_,_=>none
def E7(t:ao1)(c:Nat)(r:Bool):EO:=match P.underlying t with
 |some (.slice _)=>eG (ao9 0 c) (kH (.bool r) [])
 |_=>.fail
theorem WO{op:aty}{t:ao1}{x y:aqo}{a b:aoP}{c:Nat}{r:Bool}{out:bq}{l:List Nat}{g:Nat→Option ak}(hl:E6 op a b=some (c,r))(h:(E7 P t c r).Has (out,l)):
 (ta P op t x y a b).run g=some (out,l):=by
 unfold E7 at h
 split at h
 ·rename_i el ht
  obtain⟨hc,h⟩:=eI h
  obtain⟨rfl,rfl⟩:=kZ h
  unfold E6 at hl
  split at hl
  ·cases hl
   unfold ta
   have:fl (.slice (some ‹Addr›) ‹Nat› c)=false:=rfl
   rw[this]
   simp only[asp,uU,ht,zl,hc]
   rfl
  ·cases hl
   unfold ta
   have:fl (.slice (some ‹Addr›) ‹Nat› c)=false:=rfl
   rw[this]
   simp only[asp,uU,ht,zl,hc]
   rfl
  ·cases hl
 ·cases h
def L4(g:Nat→Option ak)(v:aoP):Bool:=match v with
 | .pointer (some ⟨b,off,none⟩)=>match g b with
  |some (.cells c _ _)=>match c[off]?with
   |some _=>true
   |none=>true
  |_=>true
 |_=>true
def E8(t:Fr)(S:VS)(o:apS):EO:=match o.op with
 | .pick c a b=>ET (bR t c) (bR t a) (bR t b)
 | .load ty a=>.fC (isClosed (LZ (bR t a))&&L4 (gt S.mem) (bR t a)) (DT.fP ((ev P (bR t) S.next o).run (gt S.mem))) (match og P ty with
  |some true=>EM P (gt S.mem) ty (bR t a)
  |_=>EJ P (gt S.mem) ty (bR t a))
 | .store ty a x=>.fC (isClosed (LZ (bR t a))&&L4 (gt S.mem) (bR t a)) (DT.fP ((ev P (bR t) S.next o).run (gt S.mem))) (match rowOf P (gt S.mem) ty (bR t a)with
  |true=>EP P (gt S.mem) ty (bR t a) (bR t x)
  |false=>EQ P (gt S.mem) ty (bR t a) (bR t x))
 | .index ty x i=>match bR t x with
  | .string s=>.fC (vo (bR t i)&&ao6 s.size s.size) (DT.fP ((ev P (bR t) S.next o).run (gt S.mem))) (E1 P ty (bR t x) (bR t i))
  |_=>DT.fP ((ev P (bR t) S.next o).run (gt S.mem))
 | .binOp op ty x y _=>match WM op (bR t x) (bR t y)with
  |some p=>.fC p (DT.fP ((ev P (bR t) S.next o).run (gt S.mem))) (EY op (bR t x) (bR t y))
  |none=>match E6 op (bR t x) (bR t y)with
   |some (c,r)=>.fC (isClosed c) (DT.fP ((ev P (bR t) S.next o).run (gt S.mem))) (E7 P ty c r)
   |none=>DT.fP ((ev P (bR t) S.next o).run (gt S.mem))
 | .indexAddr ty x i=>.fC (vo (bR t i)&&L0 (bR t x)) (DT.fP ((ev P (bR t) S.next o).run (gt S.mem))) (EH P ty (bR t x) (bR t i))
 | .convert src dst x=>.fC (WN (gt S.mem) (bR t x)) (DT.fP ((ev P (bR t) S.next o).run (gt S.mem))) (ER P (gt S.mem) src dst (bR t x))
 | .slice ty x lo hi mx=>match bR t x with
  | .string s=>.fC (ao6 s.size s.size&&(lo.map (bR t)).all vo&&(hi.map (bR t)).all vo) (DT.fP ((ev P (bR t) S.next o).run (gt S.mem))) (E2 P ty (bR t x) (lo.map (bR t)) (hi.map (bR t)) (mx.map (bR t)))
  |_=>.fC (L0 (bR t x)&&(lo.map (bR t)).all vo&&(hi.map (bR t)).all vo) (DT.fP ((ev P (bR t) S.next o).run (gt S.mem))) (ES P (gt S.mem) ty (bR t x) (lo.map (bR t)) (hi.map (bR t)) (mx.map (bR t)))
 | .mapUpdate ty m k x=>.fC (LX (gt S.mem) (bR t m)) (DT.fP ((ev P (bR t) S.next o).run (gt S.mem))) (E4 P (gt S.mem) ty (bR t m) (bR t k) (bR t x))
 | .call c=>.fC (WL (bR t) c&&WK (gt S.mem) (bR t) c) (DT.fP ((ev P (bR t) S.next o).run (gt S.mem))) (fS P (bR t) (gt S.mem) c S.next)
 |_=>DT.fP ((ev P (bR t) S.next o).run (gt S.mem))
theorem WQ{e:aqo→aoP}{g:Nat→Option ak}{c:Call}{ty:ao1}{n:Nat}{out:bq}{l:List Nat}(h:(fS P e g c n).Has (out,l)):(rk P c e ty n).run g=some (out,l):=by
 unfold fS at h
 split at h
 ·rename_i hc
  have:=WB P h
  unfold rk
  rw[hc]
  exact this
 ·rename_i hc
  have:=WH P h
  unfold rk
  rw[hc]
  exact this
 ·rename_i hc
  have:=WJ P h
  unfold rk
  rw[hc]
  exact this
 ·cases h
theorem WS{t:Fr}{S:VS}{o:apS}{out:bq}{l:List Nat}(h:(E8 P t S o).Has (out,l)):(ev P (bR t) S.next o).run (gt S.mem)=some (out,l):=by
 unfold E8 at h
 obtain⟨dst,op,type,pos,after,guard⟩:=o
 dsimp only at h
 split at h
 ·exact Wx h
 ·rcases DT.nP h with h|h
  ·exact DT.ib h
  ·split at h
   ·exact Wn P h
   ·exact Wk P h
 ·rcases DT.nP h with h|h
  ·exact DT.ib h
  ·split at h
   ·exact Wp P h
   ·exact Wt P h
 ·split at h
  ·rcases DT.nP h with h|h
   ·exact DT.ib h
   ·exact WD P h
  ·exact DT.ib h
 ·split at h
  ·rcases DT.nP h with h|h
   ·exact DT.ib h
   ·exact WC P h
  ·split at h
   ·rename_i Au
    rcases DT.nP h with h|h
    ·exact DT.ib h
    ·exact WO P Au h
   ·exact DT.ib h
 ·rcases DT.nP h with h|h
  ·exact DT.ib h
  ·exact Wi P h
 ·rcases DT.nP h with h|h
  ·exact DT.ib h
  ·exact Wv P h
 ·split at h
  ·rcases DT.nP h with h|h
   ·exact DT.ib h
   ·exact WE P h
  ·rcases DT.nP h with h|h
   ·exact DT.ib h
   ·exact Ww P h
 ·rcases DT.nP h with h|h
  ·exact DT.ib h
  ·exact WI P h
 ·rcases DT.nP h with h|h
  ·exact DT.ib h
  ·exact WQ P h
 ·exact DT.ib h
def Av(t:Fr)(S:VS)(o:apS):DT (j3×VS):=match lz P t S o with
 |some V=>match o.op.operands.toList.all pd,V.i with
  |true,.int _ z=>eG (decide (0≤z)) (eG (ao9 z.toNat V.n) (eG (ao9 z.toNat V.len) (DT.fP (xa S V.b V.el (V.row z.toNat)))))
  |_,_=>.fail
 |none=>match o.op.operands.toList.all pd with
  |false=>.fail
  |true=>(E8 P t S o).bind fun p=>DT.fP (zr S p.2 p.1)
theorem L5{t:Fr}{S:VS}{o:apS}{r:j3×VS}(h:(Av P t S o).Has r):jt P t S o=some r:=by
 unfold Av at h
 unfold jt
 split at h
 ·rename_i V hV
  rw[hV]
  dsimp only
  split at h
  ·rename_i ik z cX hi
   obtain⟨h1,h⟩:=eI h
   obtain⟨h2,h⟩:=eI h
   obtain⟨h3,h⟩:=eI h
   rw[cX,hi,Ao h1]
   dsimp only
   rw[h2,h3]
   exact DT.ib h
  ·cases h
 ·rename_i hV
  rw[hV]
  dsimp only
  unfold nG
  split at h
  ·cases h
  ·rename_i cX
   obtain⟨p,h1,h2⟩:=DT.fz h
   obtain⟨out,l⟩:=p
   have:=WS P h1
   simp only[cX,this]
   exact DT.ib h2
abbrev fD:=apr→List aoP→VS→DT (bO×VS)
def E9{α:Type}(ops:List apS)(o:apS)(t:Fr)(k:Bool→DT α):DT α:=match o.guard with
 |none=>k true
 |some (j,want)=>match(ops[j]?).bind (·.dst)with
  |some d=>match t.at d with
   | .bool b=>.ask b fun b=>match b,want with
    |true,true=>k true
    |false,false=>k true
    |_,_=>k false
   |_=>k false
  |none=>k false
theorem WT{α:Type}{ops:List apS}{o:apS}{t:Fr}{k:Bool→DT α}{a:α}(h:(E9 ops o t k).Has a):(k (aqt o (lB ops t))).Has a:=by
 unfold E9 at h
 unfold aqt lB
 split at h
 ·rename_i hg;simp only[hg];exact h
 ·rename_i j want hg
  simp only[hg]
  split at h
  ·rename_i d hd
   simp only[hd]
   split at h
   ·rename_i b hb
    have h:=DT.oM h
    simp only[hb]
    cases b<;>cases want<;>exact h
   ·rename_i bu
    cases hv:t.at d with
    |bool b=>exact absurd hv (bu b)
    |_=>simpa using h
  ·rename_i hd
   simp only[hd]
   simpa using h
def Aw(call:fD)(ops:List apS)(o:apS)(t:Fr)(S:VS):DT (Option aoP×Fr×VS):=
 E9 ops o t fun w=>match w with
  |false=>DT.fP ((put t o.dst undef).map fun t1=>(none,t1,S))
  |true=>(Av P t S o).bind fun p=>match p.1 with
   | .val v=>DT.fP ((put t o.dst v).map fun t1=>(none,t1,p.2))
   | .skip=>DT.fP ((put t o.dst undef).map fun t1=>(none,t1,p.2))
   | .panic v=>.done (some v,t,p.2)
   | .defer _=>.fail
   | .enter f args=>(call f args p.2).bind fun q=>match q.1 with
    | .ret v=>DT.fP ((put t o.dst v).map fun t1=>(none,t1,q.2))
    | .panic v=>.done (some v,t,q.2)
theorem L6{fS:fD}{call:cL}(hc:∀f args S r,(fS f args S).Has r→call f args S=some r){ops:List apS}{o:apS}{t:Fr}{S:VS}{r:Option aoP×Fr×VS}
 (h:(Aw P fS ops o t S).Has r):kv P call ops o t S=some r:=by
 unfold Aw at h
 have h:=WT h
 unfold kv
 cases hw:aqt o (lB ops t)with
 |false=>rw[hw]at h;exact DT.ib h
 |true=>
  rw[hw]at h
  dsimp only at h⊢
  obtain⟨p,h1,h2⟩:=DT.fz h
  obtain⟨r1,S1⟩:=p
  rw[L5 P h1]
  dsimp only at h2⊢
  cases r1 with
  |val v=>exact DT.ib h2
  |skip=>exact DT.ib h2
  |panic v=>rw[DT.cC h2]
  |defer d=>cases h2
  |enter f args=>
   dsimp only at h2⊢
   obtain⟨q,h3,h4⟩:=DT.fz h2
   obtain⟨cr,S2⟩:=q
   rw[hc _ _ _ _ h3]
   cases cr with
   |ret v=>exact DT.ib h4
   |panic v=>rw[DT.cC h4]
def xW(call:fD)(df:Bool)(ops:List apS):List apS→Fr→VS→DT (bj×Fr×VS)
 | [],t,S=>.done (.normal,t,S)
 |o::rest,t,S=>match xc o with
  |some c=>match df with
   |true=>match zt P t o c with
    |some t1=>xW call df ops rest t1 S
    |none=>.fail
   |false=>.fail
  |none=>(Aw P call ops o t S).bind fun p=>match p.1 with
   |some v=>.done (.panic v,p.2.1,p.2.2)
   |none=>xW call df ops rest p.2.1 p.2.2
theorem Fa{fS:fD}{call:cL}(hc:∀f args S r,(fS f args S).Has r→call f args S=some r){df:Bool}{ops:List apS}:∀{rest:List apS} {t:Fr} {S:VS} {r:bj×Fr×VS},
 (xW P fS df ops rest t S).Has r→opsV P call df ops rest t S=some r
 | [],t,S,r,h=>by rw[DT.cC h];rfl
 |o::rest,t,S,r,h=>by
  unfold xW at h
  unfold opsV
  split at h
  ·rename_i c hd
   rw[hd]
   dsimp only
   split at h
   ·split at h
    ·rename_i t1 Ep
     rw[Ep]
     exact Fa hc h
    ·cases h
   ·cases h
  ·rename_i hd
   rw[hd]
   dsimp only
   obtain⟨p,h1,h2⟩:=DT.fz h
   obtain⟨ov,t1,S1⟩:=p
   rw[L6 P hc h1]
   cases ov with
   |some v=>rw[DT.cC h2]
   |none=>exact Fa hc h2
def Ax(call:fD)(ops:List apS):List apS→Fr→VS→DT (Fr×VS×List Fp)
 | [],t,S=>.done (t,S,[])
 |o::rest,t,S=>(Aw P call ops o t {S with rd:=[],wr:=[]}).bind fun p=>match p.1 with
  |some _=>.fail
  |none=>(Ax call ops rest p.2.1 {p.2.2 with rd:=p.2.2.rd++S.rd,wr:=p.2.2.wr++S.wr}).bind fun q=>.done (q.1,q.2.1,⟨p.2.2.rd,p.2.2.wr⟩::q.2.2)
theorem L7{fS:fD}{call:cL}(hc:∀f args S r,(fS f args S).Has r→call f args S=some r){ops:List apS}:∀{rest:List apS} {t:Fr} {S:VS} {r:Fr×VS×List Fp},
 (Ax P fS ops rest t S).Has r→kw P call ops rest t S=some r
 | [],t,S,r,h=>by rw[DT.cC h];rfl
 |o::rest,t,S,r,h=>by
  unfold Ax at h
  obtain⟨p,h1,h2⟩:=DT.fz h
  obtain⟨ov,t1,S1⟩:=p
  unfold kw
  rw[L6 P hc h1]
  cases ov with
  |some v=>cases h2
  |none=>
   dsimp only at h2⊢
   obtain⟨q,h3,h4⟩:=DT.fz h2
   obtain⟨t2,S2,gp⟩:=q
   rw[L7 hc h3,DT.cC h4]
def Ay(f:Fr→VS→DT (bj×Fr×VS)):Nat→Fr→VS→DT (bj×Fr×VS)
 |0,_,_=>.fail
 |k+1,t,S=>(f t S).bind fun p=>match p.1 with
  | .normal=>Ay f k p.2.1 p.2.2
  |_=>.done p
theorem L8{f:Fr→VS→DT (bj×Fr×VS)}{f':Fr→VS→Option (bj×Fr×VS)}(hf:∀t S r,(f t S).Has r→f' t S=some r):∀{k:Nat} {t:Fr} {S:VS} {r:bj×Fr×VS},
 (Ay f k t S).Has r→iter f' k t S=some r
 |0,t,S,r,h=>by cases h
 |k+1,t,S,r,h=>by
  unfold Ay at h
  obtain⟨p,h1,h2⟩:=DT.fz h
  obtain⟨e,t1,S1⟩:=p
  unfold iter
  rw[hf _ _ _ h1]
  cases e with
  |normal=>exact L8 hf h2
  |exit id=>rw[DT.cC h2]
  |ret=>rw[DT.cC h2]
  |panic v=>rw[DT.cC h2]
def jo(call:fD)(lf:Nat)(df:Bool):apw→Fr→VS→DT (bj×Fr×VS)
 | .skip,t,S=>.done (.normal,t,S)
 | .region _ ops false,t,S=>xW P call df ops.toList ops.toList t S
 | .region _ ops true,t,S=>(Ax P call ops.toList ops.toList t S).bind fun q=>match tc ops q.2.2 with
  |true=>.done (.normal,q.1,q.2.1)
  |false=>.fail
 | .seq a b,t,S=>(jo call lf df a t S).bind fun p=>match p.1 with
  | .normal=>jo call lf df b p.2.1 p.2.2
  |_=>.done p
 | .cond c a b,t,S=>match bR t c with
  | .bool d=>.ask d fun d=>match d with
   |true=>jo call lf df a t S
   |false=>jo call lf df b t S
  |_=>.fail
 | .block id c,t,S=>(jo call lf df c t S).bind fun p=>match p.1 with
  | .exit j=>match ao6 j id with
   |true=>.done (.normal,p.2.1,p.2.2)
   |false=>.done p
  |_=>.done p
 | .loop c,t,S=>Ay (jo call lf df c) lf t S
 | .exit id,t,S=>.done (.exit id,t,S)
 | .ret,t,S=>.done (.ret,t,S)
 | .scope c,t,S=>jo call lf df c t S
 | .label _,t,S=>.done (.normal,t,S)
 |_,_,_=>.fail
theorem Az{fS:fD}{call:cL}(hc:∀f args S r,(fS f args S).Has r→call f args S=some r)(lf:Nat){df:Bool}:∀{c:apw} {t:Fr} {S:VS} {r:bj×Fr×VS},
 (jo P fS lf df c t S).Has r→di P call lf df c t S=some r:=by
 intro c
 induction c with
 |skip=>intro t S r h;rw[DT.cC h];rfl
 |region id ops draw=>
  intro t S r h
  cases draw with
  |false=>exact Fa P hc h
  |true=>
   simp only[jo]at h
   obtain⟨q,h1,h2⟩:=DT.fz h
   obtain⟨t1,S1,gp⟩:=q
   simp only[di]
   rw[L7 P hc h1]
   dsimp only at h2⊢
   split at h2
   ·rename_i hk;rw[DT.cC h2,hk]
   ·cases h2
 |seq a b iQ kY=>
  intro t S r h
  simp only[jo]at h
  obtain⟨p,h1,h2⟩:=DT.fz h
  obtain⟨e,t1,S1⟩:=p
  simp only[di]
  rw[iQ h1]
  cases e with
  |normal=>exact kY h2
  |exit id=>rw[DT.cC h2]
  |ret=>rw[DT.cC h2]
  |panic v=>rw[DT.cC h2]
 |cond c a b iQ kY=>
  intro t S r h
  simp only[jo]at h
  simp only[di]
  split at h
  ·rename_i d hd
   have h:=DT.oM h
   rw[hd]
   cases d with
   |true=>exact iQ h
   |false=>exact kY h
  ·cases h
 |block id c ih=>
  intro t S r h
  simp only[jo]at h
  obtain⟨p,h1,h2⟩:=DT.fz h
  obtain⟨e,t1,S1⟩:=p
  simp only[di]
  rw[ih h1]
  cases e with
  |normal=>rw[DT.cC h2]
  |exit j=>
   dsimp only at h2⊢
   split at h2
   ·rename_i hj;rw[DT.cC h2,hj]
   ·rename_i hj;rw[DT.cC h2,hj]
  |ret=>rw[DT.cC h2]
  |panic v=>rw[DT.cC h2]
 |loop c ih=>
  intro t S r h
  simp only[jo]at h
  exact L8 (fun t S r h=>ih h) h
 |exit id=>intro t S r h;rw[DT.cC h];rfl
 |ret=>intro t S r h;rw[DT.cC h];rfl
 |scope c ih=>intro t S r h;simp only[jo]at h;exact ih h
 |label l=>intro t S r h;rw[DT.cC h];rfl
 |_=>intro t S r h;simp[jo]at h;cases h
def AA:List apS→Fr→VS→DT (Fr×VS)
 | [],t,S=>.done (t,S)
 |o::rest,t,S=>match o.guard with
  |some _=>.fail
  |none=>(Av P t S o).bind fun p=>match p.1 with
   | .val v=>(DT.fP (put t o.dst v)).bind fun t1=>AA rest t1 p.2
   |_=>.fail
theorem L9:∀{rest:List apS} {t:Fr} {S:VS} {r:Fr×VS},(AA P rest t S).Has r→ph P rest t S=some r
 | [],t,S,r,h=>by rw[DT.cC h];rfl
 |o::rest,t,S,r,h=>by
  unfold AA at h
  unfold ph
  split at h
  ·cases h
  ·rename_i hg
   rw[hg]
   dsimp only
   obtain⟨p,h1,h2⟩:=DT.fz h
   obtain⟨v,S1⟩:=p
   rw[L5 P h1]
   cases v with
   |val v=>
    obtain⟨t1,h3,h4⟩:=DT.fz h2
    dsimp only
    rw[DT.ib h3]
    exact L9 h4
   |_=>cases h2
def tE(call:fD)(lf:Nat)(md:Md):apw→Fr→VS→DT (Md×bj×Fr×VS)
 | .seq a b,t,S=>(tE call lf md a t S).bind fun p=>match p.2.1 with
  | .normal=>(jo P call lf false b p.2.2.1 p.2.2.2).bind fun q=>.done (p.1,q.1,q.2.1,q.2.2)
  |_=>.done p
 | .region id ops false,t,S=>match ops.toList with
  |o::rest=>match Dc o with
   |true=>(DT.fP (put t o.dst (J7 md))).bind fun t1=>(AA P rest t1 S).bind fun q=>.done (.ret,.normal,q.1,q.2)
   |false=>(jo P call lf false (.region id ops false) t S).bind fun q=>.done (md,q.1,q.2.1,q.2.2)
  | []=>.fail
 |c,t,S=>(jo P call lf false c t S).bind fun q=>.done (md,q.1,q.2.1,q.2.2)
theorem WU{fS:fD}{call:cL}(hc:∀f args S r,(fS f args S).Has r→call f args S=some r){lf:Nat}{md:Md}:∀{c:apw} {t:Fr} {S:VS} {r:Md×bj×Fr×VS},
 (tE P fS lf md c t S).Has r→j4 P call lf md c t S=some r:=by
 intro c
 have oK:∀{c:apw} {t:Fr} {S:VS} {r:Md×bj×Fr×VS},((jo P fS lf false c t S).bind fun q=>DT.done (md,q.1,q.2.1,q.2.2)).Has r→(di P call lf false c t S).map (fun r=>(md,r))=some r:=by
  intro c t S r h
  obtain⟨q,h1,h2⟩:=DT.fz h
  rw[Az P hc lf h1,DT.cC h2]
  rfl
 induction c with
 |seq a b iQ kY=>
  intro t S r h
  unfold tE at h
  unfold j4
  obtain⟨p,h1,h2⟩:=DT.fz h
  obtain⟨fB,e,t1,S1⟩:=p
  rw[iQ h1]
  cases e with
  |normal=>
   obtain⟨q,h3,h4⟩:=DT.fz h2
   dsimp only
   rw[Az P hc lf h3,DT.cC h4]
   rfl
  |exit id=>rw[DT.cC h2]
  |ret=>rw[DT.cC h2]
  |panic v=>rw[DT.cC h2]
 |region id ops draw=>
  intro t S r h
  cases draw with
  |true=>unfold tE at h;unfold j4;exact oK h
  |false=>
   unfold tE at h
   unfold j4
   split at h
   ·rename_i o rest mv
    rw[mv]
    dsimp only
    split at h
    ·rename_i lH
     rw[lH]
     dsimp only
     obtain⟨t1,h1,h2⟩:=DT.fz h
     obtain⟨q,h3,h4⟩:=DT.fz h2
     rw[DT.ib h1]
     dsimp only
     rw[L9 P h3,DT.cC h4]
    ·rename_i lH
     rw[lH]
     dsimp only
     exact oK h
   ·cases h
 |_=>intro t S r h;unfold tE at h;unfold j4;exact oK h
def Fb(call:fD)(lf:Nat)(md:Md)(k:apr)(args:List aoP)(S:VS):DT (Md×VS):=match P.funcs[k]?with
 |none=>.fail
 |some fn=>match fn.body with
  |none=>.fail
  |some c=>match Fr.of args fn.ntmps with
   |none=>.fail
   |some t0=>(tE P call lf md c t0 S).bind fun p=>match p.2.1,p.2.2.1.ds,p.2.2.1.base with
    | .normal,[],[]=>(DT.fP (ol P p.2.2.1 fn p.2.2.2)).bind fun q=>.done (p.1,q.2)
    | .ret,[],[]=>(DT.fP (ol P p.2.2.1 fn p.2.2.2)).bind fun q=>.done (p.1,q.2)
    |_,_,_=>.fail
theorem WV{fS:fD}{call:cL}(hc:∀f args S r,(fS f args S).Has r→call f args S=some r){lf:Nat}{md:Md}{k:apr}{args:List aoP}{S:VS}{r:Md×VS}
 (h:(Fb P fS lf md k args S).Has r):td P call lf md k args S=some r:=by
 unfold Fb at h
 unfold td
 split at h
 ·cases h
 ·rename_i fn gH
  rw[gH]
  dsimp only
  split at h
  ·cases h
  ·rename_i c hb
   rw[hb]
   dsimp only
   split at h
   ·cases h
   ·rename_i t0 lI
    rw[lI]
    dsimp only
    obtain⟨p,h1,h2⟩:=DT.fz h
    obtain⟨fB,e,t1,S1⟩:=p
    rw[WU P hc h1]
    dsimp only at h2⊢
    split at h2
    ·rename_i h3 h4
     obtain⟨q,h5,h6⟩:=DT.fz h2
     rw[h3,h4]
     dsimp only
     rw[DT.ib h5,DT.cC h6]
    ·rename_i h3 h4
     obtain⟨q,h5,h6⟩:=DT.fz h2
     rw[h3,h4]
     dsimp only
     rw[DT.ib h5,DT.cC h6]
    ·cases h2
def AB(call:fD)(lf:Nat):List (apr×List aoP)→Md→VS→DT (Md×VS)
 | [],md,S=>.done (md,S)
 |(k,args)::l,md,S=>(Fb P call lf md k args S).bind fun p=>AB call lf l p.1 p.2
theorem Ma{fS:fD}{call:cL}(hc:∀f args S r,(fS f args S).Has r→call f args S=some r){lf:Nat}:∀{ds:List (apr×List aoP)} {md:Md} {S:VS} {r:Md×VS},
 (AB P fS lf ds md S).Has r→om P call lf ds md S=some r
 | [],md,S,r,h=>by rw[DT.cC h];rfl
 |(k,args)::l,md,S,r,h=>by
  unfold AB at h
  obtain⟨p,h1,h2⟩:=DT.fz h
  unfold om
  rw[WV P hc h1]
  exact Ma hc h2
def xX(call:fD)(lf:Nat)(fn:Func)(md:Md)(t:Fr)(S:VS):DT (bO×VS):=match t.base with
 | []=>(AB P call lf t.ds md S).bind fun p=>match p.1 with
  | .ret=>DT.fP (ol P t fn p.2)
  | .mU v=>.done (.panic v,p.2)
 |_=>.fail
theorem Fc{fS:fD}{call:cL}(hc:∀f args S r,(fS f args S).Has r→call f args S=some r){lf:Nat}{fn:Func}{md:Md}{t:Fr}{S:VS}{r:bO×VS}
 (h:(xX P fS lf fn md t S).Has r):pj P call lf fn md t S=some r:=by
 unfold xX at h
 unfold pj
 split at h
 ·rename_i hb
  rw[hb]
  dsimp only
  obtain⟨p,h1,h2⟩:=DT.fz h
  obtain⟨fB,S1⟩:=p
  rw[Ma P hc h1]
  cases fB with
  |ret=>exact DT.ib h2
  |mU v=>rw[DT.cC h2]
 ·cases h
def rM(nc:fD→fD)(lf:Nat):Nat→fD
 |0,_,_,_=>.fail
 |d+1,f,args,S=>match P.funcs[f]?with
  |none=>.fail
  |some fn=>match fn.body with
   |none=>.fail
   |some c=>match Fr.of args fn.ntmps with
    |none=>.fail
    |some t0=>(jo P (nc (rM nc lf d)) lf true c t0 S).bind fun p=>match p.1 with
     | .normal=>xX P (nc (rM nc lf d)) lf fn .ret p.2.1 p.2.2
     | .ret=>xX P (nc (rM nc lf d)) lf fn .ret p.2.1 p.2.2
     | .panic v=>xX P (nc (rM nc lf d)) lf fn (.mU v) p.2.1 p.2.2
     |_=>.fail
theorem Fe{nc:fD→fD}{sp:cL→cL}(dq:∀(c:fD) (c':cL),(∀f args S r,(c f args S).Has r→c' f args S=some r)→∀f args S r,(nc c f args S).Has r→sp c' f args S=some r)(lf:Nat):
 ∀{d:Nat} {f:apr} {args:List aoP} {S:VS} {r:bO×VS},(rM P nc lf d f args S).Has r→mn P sp lf d f args S=some r
 |0,f,args,S,r,h=>by cases h
 |d+1,f,args,S,r,h=>by
  unfold rM at h
  unfold mn
  split at h
  ·cases h
  ·rename_i fn gH
   split at h
   ·cases h
   ·rename_i c hb
    split at h
    ·cases h
    ·rename_i t0 lI
     obtain⟨p,h1,h2⟩:=DT.fz h
     obtain⟨e,t1,S1⟩:=p
     have:=Az P (dq _ _ fun f args S r h=>Fe dq lf h) lf h1
     rw[gH]
     dsimp only
     rw[hb]
     dsimp only
     rw[lI]
     dsimp only
     rw[this]
     have jn:∀f args S r,(nc (rM P nc lf d) f args S).Has r→sp (mn P sp lf d) f args S=some r:=dq _ _ fun f args S r h=>Fe dq lf h
     cases e with
     |normal=>exact Fc P jn h2
     |ret=>exact Fc P jn h2
     |panic v=>exact Fc P jn h2
     |exit id=>cases h2
end
end Go.Proofs.YtnlkkgpcikkpoaaGreat.Vm
namespace Go.Proofs.YtnlkkgpcikkpoaaGreat.Vm
open Go.RowKit
def Ff(p:Nat×Nat):Nat×Nat:=if p.1=0 then(p.2+1,0)else(p.1-1,p.2+1)
def nf:Nat→Nat×Nat
 |0=>(0,0)
 |n+1=>Ff (nf n)
theorem Fg:∀(s b:Nat),b≤s→∃n,nf n=(s-b,b)
 |0,0,_=>⟨0,rfl⟩
 |s+1,0,_=>by
  obtain⟨n,h⟩:=Fg s s (apn s)
  exact⟨n+1,by simp[nf,h,Ff]⟩
 |s,b+1,hb=>by
  obtain⟨n,h⟩:=Fg s b (by omega)
  have h1:s-b≠0:=by omega
  exact⟨n+1,by simp[nf,h,Ff,h1];omega⟩
termination_by s b=>(s,b)
theorem Fh(a b:Nat):∃n,nf n=(a,b):=by
 obtain⟨n,h⟩:=Fg (a+b) b (by omega)
 exact⟨n,by rw[h];congr 1;omega⟩
def vp(n:Nat):bT:=⟨(nf (nf n).1).1,(nf (nf n).1).2,(nf (nf n).2).1,(nf (nf n).2).2⟩
theorem Mb(r:bT):∃n,vp n=r:=by
 obtain⟨a,ha⟩:=Fh r.aN r.sh
 obtain⟨b,hb⟩:=Fh r.sz r.dz
 obtain⟨n,hn⟩:=Fh a b
 exact⟨n,by simp[vp,hn,ha,hb]⟩
theorem AC(n:Nat):small (n+262144)=false:=by
 cases hs:small (n+262144)with
 |false=>rfl
 |true=>have:=gT.1 hs;omega
def Full(ρ:Ren):Prop:=∀r:bT,∃y,small y=false∧ρ y=some r
theorem xY{ρ ρ':Ren}:∀{l l':List aoP},l.length=l'.length→(∀(i:Nat) (v v':aoP),l[i]?=some v→l'[i]?=some v'→∃u,VR ρ' u v')→
 ∃lu:List aoP,LR ρ' lu l'
 | [],[],_,_=>⟨[],LR.nil _⟩
 |v::l,v'::l',hl,h=>by
  obtain⟨u,hu⟩:=h 0 v v' rfl rfl
  obtain⟨lu,xn⟩:=xY (ρ:=ρ) (ρ':=ρ') (l:=l) (l':=l') (by simpa using hl) fun i a b ha hb=>h (i+1) a b (by simpa using ha) (by simpa using hb)
  exact⟨u::lu,LR.cons hu xn⟩
 | [],_::_,hl,_=>by simp at hl
 |_::_,[],hl,_=>by simp at hl
theorem VR.WW{ρ ρ':Ren}(hm:∀x r,ρ x=some r→∃y,ρ' y=some r){v v':aoP}(h:VR ρ v v'):∃u,VR ρ' u v':=by
 induction h with
 |bM v h=>exact⟨v,.bM v h⟩
 |ptr b off r h=>obtain⟨y,hy⟩:=hm b r h;exact⟨_,.ptr y off r hy⟩
 |sl b off len cap bI r h hc=>obtain⟨y,hy⟩:=hm b r h;exact⟨_,.sl y off len cap bI r hy hc⟩
 |eD a a'=>exact⟨_,.eD a a'⟩
 |mq b off t=>exact⟨_,.mq b off t⟩
 |mV b off t len cap=>exact⟨_,.mV b off t len cap⟩
 |map b r h=>obtain⟨y,hy⟩:=hm b r h;exact⟨_,.map y r hy⟩
 |func fn f f' c c' h h1 h2 h3 h4 Dg Dh=>
  obtain⟨lf,hf⟩:=xY (ρ:=ρ) h1 Dg
  obtain⟨lc,hc⟩:=xY (ρ:=ρ) h3 Dh
  exact⟨.func fn lf.toArray lc.toArray,.func fn _ _ _ _ h (by simpa using hf.len) (by simpa using hf.at_) (by simpa using hc.len) (by simpa using hc.at_)⟩
 |iface t v v' h ih=>obtain⟨u,hu⟩:=ih;exact⟨.iface t u,.iface t u v' hu⟩
 |agg c c' h1 h2 ih=>obtain⟨lu,hu⟩:=xY (ρ:=ρ) h1 ih;exact⟨.agg lu.toArray,VR.xg (by simpa using hu)⟩
 |tuple c c' h1 h2 ih=>obtain⟨lu,hu⟩:=xY (ρ:=ρ) h1 ih;exact⟨.tuple lu.toArray,VR.Di (by simpa using hu)⟩
theorem VR.full{ρ ρ':Ren}(hf:Full ρ'){v v':aoP}(h:VR ρ v v'):∃u,VR ρ' u v':=h.WW fun x r _=>let⟨y,_,hy⟩:=hf r;⟨y,hy⟩
def eX:List Nat→Nat→Option Nat
 | [],_=>none
 |y::l,x=>match ao6 y x with
  |true=>some 0
  |false=>match eX l x with
   |some i=>some (i+1)
   |none=>none
theorem AD:∀{σ:List Nat} {x i:Nat},eX σ x=some i→σ[i]?=some x
 | [],x,i,h=>by cases h
 |y::l,x,i,h=>by
  unfold eX at h
  split at h
  ·rename_i hb
   cases h
   simp[apa hb]
  ·split at h
   ·rename_i j hj
    cases h
    simpa using AD hj
   ·cases h
def mA(f:aoP→Option aoP):List aoP→Option (List aoP)
 | []=>some []
 |v::l=>match f v,mA f l with
  |some u,some r=>some (u::r)
  |_,_=>none
def ic(τ:Nat→Option Nat):Nat→aoP→Option aoP
 |_,.pointer (some ⟨b,off,none⟩)=>match τ b with
  |some i=>some (.pointer (some ⟨i,off,none⟩))
  |none=>none
 |_,.slice (some ⟨b,off,none⟩) len cap=>match τ b with
  |some i=>some (.slice (some ⟨i,off,none⟩) len cap)
  |none=>none
 |_,.map (some b)=>match τ b with
  |some i=>some (.map (some i))
  |none=>none
 |_,.pointer (some ⟨b,off,some t⟩)=>some (.pointer (some ⟨b,off,some t⟩))
 |_,.slice (some ⟨b,off,some t⟩) len cap=>some (.slice (some ⟨b,off,some t⟩) len cap)
 |d+1,.func fn f c=>match mA (ic τ d) f.toList,mA (ic τ d) c.toList with
  |some f',some c'=>some (.func fn f'.toArray c'.toArray)
  |_,_=>none
 |d+1,.iface t v=>match ic τ d v with
  |some u=>some (.iface t u)
  |none=>none
 |d+1,.agg c=>match mA (ic τ d) c.toList with
  |some c'=>some (.agg c'.toArray)
  |none=>none
 |d+1,.tuple c=>match mA (ic τ d) c.toList with
  |some c'=>some (.tuple c'.toArray)
  |none=>none
 |_,v=>match ag v with
  |true=>some v
  |false=>none
theorem tF{ρ ρ':Ren}{f:aoP→Option aoP}(hf:∀v u v',f v=some u→VR ρ v v'→VR ρ' u v'):∀{l r l':List aoP},mA f l=some r→LR ρ l l'→LR ρ' r l'
 | [],r,l',h,hl=>by cases h;rw[hl.kx];exact LR.nil _
 |v::l,r,l',h,hl=>by
  unfold mA at h
  split at h
  ·rename_i u q hu hq
   cases h
   obtain⟨v',l2,rfl,h1,h2⟩:=hl.gG
   exact LR.cons (hf v u v' hu h1) (tF hf hq h2)
  ·cases h
theorem qF{ρ ρ':Ren}{τ:Nat→Option Nat}(hσ:∀y i r,τ y=some i→ρ y=some r→ρ' i=some r):∀(d:Nat) (v u v':aoP),ic τ d v=some u→VR ρ v v'→VR ρ' u v':=by
 intro d
 induction d with
 |zero=>
  intro v u v' h hv
  unfold ic at h
  split at h
  ·rename_i b off
   split at h
   ·rename_i i hi
    cases h
    obtain⟨r,hr,rfl⟩:=hv.ky
    exact .ptr i off r (hσ _ _ _ hi hr)
   ·cases h
  ·rename_i b off len cap
   split at h
   ·rename_i i hi
    cases h
    cases hv with
    |bM _ h=>cases h
    |sl _ _ _ _ bI r hr hc=>exact .sl i off len cap bI r (hσ _ _ _ hi hr) hc
    |eD _ a'=>exact .eD _ _
   ·cases h
  ·rename_i b
   split at h
   ·rename_i i hi
    cases h
    obtain⟨r,hr,rfl⟩:=hv.qh
    exact .map i r (hσ _ _ _ hi hr)
   ·cases h
  ·rename_i b off t
   cases h
   cases hv with
   |bM _ h=>cases h
   |mq=>exact .mq _ _ _
  ·rename_i b off t len cap
   cases h
   cases hv with
   |bM _ h=>cases h
   |eD _ a'=>exact .eD _ _
   |mV=>exact .mV _ _ _ _ _
  ·omega
  ·omega
  ·omega
  ·omega
  ·split at h
   ·rename_i hs
    cases h
    rw[VR.te hs hv]
    exact .bM _ hs
   ·cases h
 |succ d ih=>
  intro v u v' h hv
  unfold ic at h
  split at h
  ·rename_i b off
   split at h
   ·rename_i i hi
    cases h
    obtain⟨r,hr,rfl⟩:=hv.ky
    exact .ptr i off r (hσ _ _ _ hi hr)
   ·cases h
  ·rename_i b off len cap
   split at h
   ·rename_i i hi
    cases h
    cases hv with
    |bM _ h=>cases h
    |sl _ _ _ _ bI r hr hc=>exact .sl i off len cap bI r (hσ _ _ _ hi hr) hc
    |eD _ a'=>exact .eD _ _
   ·cases h
  ·rename_i b
   split at h
   ·rename_i i hi
    cases h
    obtain⟨r,hr,rfl⟩:=hv.qh
    exact .map i r (hσ _ _ _ hi hr)
   ·cases h
  ·rename_i b off t
   cases h
   cases hv with
   |bM _ h=>cases h
   |mq=>exact .mq _ _ _
  ·rename_i b off t len cap
   cases h
   cases hv with
   |bM _ h=>cases h
   |eD _ a'=>exact .eD _ _
   |mV=>exact .mV _ _ _ _ _
  ·rename_i d' fn f c hd
   obtain rfl:=ats hd
   split at h
   ·rename_i f1 c1 h1 h2
    cases h
    cases hv with
    |bM _ h=>cases h
    |func _ _ f' _ c' gH a1 a2 a3 a4=>
     have b1:=tF (fun v u v'=>ih v u v') h1 (⟨a1,a2⟩:LR ρ f.toList f'.toList)
     have b2:=tF (fun v u v'=>ih v u v') h2 (⟨a3,a4⟩:LR ρ c.toList c'.toList)
     exact .func _ _ _ _ _ gH (by simpa using b1.len) (by simpa using b1.at_) (by simpa using b2.len) (by simpa using b2.at_)
   ·cases h
  ·rename_i hd
   obtain rfl:=ats hd
   split at h
   ·rename_i u1 h1
    cases h
    obtain⟨v1,rfl,h2⟩:=hv.xh
    exact .iface _ _ _ (ih _ _ _ h1 h2)
   ·cases h
  ·rename_i hd
   obtain rfl:=ats hd
   split at h
   ·rename_i c1 h1
    cases h
    obtain⟨c',rfl,h2⟩:=hv.Dj
    exact .xg (by simpa using tF (fun v u v'=>ih v u v') h1 h2)
   ·cases h
  ·rename_i hd
   obtain rfl:=ats hd
   split at h
   ·rename_i c1 h1
    cases h
    obtain⟨c',rfl,h2⟩:=hv.Ka
    exact .Di (by simpa using tF (fun v u v'=>ih v u v') h1 h2)
   ·cases h
  ·split at h
   ·rename_i hs
    cases h
    rw[VR.te hs hv]
    exact .bM _ hs
   ·cases h
theorem tG{f:aoP→Option aoP}:∀{l r:List aoP},mA f l=some r→r.length=l.length
 | [],r,h=>by cases h;rfl
 |v::l,r,h=>by
  unfold mA at h
  split at h
  ·rename_i u q hu hq
   cases h
   simp[tG hq]
  ·cases h
def rN(σ:Nat→Option Nat):List apl→Option (List apl)
 | []=>some []
 |e::l=>match ic σ 6 e.key,ic σ 6 e.val,rN σ l with
  |some k,some v,some r=>some ({e with key:=k,val:=v}::r)
  |_,_,_=>none
def qG(τ:Nat→Option Nat):aoP→Bool
 | .pointer (some ⟨b,_,none⟩)=>match τ b with|some i=>ao6 i b|none=>false
 | .slice (some ⟨b,_,none⟩) _ _=>match τ b with|some i=>ao6 i b|none=>false
 | .pointer (some ⟨_,_,some _⟩)=>true
 | .slice (some ⟨_,_,some _⟩) _ _=>true
 |v=>ag v
theorem Mc{τ:Nat→Option Nat}{v:aoP}(h:qG τ v=true):ic τ 6 v=some v:=by
 unfold qG at h
 split at h
 ·split at h
  ·rename_i i hi
   have:=apa h
   subst this
   simp only[ic,hi]
  ·cases h
 ·split at h
  ·rename_i i hi
   have:=apa h
   subst this
   simp only[ic,hi]
  ·cases h
 ·simp only[ic]
 ·simp only[ic]
 ·unfold ag at h
  split at h<;>first|rfl|cases h
def ed(τ:Nat→Option Nat)(e:apl):aoP:=match qG τ e.key&&qG τ e.val with
 |true=>.bool true
 |false=>.tuple #[]
def bG(bs:List Nat)(es:List apl):List aoP:=es.map (ed (eX bs))
theorem Fi{τ:Nat→Option Nat}:∀{es:List apl},(es.map (ed τ)).all ag=true→rN τ es=some es
 | [],_=>rfl
 |e::l,h=>by
  simp only[apM,List.all_cons,ao3]at h
  have h1:(qG τ e.key&&qG τ e.val)=true:=by
   have:=h.1
   unfold ed at this
   split at this
   ·assumption
   ·cases this
  rw[ao3]at h1
  unfold rN
  rw[Mc h1.1,Mc h1.2,Fi h.2]
inductive ON(σ:Nat→Option Nat):ak→ak→Prop where
 |plain (c:List aoP) (el:ao1) (ro:Bool) (h:c.all ag=true):ON σ (.cells c el ro) (.cells c el ro)
 |cells (c c':List aoP) (el:ao1) (ro:Bool) (h:mA (ic σ 6) c=some c'):ON σ (.cells c el ro) (.cells c' el ro)
 |map (es cW:List apl) (clock:Nat) (h:rN σ es=some cW):ON σ (.map es clock) (.map cW clock)
 |kU (s:ByteArray) (pos:Nat):ON σ (.kU s pos) (.kU s pos)
 |rows (n size:Nat) (row:Nat→List SV):ON σ (.rows n size row) (.rows n size row)
 |abs (d:ly):ON σ (.abs d) (.abs d)
 |dead (o:ak):ON σ o .dead
theorem Me{ρ ρ':Ren}{σ:Nat→Option Nat}(hσ:∀y i r,σ y=some i→ρ y=some r→ρ' i=some r):∀{es qH:List apl} {cW:List apl},rN σ es=some qH→es.length=cW.length→
 (∀(i:Nat) (e e':apl),es[i]?=some e→cW[i]?=some e'→mY ρ e e')→qH.length=cW.length∧∀(i:Nat) (e e':apl),qH[i]?=some e→cW[i]?=some e'→mY ρ' e e'
 | [],qH,cW,h,hl,hr=>by cases h;exact⟨hl,fun i e e' h=>by simp at h⟩
 |e::es,qH,[],h,hl,hr=>by simp at hl
 |e::es,qH,e'::cW,h,hl,hr=>by
  unfold rN at h
  split at h
  ·rename_i k v r hk hv hq
   cases h
   obtain⟨h1,h2⟩:=Me hσ hq (by simpa using hl) fun i a b ha hb=>hr (i+1) a b (by simpa using ha) (by simpa using hb)
   have h0:=hr 0 e e' rfl rfl
   refine⟨by simp[h1],fun i a b ha hb=>?_⟩
   cases i with
   |zero=>
    simp only[apE,aoU]at ha hb
    subst ha hb
    exact⟨qF hσ _ _ _ _ hk h0.key,qF hσ _ _ _ _ hv h0.val,h0.born⟩
   |succ i=>exact h2 i a b (by simpa using ha) (by simpa using hb)
  ·cases h
theorem ON.or{P:ao7}{ρ ρ':Ren}{σ:Nat→Option Nat}(hσ:∀y i r,σ y=some i→ρ y=some r→ρ' i=some r){ob o:ak}(h:ON σ ob o){r:bT}(hl:Live o r=true):(∀o',OR P ρ r ob o'→OR P ρ' r o o'):=by
 intro o' ho
 cases h with
 |plain c el ro hc=>
  cases ho with
  |cells _ _ b8 _ c' fr hp hs he hz hf jn=>
   refine .cells c el b8 ro c' fr hp hs he hz hf fun i v hv=>?_
   obtain⟨v',a,b⟩:=jn i v hv
   have iy:=aps.1 hc v (apy hv)
   have:=VR.te iy b
   subst this
   exact⟨_,a,.bM _ iy⟩
 |cells c c1 el ro hc=>
  cases ho with
  |cells _ _ b8 _ c' fr hp hs he hz hf jn=>
   have hlen:=tG hc
   refine .cells c1 el b8 ro c' fr hp (by rw[hlen];exact hs) he hz hf ?_
   have WX:LR ρ c ((arm c.length).map fun i=>(c'[r.sh+i]?).getD undef):=by
    refine⟨by simp,fun i v v' hv fV=>?_⟩
    obtain⟨v2,a,b⟩:=jn i v hv
    have hi:i<c.length:=(ao0.1 hv).1
    rw[aqk,ar9 hi]at fV
    simp only[aqc,aoU,a,aqG]at fV
    rw[←fV]
    exact b
   have h2:=tF (qF hσ 6) hc WX
   intro i v hv
   obtain⟨v',b1,b2⟩:=h2.get hv
   have hi:i<c.length:=by rw[←hlen];exact(ao0.1 hv).1
   rw[aqk,ar9 hi]at b1
   simp only[aqc,aoU]at b1
   have fq:r.sh+i<c'.size:=by omega
   rw[aqL fq]at b1
   simp only[aqG]at b1
   exact⟨_,aqL fq,by rw[b1];exact b2⟩
 |map es qH clock vd=>
  cases ho with
  |map _ cW _ h1 h2=>
   obtain⟨h3,h4⟩:=Me hσ vd h1 h2
   exact .map qH cW clock h3 h4
 |kU s pos=>cases ho;exact .kU s pos
 |rows n size row=>cases hl
 |abs d=>cases hl
 |dead=>cases hl
theorem ON.ne{σ:Nat→Option Nat}{ob o:ak}(h:ON σ ob o)(bu:o≠ .dead):ob≠ .dead:=by
 cases h<;>first|exact absurd rfl bu|(intro e;cases e)
theorem ON.live{σ:Nat→Option Nat}{ob o:ak}(h:ON σ ob o){r:bT}(hl:Live o r=true):Live ob r=true∧(o.ro=false→ob.ro=false):=by
 cases h with
 |plain=>exact⟨hl,fun h=>h⟩
 |cells c c1 el ro hc=>
  refine⟨?_,fun h=>h⟩
  cases c with
  |nil=>cases hc;exact hl
  |cons v c=>rfl
 |map=>exact⟨rfl,fun h=>h⟩
 |kU=>exact⟨rfl,fun h=>h⟩
 |rows=>cases hl
 |abs=>cases hl
 |dead=>cases hl
theorem WR.Fj{P:ao7}{B:Nat→Prop}{w₀ w:ao4}{ρ ρ':Ren}{m m':Nat→Option ak}(h:WR P B w₀ ρ m w)(σ:Nat→Option Nat)
 (hm:∀x o,m' x=some o→o≠ .dead→∃y ob,σ x=some y∧m y=some ob∧ob≠ .dead∧ρ' x=ρ y∧(∀r,Live o r=true→Live ob r=true∧(o.ro=false→ob.ro=false)∧∀o',OR P ρ r ob o'→OR P ρ' r o o')∧
  (∀n size row,o=.rows n size row→ob=o)∧(∀el ro,o=.cells [] el ro→ob=o)∧∀d,o=.abs d→ob=o)
 (xo:∀x y z,σ x=some z→σ y=some z→x=y)(WY:∀x,m' x=none→ρ' x=none):WR P B w₀ ρ' m' w where
 env:=h.env
 below:=h.below
 size:=h.size
 live:=by
  intro x o r hx hr hl
  obtain⟨y,ob,h1,h2,_,h3,h4,_⟩:=hm x o hx (by rintro rfl;cases hl)
  obtain⟨h5,h6,h7⟩:=h4 r hl
  obtain⟨o',h8,h9,bP⟩:=h.live y ob r h2 (h3▸hr) h5
  exact⟨o',h8,h7 o' h9,fun e=>bP (h6 e)⟩
 inj:=by
  intro x y ox oy rx ry hx hy kK cA kL dj hd he
  obtain⟨a,oa,a1,a2,_,a3,a4,_⟩:=hm x ox hx (by rintro rfl;cases kL)
  obtain⟨b,ob,b1,b2,_,b3,b4,_⟩:=hm y oy hy (by rintro rfl;cases dj)
  obtain⟨a5,a6,_⟩:=a4 rx kL
  obtain⟨b5,b6,_⟩:=b4 ry dj
  have:=h.inj a b oa ob rx ry a2 b2 (a3▸kK) (b3▸cA) a5 b5 (hd.imp a6 b6) he
  subst this
  exact xo x y a a1 b1
 fresh:=WY
 rows:=by
  intro x n size row hx
  obtain⟨y,ob,h1,h2,_,h3,_,h5,_⟩:=hm x _ hx (by intro e;cases e)
  rw[h5 n size row rfl]at h2
  obtain⟨r,h6,h7⟩:=h.rows y n size row h2
  exact⟨r,by rw[h3,h6],h7⟩
 nil:=by
  intro x el ro r hx hr
  obtain⟨y,ob,h1,h2,_,h3,_,_,h5,_⟩:=hm x _ hx (by intro e;cases e)
  rw[h5 el ro rfl]at h2
  exact h.nil y el ro r h2 (h3▸hr)
 named:=by
  intro x o hx bu
  obtain⟨y,ob,h1,h2,h3,h4,_⟩:=hm x o hx bu
  rw[h4]
  exact h.named y ob h2 h3
 abs:=by
  obtain⟨F,a1,a2,a3⟩:=h.abs
  refine⟨fun x k=>∃y d,σ x=some y∧m' x=some (.abs d)∧F y k,fun x d hx=>?_,?_,?_⟩
  ·obtain⟨y,ob,h1,h2,_,h3,_,_,_,h5⟩:=hm x _ hx (by intro e;cases e)
   rw[h5 d rfl]at h2
   obtain⟨r,S,c,e,f⟩:=a1 y d h2
   exact⟨r,S,by rw[h3,c],e,fun k hk=>⟨y,d,h1,hx,f k hk⟩⟩
  ·rintro x k ⟨y,d,g1,g2,g3⟩
   obtain⟨_,b2,b3,b4⟩:=a2 y k g3
   refine⟨⟨d,g2⟩,b2,b3,fun z o r hz hr hl=>?_⟩
   obtain⟨y2,ob,h1,h2,_,h3,h4,_⟩:=hm z o hz (by rintro rfl;cases hl)
   exact b4 y2 ob r h2 (h3▸hr) (h4 r hl).1
  ·rintro x1 x2 k ⟨y1,_,g1,_,g3⟩ ⟨y2,_,q1,_,q3⟩
   have:=a3 y1 y2 k g3 q3
   subst this
   exact xo x1 x2 y1 g1 q1
def xZ:List ak→Nat→Tr ak→Tr ak
 | [],_,t=>t
 |o::l,i,t=>xZ l (i+1) (Tr.set 18 t i o)
def k9(l:List ak):VS:=⟨xZ l 0 .nil,l.length,[],[]⟩
theorem Mf:∀(l:List ak) (i:Nat) (t:Tr ak) (x:Nat),i+l.length≤262144→gt (xZ l i t) x=if i≤x∧x<i+l.length then l[x-i]?else gt t x
 | [],i,t,x,h=>by
  rw[if_neg (by simp only[arw];omega)];rfl
 |o::l,i,t,x,h=>by
  simp only[apC]at h
  show gt (xZ l (i+1) (Tr.set 18 t i o)) x=_
  rw[Mf l (i+1) _ x (by omega),xf (gT.2 (by omega))]
  simp only[apC]
  by_cases h1:x=i
  ·subst h1
   rw[if_neg (by omega),fh,if_pos (by omega),Nat.sub_self];rfl
  ·rw[ec _ h1]
   by_cases h2:i≤x∧x<i+(l.length+1)
   ·rw[if_pos (by omega),if_pos h2,show x-i=x-(i+1)+1 by omega];rfl
   ·rw[if_neg (by omega),if_neg h2]
theorem WZ(x:Nat):gt (.nil:Tr ak) x=none:=by
 unfold gt
 split
 ·rw[Tr.Dd]
 ·rfl
theorem x5{l:List ak}(h:l.length≤262144)(x:Nat):gt (k9 l).mem x=l[x]? :=by
 show gt (xZ l 0 .nil) x=_
 rw[Mf l 0 .nil x (by omega),WZ]
 by_cases hx:x<l.length
 ·rw[if_pos (by omega),ara]
 ·rw[if_neg (by omega),ap3 (by omega)]
def cw(objs:List ak):Nat→Option ak:=fun x=>match small x with
 |true=>objs[x]?
 |false=>some .dead
theorem cD{objs:List ak}{x:Nat}(h:small x=true):cw objs x=objs[x]? :=by unfold cw;rw[h]
theorem ie{objs:List ak}{x:Nat}(h:small x=false):cw objs x=some .dead:=by unfold cw;rw[h]
abbrev AE(ig:List aoP):Fr:=⟨Fr.rh ig 0 .nil,ig.length,[],[]⟩
def gz(n:Nat)(u:Nat→aoP)(l:List (Nat×aoP)):List aoP:=l.foldl (fun L p=>L.set p.1 p.2) ((arm n).map u)
def eJ(n:Nat)(u:Nat→aoP)(l:List (Nat×aoP)):Fr:=AE (gz n u l)
theorem FR.W5{ρ:Ren}{ig:List aoP}{a:Act}{b:List aqx}(h:LR ρ ig a.tmps.toList)(hd:a.defers=b)(hn:ig.length≤1024):FR ρ ((AE ig).dL b) a:=by
 have hlen:ig.length=a.tmps.size:=by have:=h.len;simpa using this
 refine⟨hlen.symm,hn,fun i=>?_,by rw[hd];exact .nil⟩
 show VR ρ (Fr.at ⟨Fr.rh ig 0 .nil,ig.length,[],[]⟩ i) _
 unfold Fr.at
 dsimp only
 by_cases hi:i<ig.length
 ·rw[dV.2 hi]
  dsimp only
  rw[Fr.xP (by omega) (by omega),if_pos (by omega),ara]
  obtain⟨v',h1,h2⟩:=h.get (aoV hi)
  rw[aoV hi,apx]
  have h3:a.tmps[i]?=some v':=by simpa using h1
  rw[h3]
  exact h2
 ·have hb:ao9 i ig.length=false:=by cases hb:ao9 i ig.length with
   |false=>rfl
   |true=>exact absurd (dV.1 hb) hi
  rw[hb]
  dsimp only
  rw[apx,Array.getElem?_eq_none (by omega)]
  exact VR.undef ρ
theorem LR.set{ρ:Ren}{l l':List aoP}(h:LR ρ l l'){i:Nat}{v v':aoP}(fV:l'[i]?=some v')(hv:VR ρ v v'):LR ρ (l.set i v) l':=
 ⟨by simp[h.len],fun k u u' hu rG=>by
  by_cases e:k=i
  ·subst e
   have hk:k<l.length:=by rw[h.len];exact(ao0.1 rG).1
   rw[arn hk]at hu
   cases hu
   rw[fV]at rG
   cases rG
   exact hv
  ·rw[arE (Ne.symm e)]at hu
   exact h.at_ k u u' hu rG⟩
theorem lJ:∀(l:List (Nat×aoP)) (L:List aoP),(l.foldl (fun L p=>L.set p.1 p.2) L).length=L.length
 | [],L=>rfl
 |p::l,L=>by rw[aqS,lJ l,List.length_set]
theorem Mg{ρ:Ren}{L':List aoP}:∀(l:List (Nat×aoP)) (L:List aoP),LR ρ L L'→(∀p∈l,∃v',L'[p.1]?=some v'∧VR ρ p.2 v')→LR ρ (l.foldl (fun L p=>L.set p.1 p.2) L) L'
 | [],L,h,_=>h
 |p::l,L,h,hl=>by
  rw[aqS]
  obtain⟨v',h1,h2⟩:=hl p ape
  exact Mg l _ (h.set h1 h2) fun q hq=>hl q (apc _ hq)
theorem FR.make{ρ:Ren}{a:Act}{n:Nat}{b:List aqx}(cd:a.tmps.size=n)(hn:n≤1024)(hd:a.defers=b)(hok:∀i,∃u,VR ρ u (a.tmps.getD i undef)){l:List (Nat×aoP)}
 (hl:∀p∈l,p.1<n∧VR ρ p.2 (a.tmps.getD p.1 undef)):∃u:Nat→aoP,FR ρ ((eJ n u l).dL b) a:=by
 refine⟨fun i=>Classical.choose (hok i),?_⟩
 have at_:∀i,i<n→a.tmps.toList[i]?=some (a.tmps.getD i undef):=fun i hi=>by
  rw[Array.getElem?_toList,apx,aqL (by omega)];rfl
 refine FR.W5 (Mg l _ ⟨by simp[cd],fun i v v' hv fV=>?_⟩ fun p hp=>⟨_,at_ _ (hl p hp).1,(hl p hp).2⟩) hd (by unfold gz;rw[lJ];simpa using hn)
 have hi:i<n:=by simpa using(ao0.1 hv).1
 rw[aqk,ar9 hi]at hv
 simp only[aqc,aoU]at hv
 rw[at_ i hi]at fV
 cases fV
 rw[←hv]
 exact Classical.choose_spec (hok i)
structure ai where
 sl:List (Nat×aoP)
 objs:List ak
structure vq where
 B:Nat→Prop
 w₀:ao4
 k:Nat
 ρ₀:Ren
 n:Nat
 named:∀x,x<k→∃r,ρ₀ x=some r
def eN(D:Nat):aqx:={target:=.collected D,args:= #[]}
structure Hd(P:ao7)(X:vq)(d:ai)(ρ:Ren)(u:Nat→aoP)(M:List Nat)(a:Act)(w:ao4):Prop where
 full:Full ρ
 kept:∀x,x<X.k→ρ x=X.ρ₀ x
 fr:FR ρ ((eJ X.n u d.sl).dL (M.map eN)) a
 mem:WR P X.B X.w₀ ρ (cw d.objs) w
 bW:d.objs.length≤262144
 quiet:∀D∈M,w.heap[D]?=some (.deferred (some []))
 fH:M.Nodup
 outside:∀D∈M,¬X.B D
def Holds(P:ao7)(X:vq)(d:ai)(a:Act)(w:ao4):Prop:=∃ρ u M,Hd P X d ρ u M a w
inductive dQ{α β:Type}(R:α→β→Prop):List α→List β→Prop where
 |nil:dQ R [] []
 |cons {a:α} {b:β} {l:List α} {l':List β} (h:R a b) (t:dQ R l l'):dQ R (a::l) (b::l')
theorem dQ.len{α β:Type}{R:α→β→Prop}{l:List α}{l':List β}(h:dQ R l l'):l.length=l'.length:=by
 induction h with
 |nil=>rfl
 |cons _ _ ih=>simp[ih]
theorem dQ.get{α β:Type}{R:α→β→Prop}{l:List α}{l':List β}(h:dQ R l l'):∀{i:Nat} {b:β},l'[i]?=some b→∃a,l[i]?=some a∧R a b:=by
 induction h with
 |nil=>intro i b hb;simp at hb
 |cons h t ih=>
  intro i b hb
  cases i with
  |zero=>simp only[apE,aoU]at hb;subst hb;exact⟨_,rfl,h⟩
  |succ i=>simpa using ih (by simpa using hb)
def tH:Nat→List Nat→Nat→Bool
 |0,_,_=>true
 |k+1,y::l,i=>ao6 y i&&tH k l (i+1)
 |_+1,[],_=>false
theorem Fk:∀{k i:Nat} {l:List Nat},tH k l i=true→∀x,x<k→l[x]?=some (i+x)
 |0,i,l,h,x,hx=>by omega
 |k+1,i,y::l,h,x,hx=>by
  simp only[tH,ao3]at h
  cases x with
  |zero=>simp[apa h.1]
  |succ x=>simpa[show i+1+x=i+(x+1)by omega]using Fk h.2 x (by omega)
 |k+1,i,[],h,x,hx=>by cases h
def iG:List Nat→Bool
 | []=>true
 |y::l=> !(l.any (ao6 y))&&iG l
theorem tI:∀{l:List Nat},iG l=true→∀{x y z:Nat},l[x]?=some z→l[y]?=some z→x=y
 | [],h,x,y,z,hx,hy=>by simp at hx
 |a::l,h,x,y,z,hx,hy=>by
  simp only[iG,ao3,Bool.not_eq_true',List.any_eq_false]at h
  have bu:∀i,l[i]? ≠some a:=fun i hi=>by
   have:=h.1 a (apy hi)
   simp at this
  cases x with
  |zero=>
   simp only[apE,aoU]at hx
   subst hx
   cases y with
   |zero=>rfl
   |succ y=>exact absurd (by simpa using hy) (bu y)
  |succ x=>
   cases y with
   |zero=>
    simp only[apE,aoU]at hy
    subst hy
    exact absurd (by simpa using hx) (bu x)
   |succ y=>exact congrArg (· +1) (tI h.2 (x:=x) (y:=y) (z:=z) (by simpa using hx) (by simpa using hy))
def vt(σ:Nat→Option Nat):List Nat→List aoP→Option (List (Nat×aoP))
 | [],[]=>some []
 |i::l,v::vs=>match ic σ 6 v,vt σ l vs with
  |some u,some r=>some ((i,u)::r)
  |_,_=>none
 |_,_=>none
theorem Fl{σ:Nat→Option Nat}:∀{sl:List Nat} {vs:List aoP} {r:List (Nat×aoP)},vt σ sl vs=some r→∀p∈r,∃(j:Nat) (v:aoP),sl[j]?=some p.1∧vs[j]?=some v∧ic σ 6 v=some p.2
 | [],[],r,h,p,hp=>by cases h;cases hp
 |i::l,v::vs,r,h,p,hp=>by
  unfold vt at h
  split at h
  ·rename_i u q hu hq
   cases h
   rcases ao8.1 hp with rfl|hp
   ·exact⟨0,v,rfl,rfl,hu⟩
   ·obtain⟨j,v',h1,h2,h3⟩:=Fl hq p hp
    exact⟨j+1,v',by simpa using h1,by simpa using h2,h3⟩
  ·cases h
 | [],_::_,r,h,p,hp=>by cases h
 |_::_,[],r,h,p,hp=>by cases h
theorem Holds.Mh{P:ao7}{X:vq}{ρ ρ':Ren}{m:Nat→Option ak}{t:Fr}{M:List Nat}{a:Act}{w:ao4}(gI:Full ρ)(hle:ρ.le ρ')(hk:∀x,x<X.k→ρ x=X.ρ₀ x)
 (cB:FR ρ' t a)(Mi:t.n=X.n)(W6:t.ds=[])(W7:t.base=M.map eN)(W8:∀D∈M,w.heap[D]?=some (.deferred (some [])))(W9:M.Nodup)(Xa:∀D∈M,¬X.B D)(hw:WR P X.B X.w₀ ρ' m w){sl:List Nat}{ig:List aoP}(tA:sl.map t.at=ig){bl:List (Nat×ak)}(lK:∀p∈bl,m p.1=some p.2){d:ai}
 (mB:tH X.k (bl.map (·.1)) 0=true)(dx:iG (bl.map (·.1))=true)(Dw:vt (eX (bl.map (·.1))) sl ig=some d.sl)(fe:dQ (ON (eX (bl.map (·.1)))) (bl.map (·.2)) d.objs)
 (Xb:sl.all (fun i=>ao9 i X.n)=true)(jb:apf d.objs.length 262144=true):Holds P X d a w:=by
 subst tA
 let σ:List Nat:=bl.map (·.1)
 let ρ2:Ren:=fun x=>match small x with
  |true=>(σ[x]?).bind ρ'
  |false=>ρ' x
 have eE:∀x,small x=true→ρ2 x=(σ[x]?).bind ρ':=fun x h=>by show(match small x with|true=>_|false=>_)=_;rw[h]
 have la:∀x,small x=false→ρ2 x=ρ' x:=fun x h=>by show(match small x with|true=>_|false=>_)=_;rw[h]
 have vu:=apk jb
 have hlen:bl.length=d.objs.length:=by have:=fe.len;simpa using this
 have pC:Full ρ2:=fun r=>by
  obtain⟨y,h1,h2⟩:=gI r
  exact⟨y,h1,by rw[la y h1];exact hle _ _ h2⟩
 have tJ:∀i y,σ[i]?=some y→small i=true:=fun i y h=>gT.2 (by
  have:i<σ.length:=(ao0.1 h).1
  have e:σ.length=bl.length:=by simp[σ]
  have:(2:Nat)^18=262144:=rfl
  omega)
 have hσ:∀i y r,σ[i]?=some y→ρ' y=some r→ρ2 i=some r:=fun i y r h1 h2=>by rw[eE i (tJ i y h1),h1];exact h2
 have rO:∀y i r,eX σ y=some i→ρ' y=some r→ρ2 i=some r:=fun y i r h1 h2=>hσ i y r (AD h1) h2
 obtain⟨u,hu⟩:∃u:Nat→aoP,FR ρ2 ((eJ X.n u d.sl).dL (M.map eN)) a:=by
  refine FR.make (by rw[cB.size,Mi]) (by rw[←Mi];exact cB.small) ((cB.rH W6).trans W7) (fun i=>(cB.at_ i).full pC) fun p hp=>?_
  obtain⟨j,v,h1,h2,h3⟩:=Fl Dw p hp
  rw[aqk,h1]at h2
  simp only[aqc,aoU]at h2
  subst h2
  exact⟨dV.1 (aps.1 Xb p.1 (apy h1)),qF rO 6 _ _ _ h3 (cB.at_ p.1)⟩
 refine⟨ρ2,u,M,pC,fun x hx=>?_,hu,?_,vu,W8,W9,Xa⟩
 ·have:=Fk mB x hx
  rw[aqr]at this
  obtain⟨r,hr⟩:=X.named x hx
  rw[hσ x x r this (hle _ _ ((hk x hx).trans hr)),hr]
 ·have tm:∀(i:Nat) (o:ak),d.objs[i]?=some o→∃y ob,σ[i]?=some y∧m y=some ob∧ON (eX σ) ob o:=fun i o hi=>by
   obtain⟨ob,h1,h2⟩:=fe.get hi
   rw[aqk]at h1
   cases hb:bl[i]?with
   |none=>rw[hb]at h1;cases h1
   |some p=>
    rw[hb]at h1
    simp only[aqc,aoU]at h1
    subst h1
    exact⟨p.1,p.2,by simp[σ,hb],lK p (apy hb),h2⟩
  refine hw.Fj (fun x=>match small x with
   |true=>σ[x]?
   |false=>none) (fun x o hx bu=>?_) (fun x y z hx hy=>?_) fun x hx=>?_
  ·cases hs:small x with
   |false=>rw[ie hs]at hx;cases hx;exact absurd rfl bu
   |true=>
    rw[cD hs]at hx
    obtain⟨y,ob,h1,h2,h3⟩:=tm x o hx
    refine⟨y,ob,h1,h2,h3.ne bu,?_,fun r hl=>⟨(h3.live hl).1,(h3.live hl).2,h3.or rO hl⟩,fun n size row e=>?_,fun el ro e=>?_,fun d e=>?_⟩
    ·rw[eE x hs,h1];rfl
    ·subst e;cases h3;rfl
    ·subst e
     cases h3 with
     |plain=>rfl
     |cells c _ _ _ h=>
      cases c with
      |nil=>rfl
      |cons v c=>have:=tG h;simp at this
    ·subst e;cases h3;rfl
  ·have key:∀q,(match small q with|true=>σ[q]? |false=>none)=some z→σ[q]?=some z:=fun q hq=>by
    cases hs:small q with
    |true=>rw[hs]at hq;exact hq
    |false=>rw[hs]at hq;cases hq
   exact tI dx (key x hx) (key y hy)
  ·cases hs:small x with
   |false=>rw[ie hs]at hx;cases hx
   |true=>
    rw[cD hs]at hx
    rw[eE x hs]
    have:σ[x]?=none:=by
     rw[aqE]at hx⊢
     simp[σ]
     omega
    rw[this]
    rfl
def bd:apw→List apw
 | .seq a b=>bd a++bd b
 |c=>[c]
def jc(P:ao7):List apw→(arc→Act→ao4→Prop)→Act→ao4→Prop
 | [],Q,a,w=>Q .normal a w
 |c::l,Q,a,w=>c.wp P (Exit.then (jc P l Q) Q) a w
theorem x6{P:ao7}:∀{l:List apw} {Q Q':arc→Act→ao4→Prop} {a:Act} {w:ao4},jc P l Q a w→(∀e a w,Q e a w→Q' e a w)→jc P l Q' a w
 | [],Q,Q',a,w,h,hq=>hq _ _ _ h
 |c::l,Q,Q',a,w,h,hq=>as7 h fun e a w he=>by
  cases e with
  |normal=>exact x6 he hq
  |_=>exact hq _ _ _ he
theorem Fm{P:ao7}:∀{l l':List apw} {Q:arc→Act→ao4→Prop} {a:Act} {w:ao4},jc P l (Exit.then (jc P l' Q) Q) a w→jc P (l++l') Q a w
 | [],l',Q,a,w,h=>h
 |c::l,l',Q,a,w,h=>as7 h fun e a w he=>by
  cases e with
  |normal=>exact Fm he
  |_=>exact he
theorem x7{P:ao7}:∀{c:apw} {Q:arc→Act→ao4→Prop} {a:Act} {w:ao4},jc P (bd c) Q a w→c.wp P Q a w:=by
 intro c
 induction c with
 |seq a b iQ kY=>
  intro Q t w h
  have h:jc P (bd a++bd b) Q t w:=h
  refine wp_seq (iQ ?_)
  -- take apart what stands one behind the other
  have key:∀(l l':List apw) (Q:arc→Act→ao4→Prop) (t:Act) (w:ao4),jc P (l++l') Q t w→jc P l (Exit.then (jc P l' Q) Q) t w:=by
   intro l
   induction l with
   |nil=>intro l' Q t w h;exact h
   |cons c l ih=>
    intro l' Q t w h
    refine as7 (show c.wp P (Exit.then (jc P (l++l') Q) Q) t w from h) fun e t w he=>?_
    cases e with
    |normal=>exact ih l' Q t w he
    |_=>exact he
  refine x6 (key _ _ _ _ _ h) fun e t w he=>?_
  cases e with
  |normal=>exact kY he
  |_=>exact he
 |_=>
  intro Q t w h
  refine as7 (show Code.wp P _ (Exit.then (jc P [] Q) Q) t w from h) fun e t w he=>?_
  cases e<;>exact he
def tK(P:ao7)(call:fD)(lf:Nat):List apw→Fr→VS→DT (bj×Fr×VS)
 | [],t,S=>.done (.normal,t,S)
 |c::l,t,S=>(jo P call lf false c t S).bind fun p=>match p.1 with
  | .normal=>tK P call lf l p.2.1 p.2.2
  |_=>.done p
def ld(P:ao7)(call:cL)(lf:Nat):List apw→Fr→VS→Option (bj×Fr×VS)
 | [],t,S=>some (.normal,t,S)
 |c::l,t,S=>match di P call lf false c t S with
  |some (.normal,t1,S1)=>ld P call lf l t1 S1
  |r=>r
structure dk(P:ao7)(cO:fD):Prop where
 ex:∃cV:cL,hI P cV∧∀f args S r,(cO f args S).Has r→cV f args S=some r
theorem Fo{P:ao7}{fS:fD}{call:cL}(hc:∀f args S r,(fS f args S).Has r→call f args S=some r)(lf:Nat):∀{l:List apw} {t:Fr} {S:VS} {r:bj×Fr×VS},
 (tK P fS lf l t S).Has r→ld P call lf l t S=some r
 | [],t,S,r,h=>by rw[DT.cC h];rfl
 |c::l,t,S,r,h=>by
  unfold tK at h
  obtain⟨p,h1,h2⟩:=DT.fz h
  obtain⟨e,t1,S1⟩:=p
  unfold ld
  rw[Az P hc lf h1]
  cases e with
  |normal=>exact Fo hc lf h2
  |exit id=>rw[DT.cC h2]
  |ret=>rw[DT.cC h2]
  |panic v=>rw[DT.cC h2]
theorem x8{P:ao7}{call:cL}(hc:hI P call)(lf:Nat):∀{l:List apw} {t t1:Fr} {S S1:VS} {x:bj},ld P call lf l t S=some (x,t1,S1)→dP S S1
 | [],t,t1,S,S1,x,h=>by
  simp only[ld,aoU,aoX]at h
  obtain⟨_,_,rfl⟩:=h
  exact dP.refl S
 |c::l,t,t1,S,S1,x,h=>by
  unfold ld at h
  split at h
  ·rename_i t2 S2 hx
   exact(nO hc lf hx).trans (x8 hc lf h)
  ·exact nO hc lf h
theorem Mj{P:ao7}(hP:iz P=true)(fx:P.follows .mixedOrders=true){call:cL}(hc:hI P call)(lf:Nat):∀{l:List apw} {t t1:Fr} {S S1:VS} {x:bj},ld P call lf l t S=some (x,t1,S1)→
 ∀{B:Nat→Prop} {w₀:ao4} {ρ:Ren} {m:Nat→Option ak} {w:ao4} {a:Act},FR ρ t a→WR P B w₀ ρ m w→fI S S1 m→
 ∀{Q:arc→Act→ao4→Prop},(∀(ρ':Ren) (e:arc) (a':Act) (w':ao4),ρ.le ρ'→XR ρ' x e→FR ρ' t1 a'→WR P B w₀ ρ' (post m S1) w'→Q e a' w')→jc P l Q a w
 | [],t,t1,S,S1,x,h,B,w₀,ρ,m,w,a,ht,hw,hm,Q,hQ=>by
  simp only[ld,aoU,aoX]at h
  obtain⟨rfl,rfl,rfl⟩:=h
  exact hQ ρ _ a w (Ren.le_refl ρ) .normal ht (by rw[oH hm];exact hw)
 |c::l,t,t1,S,S1,x,h,B,w₀,ρ,m,w,a,ht,hw,hm,Q,hQ=>by
  unfold ld at h
  split at h
  ·rename_i t2 S2 hx
   have e2:=x8 hc lf h
   refine(asH (n:=0)).1 (tC hP fx hc lf (r:=none) (fun h=>by cases h) c hx ht hw (hm.first e2) fun ρ' e a' w' hle dH cB cQ=>?_)
   cases dH
   refine Mj hP fx hc lf h cB cQ (hm.next (nO hc lf hx)) fun ρ2 qC a2 w2 kg jM lG ia=>?_
   rw[oG e2]at ia
   exact hQ ρ2 qC a2 w2 (Ren.le_trans hle kg) jM lG ia
  ·rename_i bu
   refine(asH (n:=0)).1 (tC hP fx hc lf (r:=none) (fun h=>by cases h) c h ht hw hm fun ρ' e a' w' hle dH cB cQ=>?_)
   cases dH with
   |normal=>exact absurd h (bu _ _)
   |_=>exact hQ ρ' _ a' w' hle (by constructor<;>assumption) cB cQ
theorem Fq{P:ao7}{call:cL}{lf:Nat}(b:List aqx):∀{l:List apw} {t t1:Fr} {S S1:VS} {x:bj},ld P call lf l t S=some (x,t1,S1)→ld P call lf l (t.dL b) S=some (x,t1.dL b,S1)
 | [],t,t1,S,S1,x,h=>by
  simp only[ld,aoU,aoX]at h
  obtain⟨rfl,rfl,rfl⟩:=h
  rfl
 |c::l,t,t1,S,S1,x,h=>by
  unfold ld at h⊢
  rw[Wg]
  cases hx:di P call lf false c t S with
  |none=>rw[hx]at h;cases h
  |some p=>
   obtain⟨e,t2,S2⟩:=p
   rw[hx]at h
   cases e with
   |normal=>exact Fq b h
   |exit j=>simp only[aoU,aoX]at h;obtain⟨rfl,rfl,rfl⟩:=h;rfl
   |ret=>simp only[aoU,aoX]at h;obtain⟨rfl,rfl,rfl⟩:=h;rfl
   |panic v=>simp only[aoU,aoX]at h;obtain⟨rfl,rfl,rfl⟩:=h;rfl
theorem Mk{w:ao4}{M:List Nat}(hq:∀D∈M,w.heap[D]?=some (.deferred (some []))):∀D∈M,∃o,w.heap[D]?=some o∧rJ o=true:=fun D hD=>⟨_,hq D hD,rfl⟩
def pD:List Nat→VS→Option (List (Nat×ak))
 | [],_=>some []
 |x::l,S=>match gt S.mem x,pD l S with
  |some o,some r=>some ((x,o)::r)
  |_,_=>none
theorem Fs:∀{bs:List Nat} {S:VS} {r:List (Nat×ak)},pD bs S=some r→∀p∈r,gt S.mem p.1=some p.2
 | [],S,r,h,p,hp=>by
  simp only[pD,aoU]at h
  rw[←h]at hp
  cases hp
 |x::l,S,r,h,p,hp=>by
  unfold pD at h
  split at h
  ·rename_i o r' h1 h3
   simp only[aoU]at h
   rw[←h]at hp
   rcases ao8.1 hp with rfl|hp
   ·exact h1
   ·exact Fs h3 p hp
  ·cases h
def an(P:ao7)(n k:Nat)(l:List apw)(d:ai)(Q:bj→ai→Prop):Prop:=
 ∀(X:vq),X.n=n→X.k=k→∀(a:Act) (w:ao4),Holds P X d a w→jc P l (fun e a' w'=>∃x d',Q x d'∧XR (fun _=>none) x e∧Holds P X d' a' w') a w
theorem an.mono{P:ao7}{n k:Nat}{l:List apw}{d:ai}{Q Q':bj→ai→Prop}(h:an P n k l d Q)(hq:∀x d',Q x d'→Q' x d'):an P n k l d Q':=
 fun X hn hk a w hd=>x6 (h X hn hk a w hd) fun e a w ⟨x,d',h1,h2,h3⟩=>⟨x,d',hq x d' h1,h2,h3⟩
theorem an.nil{P:ao7}{n k:Nat}{d:ai}{Q:bj→ai→Prop}(h:Q .normal d):an P n k [] d Q:=fun X hn hk a w hd=>⟨.normal,d,h,.normal,hd⟩
def Xc:bj→Bool
 | .panic v=>fl v
 |_=>true
def inner:List apw→apw
 | .block _ c::_=>c
 | .loop c::_=>c
 | .scope c::_=>c
 |_=>.skip
def Fu:List apw→Option Nat
 | .block id _::_=>some id
 |_=>none
def Fv:List apw→Bool
 | .loop _::_=>true
 |_=>false
def QB(id:Nat)(N:ai→Prop)(Q:bj→ai→Prop):bj→ai→Prop
 | .normal,d=>N d
 | .exit j,d=>match ao6 j id with
  |true=>N d
  |false=>Q (.exit j) d
 |x,d=>Q x d
theorem an.block{P:ao7}{n k id:Nat}{l:List apw}{d:ai}{Q:bj→ai→Prop}(hl:Fu l=some id)(h:an P n k (bd (inner l)) d (QB id (fun d'=>an P n k l.tail d' Q) Q)):an P n k l d Q:=by
 intro X hn hk a w hd
 unfold Fu at hl
 split at hl
 ·rename_i ang c l'
  cases hl
  refine wp_block (as7 (x7 (h X hn hk a w hd)) fun e a' w' he=>?_)
  obtain⟨x,d',h1,h2,h3⟩:=he
  cases h2 with
  |normal=>exact h1 X hn hk a' w' h3
  |exit j=>
   by_cases hj:j=id
   ·subst hj
    simp only[QB,apY]at h1
    simp only[asR,if_true]
    exact h1 X hn hk a' w' h3
   ·have hb:ao6 j id=false:=by
     cases hb:ao6 j id with
     |false=>rfl
     |true=>exact absurd (apa hb) hj
    simp only[QB,hb]at h1
    simp only[asR,hj,if_false]
    exact⟨_,d',h1,.exit j,h3⟩
  |ret=>exact⟨_,d',h1,.ret,h3⟩
  |panic v v' hv=>exact⟨_,d',h1,.panic v v' hv,h3⟩
 ·cases hl
theorem an.loop{P:ao7}{n k:Nat}{l:List apw}{Q:bj→ai→Prop}{σ:Type}(I:σ→ai)(μ:σ→Nat)(ok:σ→Prop)(hl:Fv l=true)
 (h:∀s,ok s→an P n k (bd (inner l)) (I s) (fun x d'=>match x with
  | .normal=>∃s',ok s'∧μ s'<μ s∧d'=I s'
  |x=>Q x d')):∀s,ok s→an P n k l (I s) Q:=by
 intro s hs X hn hk a w hd
 unfold Fv at hl
 split at hl
 ·rename_i c l'
  have key:∀m s a w,ok s→μ s≤m→Holds P X (I s) a w→Code.rounds P c (Exit.then (jc P l' fun e a' w'=>∃x d',Q x d'∧XR (fun _=>none) x e∧Holds P X d' a' w') fun e a' w'=>∃x d',Q x d'∧XR (fun _=>none) x e∧Holds P X d' a' w') (m+1) a w:=by
   intro m
   induction m with
   |zero=>
    intro s a w hs hm hd
    rw[rounds_succ]
    refine as7 (x7 (h s hs X hn hk a w hd)) fun e a' w' he=>?_
    obtain⟨x,d',h1,h2,h3⟩:=he
    cases h2 with
    |normal=>obtain⟨s',_,hlt,_⟩:=h1;omega
    |exit j=>exact⟨_,d',h1,.exit j,h3⟩
    |ret=>exact⟨_,d',h1,.ret,h3⟩
    |panic v v' hv=>exact⟨_,d',h1,.panic v v' hv,h3⟩
   |succ m ih=>
    intro s a w hs hm hd
    rw[rounds_succ]
    refine as7 (x7 (h s hs X hn hk a w hd)) fun e a' w' he=>?_
    obtain⟨x,d',h1,h2,h3⟩:=he
    cases h2 with
    |normal=>
     obtain⟨s',nK,hlt,rfl⟩:=h1
     exact ih s' a' w' nK (by omega) h3
    |exit j=>exact⟨_,d',h1,.exit j,h3⟩
    |ret=>exact⟨_,d',h1,.ret,h3⟩
    |panic v v' hv=>exact⟨_,d',h1,.panic v v' hv,h3⟩
  exact wp_loop_rounds _ (key _ s a w hs (apn _) hd)
 ·cases hl
def AF:List apw→Option Nat
 | .cond (.tmp i) _ _::_=>some i
 |_=>none
def pE(b:Bool):List apw→apw
 | .cond _ x y::_=>if b then x else y
 |_=>.skip
def jx:List (Nat×aoP)→Nat→Option aoP
 | [],_=>none
 |p::l,i=>match jx l i with
  |some v=>some v
  |none=>match ao6 p.1 i with
   |true=>some p.2
   |false=>none
theorem Ml{n:Nat}{u:Nat→aoP}:∀(l:List (Nat×aoP)) (L:List aoP) (i:Nat) (v:aoP),jx l i=some v→i<L.length→(l.foldl (fun L p=>L.set p.1 p.2) L)[i]?=some v
 | [],L,i,v,h,hi=>by cases h
 |p::l,L,i,v,h,hi=>by
  rw[aqS]
  unfold jx at h
  split at h
  ·rename_i v' hv
   cases h
   exact Ml (n:=n) (u:=u) l _ i v hv (by simpa using hi)
  ·rename_i hn
   split at h
   ·rename_i hb
    cases h
    have hb:=apa hb
    subst hb
    have key:∀(l:List (Nat×aoP)) (L:List aoP) (i:Nat),jx l i=none→(l.foldl (fun L p=>L.set p.1 p.2) L)[i]?=L[i]? :=by
     intro l
     induction l with
     |nil=>intro L i _;rfl
     |cons q l ih=>
      intro L i h
      rw[aqS]
      unfold jx at h
      split at h
      ·cases h
      ·rename_i h'
       rw[ih _ _ h']
       split at h
       ·cases h
       ·rename_i hb
        rw[arE]
        intro e
        rw[e,apY]at hb
        cases hb
    rw[key l _ _ hn,arn hi]
   ·cases h
theorem vw{n:Nat}{u:Nat→aoP}{l:List (Nat×aoP)}{i:Nat}{v:aoP}(hn:n≤1024)(hi:i<n)(h:jx l i=some v):(eJ n u l).at i=v:=by
 have hlen:(gz n u l).length=n:=by unfold gz;rw[lJ];simp
 have:=Ml (n:=n) (u:=u) l ((arm n).map u) i v h (by simpa using hi)
 unfold eJ AE Fr.at
 dsimp only
 rw[dV.2 (by omega)]
 dsimp only
 rw[Fr.xP (by omega) (by omega),if_pos (by omega),ara]
 have:(gz n u l)[i]?=some v:=this
 rw[this]
theorem an.cond{P:ao7}{n k i:Nat}{l:List apw}{d:ai}{Q:bj→ai→Prop}{b:Bool}(hl:AF l=some i)(hi:ao9 i n=true)(hv:jx d.sl i=some (.bool b))
 (h:an P n k (bd (pE b l)++l.tail) d Q):an P n k l d Q:=by
 intro X hn hk a w hd
 unfold AF at hl
 split at hl
 ·rename_i i' x y l'
  simp only[aoU]at hl
  subst hl
  have h0:jc P (bd (if b then x else y)++l') _ a w:=h X hn hk a w hd
  obtain⟨ρ,u,M,hd⟩:=hd
  subst hn
  have eE:=hd.fr.small
  have Au:((eJ X.n u d.sl).dL (M.map eN)).n=X.n:=by show(gz X.n u d.sl).length=_;unfold gz;rw[lJ];simp
  have mu:a.eval (.tmp i')=.bool b:=hd.fr.Em (c:=.tmp i') (vw (by omega) (dV.1 hi) hv)
  have key:∀(l l':List apw) (Q:arc→Act→ao4→Prop) (t:Act) (w:ao4),jc P (l++l') Q t w→jc P l (Exit.then (jc P l' Q) Q) t w:=by
   intro l
   induction l with
   |nil=>intro l' Q t w h;exact h
   |cons c l ih=>
    intro l' Q t w h
    refine as7 (show c.wp P (Exit.then (jc P (l++l') Q) Q) t w from h) fun e t w he=>?_
    cases e with
    |normal=>exact ih l' Q t w he
    |_=>exact he
  have h2:=x7 (key _ _ _ _ _ h0)
  cases b with
  |true=>exact wp_cond_true mu h2
  |false=>exact wp_cond_false mu h2
 ·cases hl
def vx:List aoP→Nat→List (Nat×aoP)
 | [],_=>[]
 |v::l,i=>(i,v)::vx l (i+1)
theorem Mm:∀{l:List aoP} {i:Nat} {p:Nat×aoP},p∈vx l i→∃j,p.1=i+j∧l[j]?=some p.2
 | [],i,p,h=>by cases h
 |v::l,i,p,h=>by
  rcases ao8.1 h with rfl|h
  ·exact⟨0,rfl,rfl⟩
  ·obtain⟨j,h1,h2⟩:=Mm h
   exact⟨j+1,by omega,by simpa using h2⟩
theorem WR.vy{P:ao7}{B:Nat→Prop}{w₀ w:ao4}{ρ:Ren}{g:Nat→Option ak}(h:WR P B w₀ ρ g w){D:Nat}{o:Obj}(hB:¬B D)(hD:w.heap[D]?=some o)(ho:rJ o=true)(o2:Obj):WR P B w₀ ρ g (w.putObj D o2) where
 env:=h.env
 below:=h.below.trans ⟨rfl,rfl,rfl,by simp,fun k hk=>aqd (fun e=>hB (e▸hk))⟩
 size:=fun k hk=>by simpa using h.size k hk
 live:=fun x ob r hx hr hl=>by
  obtain⟨o',h1,h2,h3⟩:=h.live x ob r hx hr hl
  refine⟨o',?_,h2,h3⟩
  rw[aqd]
  ·exact h1
  ·intro e
   rw[e,hD]at h1
   cases h1
   rw[h2.row]at ho
   cases ho
 inj:=h.inj
 fresh:=h.fresh
 rows:=h.rows
 nil:=h.nil
 named:=h.named
 abs:=by
  obtain⟨F,a1,a2,a3⟩:=h.abs
  refine⟨fun x k=>F x k∧k≠D,fun x d hx=>?_,fun x k hk=>?_,fun x y k p q=>a3 x y k p.1 q.1⟩
  ·obtain⟨r,S,c,cn,f⟩:=a1 x d hx
   have x9:∀k,S k→k≠D:=fun k hk e=>by
    obtain⟨q,hq,hr⟩:=cn.row k hk
    rw[e,hD]at hq
    cases hq
    cases o<;>first|(cases hr;done)|(cases ho;done)
   exact⟨r,S,c,cn.frame fun k hk=>aqd (x9 k hk),fun k hk=>⟨f k hk,x9 k hk⟩⟩
  ·obtain⟨b1,b2,b3⟩:=a2 x k hk.1
   exact⟨b1,by simpa using b2,b3⟩
theorem Mn{P:ao7}{B:Nat→Prop}{w₀:ao4}{ρ:Ren}{g:Nat→Option ak}{fn:Func}{tmps:Array aoP}{R:Ending→ao4→Prop}{mode:FrameMode}(hm:mode≠ .run)(hl:∀w2,WR P B w₀ ρ g w2→LeavesIn aqO 0 P fn tmps R [] mode w2):
 ∀(M:List Nat) (w:ao4),M.Nodup→(∀D∈M,¬B D∧w.heap[D]?=some (.deferred (some [])))→WR P B w₀ ρ g w→LeavesInM aqO 0 P fn tmps R (M.map eN) mode w
 | [],w,_,_,hw=>hl w hw
 |D::M,w,hn,hq,hw=>by
  obtain⟨h1,h2⟩:=hq D ape
  have zw:=List.nodup_cons.1 hn
  refine⟨hm,.inl ⟨D,_,rfl,run_takeDeferred h2,Mn hm hl M _ zw.2 (fun E hE=>?_) (hw.vy h1 h2 rfl _)⟩⟩
  obtain⟨h3,h4⟩:=hq E (apc _ hE)
  refine⟨h3,?_⟩
  rw[aqd]
  ·exact h4
  ·rintro rfl
   exact zw.1 hE
theorem Fw{P:ao7}(b:List aqx)(t:Fr):∀l:List ResultVar,gX P (t.dL b) l=gX P t l
 | []=>rfl
 | .tmp i::l=>by unfold gX;rw[Fw b t l];rfl
 | .cell a ty::l=>by unfold gX;rw[Fw b t l];rfl
def aI(P:ao7)(f:apr)(args:List aoP)(objs:List ak)(Q:bO→List ak→Prop):Prop:=
 ∀(B:Nat→Prop) (w₀:ao4) (ρ:Ren) (w:ao4) (args':Array aoP),Full ρ→(∀x,x<objs.length→∃r,ρ x=some r)→LR ρ args args'.toList→WR P B w₀ ρ (cw objs) w→
  Calls P f args' w fun e w'=>∃r jd ρ',Q r jd∧CR ρ' r e∧Full ρ'∧WR P B w₀ ρ' (cw jd) w'∧jd.length≤262144∧∀x,x<objs.length→ρ' x=ρ x
theorem aI.mono{P:ao7}{f:apr}{args:List aoP}{objs:List ak}{Q Q':bO→List ak→Prop}(h:aI P f args objs Q)(hq:∀r o,Q r o→Q' r o):aI P f args objs Q':=
 fun B w₀ ρ w args' h1 h2 h3 h4=>(h B w₀ ρ w args' h1 h2 h3 h4).mono fun e w' ⟨r,o,ρ',a,b⟩=>⟨r,o,ρ',hq r o a,b⟩
def Fin(P:ao7)(fn:Func)(Q:bO→List ak→Prop):bj→ai→Prop
 | .normal,d=>∃vs l,(∀u,(gX P (eJ fn.ntmps u d.sl) fn.results.toList).run (gt (k9 d.objs).mem)=some (vs,l))∧Q (.ret (mT vs)) d.objs
 | .ret,d=>∃vs l,(∀u,(gX P (eJ fn.ntmps u d.sl) fn.results.toList).run (gt (k9 d.objs).mem)=some (vs,l))∧Q (.ret (mT vs)) d.objs
 | .panic v,d=>Q (.panic v) d.objs
 |_,_=>False
theorem aI.Xd{P:ao7}{f:apr}{fn:Func}{c:apw}(hf:P.funcs[f]?=some fn)(hb:fn.body=some c){args:List aoP}{objs:List ak}{Q:bO→List ak→Prop}
 (hn:(apf args.length fn.ntmps&&apf fn.ntmps 1024&&apf objs.length 262144)=true)(h:an P fn.ntmps objs.length (bd c) ⟨vx args 0,objs⟩ (Fin P fn Q)):aI P f args objs Q:=by
 intro B w₀ ρ w args' gI AG gZ hw
 simp only[ao3]at hn
 obtain⟨⟨kJ,mo⟩,Xe⟩:=hn
 have kJ:=apk kJ
 have mo:=apk mo
 refine(callsIn_wide (n:=0)).1 (callsIn_of_wp_marks hf hb trivial (asH.2 ?_) rfl)
 have Mo:Fr.of args fn.ntmps=some ⟨Fr.rh args 0 .nil,fn.ntmps,[],[]⟩:=by
  unfold Fr.of
  rw[apu kJ,apu mo]
  rfl
 have cB:=Fr.Ev gZ Mo
 have hlen:args.length=args'.size:=by have:=gZ.len;simpa using this
 obtain⟨u,hu⟩:∃u:Nat→aoP,FR ρ ((eJ fn.ntmps u (vx args 0)).dL (([]:List Nat).map eN)) {tmps:=args'++Array.replicate (fn.ntmps-args'.size) undef,defers:=[]}:=by
  refine FR.make (b:=[]) (by simp;omega) mo rfl (fun i=>(cB.at_ i).full gI) fun p hp=>?_
  obtain⟨j,h1,h2⟩:=Mm hp
  have hj:j<args.length:=(ao0.1 h2).1
  rw[aqr]at h1
  refine⟨by omega,?_⟩
  obtain⟨v',h3,h4⟩:=gZ.get h2
  rw[h1,apx,Array.getElem?_append_left (by omega)]
  have h5:args'[j]?=some v':=by simpa using h3
  rw[h5]
  exact h4
 refine x7 (x6 (h ⟨B,w₀,objs.length,ρ,fn.ntmps,AG⟩ rfl rfl _ w ⟨ρ,u,[],gI,fun _ _=>rfl,hu,hw,apk Xe,(fun D hD=>by cases hD),.nil,fun D hD=>by cases hD⟩) fun e a' w' he=>?_)
 obtain⟨x,d',h1,h2,ρ',u',M,hd⟩:=he
 have lm:∀mode,mode≠FrameMode.run→(∀w2,WR P B w₀ ρ' (cw d'.objs) w2→LeavesIn aqO 0 P fn a'.tmps (fun e w'=>∃r jd ρ',Q r jd∧CR ρ' r e∧Full ρ'∧WR P B w₀ ρ' (cw jd) w'∧jd.length≤262144∧∀x,x<objs.length→ρ' x=ρ x) [] mode w2)→
  LeavesInM aqO 0 P fn a'.tmps (fun e w'=>∃r jd ρ',Q r jd∧CR ρ' r e∧Full ρ'∧WR P B w₀ ρ' (cw jd) w'∧jd.length≤262144∧∀x,x<objs.length→ρ' x=ρ x) a'.defers mode w':=fun mode hm hl=>by
  rw[hd.fr.rH rfl]
  exact Mn hm hl M w' hd.fH (fun D hD=>⟨hd.outside D hD,hd.quiet D hD⟩) hd.mem
 have fin:(∃vs l,(∀u,(gX P (eJ fn.ntmps u d'.sl) fn.results.toList).run (gt (k9 d'.objs).mem)=some (vs,l))∧Q (.ret (mT vs)) d'.objs)→∀w2,WR P B w₀ ρ' (cw d'.objs) w2→∃v,(results fn a'.tmps).run P w2=.ok v w2∧
  ∃r jd ρ',Q r jd∧CR ρ' r (.returned v)∧Full ρ'∧WR P B w₀ ρ' (cw jd) w2∧jd.length≤262144∧∀x,x<objs.length→ρ' x=ρ x:=by
  rintro⟨vs,l,h3,h4⟩ w2 dK
  have h5:(gX P (eJ fn.ntmps u' d'.sl) fn.results.toList).run (cw d'.objs)=some (vs,l):=Rd.zy (h3 u') fun y hy=>by
   obtain⟨o,ho⟩:=Rd.zz (h3 u') y hy
   rw[cD (po ho),x5 hd.bW]
  obtain⟨v',h6,h7⟩:=Eu (t:=(eJ fn.ntmps u' d'.sl).dL (M.map eN)) dK hd.fr (by rw[Fw];exact h5)
  exact⟨v',h6,.ret (mT vs),d'.objs,ρ',h4,h7,hd.full,dK,hd.bW,hd.kept⟩
 cases h2 with
 |normal=>exact lm _ (by intro e;cases e) (fin h1)
 |ret=>exact lm _ (by intro e;cases e) (fin h1)
 |exit id=>exact h1.elim
 |panic v v' hv=>exact lm _ (by intro e;cases e) fun w2 dK=>⟨.panic v,d'.objs,ρ',h1,⟨v',rfl,hv.mono (fun x r h=>by cases h)⟩,hd.full,dK,hd.bW,hd.kept⟩
inductive QT(α:Type) where
 |done (a:α)
 |fail
 |ask (d:Bool) (k:Bool→QT α)
def QT.run{α:Type}:QT α→Option α
 | .done a=>some a
 | .fail=>none
 | .ask d k=>(k d).run
def QT.dt{α:Type}:QT α→DT α
 | .done a=>.done a
 | .fail=>.fail
 | .ask d k=>.ask d fun b=>(k b).dt
def QT.bind{α β:Type}:QT α→(α→QT β)→QT β
 | .done a,f=>f a
 | .fail,_=>.fail
 | .ask d k,f=>.ask d fun b=>(k b).bind f
def QT.tL{α:Type}(d:Bool)(k:QT α):QT α:=.ask d fun b=>match b with
 |true=>k
 |false=>.fail
theorem QT.Xf{α:Type}{q:QT α}{a:α}(h:q.dt.Has a):q.run=some a:=by
 induction q with
 |done b=>have:=DT.cC h;subst this;rfl
 |fail=>cases h
 |ask d k ih=>exact ih d (DT.oM h)
theorem QT.run_bind{α β:Type}{q:QT α}{f:α→QT β}{b:β}(h:(q.bind f).run=some b):∃a,q.run=some a∧(f a).run=some b:=by
 induction q with
 |done a=>exact⟨a,rfl,h⟩
 |fail=>cases h
 |ask d k ih=>exact ih d h
theorem QT.vz{α:Type}{d:Bool}{k:QT α}{a:α}(h:(QT.tL d k).run=some a):d=true∧k.run=some a:=by
 cases d with
 |true=>exact⟨rfl,h⟩
 |false=>cases h
structure Sum where
 names:List aoP→(Nat→Option ak)→Option (List Nat)
 spec:List aoP→List ak→QT (bO×List ak)
def bB(P:ao7)(f:apr)(s:Sum):Prop:=
 ∀(args:List aoP) (objs:List ak) (r:bO) (jd:List ak),(s.spec args objs).run=some (r,jd)→aI P f args objs fun r' o'=>r'=r∧o'=jd
section
variable (P:ao7)
def Fx:Nat→ao1→Bool
 |0,t=>match P.underlying t with
  |some .bool|some (.int _)|some .string|some (.float _)=>true
  |_=>false
 |d+1,t=>match P.underlying t with
  |some .bool|some (.int _)|some .string|some (.float _)=>true
  |some (.struct fs)=>fs.toList.all fun f=>Fx d f.type
  |some (.array _ e)=>Fx d e
  |_=>false
def Mp(t:ao1):Bool:=Fx P 3 t
def AH(τ:Nat→Option Nat):ak→QT ak
 | .cells c el ro=>match Mp P el with
  |true=>.tL (c.all ag) (.done (.cells c el ro))
  |false=>match mA (ic τ 6) c with
   |some c'=>.done (.cells c' el ro)
   |none=>.fail
 | .map es clock=>.ask ((es.map (ed τ)).all ag) fun b=>match b with
  |true=>.done (.map es clock)
  |false=>match rN τ es with
   |some cW=>.done (.map cW clock)
   |none=>.fail
 | .kU s p=>.done (.kU s p)
 | .rows n s r=>.done (.rows n s r)
 | .abs d=>.done (.abs d)
 | .dead=>.fail
def ya(τ:Nat→Option Nat):List ak→QT (List ak)
 | []=>.done []
 |o::l=>(AH P τ o).bind fun o'=>(ya τ l).bind fun r=>.done (o'::r)
def getAll(g:Nat→Option ak):List Nat→Option (List ak)
 | []=>some []
 |x::l=>match g x,getAll g l with
  |some o,some r=>some (o::r)
  |_,_=>none
def rP(τ:Nat→Option Nat):List ak→List ak→QT (List ak)
 |ob::ci,o::l=>match ob.ro with
  |true=>(rP τ ci l).bind fun r=>.done (ob::r)
  |false=>match o with
   | .dead=>(rP τ ci l).bind fun r=>.done (.dead::r)
   |o=>(AH P τ o).bind fun o'=>match o'.ro with
    |true=>.fail
    |false=>(rP τ ci l).bind fun r=>.done (o'::r)
 | [],l=>(ya P τ l).bind fun r=>match r.all (fun o=> !o.ro)with
  |true=>.done r
  |false=>.fail
 |_::_,[]=>.fail
def tM:List Nat→List ak→List ak→Tr ak×List Nat→Option (Tr ak×List Nat×List ak)
 |x::σ,ob::ci,o::l,(t,wr)=>match ob.ro with
  |true=>tM σ ci l (t,wr)
  |false=>tM σ ci l (t.set 18 x o,x::wr)
 | [],[],l,(t,wr)=>some (t,wr,l)
 |_,_,_,_=>none
def fi:Nat→Nat→List Nat
 |_,0=>[]
 |k,n+1=>k::fi (k+1) n
def qI(τ:Nat→Option Nat):bO→Option bO
 | .ret v=>match ic τ 6 v with
  |some u=>some (.ret u)
  |none=>none
 | .panic v=>match fl v with
  |true=>some (.panic v)
  |false=>none
def AI(s:Sum)(args:List aoP)(S:VS):QT (bO×VS):=match s.names args (gt S.mem)with
 |none=>.fail
 |some σ=>match getAll (gt S.mem) σ,mA (ic (eX σ) 6) args,iG σ&&apf σ.length 262144 with
  |some ci,some pF,true=>(ya P (eX σ) ci).bind fun jy=>(s.spec pF jy).bind fun p=>
   (rP P (fun i=>(σ++fi S.next (p.2.length-σ.length))[i]?) ci p.2).bind fun je=>
    match qI (fun i=>(σ++fi S.next (p.2.length-σ.length))[i]?) p.1,tM σ ci je (S.mem,S.wr)with
    |some r,some (t,wr,news)=>match rp news ⟨t,S.next,σ++S.rd,wr⟩with
     |some S1=>.done (r,S1)
     |none=>.fail
    |_,_=>.fail
  |_,_,_=>.fail
end
section
variable {P:ao7}
theorem Mq{τ:Nat→Option Nat}{o o':ak}(h:(AH P τ o).run=some o'):ON τ o o'∧o'.ro=o.ro∧o≠ .dead∧o'≠ .dead:=by
 unfold AH at h
 split at h
 ·split at h
  ·obtain⟨h1,h⟩:=QT.vz h
   cases h
   exact⟨.plain _ _ _ h1,rfl,(by intro e;cases e),(by intro e;cases e)⟩
  ·split at h
   ·rename_i hc
    cases h
    exact⟨.cells _ _ _ _ hc,rfl,(by intro e;cases e),(by intro e;cases e)⟩
   ·cases h
 ·rename_i es clock
  cases hb:(es.map (ed τ)).all ag with
  |true=>
   simp only[QT.run,hb]at h
   cases h
   exact⟨.map _ _ _ (Fi hb),rfl,(by intro e;cases e),(by intro e;cases e)⟩
  |false=>
   simp only[QT.run,hb]at h
   split at h
   ·rename_i vd
    cases h
    exact⟨.map _ _ _ vd,rfl,(by intro e;cases e),(by intro e;cases e)⟩
   ·cases h
 ·cases h;exact⟨.kU _ _,rfl,(by intro e;cases e),(by intro e;cases e)⟩
 ·cases h;exact⟨.rows _ _ _,rfl,(by intro e;cases e),(by intro e;cases e)⟩
 ·cases h;exact⟨.abs _,rfl,(by intro e;cases e),(by intro e;cases e)⟩
 ·cases h
theorem Fy{τ:Nat→Option Nat}:∀{l l':List ak},(ya P τ l).run=some l'→dQ (fun o o'=>ON τ o o'∧o'.ro=o.ro∧o≠ .dead∧o'≠ .dead) l l'
 | [],l',h=>by cases h;exact .nil
 |o::l,l',h=>by
  unfold ya at h
  obtain⟨o',h1,h⟩:=QT.run_bind h
  obtain⟨r,h2,h⟩:=QT.run_bind h
  cases h
  exact .cons (Mq h1) (Fy h2)
theorem AJ{τ:Nat→Option Nat}:∀{ci l l':List ak},(rP P τ ci l).run=some l'→l'.length=l.length∧ci.length≤l.length∧
 ∀(i:Nat) (o o':ak),l[i]?=some o→l'[i]?=some o'→(∀ob:ak,ci[i]?=some ob→ob.ro=false)→ON τ o o'∧o'.ro=false∧True
 | [],l,l',h=>by
  unfold rP at h
  obtain⟨r,h1,h⟩:=QT.run_bind h
  split at h
  ·rename_i kE
   cases h
   have h2:=Fy h1
   refine⟨h2.len.symm,by simp,fun i o o' ho AK _=>?_⟩
   obtain⟨o2,h3,h4,h5,h6,h7⟩:=h2.get AK
   rw[ho]at h3
   cases h3
   have:=aps.1 kE o' (apy AK)
   exact⟨h4,by simpa using this,trivial⟩
  ·cases h
 |ob::ci,[],l',h=>by cases h
 |ob::ci,o::l,l',h=>by
  unfold rP at h
  split at h
  ·rename_i dw
   obtain⟨r,h1,h⟩:=QT.run_bind h
   cases h
   obtain⟨h2,h3,h4⟩:=AJ h1
   refine⟨by simp[h2],by simpa using h3,fun i a a' ha fW fe=>?_⟩
   cases i with
   |zero=>have:=fe ob rfl;rw[dw]at this;cases this
   |succ i=>exact h4 i a a' (by simpa using ha) (by simpa using fW) fun q hq=>fe q (by simpa using hq)
  ·split at h
   ·obtain⟨r,h1,h⟩:=QT.run_bind h
    cases h
    obtain⟨h2,h3,h4⟩:=AJ h1
    refine⟨by simp[h2],by simpa using h3,fun i a a' ha fW fe=>?_⟩
    cases i with
    |zero=>
     simp only[apE,aoU]at ha fW
     subst ha fW
     exact⟨.dead _,rfl,trivial⟩
    |succ i=>exact h4 i a a' (by simpa using ha) (by simpa using fW) fun q hq=>fe q (by simpa using hq)
   ·obtain⟨o',h0,h⟩:=QT.run_bind h
    split at h
    ·cases h
    ·rename_i AL
     obtain⟨r,h1,h⟩:=QT.run_bind h
     cases h
     obtain⟨h2,h3,h4⟩:=AJ h1
     refine⟨by simp[h2],by simpa using h3,fun i a a' ha fW fe=>?_⟩
     cases i with
     |zero=>
      simp only[apE,aoU]at ha fW
      subst ha fW
      exact⟨(Mq h0).1,by simpa using AL,trivial⟩
     |succ i=>exact h4 i a a' (by simpa using ha) (by simpa using fW) fun q hq=>fe q (by simpa using hq)
theorem AM{g:Nat→Option ak}:∀{σ:List Nat} {ci:List ak},getAll g σ=some ci→σ.length=ci.length∧∀(i x:Nat),σ[i]?=some x→∃o,ci[i]?=some o∧g x=some o
 | [],ci,h=>by cases h;exact⟨rfl,fun i x h=>by simp at h⟩
 |y::σ,ci,h=>by
  unfold getAll at h
  split at h
  ·rename_i o r h1 h2
   cases h
   obtain⟨h3,h4⟩:=AM h2
   refine⟨by simp[h3],fun i x hx=>?_⟩
   cases i with
   |zero=>simp only[apE,aoU]at hx;subst hx;exact⟨o,rfl,h1⟩
   |succ i=>simpa using h4 i x (by simpa using hx)
  ·cases h
def mC(m:Nat→Option ak):List Nat→List ak→List ak→Nat→Option ak
 |x::σ,ob::ci,o::l=>mC (bif ob.ro then m else cT m x o) σ ci l
 |_,_,_=>m
theorem qJ{x:Nat}:∀{σ:List Nat} {ci l:List ak} {m:Nat→Option ak},(∀(i:Nat) (ob:ak),σ[i]?=some x→ci[i]?=some ob→ob.ro=true)→mC m σ ci l x=m x
 | [],ci,l,m,h=>by cases ci<;>rfl
 |y::σ,[],l,m,h=>rfl
 |y::σ,ob::ci,[],m,h=>rfl
 |y::σ,ob::ci,o::l,m,h=>by
  show mC (bif ob.ro then m else cT m y o) σ ci l x=m x
  have h':∀(i:Nat) (pI:ak),σ[i]?=some x→ci[i]?=some pI→pI.ro=true:=fun i pI h1 h2=>h (i+1) pI (by simpa using h1) (by simpa using h2)
  rw[qJ h']
  cases dw:ob.ro with
  |true=>rfl
  |false=>
   show cT m y o x=m x
   rw[ec]
   rintro rfl
   have:=h 0 ob rfl rfl
   rw[dw]at this
   cases this
theorem vA{x:Nat}:∀{σ:List Nat} {ci l:List ak} {m:Nat→Option ak} {i:Nat} {ob o:ak},iG σ=true→σ[i]?=some x→ci[i]?=some ob→l[i]?=some o→ob.ro=false→mC m σ ci l x=some o
 | [],ci,l,m,i,ob,o,hn,h1,h2,h3,h4=>by simp at h1
 |y::σ,[],l,m,i,ob,o,hn,h1,h2,h3,h4=>by simp at h2
 |y::σ,b::ci,[],m,i,ob,o,hn,h1,h2,h3,h4=>by simp at h3
 |y::σ,b::ci,a::l,m,i,ob,o,hn,h1,h2,h3,h4=>by
  have pJ:=hn
  simp only[iG,ao3]at hn
  show mC (bif b.ro then m else cT m y a) σ ci l x=some o
  cases i with
  |zero=>
   simp only[apE,aoU]at h1 h2 h3
   subst h1 h2 h3
   rw[h4]
   show mC (cT m y a) σ ci l y=some a
   rw[qJ,fh]
   intro j pI hj _
   have:=tI pJ (x:=0) (y:=j+1) (z:=y) rfl (by simpa using hj)
   omega
  |succ i=>exact vA hn.2 (by simpa using h1) (by simpa using h2) (by simpa using h3) h4
theorem AN:∀{σ:List Nat} {ci l:List ak} {t t':Tr ak} {wr qK:List Nat} {news:List ak},tM σ ci l (t,wr)=some (t',qK,news)→(∀x∈σ,small x=true)→
 gt t'=mC (gt t) σ ci l∧σ.length=ci.length∧(∃rQ,l=rQ++news∧rQ.length=σ.length)∧(∀x,x∈wr→x∈qK)∧
 (∀x,x∈qK→x∈wr∨x∈σ)∧∀(i x:Nat) (ob:ak),σ[i]?=some x→ci[i]?=some ob→ob.ro=false→x∈qK
 | [],[],l,t,t',wr,qK,news,h,hs=>by
  simp only[tM,aoU,aoX]at h
  obtain⟨rfl,rfl,rfl⟩:=h
  exact⟨rfl,rfl,⟨[],rfl,rfl⟩,fun _ h=>h,fun _ h=>.inl h,fun i x ob h=>by simp at h⟩
 |x::σ,ob::ci,o::l,t,t',wr,qK,news,h,hs=>by
  unfold tM at h
  split at h
  ·rename_i dw
   obtain⟨h1,h2,⟨rQ,h3,h4⟩,h5,h6,h7⟩:=AN h fun y hy=>hs y (apc _ hy)
   refine⟨?_,by simp[h2],⟨o::rQ,by simp[h3],by simp[h4]⟩,h5,fun y hy=>(h6 y hy).imp id (apc _),fun i y pI a b c=>?_⟩
   ·rw[h1];show _=mC (bif ob.ro then gt t else cT (gt t) x o) σ ci l;rw[dw];rfl
   ·cases i with
    |zero=>simp only[apE,aoU]at b;subst b;rw[dw]at c;cases c
    |succ i=>exact h7 i y pI (by simpa using a) (by simpa using b) c
  ·rename_i dw
   obtain⟨h1,h2,⟨rQ,h3,h4⟩,h5,h6,h7⟩:=AN h fun y hy=>hs y (apc _ hy)
   refine⟨?_,by simp[h2],⟨o::rQ,by simp[h3],by simp[h4]⟩,fun y hy=>h5 y (apc _ hy),fun y hy=>?_,fun i y pI a b c=>?_⟩
   ·rw[h1,xf (hs x ape)]
    show _=mC (bif ob.ro then gt t else cT (gt t) x o) σ ci l
    rw[dw]
    rfl
   ·rcases h6 y hy with hy|hy
    ·rcases ao8.1 hy with rfl|hy
     ·exact .inr ape
     ·exact .inl hy
    ·exact .inr (apc _ hy)
   ·cases i with
    |zero=>simp only[apE,aoU]at a;subst a;exact h5 _ ape
    |succ i=>exact h7 i y pI (by simpa using a) (by simpa using b) c
 | [],_::_,l,t,t',wr,qK,news,h,hs=>by cases h
 |_::_,[],l,t,t',wr,qK,news,h,hs=>by cases h
 |_::_,_::_,[],t,t',wr,qK,news,h,hs=>by cases h
theorem Fz:∀{n k i:Nat},(fi k n)[i]?=if i<n then some (k+i)else none
 |0,k,i=>by simp[fi]
 |n+1,k,i=>by
  cases i with
  |zero=>simp[fi]
  |succ i=>
   simp only[fi,ap5]
   rw[Fz]
   by_cases h:i<n
   ·rw[if_pos h,if_pos (by omega)];congr 1;omega
   ·rw[if_neg h,if_neg (by omega)]
theorem SR.mono{w₀ w:ao4}{B B':Nat→Prop}(hB:∀b,B b→B' b∧w.heap[b]?=w₀.heap[b]?){s:SV}{v:aoP}(h:SR P w₀ B s v):SR P w B' s v:=by
 induction h with
 |val v h=>exact .val v h
 |nil el a=>exact .nil el a
 |cells n c el b off cap c' b8 fr h1 h2 h3 h4 h5 h6=>exact .cells n c el b off cap c' b8 fr (hB b h1).1 ((hB b h1).2.trans h2) h3 h4 h5 h6
 |nI size row a=>exact .nI size row a
 |rows n size row b off cap c' b8 fr h1 h2 h3 h4 h5 h6 u h7 h8 ih=>exact .rows n size row b off cap c' b8 fr (hB b h1).1 ((hB b h1).2.trans h2) h3 h4 h5 h6 u h7 ih
theorem mX.mono{w₀ w:ao4}{B B':Nat→Prop}(hB:∀b,B b→B' b∧w.heap[b]?=w₀.heap[b]?){r:bT}{n size:Nat}{row:Nat→List SV}(h:mX P w₀ B r n size row):mX P w B' r n size row:=by
 obtain⟨c',b8,fr,h1,h2,h3,h4⟩:=h.at_
 exact⟨(hB _ h.aN).1,h.sz,c',b8,fr,(hB _ h.aN).2.trans h1,h2,h3,fun i hi=>⟨(h4 i hi).1,fun k sv hk=>let⟨v',a,b⟩:=(h4 i hi).2 k sv hk;⟨v',a,b.mono hB⟩⟩⟩
end
end Go.Proofs.YtnlkkgpcikkpoaaGreat.Vm
namespace Go.Proofs.YtnlkkgpcikkpoaaGreat.Vm
open Go.RowKit
section
variable {P:ao7}
structure rR(P:ao7)(s:Sum)(args:List aoP)(S S':VS)(r:bO) where
 σ:List Nat
 ci:List ak
 pF:List aoP
 jy:List ak
 r1:bO
 je:List ak
 back:List ak
 t:Tr ak
 wr:List Nat
 news:List ak
 fe:getAll (gt S.mem) σ=some ci
 FA:mA (ic (eX σ) 6) args=some pF
 dx:iG σ=true
 jb:σ.length≤262144
 rS:dQ (fun o o'=>ON (eX σ) o o'∧o'.ro=o.ro∧o≠ .dead∧o'≠ .dead) ci jy
 tN:(s.spec pF jy).run=some (r1,je)
 FB:(rP P (fun i=>(σ++fi S.next (je.length-σ.length))[i]?) ci je).run=some back
 hr:qI (fun i=>(σ++fi S.next (je.length-σ.length))[i]?) r1=some r
 AO:tM σ ci back (S.mem,S.wr)=some (t,wr,news)
 uY:rp news ⟨t,S.next,σ++S.rd,wr⟩=some S'
theorem Mr{s:Sum}{args:List aoP}{S S':VS}{r:bO}(h:(AI P s args S).run=some (r,S')):Nonempty (rR P s args S S' r):=by
 unfold AI at h
 split at h
 ·cases h
 ·rename_i σ hσ
  split at h
  ·rename_i ci pF h1 h2 h3
   simp only[ao3]at h3
   obtain⟨jy,h4,h⟩:=QT.run_bind h
   obtain⟨⟨r1,je⟩,h5,h⟩:=QT.run_bind h
   obtain⟨back,h6,h⟩:=QT.run_bind h
   dsimp only at h h6
   split at h
   ·rename_i r' t wr news h7 h8
    split at h
    ·rename_i S1 h9
     simp only[QT.run,aoU,aoX]at h
     obtain⟨rfl,rfl⟩:=h
     exact⟨⟨σ,ci,pF,jy,r1,je,back,t,wr,news,h1,h2,h3.1,apk h3.2,Fy h4,h5,h6,h7,h8,h9⟩⟩
    ·cases h
   ·cases h
  ·cases h
theorem rR.FC{s:Sum}{args:List aoP}{S S':VS}{r:bO}(A:rR P s args S S' r):∀x∈A.σ,small x=true:=fun x hx=>by
 obtain⟨i,hi⟩:=aqg hx
 obtain⟨o,_,h⟩:=(AM A.fe).2 i x hi
 exact po h
theorem rR.ext{s:Sum}{args:List aoP}{S S':VS}{r:bO}(A:rR P s args S S' r):dP S S':=by
 obtain⟨h1,h2,_,h4,h5,h6⟩:=AN A.AO A.FC
 obtain⟨e,fX,_,_⟩:=xE A.uY
 refine dP.trans (b:=⟨A.t,S.next,A.σ++S.rd,A.wr⟩) ⟨fun x hx=>List.mem_append_right _ hx,h4,fun x hx=>?_,fun hS x hx=>?_⟩ e
 ·show gt A.t x=gt S.mem x
  rw[h1,qJ]
  intro i ob hi fe
  cases dw:ob.ro with
  |true=>rfl
  |false=>exact absurd (h6 i x ob hi fe dw) hx
 ·rcases hx with hx|hx
  ·rcases List.mem_append.1 hx with hx|hx
   ·exact A.FC x hx
   ·exact hS x (.inl hx)
  ·rcases h5 x hx with hx|hx
   ·exact hS x (.inr hx)
   ·exact A.FC x hx
theorem rR.call{f:apr}{s:Sum}(hs:bB P f s){args:List aoP}{S S':VS}{r:bO}(A:rR P s args S S' r){B:Nat→Prop}{w₀:ao4}{ρ:Ren}{m:Nat→Option ak}{w:ao4}{args':Array aoP}
 (ha:LR ρ args args'.toList)(hw:WR P B w₀ ρ m w)(hm:fI S S' m):Calls P f args' w fun e w'=>∃ρ',ρ.le ρ'∧CR ρ' r e∧WR P B w₀ ρ' (post m S') w':=by
 obtain⟨σ,ci,pF,jy,r1,je,back,t,wr,news,fe,FA,dx,jb,rS,tN,FB,hr,AO,uY⟩:=A
 have hA:rR P s args S S' r:=⟨σ,ci,pF,jy,r1,je,back,t,wr,news,fe,FA,dx,jb,rS,tN,FB,hr,AO,uY⟩
 obtain⟨pK,AP⟩:=AM fe
 have Xg:∀x∈σ,small x=true:=fun x hx=>by
  obtain⟨i,hi⟩:=aqg hx
  obtain⟨o,_,h⟩:=AP i x hi
  exact po h
 obtain⟨l1,l2,⟨rQ,l3,anh⟩,l4,l5,l6⟩:=AN AO Xg
 obtain⟨e1,fX,z1,tw⟩:=xE uY
 obtain⟨b1,b2,b3⟩:=AJ FB
 -- the caller's memory at the old names
 have vB:∀(i x:Nat),σ[i]?=some x→∃o,ci[i]?=some o∧m x=some o:=fun i x hi=>by
  obtain⟨o,h1,h2⟩:=AP i x hi
  refine⟨o,h1,?_⟩
  rw[hm x (.inl (by rw[fX];exact List.mem_append_left _ (apy hi)))]
  exact h2
 obtain⟨F,fa,fb,fc⟩:=hw.abs
 have Xh:jy.length=σ.length:=by rw[←rS.len,pK]
 have bu:∀(i:Nat) (o:ak),ci[i]?=some o→o≠ .dead:=fun i o hi=>by
  obtain⟨o',AK⟩:∃o',jy[i]?=some o':=by
   have:i<jy.length:=by rw[←rS.len];exact(ao0.1 hi).1
   exact⟨_,aoV this⟩
  obtain⟨o2,h1,_,_,h2,_⟩:=rS.get AK
  rw[hi]at h1
  cases h1
  exact h2
 have Ms:∀(i x:Nat),σ[i]?=some x→∃q,ρ x=some q:=fun i x hi=>by
  obtain⟨o,h1,h2⟩:=vB i x hi
  exact hw.named x o h2 (bu i o h1)
 -- the callee's names
 let ρ1:Ren:=fun x=>match small x with
  |true=>(σ[x]?).bind ρ
  |false=>some (vp (x-262144))
 have mD:∀x,small x=true→ρ1 x=(σ[x]?).bind ρ:=fun x h=>by show(match small x with|true=>_|false=>_)=_;rw[h]
 have rT:∀x,small x=false→ρ1 x=some (vp (x-262144)):=fun x h=>by show(match small x with|true=>_|false=>_)=_;rw[h]
 have vC:∀(i x:Nat),σ[i]?=some x→small i=true:=fun i x h=>gT.2 (by
  have:i<σ.length:=(ao0.1 h).1
  have:(2:Nat)^18=262144:=rfl
  omega)
 have Mu:∀y i q,eX σ y=some i→ρ y=some q→ρ1 i=some q:=fun y i q h1 h2=>by
  have h3:=AD h1
  rw[mD i (vC i y h3),h3]
  exact h2
 have gI:Full ρ1:=fun q=>by
  obtain⟨n,h⟩:=Mb q
  exact⟨n+262144,AC n,by rw[rT _ (AC n)];simp[h]⟩
 let B1:Nat→Prop:=fun b=>b<w.heap.size∧(∀(i x:Nat) (o:ak) (q:bT),σ[i]?=some x→ci[i]?=some o→ρ x=some q→o.ro=false→Live o q=true→q.aN≠b)∧∀(i x:Nat) (d:ly),σ[i]?=some x→ci[i]?=some (.abs d)→¬F x b
 have pM:∀b,B b→B1 b:=fun b hb=>⟨hw.size b hb,fun i x o q h1 h2 h3 h4 h5 e=>by
  obtain⟨o',h6,h7⟩:=vB i x h1
  rw[h2]at h6
  cases h6
  obtain⟨_,_,_,h8⟩:=hw.live x o q h7 h3 h5
  exact h8 h4 (e▸hb),fun i x d _ _ hF=>(fb x b hF).2.2.1 hb⟩
 have FD:∀b,B b→B1 b∧w.heap[b]?=w₀.heap[b]? :=fun b hb=>⟨pM b hb,hw.below.block b hb⟩
 have nR:∀(i:Nat) (o':ak),jy[i]?=some o'→∃x o,σ[i]?=some x∧ci[i]?=some o∧m x=some o∧ON (eX σ) o o'∧o'.ro=o.ro:=fun i o' hi=>by
  obtain⟨o,h1,h2,h3,_,_⟩:=rS.get hi
  have hlt:i<σ.length:=by rw[←Xh];exact(ao0.1 hi).1
  obtain⟨o2,h4,h5⟩:=vB i _ (aoV hlt)
  rw[h1]at h4
  cases h4
  exact⟨_,o,aoV hlt,h1,h5,h2,h3⟩
 have rU:∀x o',cw jy x=some o'→o'≠ .dead→small x=true∧jy[x]?=some o':=fun x o' hx bu=>by
  cases jz:small x with
  |true=>rw[cD jz]at hx;exact⟨rfl,hx⟩
  |false=>rw[ie jz]at hx;cases hx;exact absurd rfl bu
 have gP:WR P B1 w ρ1 (cw jy) w:=
  {below:=gq.refl _ _
   env:=hw.env.next hw.below pM
   size:=fun k hk=>hk.1
   live:=by
    intro x o' q hx hq hl
    obtain⟨jz,gy⟩:=rU x o' hx (by rintro rfl;cases hl)
    obtain⟨y,o,h1,h2,h3,h4,h5⟩:=nR x o' gy
    rw[mD x jz,h1]at hq
    have hq:ρ y=some q:=hq
    obtain⟨qv,_⟩:=h4.live hl
    obtain⟨oo,h6,h7,h8⟩:=hw.live y o q h3 hq qv
    exact⟨oo,h6,h4.or Mu hl oo h7,fun dw hb=>hb.2.1 x y o q h1 h2 hq (h5▸dw) qv rfl⟩
   inj:=by
    intro x y ox oy rx ry hx hy kK cA kL dj hd he
    obtain⟨jz,gy⟩:=rU x ox hx (by rintro rfl;cases kL)
    obtain⟨Xi,kA⟩:=rU y oy hy (by rintro rfl;cases dj)
    obtain⟨a,oa,a1,a2,a3,a4,a5⟩:=nR x ox gy
    obtain⟨b,ob,c1,c2,c3,c4,c5⟩:=nR y oy kA
    rw[mD x jz,a1]at kK
    rw[mD y Xi,c1]at cA
    have:=hw.inj a b oa ob rx ry a3 c3 kK cA (a4.live kL).1 (c4.live dj).1 (hd.imp (fun h=>a5▸h) (fun h=>c5▸h)) he
    subst this
    exact tI dx a1 c1
   fresh:=by
    intro x hx
    cases jz:small x with
    |true=>
     rw[cD jz]at hx
     rw[mD x jz]
     have:σ[x]?=none:=by
      rw[aqE]at hx⊢
      omega
     rw[this];rfl
    |false=>rw[ie jz]at hx;cases hx
   rows:=by
    intro x n size row hx
    obtain⟨jz,gy⟩:=rU x _ hx (by intro e;cases e)
    obtain⟨y,o,h1,h2,h3,h4,h5⟩:=nR x _ gy
    cases h4
    obtain⟨q,h6,h7⟩:=hw.rows y n size row h3
    exact⟨q,by rw[mD x jz,h1];exact h6,fun hn=>(h7 hn).mono FD⟩
   nil:=by
    intro x el ro q hx hq
    obtain⟨jz,gy⟩:=rU x _ hx (by intro e;cases e)
    obtain⟨y,o,h1,h2,h3,h4,h5⟩:=nR x _ gy
    rw[mD x jz,h1]at hq
    have hq:ρ y=some q:=hq
    cases h4 with
    |plain=>exact hw.nil y el ro q h3 hq
    |cells c _ _ _ h=>
     cases c with
     |nil=>exact hw.nil y el ro q h3 hq
     |cons v c=>have:=tG h;simp at this
   named:=by
    intro x o' hx AQ
    obtain⟨jz,gy⟩:=rU x o' hx AQ
    obtain⟨y,o,h1,h2,h3,h4,h5⟩:=nR x o' gy
    obtain⟨q,hq⟩:=Ms x y h1
    exact⟨q,by rw[mD x jz,h1];exact hq⟩
   abs:=by
    refine⟨fun i k=>∃x d,σ[i]?=some x∧ci[i]?=some (.abs d)∧F x k,fun i d hi=>?_,?_,?_⟩
    ·obtain⟨jz,gy⟩:=rU i _ hi (by intro e;cases e)
     obtain⟨y,o,h1,h2,h3,h4,h5⟩:=nR i _ gy
     cases h4
     obtain⟨r,S,c,e,f⟩:=fa y d h3
     exact⟨r,S,by rw[mD i jz,h1];exact c,e,fun k hk=>⟨y,d,h1,h2,f k hk⟩⟩
    ·rintro i k ⟨x,d,g1,g2,g3⟩
     obtain⟨_,b2,b3,b4⟩:=fb x k g3
     have hlt:i<jy.length:=by rw[←rS.len];exact(ao0.1 g2).1
     obtain⟨o2,q1,q2,q3,_,q5⟩:=rS.get (aoV hlt)
     rw[g2]at q1
     cases q1
     have hi:cw jy i=some (.abs d):=by
      rw[cD (vC i x g1),aoV hlt]
      generalize jy[i]=oo at q2 q5
      cases q2 with
      |abs=>rfl
      |dead=>exact absurd rfl q5
     refine⟨⟨d,hi⟩,b2,fun hk=>hk.2.2 i x d g1 g2 g3,fun z o' q hz hq hl=>?_⟩
     obtain⟨jz,gy⟩:=rU z o' hz (by rintro rfl;cases hl)
     obtain⟨y,o,h1,h2,h3,h4,h5⟩:=nR z o' gy
     rw[mD z jz,h1]at hq
     exact b4 y o q h3 hq (h4.live hl).1
    ·rintro i j k ⟨x,_,g1,_,g3⟩ ⟨x',_,Xj,_,Xk⟩
     have:=fc x x' k g3 Xk
     subst this
     exact tI dx g1 Xj}
 have Xl:∀x,x<jy.length→∃q,ρ1 x=some q:=fun x hx=>by
  have hlt:x<σ.length:=by omega
  obtain⟨q,hq⟩:=Ms x _ (aoV hlt)
  exact⟨q,by rw[mD x (vC x _ (aoV hlt)),aoV hlt];exact hq⟩
 have Xm:LR ρ1 pF args'.toList:=tF (qF Mu 6) FA ha
 refine(hs pF jy r1 je tN B1 w ρ1 w args' gI Xl Xm gP).mono fun e w' he=>?_
 obtain⟨r2,Xn,ρ2,⟨eL,xU⟩,jf,pC,dK,Xo,mB⟩:=he
 rw[eL]at jf
 rw[xU]at dK Xo
 clear eL xU r2 Xn
 -- the caller's names behind the call
 let N:Nat:=je.length-σ.length
 have Xp:back.length=je.length:=b1
 have ani:news.length=N:=by
  have:=congrArg List.length l3
  rw[List.length_append]at this
  show news.length=je.length-σ.length
  omega
 have hle:σ.length≤je.length:=by omega
 let ρ':Ren:=fun y=>if S.next≤y∧y<S.next+N then ρ2 (σ.length+(y-S.next))else ρ y
 have pA:∀j,j<N→m (S.next+j)=none:=fun j hj=>by
  obtain⟨h1,h2⟩:=z1 j (by omega)
  have h1:gt t (S.next+j)=none:=h1
  have h2:S.next+j∈S'.wr:=h2
  rw[hm _ (.inr h2)]
  rw[l1,qJ]at h1
  ·exact h1
  ·intro i ob hi fe
   cases dw:ob.ro with
   |true=>rfl
   |false=>
    exfalso
    have fo:i<back.length:=by have:=(ao0.1 hi).1;omega
    rw[vA dx hi fe (aoV fo) dw]at h1
    cases h1
 have FE:∀(i x:Nat),σ[i]?=some x→¬(S.next≤x∧x<S.next+N):=fun i x hi hx=>by
  obtain⟨o,_,h2⟩:=vB i x hi
  have:=pA (x-S.next) (by omega)
  rw[show S.next+(x-S.next)=x by omega,h2]at this
  cases this
 have Mv:∀j,j<N→ρ' (S.next+j)=ρ2 (σ.length+j):=fun j hj=>by
  show(if _ then _ else _)=_
  rw[if_pos ⟨by omega,by omega⟩,show S.next+j-S.next=j by omega]
 have AR:∀y,¬(S.next≤y∧y<S.next+N)→ρ' y=ρ y:=fun y hy=>by
  show(if _ then _ else _)=_
  rw[if_neg hy]
 have Mw:∀(i x:Nat),σ[i]?=some x→ρ' x=ρ2 i:=fun i x hi=>by
  have hlt:i<σ.length:=(ao0.1 hi).1
  rw[AR x (FE i x hi),mB i (by omega),mD i (vC i x hi),hi]
  rfl
 have EN:ρ.le ρ':=fun y q hy=>by
  by_cases fq:S.next≤y∧y<S.next+N
  ·have:=hw.fresh _ (pA (y-S.next) (by omega))
   rw[show S.next+(y-S.next)=y by omega,hy]at this
   cases this
  ·rw[AR y fq,hy]
 let τ:Nat→Option Nat:=fun i=>(σ++fi S.next (je.length-σ.length))[i]?
 have hτ:∀i y,τ i=some y→(σ[i]?=some y)∨(σ.length≤i∧i-σ.length<N∧y=S.next+(i-σ.length)):=fun i y h=>by
  have h:(σ++fi S.next N)[i]?=some y:=h
  by_cases hi:i<σ.length
  ·rw[apH hi]at h;exact .inl h
  ·rw[apz (by omega),Fz]at h
   split at h
   ·rename_i h3;cases h;exact .inr ⟨by omega,h3,rfl⟩
   ·cases h
 have Mx:∀i y q,τ i=some y→ρ2 i=some q→ρ' y=some q:=fun i y q h1 h2=>by
  rcases hτ i y h1 with h3|⟨h3,h4,rfl⟩
  ·rw[Mw i y h3,h2]
  ·rw[Mv _ h4,show σ.length+(i-σ.length)=i by omega,h2]
 have Xq:CR ρ' r e:=by
  unfold qI at hr
  split at hr
  ·rename_i v
   split at hr
   ·rename_i u hu
    cases hr
    cases e with
    |returned v'=>exact qF Mx 6 v u v' hu jf
    |panicked chain=>cases jf
    |outgrown=>cases jf
   ·cases hr
  ·rename_i v
   split at hr
   ·rename_i fQ
    cases hr
    cases e with
    |returned v'=>cases jf
    |panicked chain=>
     obtain⟨v',h1,h2⟩:=jf
     have:=mW fQ h2
     subst this
     exact⟨v',h1,nH fQ⟩
    |outgrown=>cases jf
   ·cases hr
 -- the memory behind the call
 let m0:Nat→Option ak:=mC m σ ci back
 have rV:fI ⟨t,S.next,σ++S.rd,wr⟩ S' m0:=fun x hx=>by
  show mC m σ ci back x=gt t x
  rw[l1]
  by_cases hex:∃(i:Nat) (ob:ak),σ[i]?=some x∧ci[i]?=some ob∧ob.ro=false
  ·obtain⟨i,ob,h1,h2,h3⟩:=hex
   have fo:i<back.length:=by have:=(ao0.1 h1).1;omega
   rw[vA dx h1 h2 (aoV fo) h3,vA dx h1 h2 (aoV fo) h3]
  ·have kE:∀(i:Nat) (ob:ak),σ[i]?=some x→ci[i]?=some ob→ob.ro=true:=fun i ob h1 h2=>by
    cases h3:ob.ro with
    |true=>rfl
    |false=>exact absurd ⟨i,ob,h1,h2,h3⟩ hex
   rw[qJ kE,qJ kE]
   exact hm x hx
 have FG:post m S'=iP m0 S.next news:=by
  have h1:=tw m0 rV
  have h1:post m0 S'=iP m0 S.next news:=h1
  rw[←h1]
  funext x
  unfold post
  by_cases hx:x∈S'.wr
  ·rw[if_pos hx,if_pos hx]
  ·rw[if_neg hx,if_neg hx]
   show m x=mC m σ ci back x
   rw[qJ]
   intro i ob h1 h2
   cases h3:ob.ro with
   |true=>rfl
   |false=>exact absurd (e1.wr x (l6 i x ob h1 h2 h3)) hx
 have My:∀(l:List ak) (k j:Nat) (g:Nat→Option ak),j<l.length→iP g k l (k+j)=l[j]? :=by
  intro l
  induction l with
  |nil=>intro k j g h;simp at h
  |cons o l ih=>
   intro k j g h
   cases j with
   |zero=>
    show iP (cT g k o) (k+1) l (k+0)=_
    rw[zO (.inl (by omega)),aq8,fh]
    rfl
   |succ j=>
    show iP (cT g k o) (k+1) l (k+(j+1))=_
    rw[show k+(j+1)=k+1+j by omega,ih (k+1) j _ (by simpa using h)]
    rfl
 -- each name of the caller's: another's, or one of the callee's
 have lD:∀y o,post m S' y=some o→(m y=some o∧ρ' y=ρ y∧∀(i:Nat) (ob:ak),σ[i]?=some y→ci[i]?=some ob→ob.ro=true)∨
  ∃i o2,τ i=some y∧small i=true∧cw je i=some o2∧ON τ o2 o∧o.ro=false∧True∧ρ' y=ρ2 i:=fun y o hy=>by
  rw[FG]at hy
  by_cases fq:S.next≤y∧y<S.next+N
  ·right
   have hj:y-S.next<news.length:=by omega
   rw[show y=S.next+(y-S.next)by omega,My news _ _ _ hj]at hy
   have AS:back[σ.length+(y-S.next)]?=some o:=by
    rw[l3,apz (by omega),show σ.length+(y-S.next)-rQ.length=y-S.next by omega]
    exact hy
   have hi:σ.length+(y-S.next)<je.length:=by rw[←Xp];exact(ao0.1 AS).1
   obtain⟨c1,c2,c3⟩:=b3 _ _ o (aoV hi) AS (fun ob fe=>by
    have:=(ao0.1 fe).1
    omega)
   have yb:small (σ.length+(y-S.next))=true:=gT.2 (by have:(2:Nat)^18=262144:=rfl;omega)
   refine⟨σ.length+(y-S.next),_,?_,yb,by rw[cD yb,aoV hi],c1,c2,c3,?_⟩
   ·show(σ++fi S.next N)[σ.length+(y-S.next)]?=some y
    rw[apz (by omega),Fz,if_pos (by omega)]
    congr 1
    omega
   ·have:=Mv (y-S.next) (by omega)
    rwa[show S.next+(y-S.next)=y by omega]at this
  ·rw[zO (by omega)]at hy
   have hy:mC m σ ci back y=some o:=hy
   by_cases hex:∃(i:Nat) (ob:ak),σ[i]?=some y∧ci[i]?=some ob∧ob.ro=false
   ·right
    obtain⟨i,ob,h1,h2,h3⟩:=hex
    have fo:i<back.length:=by have:=(ao0.1 h1).1;omega
    rw[vA dx h1 h2 (aoV fo) h3]at hy
    have AS:back[i]?=some o:=by rw[aoV fo,←hy]
    have vD:i<je.length:=by omega
    obtain⟨c1,c2,c3⟩:=b3 _ _ o (aoV vD) AS (fun pI fe=>by rw[h2]at fe;cases fe;exact h3)
    refine⟨i,_,?_,vC i y h1,by rw[cD (vC i y h1),aoV vD],c1,c2,c3,Mw i y h1⟩
    show(σ++fi S.next N)[i]?=some y
    rw[apH (ao0.1 h1).1,h1]
   ·left
    have kE:∀(i:Nat) (ob:ak),σ[i]?=some y→ci[i]?=some ob→ob.ro=true:=fun i ob h1 h2=>by
     cases h3:ob.ro with
     |true=>rfl
     |false=>exact absurd ⟨i,ob,h1,h2,h3⟩ hex
    rw[qJ kE]at hy
    exact⟨hy,AR y fq,kE⟩
 have anj:∀i j y,τ i=some y→τ j=some y→i=j:=fun i j y h1 h2=>by
  rcases hτ i y h1 with h3|⟨h3,h4,h5⟩<;>rcases hτ j y h2 with h6|⟨h6,h7,h8⟩
  ·exact tI dx h3 h6
  ·exact absurd ⟨by omega,by omega⟩ (FE i y h3)
  ·exact absurd ⟨by omega,by omega⟩ (FE j y h6)
  ·omega
 have hold:∀y o q,m y=some o→ρ y=some q→Live o q=true→(∀(i:Nat) (ob:ak),σ[i]?=some y→ci[i]?=some ob→ob.ro=true)→B1 q.aN:=fun y o q h1 h2 h3 h4=>by
  obtain⟨oo,h5,_⟩:=hw.live y o q h1 h2 h3
  refine⟨(Array.getElem?_eq_some_iff.1 h5).1,fun i x o' q' g1 g2 g3 g4 g5 e=>?_,fun i x d _ _ hF=>(fb x q.aN hF).2.2.2 y o q h1 h2 h3 rfl⟩
  obtain⟨o2,g6,g7⟩:=vB i x g1
  rw[g2]at g6
  cases g6
  have:=hw.inj x y o' o q' q g7 h1 g3 h2 g5 h3 (.inl g4) e
  subst this
  have:=h4 i o' g1 g2
  rw[g4]at this
  cases this
 refine⟨ρ',EN,Xq,
  {env:=hw.env
   below:=hw.below.trans ⟨dK.below.os,dK.below.tape,dK.below.output,dK.below.size,fun k hk=>dK.below.block k (pM k hk)⟩
   size:=fun k hk=>ard (hw.size k hk) dK.below.size
   live:=?_,inj:=?_,fresh:=?_,rows:=?_,nil:=?_,named:=?_,abs:=?_}⟩
 ·intro y o q hy hq hl
  rcases lD y o hy with⟨h1,h2,h3⟩|⟨i,o2,h1,h2,h3,h4,h5,_,h6⟩
  ·rw[h2]at hq
   obtain⟨oo,g1,g2,g3⟩:=hw.live y o q h1 hq hl
   exact⟨oo,by rw[dK.below.block _ (hold y o q h1 hq hl h3)];exact g1,g2.mono EN,g3⟩
  ·rw[h6]at hq
   obtain⟨oo,g1,g2,g3⟩:=dK.live i o2 q h3 hq (h4.live hl).1
   exact⟨oo,g1,h4.or Mx hl oo g2,fun dw hb=>g3 ((h4.live hl).2 dw) (pM _ hb)⟩
 ·intro x y ox oy rx ry hx hy kK cA kL dj hd he
  rcases lD x ox hx with⟨h1,h2,h3⟩|⟨i,o2,h1,h2,h3,h4,h5,_,h6⟩<;>rcases lD y oy hy with⟨g1,g2,g3⟩|⟨j,o3,g1,g2,g3,g4,g5,_,g6⟩
  ·rw[h2]at kK
   rw[g2]at cA
   exact hw.inj x y ox oy rx ry h1 g1 kK cA kL dj hd he
  ·rw[h2]at kK
   rw[g6]at cA
   obtain⟨_,_,_,g7⟩:=dK.live j o3 ry g3 cA (g4.live dj).1
   exact absurd (hold x ox rx h1 kK kL h3) (he▸g7 ((g4.live dj).2 g5))
  ·rw[h6]at kK
   rw[g2]at cA
   obtain⟨_,_,_,h7⟩:=dK.live i o2 rx h3 kK (h4.live kL).1
   exact absurd (hold y oy ry g1 cA dj g3) (he▸h7 ((h4.live kL).2 h5))
  ·rw[h6]at kK
   rw[g6]at cA
   have:=dK.inj i j o2 o3 rx ry h3 g3 kK cA (h4.live kL).1 (g4.live dj).1 (.inl ((h4.live kL).2 h5)) he
   subst this
   rw[h1]at g1
   cases g1
   rfl
 ·intro y hy
  by_cases fq:S.next≤y∧y<S.next+N
  ·rw[FG,show y=S.next+(y-S.next)by omega,My news _ _ _ (by omega)]at hy
   rw[aqE]at hy
   omega
  ·rw[FG,zO (by omega)]at hy
   have hy:mC m σ ci back y=none:=hy
   rw[AR y fq]
   by_cases hex:∃(i:Nat) (ob:ak),σ[i]?=some y∧ci[i]?=some ob∧ob.ro=false
   ·obtain⟨i,ob,h1,h2,h3⟩:=hex
    have fo:i<back.length:=by have:=(ao0.1 h1).1;omega
    rw[vA dx h1 h2 (aoV fo) h3]at hy
    cases hy
   ·rw[qJ (fun i ob h1 h2=>by
     cases h3:ob.ro with
     |true=>rfl
     |false=>exact absurd ⟨i,ob,h1,h2,h3⟩ hex)]at hy
    exact hw.fresh y hy
 ·intro y n size row hy
  rcases lD y _ hy with⟨h1,h2,h3⟩|⟨i,o2,h1,h2,h3,h4,h5,_,h6⟩
  ·obtain⟨q,g1,g2⟩:=hw.rows y n size row h1
   exact⟨q,by rw[h2];exact g1,g2⟩
  ·cases h5
 ·intro y el ro q hy hq
  rcases lD y _ hy with⟨h1,h2,h3⟩|⟨i,o2,h1,h2,h3,h4,h5,_,h6⟩
  ·rw[h2]at hq;exact hw.nil y el ro q h1 hq
  ·rw[h6]at hq
   cases h4 with
   |plain=>exact dK.nil i el ro q h3 hq
   |cells c _ _ _ h=>
    cases c with
    |nil=>exact dK.nil i el ro q h3 hq
    |cons v c=>have:=tG h;simp at this
 ·intro y o hy AQ
  rcases lD y o hy with⟨h1,h2,h3⟩|⟨i,o2,h1,h2,h3,h4,h5,_,h6⟩
  ·rw[h2];exact hw.named y o h1 AQ
  ·rw[h6];exact dK.named i o2 h3 (h4.ne AQ)
 ·obtain⟨F2,ga,gb,gc⟩:=dK.abs
  have x9:∀(y:Nat) (d:ly) (k:Nat),(∀(i:Nat) (ob:ak),σ[i]?=some y→ci[i]?=some ob→ob.ro=true)→F y k→B1 k:=fun y d k dw hk=>by
   obtain⟨_,b2,b3,b4⟩:=fb y k hk
   refine⟨b2,fun i x o q g1 g2 g3 g4 g5=>?_,fun i x d' g1 g2 hF=>?_⟩
   ·obtain⟨o2,g6,g7⟩:=vB i x g1
    rw[g2]at g6
    cases g6
    exact b4 x o q g7 g3 g5
   ·have:=fc x y k hF hk
    subst this
    have:=dw i _ g1 g2
    cases this
  refine⟨fun y k=>(∃d,post m S' y=some (.abs d)∧F y k∧B1 k)∨∃i d,τ i=some y∧post m S' y=some (.abs d)∧F2 i k,fun y d hy=>?_,fun y k hk=>?_,fun y1 y2 k vE kh=>?_⟩
  ·rcases lD y _ hy with⟨h1,h2,h3⟩|⟨i,o2,h1,h2,h3,h4,h5,_,h6⟩
   ·obtain⟨r,S,c,e,f⟩:=fa y d h1
    exact⟨r,S,by rw[h2,c],e.frame fun k hk=>dK.below.block k (x9 y d k h3 (f k hk)),fun k hk=>.inl ⟨d,hy,f k hk,x9 y d k h3 (f k hk)⟩⟩
   ·cases h4
    obtain⟨r,S,c,e,f⟩:=ga i d h3
    exact⟨r,S,by rw[h6,c],e,fun k hk=>.inr ⟨i,d,h1,hy,f k hk⟩⟩
  ·rcases hk with⟨d,p1,p3,p4⟩|⟨i,d,p1,p2,p4⟩
   ·obtain⟨_,b2,b3,b4⟩:=fb y k p3
    refine⟨⟨d,p1⟩,ard b2 dK.below.size,b3,fun z o r hz hr hl=>?_⟩
    rcases lD z o hz with⟨h1,h2,h3⟩|⟨i,o2,h1,h2,h3,h4,h5,_,h6⟩
    ·rw[h2]at hr;exact b4 z o r h1 hr hl
    ·rw[h6]at hr
     obtain⟨_,_,_,g3⟩:=dK.live i o2 r h3 hr (h4.live hl).1
     exact fun e=>g3 ((h4.live hl).2 h5) (e▸p4)
   ·obtain⟨_,q2,q3,q4⟩:=gb i k p4
    refine⟨⟨d,p2⟩,q2,fun hB=>q3 (pM k hB),fun z o r hz hr hl=>?_⟩
    rcases lD z o hz with⟨h1,h2,h3⟩|⟨j,o2,h1,h2,h3,h4,h5,_,h6⟩
    ·rw[h2]at hr;exact fun e=>q3 (e▸hold z o r h1 hr hl h3)
    ·rw[h6]at hr;exact q4 j o2 r h3 hr (h4.live hl).1
  ·rcases vE with⟨d,p1,p3,p4⟩|⟨i,d,p1,p2,p4⟩<;>rcases kh with⟨d',s1,s3,s4⟩|⟨j,d',s1,s2,s4⟩
   ·exact fc y1 y2 k p3 s3
   ·exact absurd p4 (gb j k s4).2.2.1
   ·exact absurd s4 (gb i k p4).2.2.1
   ·have:=gc i j k p4 s4
    subst this
    rw[p1]at s1
    cases s1
    rfl
end
def AU(P:ao7)(mG:apr→Option Sum)(base:fD):fD:=fun f args S=>match mG f with
 |some s=>(AI P s args S).dt
 |none=>base f args S
def tP(P:ao7)(mG:apr→Option Sum)(base:cL):cL:=fun f args S=>match mG f with
 |some s=>(AI P s args S).run
 |none=>base f args S
def dB(P:ao7)(mG:apr→Option Sum)(lf d:Nat):fD:=AU P mG (rM P (AU P mG) lf d)
theorem dI{P:ao7}(hP:iz P=true)(fx:P.follows .mixedOrders=true){mG:apr→Option Sum}(ht:∀f s,mG f=some s→bB P f s)(lf d:Nat):dk P (dB P mG lf d):=by
 have h1:∀call,hI P call→hI P (tP P mG call):=fun call hc=>
  {ext:=by
    intro f args S r S' h
    unfold tP at h
    split at h
    ·rename_i s hs
     obtain⟨A⟩:=Mr h
     exact A.ext
    ·exact hc.ext h
   ok:=by
    intro f args S r S' h B w₀ ρ m w args' ha hw hm
    unfold tP at h
    split at h
    ·rename_i s hs
     obtain⟨A⟩:=Mr h
     exact A.call (ht f s hs) ha hw hm
    ·exact hc.ok h ha hw hm}
 have h2:∀(c:fD) (c':cL),(∀f args S r,(c f args S).Has r→c' f args S=some r)→∀f args S r,(AU P mG c f args S).Has r→tP P mG c' f args S=some r:=by
  intro c c' hc f args S r h
  unfold AU at h
  unfold tP
  split at h
  ·exact QT.Xf h
  ·exact hc f args S r h
 exact⟨tP P mG (mn P (tP P mG) lf d),h1 _ (LH hP fx h1 lf d),h2 _ _ fun f args S r h=>Fe P h2 lf h⟩
end Go.Proofs.YtnlkkgpcikkpoaaGreat.Vm
namespace Go.Proofs.YtnlkkgpcikkpoaaGreat.Vm
open Go.RowKit
theorem an.done{P:ao7}{n k:Nat}{l:List apw}{d:ai}{Q:bj→ai→Prop}(hl:l.isEmpty=true)(h:Q .normal d):an P n k l d Q:=by
 cases l with
 |nil=>exact an.nil h
 |cons c l=>cases hl
def dC(P:ao7)(f:apr):apw:=match(P.funcs[f]?).bind (·.body)with
 |some c=>c
 |none=>.skip
def rW(P:ao7)(f:apr):List ResultVar:=match P.funcs[f]?with
 |some fn=>fn.results.toList
 |none=>[]
def cp(P:ao7)(f:apr):Nat:=match P.funcs[f]?with
 |some fn=>fn.ntmps
 |none=>0
def Mz(P:ao7)(f:apr)(n:Nat)(Q:bO→List ak→Prop):bj→ai→Prop
 | .normal,d=>∃vs l,(∀u,(gX P (eJ n u d.sl) (rW P f)).run (gt (k9 d.objs).mem)=some (vs,l))∧Q (.ret (mT vs)) d.objs
 | .ret,d=>∃vs l,(∀u,(gX P (eJ n u d.sl) (rW P f)).run (gt (k9 d.objs).mem)=some (vs,l))∧Q (.ret (mT vs)) d.objs
 | .panic v,d=>Q (.panic v) d.objs
 |_,_=>False
theorem aI.of{P:ao7}{f:apr}{n:Nat}{args:List aoP}{objs:List ak}{Q:bO→List ak→Prop}
 (hf:(((P.funcs[f]?).bind (·.body)).isSome&&ao6 (cp P f) n&&apf args.length n&&apf n 1024&&apf objs.length 262144)=true)
 (h:an P n objs.length (bd (dC P f)) ⟨vx args 0,objs⟩ (Mz P f n Q)):aI P f args objs Q:=by
 simp only[ao3]at hf
 obtain⟨⟨⟨⟨h1,h2⟩,h3⟩,h4⟩,h5⟩:=hf
 cases gH:P.funcs[f]?with
 |none=>rw[gH]at h1;cases h1
 |some fn=>
  cases hb:fn.body with
  |none=>rw[gH]at h1;dsimp only[atq]at h1;rw[hb]at h1;cases h1
  |some c=>
   have e1:dC P f=c:=by unfold dC;rw[gH];dsimp only[atq];rw[hb]
   have e2:rW P f=fn.results.toList:=by unfold rW;rw[gH]
   have e3:fn.ntmps=n:=by have:=apa h2;unfold cp at this;rw[gH]at this;exact this
   subst e3
   refine aI.Xd gH hb (by rw[h3,h4,h5];rfl) ?_
   rw[e1]at h
   refine h.mono fun x d' hx=>?_
   unfold Mz at hx
   rw[e2]at hx
   cases x<;>exact hx
def af(b:ByteArray):List aoP:=b.data.toList.map fun x=>.int .u8 x.toNat
def ao(l:List ByteArray):List aoP:=l.map Value.string
def ap(l:List Int):List aoP:=l.map (aoW .i64)
theorem mH(b:ByteArray):(af b).length=b.size:=by unfold af;simp
theorem yc(l:List ByteArray):(ao l).length=l.length:=by unfold ao;simp
theorem AV(l:List Int):(ap l).length=l.length:=by unfold ap;simp
theorem aH(b:ByteArray):(af b).all ag=true:=by unfold af;rw[List.all_map];exact aps.2 fun _ _=>rfl
theorem aV(l:List ByteArray):(ao l).all ag=true:=by unfold ao;simp[ag]
theorem aQ(l:List Int):(ap l).all ag=true:=by unfold ap;simp[ag]
theorem aC{a b:List aoP}(ha:a.all ag=true)(hb:b.all ag=true):(a++b).all ag=true:=by rw[List.all_append,ha,hb];rfl
theorem aS{a:List aoP}(ha:a.all ag=true)(n:Nat):(a.drop n).all ag=true:=by
 rw[aps]at ha⊢
 exact fun x hx=>ha x (List.mem_of_mem_drop hx)
theorem aB{a:List aoP}(ha:a.all ag=true)(n:Nat):(a.take n).all ag=true:=by
 rw[aps]at ha⊢
 exact fun x hx=>ha x (List.mem_of_mem_take hx)
theorem aE{a b:List aoP}(ha:a.all ag=true)(hb:b.all ag=true)(n:Nat):(bf a n b).all ag=true:=by
 unfold bf
 exact aC (aC (aB ha n) hb) (aS ha _)
theorem aU(b:List UInt8):(b.map fun x=>aoW .u8 (x.toNat:Int)).all ag=true:=by simp[ag]
theorem rX{c:List aoP}(h:c.all ag=true):c.all apR=true:=by
 rw[aps]at h⊢
 intro x hx
 have:=h x hx
 cases x<;>first|rfl|cases this
theorem MA:∀l:List UInt8,bytesOf (l.map fun x=>aoW .u8 (x.toNat:Int))=some l
 | []=>rfl
 |x::l=>by
  simp only[apM,bytesOf,MA l]
  simp
theorem FH{l:List Int}{i:Nat}(h:i<l.length):ay (ap l) i=l[i]:=by unfold ay ap;simp[h]
theorem FI{l:List Int}{i:Nat}(h:i<l.length):cH .i64 (ap l) i=true:=by unfold cH ap;simp[h]
theorem MB{l:List ByteArray}{i:Nat}(h:i<l.length):bc (ao l) i=l[i]:=by unfold bc ao;simp[h]
theorem MC{l:List ByteArray}{i:Nat}(h:i<l.length):eQ (ao l) i=true:=by unfold eQ ao;simp[h]
theorem MD{b:ByteArray}{i:Nat}(h:i<b.size):ay (af b) i=(b[i].toNat:Int):=by
 unfold ay af
 have:i<b.data.toList.length:=by simpa using h
 simp only[aqk,aoV this,aqc]
 rfl
theorem ME{b:ByteArray}{i:Nat}(h:i<b.size):cH .u8 (af b) i=true:=by
 unfold cH af
 have:i<b.data.toList.length:=by simpa using h
 simp[aqk,aoV this]
theorem ng{x:Int}(h0: -9223372036854775808≤x)(h1:x≤9223372036854775807):ao2.wrap x=x:=by
 rw[IntKind.wrap_i64];omega
end Go.Proofs.YtnlkkgpcikkpoaaGreat.Vm
