/- Part of the proof: Vc. -/
import Derived.Test.YtnlkkgpcikkpoaaJAc
import Derived.LoopN
import Derived.RangeFuncLeaves
import Derived.RangeFuncRecord
open Array renaming getD_eq_getD_getElem?→am4,getElem?_eq_getElem→aog
open Bool renaming and_eq_true→amB,and_self→aoe,false_and→apO
open Go renaming BinOp→aqR,Code→am3,Deferred→an1,Exit→aoF,FuncId→amY,MapEntry→amW,Oper→anp,Operand→anX,Program→amF,TypeId→amz,Value→amn,World→amC,wpIn_wide→ap5,wp_mono→aqt
open Go.Exit renaming inBlock→aqf
open Go.Fence renaming wide→api
open Go.Instr renaming index→apA,sliceAt→aow,sliceBound→apu
open Go.IntKind renaming i64→amA
open Go.Next renaming value→anC
open Go.Region renaming wanted→anZ
open Go.Value renaming int→amu,oneCell'→ano
open Go.World renaming putObj_heap_other→anM
open List renaming all_eq_true→am1,ext_getElem?→apq,foldl_cons→aom,getElem?_append_left→ane,getElem?_append_right→am5,getElem?_cons_succ→anD,getElem?_cons_zero→anb,getElem?_eq_getElem→amt,getElem?_eq_none→anH,getElem?_eq_none_iff→aob,getElem?_eq_some_iff→amy,getElem?_map→anT,getElem?_of_mem→anQ,getElem?_range→apB,getElem?_set_ne→ao3,getElem?_set_self→aoP,length_cons→am9,length_nil→apj,map_cons→ani,mem_cons→amH,mem_cons_of_mem→amK,mem_cons_self→amN,mem_of_getElem?→am8,range→aoO
open Nat renaming add_zero→aoC,beq→amE,beq_refl→anw,ble→amO,ble_eq_true_of_le→am2,blt→amG,eq_of_beq_eq_true→amI,le_of_ble_eq_true→amS,le_refl→amX,lt_of_lt_of_le→aoS,sub_zero→apc,zero_add→an8
open Nat.succ renaming inj→aqN
open Option renaming bind_some→aqL,getD_some→aoc,map_some→anL
open Option.some renaming injEq→amr
open Prod.mk renaming injEq→amv
set_option linter.unusedVariables false
set_option linter.unusedSimpArgs false
namespace Go.Proofs.Ytnlkkgpcikkpoaa.Vm
open Go.RowKit
inductive DT(α:Type) where
 |done (a:α)
 |fail
 |ask (d:Bool) (k:Bool→DT α)
 |fm (p:Bool) (x y:DT α)
inductive DT.Has{α:Type}:DT α→α→Prop where
 |done (a:α):Has (.done a) a
 |ask (d:Bool) (k:Bool→DT α) (a:α) (h:Has (k d) a):Has (.ask d k) a
 |left(p:Bool) (x y:DT α) (a:α) (h:Has x a):Has (.fm p x y) a
 |right(p:Bool) (x y:DT α) (a:α) (h:Has y a):Has (.fm p x y) a
def DT.bind{α β:Type}:DT α→(α→DT β)→DT β
 | .done a,f=>f a
 | .fail,_=>.fail
 | .ask d k,f=>.ask d fun b=>(k b).bind f
 | .fm p x y,f=>.fm p (x.bind f) (y.bind f)
def DT.fB{α:Type}:Option α→DT α
 |some a=>.done a
 |none=>.fail
theorem DT.cp{α:Type}{a b:α}(h:(DT.done a).Has b):b=a:=by cases h;rfl
theorem DT.UF{α:Type}{b:α}(h:(DT.fail:DT α).Has b):False:=by cases h
theorem DT.nS{α:Type}{d:Bool}{k:Bool→DT α}{b:α}(h:(DT.ask d k).Has b):(k d).Has b:=by cases h;assumption
theorem DT.na{α:Type}{p:Bool}{x y:DT α}{b:α}(h:(DT.fm p x y).Has b):x.Has b∨y.Has b:=by
 cases h with
 |left _ _ _ _ h=>exact .inl h
 |right _ _ _ _ h=>exact .inr h
theorem DT.gM{α:Type}{o:Option α}{b:α}(h:(DT.fB o).Has b):o=some b:=by
 cases o with
 |none=>cases h
 |some a=>rw[DT.cp h]
theorem DT.fi{α β:Type}:∀{x:DT α} {f:α→DT β} {b:β},(x.bind f).Has b→∃a,x.Has a∧(f a).Has b:=by
 intro x
 induction x with
 |done a=>intro f b h;exact⟨a,.done a,h⟩
 |fail=>intro f b h;cases h
 |ask d k ih=>
  intro f b h
  obtain⟨a,h1,h2⟩:=ih d (DT.nS h)
  exact⟨a,.ask d k a h1,h2⟩
 |fm p x y pZ p8=>
  intro f b h
  rcases DT.na h with h|h
  ·obtain⟨a,h1,h2⟩:=pZ h;exact⟨a,.left _ _ _ _ h1,h2⟩
  ·obtain⟨a,h1,h2⟩:=p8 h;exact⟨a,.right _ _ _ _ h1,h2⟩
inductive AT(α:Type) where
 |done (n:Nat) (a:α)
 |fail (n:Nat)
def mark{α:Type}(n:Nat)(x:AT α):AT α:=x
abbrev EO:=DT (bi×List Nat)
def j9(v:amn)(l:List Nat):EO:=.done (⟨.val v,[],none⟩,l)
theorem kD{v:amn}{l l':List Nat}{out:bi}(h:(j9 v l).Has (out,l')):out=⟨.val v,[],none⟩∧l'=l:=by
 have:=DT.cp h
 simpa using this
def dW{α:Type}(d:Bool)(k:DT α):DT α:=.ask d fun b=>match b with
 |true=>k
 |false=>.fail
theorem ed{α:Type}{d:Bool}{k:DT α}{a:α}(h:(dW d k).Has a):d=true∧k.Has a:=by
 have:=DT.nS h
 cases d with
 |true=>exact⟨rfl,this⟩
 |false=>exact(DT.UF this).elim
section
variable (P:amF)
def DB(t:amz)(x i:amn):EO:=match P.underlying t,x,i with
 |some (.array k el),.pointer (some ⟨b,off,none⟩),.int _ z=>match bT P el with
  |some size=>dW (decide (0≤z)) (dW (amG z.toNat k) (j9 (.pointer (some ⟨b,off+z.toNat*size,none⟩)) []))
  |none=>.fail
 |some (.slice el),.slice (some ⟨b,off,none⟩) len _,.int _ z=>match bT P el with
  |some size=>dW (decide (0≤z)) (dW (amG z.toNat len) (j9 (.pointer (some ⟨b,off+z.toNat*size,none⟩)) []))
  |none=>.fail
 |_,_,_=>.fail
theorem zt{k:IntKind}{z:Int}(h:decide (0≤z)=true):oF (.int k z)=some z.toNat:=by
 have:0≤z:=by simpa using h
 cases z with
 |ofNat n=>rfl
 |negSucc n=>omega
theorem UG{t:amz}{x i:amn}{out:bi}{l:List Nat}{g:Nat→Option ai}(h:(DB P t x i).Has (out,l)):(r4 P t x i).run g=some (out,l):=by
 unfold DB at h
 unfold r4
 split at h
 ·rename_i k el b off ik z ht
  split at h
  ·rename_i size hs
   obtain⟨h1,h⟩:=ed h
   obtain⟨h2,h⟩:=ed h
   obtain⟨rfl,rfl⟩:=kD h
   simp only[ht,zt h1,hs,h2]
   rfl
  ·cases h
 ·rename_i el b off len cap ik z ht
  split at h
  ·rename_i size hs
   obtain⟨h1,h⟩:=ed h
   obtain⟨h2,h⟩:=ed h
   obtain⟨rfl,rfl⟩:=kD h
   simp only[ht,zt h1,hs,h2]
   rfl
  ·cases h
 ·cases h
def au(c:List amn)(i:Nat):Int:=match c[i]?with
 |some (.int _ x)=>x
 |_=>0
def cy(k:IntKind)(c:List amn)(i:Nat):Bool:=match c[i]?with
 |some (.int k' _)=>decide (k'=k)
 |_=>false
def a8(c:List amn)(i:Nat):ByteArray:=match c[i]?with
 |some (.string x)=>x
 |_=>ByteArray.empty
def eB(c:List amn)(i:Nat):Bool:=match c[i]?with
 |some (.string _)=>true
 |_=>false
def gz(c:List amn)(i:Nat):Bool:=match c[i]?with
 |some (.bool x)=>x
 |_=>false
def nT(c:List amn)(i:Nat):Bool:=match c[i]?with
 |some (.bool _)=>true
 |_=>false
def DC(t:amz)(c:List amn)(off:Nat):DT amn:=match P.underlying t with
 |some (.int k)=>dW (cy k c off) (.done (.int k (au c off)))
 |some .string=>dW (eB c off) (.done (.string (a8 c off)))
 |some .bool=>dW (nT c off) (.done (.bool (gz c off)))
 |_=>.fail
theorem UH{t:amz}{c:List amn}{off:Nat}{v:amn}(h:(DC P t c off).Has v):nu P t=some false∧c[off]?=some v:=by
 unfold DC at h
 unfold nu
 split at h
 ·rename_i k ht
  obtain⟨h1,h⟩:=ed h
  have h2:=DT.cp h
  unfold cy at h1
  unfold au at h2
  split at h1
  ·rename_i k' x hc
   have:k'=k:=by simpa using h1
   subst this
   rw[hc]at h2⊢
   rw[ht,h2]
   exact⟨rfl,rfl⟩
  ·cases h1
 ·rename_i ht
  obtain⟨h1,h⟩:=ed h
  have h2:=DT.cp h
  unfold eB at h1
  unfold a8 at h2
  split at h1
  ·rename_i x hc
   rw[hc]at h2⊢
   rw[ht,h2]
   exact⟨rfl,rfl⟩
  ·cases h1
 ·rename_i ht
  obtain⟨h1,h⟩:=ed h
  have h2:=DT.cp h
  unfold nT at h1
  unfold gz at h2
  split at h1
  ·rename_i x hc
   rw[hc]at h2⊢
   rw[ht,h2]
   exact⟨rfl,rfl⟩
  ·cases h1
 ·cases h
def DD(g:Nat→Option ai)(t:amz)(a:amn):EO:=match a with
 | .pointer (some ⟨b,off,none⟩)=>match g b with
  |some (.cells c _ _)=>(DC P t c off).bind fun v=>j9 v [b]
  |_=>.fail
 |_=>.fail
theorem UI{t:amz}{a:amn}{out:bi}{l:List Nat}{g:Nat→Option ai}(h:(DD P g t a).Has (out,l)):(rX P t a).run g=some (out,l):=by
 unfold DD at h
 split at h
 ·rename_i b off
  split at h
  ·rename_i c el ro hb
   obtain⟨v,h1,h2⟩:=DT.fi h
   obtain⟨rfl,rfl⟩:=kD h2
   obtain⟨h3,h4⟩:=UH P h1
   unfold rX pC
   rw[Rd.run_bind]
   refine⟨v,[b],[],?_,rfl,rfl⟩
   simp only[Rd.run,hb,h3,h4]
  ·cases h
 ·cases h
def DE(c:List amn)(i:Nat):Bool:=match c[i]?with
 |some (.slice none 0 0)=>true
 |_=>false
def Ko(c:List amn)(i:Nat):Bool:=match c[i]?with
 |some (.slice (some ⟨2,_,none⟩) _ _)=>true
 |_=>false
def Kp(c:List amn)(i:Nat):Nat:=match c[i]?with
 |some (.slice (some ⟨_,o,_⟩) _ _)=>o
 |_=>0
def Kq(c:List amn)(i:Nat):Nat:=match c[i]?with
 |some (.slice _ n _)=>n
 |_=>0
def Kr(c:List amn)(i:Nat):Nat:=match c[i]?with
 |some (.slice _ _ n)=>n
 |_=>0
def DF(z:amn)(c:List amn)(i:Nat):DT amn:=match z with
 | .int k _=>dW (cy k c i) (.done (.int k (au c i)))
 | .string _=>dW (eB c i) (.done (.string (a8 c i)))
 | .bool _=>dW (nT c i) (.done (.bool (gz c i)))
 | .slice none 0 0=>.ask (DE c i) fun b=>match b with
  |true=>.done (.slice none 0 0)
  |false=>dW (Ko c i) (.done (.slice (some ⟨2,Kp c i,none⟩) (Kq c i) (Kr c i)))
 |_=>.fail
theorem UJ{z:amn}{c:List amn}{i:Nat}{v:amn}(h:(DF z c i).Has v):c[i]?=some v:=by
 unfold DF at h
 split at h
 ·rename_i k _
  obtain⟨h1,h⟩:=ed h
  have h2:=DT.cp h
  unfold cy at h1
  unfold au at h2
  split at h1
  ·rename_i k' x hc
   have:k'=k:=by simpa using h1
   subst this
   rw[hc]at h2⊢
   rw[h2]
  ·cases h1
 ·obtain⟨h1,h⟩:=ed h
  have h2:=DT.cp h
  unfold eB at h1
  unfold a8 at h2
  split at h1
  ·rename_i x hc;rw[hc]at h2⊢;rw[h2]
  ·cases h1
 ·obtain⟨h1,h⟩:=ed h
  have h2:=DT.cp h
  unfold nT at h1
  unfold gz at h2
  split at h1
  ·rename_i x hc;rw[hc]at h2⊢;rw[h2]
  ·cases h1
 ·have h:=DT.nS h
  cases hn:DE c i with
  |true=>
   rw[hn]at h
   have h2:=DT.cp h
   unfold DE at hn
   split at hn
   ·rename_i hc;rw[hc,h2]
   ·cases hn
  |false=>
   rw[hn]at h
   obtain⟨h1,h⟩:=ed h
   have h2:=DT.cp h
   unfold Ko at h1
   unfold Kp Kq Kr at h2
   split at h1
   ·rename_i o n m hc;rw[hc]at h2⊢;rw[h2]
   ·cases h1
 ·cases h
def zu:List amn→List amn→Nat→DT (List amn)
 | [],_,_=>.done []
 |z::zs,c,i=>(DF z c i).bind fun v=>(zu zs c (i+1)).bind fun r=>.done (v::r)
theorem Ks:∀{zs c:List amn} {i:Nat} {r:List amn},(zu zs c i).Has r→r.length=zs.length∧∀j v,r[j]?=some v→c[i+j]?=some v
 | [],c,i,r,h=>by rw[DT.cp h];exact⟨rfl,fun j v hv=>by simp at hv⟩
 |z::zs,c,i,r,h=>by
  unfold zu at h
  obtain⟨v,h1,h2⟩:=DT.fi h
  obtain⟨r',h3,h4⟩:=DT.fi h2
  rw[DT.cp h4]
  obtain⟨h5,h6⟩:=Ks h3
  refine⟨by simp[h5],fun j u hu=>?_⟩
  cases j with
  |zero=>
   simp only[anb,amr]at hu
   subst hu
   exact UJ h1
  |succ j=>
   simp only[anD]at hu
   have:=h6 j u hu
   rwa[show i+1+j=i+(j+1)by omega]at this
def DG(g:Nat→Option ai)(t:amz)(a:amn):EO:=match a with
 | .pointer (some ⟨b,off,none⟩)=>match g b,nu P t,zeroOf P t,bT P t with
  |some (.cells c _ _),some true,some (.agg z),some (n+1)=>match amE z.toList.length (n+1)with
   |true=>dW (amO (off+(n+1)) c.length) ((zu z.toList c off).bind fun l=>j9 (.agg l.toArray) [b])
   |false=>.fail
  |_,_,_,_=>.fail
 |_=>.fail
theorem UK{t:amz}{a:amn}{out:bi}{l:List Nat}{g:Nat→Option ai}(h:(DG P g t a).Has (out,l)):(rX P t a).run g=some (out,l):=by
 unfold DG at h
 split at h
 ·rename_i b off
  split at h
  ·rename_i c el ro z n hb mq hz hn
   split at h
   ·rename_i hlen
    have hlen:=amI hlen
    obtain⟨hle,h⟩:=ed h
    obtain⟨r,h1,h2⟩:=DT.fi h
    obtain⟨rfl,rfl⟩:=kD h2
    obtain⟨h3,h4⟩:=Ks h1
    have DH:=amS hle
    have pJ:cut c off (n+1)=some r:=by
     unfold cut
     rw[hle]
     refine congrArg some (apq fun j=>?_)
     rw[List.getElem?_take]
     by_cases hj:j<n+1
     ·rw[if_pos hj,List.getElem?_drop]
      have Kt:j<r.length:=by omega
      rw[amt Kt]
      exact(h4 j _ (amt Kt)).trans rfl
     ·rw[if_neg hj,anH (by omega)]
    unfold rX pC
    rw[Rd.run_bind]
    refine⟨.agg r.toArray,[b],[],?_,rfl,rfl⟩
    simp only[Rd.run,hb,mq,hn,pJ]
   ·cases h
  ·cases h
 ·cases h
def qQ(off:Nat)(v:amn):Nat→List amn→DT (List amn)
 |_,[]=>.done []
 |i,c::cs=>match c,v with
  | .string s,.string s'=>(qQ off v (i+1) cs).bind fun r=>.done (.string (bif amE off i then s' else s)::r)
  | .int k x,.int k' x'=>match decide (k=k')with
   |true=>(qQ off v (i+1) cs).bind fun r=>.done (.int k (bif amE off i then x' else x)::r)
   |false=>.ask (amE off i) fun b=>match b with
    |true=>.fail
    |false=>(qQ off v (i+1) cs).bind fun r=>.done (c::r)
  |_,_=>.ask (amE off i) fun b=>match b with
   |true=>.fail
   |false=>(qQ off v (i+1) cs).bind fun r=>.done (c::r)
theorem Ku{off:Nat}{v:amn}:∀{i:Nat} {c r:List amn},(qQ off v i c).Has r→r.length=c.length∧∀j,r[j]?=if i+j=off∧j<c.length then some v else c[j]?
 |i,[],r,h=>by
  have:=DT.cp h
  subst this
  exact⟨rfl,fun j=>by simp⟩
 |i,c::cs,r,h=>by
  have fin:∀(x:amn) (r':List amn),(qQ off v (i+1) cs).Has r'→(x=if i=off then v else c)→(x::r').length=(c::cs).length∧∀j,(x::r')[j]?=if i+j=off∧j<(c::cs).length then some v else(c::cs)[j]? :=by
   intro x r' hr hx
   obtain⟨h1,h2⟩:=Ku hr
   refine⟨by simp[h1],fun j=>?_⟩
   cases j with
   |zero=>
    simp only[anb,aoC,am9]
    rw[hx]
    by_cases e:i=off
    ·rw[if_pos e,if_pos ⟨e,by omega⟩]
    ·rw[if_neg e,if_neg fun h=>e h.1]
   |succ j=>
    simp only[anD,am9]
    rw[h2 j]
    by_cases e:i+1+j=off∧j<cs.length
    ·rw[if_pos e,if_pos ⟨by omega,by omega⟩]
    ·rw[if_neg e,if_neg fun h=>e ⟨by omega,by omega⟩]
  have hb:∀{b:Bool},amE off i=b→(i=off↔b=true):=by
   intro b hb
   rw[UL off i]at hb
   rw[←hb]
   exact⟨fun e=>by rw[e];exact anw _,fun e=>amI e⟩
  unfold qQ at h
  split at h
  ·rename_i s s'
   obtain⟨r',h1,h2⟩:=DT.fi h
   have:=DT.cp h2
   subst this
   refine fin _ r' h1 ?_
   cases hq:amE off i with
   |true=>rw[if_pos ((hb hq).2 rfl)];rfl
   |false=>rw[if_neg fun e=>by cases(hb hq).1 e];rfl
  ·rename_i k x k' x'
   split at h
   ·rename_i hk
    have hk:k=k':=by simpa using hk
    subst hk
    obtain⟨r',h1,h2⟩:=DT.fi h
    have:=DT.cp h2
    subst this
    refine fin _ r' h1 ?_
    cases hq:amE off i with
    |true=>rw[if_pos ((hb hq).2 rfl)];rfl
    |false=>rw[if_neg fun e=>by cases(hb hq).1 e];rfl
   ·have h:=DT.nS h
    cases hq:amE off i with
    |true=>rw[hq]at h;cases h
    |false=>
     rw[hq]at h
     obtain⟨r',h1,h2⟩:=DT.fi h
     have:=DT.cp h2
     subst this
     exact fin _ r' h1 (by rw[if_neg fun e=>by cases(hb hq).1 e])
  ·have h:=DT.nS h
   cases hq:amE off i with
   |true=>rw[hq]at h;cases h
   |false=>
    rw[hq]at h
    obtain⟨r',h1,h2⟩:=DT.fi h
    have:=DT.cp h2
    subst this
    exact fin _ r' h1 (by rw[if_neg fun e=>by cases(hb hq).1 e])
where
 UL (a b:Nat):amE a b=amE b a:=by
  rw[Bool.eq_iff_iff]
  exact⟨fun e=>by rw[amI e];exact anw _,fun e=>by rw[amI e];exact anw _⟩
def DI(g:Nat→Option ai)(t:amz)(a x:amn):EO:=match a,bT P t with
 | .pointer (some ⟨b,off,none⟩),some size=>match g b with
  |some (.cells c el false)=>match amE x.cells.size size&&x.cells.toList.all ano with
   |true=>dW (amO (off+size) c.length) (.done (⟨.skip,[(b,.cells (amk c off x.cells.toList) el false)],none⟩,[b]))
   |false=>.fail
  |_=>.fail
 |_,_=>.fail
theorem UM{t:amz}{a x:amn}{out:bi}{l:List Nat}{g:Nat→Option ai}(h:(DI P g t a x).Has (out,l)):(rY P t a x).run g=some (out,l):=by
 unfold DI at h
 split at h
 ·rename_i b off size hs
  split at h
  ·rename_i c el hb
   split at h
   ·rename_i hx
    simp only[amB]at hx
    obtain⟨h1,h⟩:=ed h
    have h4:=DT.cp h
    simp only[amv]at h4
    obtain⟨rfl,rfl⟩:=h4
    unfold rY
    simp only[hs,Rd.run,hb,hx.1,hx.2,h1,aoe]
   ·cases h
  ·cases h
 ·cases h
def UN(el:amz):Bool:=match P.underlying el with
 |some (.struct fs)=>fs.toList.all fun f=>match P.underlying f.type with
  |some (.int _)|some .string|some .bool=>true
  |_=>false
 |_=>false
def rowOf(g:Nat→Option ai)(t:amz)(a:amn):Bool:=match a with
 | .pointer (some ⟨b,_,_⟩)=>match g b with
  |some (.cells _ el _)=>amE el t||UN P el
  |_=>false
 |_=>false
def DJ(g:Nat→Option ai)(t:amz)(a x:amn):EO:=match a,bT P t with
 | .pointer (some ⟨b,off,none⟩),some 1=>match g b with
  |some (.cells c el false)=>match amE x.cells.size 1&&x.cells.toList.all ano&&x.oneCell' with
   |true=>dW (amG off c.length) ((qQ off x 0 c).bind fun r=>.done (⟨.skip,[(b,.cells r el false)],none⟩,[b]))
   |false=>.fail
  |_=>.fail
 |_,_=>.fail
theorem UO{x:amn}(h:x.oneCell'=true):x.cells.toList=[x]:=by
 cases x<;>first|rfl|cases h
theorem UP{t:amz}{a x:amn}{out:bi}{l:List Nat}{g:Nat→Option ai}(h:(DJ P g t a x).Has (out,l)):(rY P t a x).run g=some (out,l):=by
 unfold DJ at h
 split at h
 ·rename_i b off hs
  split at h
  ·rename_i c el hb
   split at h
   ·rename_i hx
    simp only[amB]at hx
    obtain⟨⟨fD,ju⟩,UQ⟩:=hx
    obtain⟨h1,h⟩:=ed h
    obtain⟨r,h2,h3⟩:=DT.fi h
    have h4:=DT.cp h3
    simp only[amv]at h4
    obtain⟨rfl,rfl⟩:=h4
    obtain⟨h5,h6⟩:=Ku h2
    have hlt:=dI.1 h1
    have hr:r=amk c off [x]:=by
     apply apq
     intro j
     rw[h6 j,Cu (by simp only[am9,apj];omega) j]
     simp only[am9,apj,an8]
     by_cases e:j=off
     ·subst e;simp[hlt]
     ·have e1:¬(j=off∧j<c.length):=fun h=>e h.1
      rw[if_neg e1]
      by_cases e2:off≤j∧j<off+1
      ·exact absurd (by omega) e
      ·rw[if_neg e2]
    have hle:amO (off+1) c.length=true:=am2 hlt
    unfold rY
    simp only[hs,Rd.run,hb,fD,ju,hle,aoe]
    rw[hr,UO UQ]
   ·cases h
  ·cases h
 ·cases h
def DK(g:Nat→Option ai)(src dst:amz)(x:amn):EO:=match P.underlying src,P.underlying dst,x with
 |some (.slice el),some .string,.slice (some ⟨b,off,none⟩) len cap=>match P.underlying el with
  |some (.int .u8)=>match g b with
   |some (.cells c _ _)=>dW ((cut c off len).bind bytesOf).isSome (j9 (.string ⟨(((cut c off len).bind bytesOf).getD []).toArray⟩) [b])
   |_=>.fail
  |_=>.fail
 |_,_,_=>.fail
theorem UR{src dst:amz}{x:amn}{n:Nat}{out:bi}{l:List Nat}{g:Nat→Option ai}(h:(DK P g src dst x).Has (out,l)):(v8 P src dst x n).run g=some (out,l):=by
 unfold DK at h
 split at h
 ·rename_i el b off len cap h1 h2
  split at h
  ·rename_i he
   split at h
   ·rename_i c ce ro hb
    obtain⟨h3,h⟩:=ed h
    obtain⟨rfl,rfl⟩:=kD h
    unfold v8
    simp only[h1,h2,he,Rd.run,hb]
    cases hq:(cut c off len).bind bytesOf with
    |none=>rw[hq]at h3;cases h3
    |some l=>rfl
   ·cases h
  ·cases h
 ·cases h
def ux:Nat→Option amn→(Nat→EO)→EO
 |d,none,k=>k d
 |_,some (.int _ z),k=>dW (decide (0≤z)) (k z.toNat)
 |_,_,_=>.fail
theorem zv{d:Nat}{o:Option amn}{k:Nat→EO}{a:bi×List Nat}(h:(ux d o k).Has a):∃n,nv d o=some n∧(k n).Has a:=by
 unfold ux at h
 split at h
 ·exact⟨_,rfl,h⟩
 ·obtain⟨h1,h⟩:=ed h
  exact⟨_,zt h1,h⟩
 ·cases h
def DL(g:Nat→Option ai)(t:amz)(x:amn)(lo hi mx:Option amn):EO:=match P.underlying t,x,mx with
 |some (.slice el),.slice (some ⟨b,off,none⟩) len cap,none=>ux 0 lo fun l=>ux len hi fun h=>match bT P el with
  |some size=>dW (amO l h) (dW (amO h cap) (match g b with
   |some (.cells c eb _)=>match bT P eb with
    |some sb=>match amO size sb with
     |true=>j9 (.slice (some ⟨b,off+l*size,none⟩) (h-l) (cap-l)) [b]
     |false=>.fail
    |none=>.fail
   |_=>.fail))
  |none=>.fail
 |some (.array k el),.pointer (some ⟨b,off,none⟩),none=>ux 0 lo fun l=>ux k hi fun h=>match bT P el with
  |some size=>dW (amO l h) (dW (amO h k) (j9 (.slice (some ⟨b,off+(if amE k l then 0 else l*size),none⟩) (h-l) (k-l)) []))
  |none=>.fail
 |_,_,_=>.fail
theorem US{t:amz}{x:amn}{lo hi mx:Option amn}{out:bi}{l:List Nat}{g:Nat→Option ai}(h:(DL P g t x lo hi mx).Has (out,l)):(qD P t x lo hi mx).run g=some (out,l):=by
 unfold DL at h
 split at h
 ·rename_i el b off len cap ht
  obtain⟨n1,h1,h⟩:=zv h
  obtain⟨n2,h2,h⟩:=zv h
  split at h
  ·rename_i size hs
   obtain⟨h3,h⟩:=ed h
   obtain⟨h4,h⟩:=ed h
   split at h
   ·rename_i c eb ro hb
    split at h
    ·rename_i sb CJ
     split at h
     ·rename_i hle
      obtain⟨rfl,rfl⟩:=kD h
      have fC:fl (.slice (some ⟨b,off,none⟩) len cap)=false:=by unfold fl flat;rfl
      unfold qD
      simp only[fC,ht,h1,h2,hs,h3,h4,aoe,Rd.run,hb,CJ,hle]
      rfl
     ·cases h
    ·cases h
   ·cases h
  ·cases h
 ·rename_i k el b off ht
  obtain⟨n1,h1,h⟩:=zv h
  obtain⟨n2,h2,h⟩:=zv h
  split at h
  ·rename_i size hs
   obtain⟨h3,h⟩:=ed h
   obtain⟨h4,h⟩:=ed h
   obtain⟨rfl,rfl⟩:=kD h
   have fC:fl (.pointer (some ⟨b,off,none⟩))=false:=by unfold fl flat;rfl
   unfold qD
   simp only[fC,ht,h1,h2,hs,h3,h4,aoe]
   rfl
  ·cases h
 ·cases h
def DM(c a b:amn):EO:=match c with
 | .bool d=>.ask d fun d=>match d with
  |true=>j9 a []
  |false=>j9 b []
 |_=>.fail
theorem UT{c a b:amn}{out:bi}{l:List Nat}{g:Nat→Option ai}(h:(DM c a b).Has (out,l)):(yy c a b).run g=some (out,l):=by
 unfold DM at h
 split at h
 ·rename_i d
  have h:=DT.nS h
  cases d with
  |true=>obtain⟨rfl,rfl⟩:=kD h;rfl
  |false=>obtain⟨rfl,rfl⟩:=kD h;rfl
 ·cases h
def DN(g:Nat→Option ai)(size:Nat):amn→Nat→DT (List amn×List Nat)
 | .slice (some ⟨b,off,none⟩) _ _,n=>match g b with
  |some (.cells c _ _)=>dW (amO (off+n*size) c.length) (.done ((c.drop off).take (n*size),[b]))
  |_=>.fail
 | .slice none _ _,_=>.done ([],[])
 | .string s,n=>.done ((s.data.toList.take n).map fun b=>.int .u8 b.toNat,[])
 |_,_=>.fail
theorem UU{g:Nat→Option ai}{size n:Nat}{x:amn}{p:List amn×List Nat}(h:(DN g size x n).Has p):(qA size x n).run g=some p:=by
 unfold DN at h
 split at h
 ·split at h
  ·rename_i c el ro hb
   obtain⟨h1,h⟩:=ed h
   rw[DT.cp h]
   unfold qA
   simp only[Rd.run,hb,fB,cut,h1]
  ·cases h
 ·rw[DT.cp h];rfl
 ·rw[DT.cp h];rfl
 ·cases h
def DP(g:Nat→Option ai)(elem:amz)(size len k:Nat)(base:Option Addr)(xs:List amn)(l1:List Nat)(n:Nat):EO:=match base with
 |none=>match len with
  |0=>.done (⟨.val (.slice (some ⟨n,0,none⟩) k k),[],some (.cells xs elem false)⟩,l1++[])
  |_=>.fail
 |some ⟨b,off,none⟩=>match g b with
  |some (.cells c el false)=>dW (amE (off+len*size) c.length) (match amE el elem with
   |true=>.done (⟨.val (.slice (some ⟨n,0,none⟩) (len+k) (len+k)),[(b,.dead)],some (.cells (c.drop off++xs) elem false)⟩,l1++[b])
   |false=>.fail)
  |_=>.fail
 |_=>.fail
def DQ(g:Nat→Option ai)(size len cap k:Nat)(base:Option Addr)(xs:List amn)(l1:List Nat):EO:=match base with
 |some ⟨b,off,none⟩=>match g b with
  |some (.cells c el false)=>dW (amO (len+k) cap) (dW (amO (off+len*size+xs.length) c.length)
   (.done (⟨.val (.slice (some ⟨b,off,none⟩) (len+k) cap),[(b,.cells (amk c (off+len*size) xs) el false)],none⟩,l1++[b])))
  |_=>.fail
 |_=>.fail
theorem UW{elem:amz}{size len k n:Nat}{base:Option Addr}{xs:List amn}{l1 l:List Nat}{out:bi}{g:Nat→Option ai}(h:(DP g elem size len k base xs l1 n).Has (out,l)):
 ∃l2,(tV elem size len k base xs n).run g=some (out,l2)∧l=l1++l2:=by
 unfold DP at h
 split at h
 ·split at h
  ·have h:=DT.cp h
   simp only[amv]at h
   obtain⟨rfl,rfl⟩:=h
   exact⟨[],rfl,rfl⟩
  ·cases h
 ·rename_i b off
  split at h
  ·rename_i c el hb
   obtain⟨bx,h⟩:=ed h
   split at h
   ·rename_i bg
    have h:=DT.cp h
    simp only[amv]at h
    obtain⟨rfl,rfl⟩:=h
    exact⟨[b],by simp only[tV,Rd.run,hb,bx,bg,aoe],rfl⟩
   ·cases h
  ·cases h
 ·cases h
theorem UX{size len cap k:Nat}{base:Option Addr}{xs:List amn}{l1 l:List Nat}{out:bi}{g:Nat→Option ai}(h:(DQ g size len cap k base xs l1).Has (out,l)):
 ∃l2,(vU size len cap k base xs).run g=some (out,l2)∧l=l1++l2:=by
 unfold DQ at h
 split at h
 ·rename_i b off
  split at h
  ·rename_i c el hb
   obtain⟨bx,h⟩:=ed h
   obtain⟨bg,h⟩:=ed h
   have h:=DT.cp h
   simp only[amv]at h
   obtain⟨rfl,rfl⟩:=h
   exact⟨[b],by simp only[vU,Rd.run,hb,bx,bg,aoe],rfl⟩
  ·cases h
 ·cases h
def DR(g:Nat→Option ai)(argTypes:List amz)(args:List amn)(n:Nat):EO:=match argTypes,args with
 |sT::xT::_,.slice base len cap::x::_=>match P.underlying sT,P.underlying xT with
  |some (.slice elem),some xd=>match bT P elem,qB x,zeroOf P elem,(P.info? elem).map (·.bytes)with
   |some size,some k,some z,some bytes=>match !isInt xd&&amO bytes 1000000&&amE z.cells.size size&&amG 0 size with
    |false=>.fail
    |true=>(DN g size x k).bind fun p=>dW (amO (len+k) 1000000) (dW (p.1.all ano) (dW (amE p.1.length (k*size)) (.ask (full len cap) fun d=>match d with
     |true=>DP g elem size len k base p.1 p.2 n
     |false=>DQ g size len cap k base p.1 p.2)))
   |_,_,_,_=>.fail
  |_,_=>.fail
 |_,_=>.fail
theorem UY{argTypes:List amz}{args:List amn}{n:Nat}{out:bi}{l:List Nat}{g:Nat→Option ai}(h:(DR P g argTypes args n).Has (out,l)):(vV P argTypes args n).run g=some (out,l):=by
 unfold DR at h
 split at h
 ·rename_i sT xT r1 base len cap x r2
  split at h
  ·rename_i elem xd h1 h2
   split at h
   ·rename_i size k z bytes h3 h4 h5 h6
    split at h
    ·cases h
    ·rename_i h7
     obtain⟨p,h8,h⟩:=DT.fi h
     obtain⟨h9,h⟩:=ed h
     obtain⟨bI,h⟩:=ed h
     obtain⟨bJ,h⟩:=ed h
     have h:=DT.nS h
     have h8:=UU h8
     obtain⟨xs,l1⟩:=p
     dsimp only at h9 bI bJ h
     unfold vV
     simp only[h1,h2,h3,h4,h5,h6,h7]
     rw[Rd.run_bind]
     cases hf:full len cap with
     |true=>
      rw[hf]at h
      obtain⟨l2,bx,bg⟩:=UW h
      exact⟨xs,l1,l2,h8,by simp only[h9,bI,bJ,aoe];exact bx,bg⟩
     |false=>
      rw[hf]at h
      obtain⟨l2,bx,bg⟩:=UX h
      exact⟨xs,l1,l2,h8,by simp only[h9,bI,bJ,aoe];exact bx,bg⟩
   ·cases h
  ·cases h
 ·cases h
def DU(op:aqR)(a b:amn):EO:=match op,a,b with
 | .quo,.int k x,.int k' y=>match decide (k=k')with
  |true=>dW (!decide (y=0)) (j9 (.int k (k.wrap (x.tdiv y))) [])
  |false=>.fail
 | .rem,.int k x,.int k' y=>match decide (k=k')with
  |true=>dW (!decide (y=0)) (j9 (.int k (x.tmod y)) [])
  |false=>.fail
 | .add,.string x,.string y=>dW (decide (((x.size+y.size:Nat):Int)≤amA.max)) (j9 (.string (x++y)) [])
 |_,_,_=>.fail
theorem DV{s:Sem amn}{v:amn}(h:s=pure v)(hv:fl v=true){g:Nat→Option ai}:(jY P (do let u ←s;pure (.value u))).run g=some (⟨.val v,[],none⟩,[]):=by
 subst h
 unfold jY
 have:fY P (do let u ←(pure v:Sem amn);pure (anC u))=some (.ok (.value v)):=rfl
 rw[this]
 dsimp only
 rw[hv]
 rfl
theorem UZ{op:aqR}{t:amz}{x y:anX}{a b:amn}{out:bi}{l:List Nat}{g:Nat→Option ai}(h:(DU op a b).Has (out,l)):(rZ P op t x y a b).run g=some (out,l):=by
 unfold DU at h
 split at h
 ·rename_i k n k' m
  split at h
  ·rename_i hk
   have hk:=of_decide_eq_true hk
   subst hk
   obtain⟨hm,h⟩:=ed h
   obtain⟨rfl,rfl⟩:=kD h
   have hm:m≠0:=by simpa using hm
   refine DV P (s:=(do eqGuard .quo t x y (.int k n) (.int k m);binOp .quo t (.int k n) (.int k m))) ?_ rfl
   show binOp .quo t (.int k n) (.int k m)=_
   simp only[binOp,ne_eq,not_true_eq_false,if_false,Op.intDiv,hm]
  ·cases h
 ·rename_i k n k' m
  split at h
  ·rename_i hk
   have hk:=of_decide_eq_true hk
   subst hk
   obtain⟨hm,h⟩:=ed h
   obtain⟨rfl,rfl⟩:=kD h
   have hm:m≠0:=by simpa using hm
   refine DV P (s:=(do eqGuard .rem t x y (.int k n) (.int k m);binOp .rem t (.int k n) (.int k m))) ?_ rfl
   show binOp .rem t (.int k n) (.int k m)=_
   simp only[binOp,ne_eq,not_true_eq_false,if_false,Op.intDiv,hm]
  ·cases h
 ·rename_i n m
  obtain⟨hm,h⟩:=ed h
  obtain⟨rfl,rfl⟩:=kD h
  have hm:¬((n.size+m.size:Nat):Int)>amA.max:=by have:=of_decide_eq_true hm;omega
  refine DV P (s:=(do eqGuard .add t x y (.string n) (.string m);binOp .add t (.string n) (.string m))) ?_ rfl
  show binOp .add t (.string n) (.string m)=_
  simp only[binOp,Op.stringOp,hm,if_false]
 ·cases h
theorem nc{α β:Type}{f:α→Sem β}{a:α}:∀{P:amF} {x:Sem α},fY P x=some (.ok a)→fY P (x>>=f)=fY P (f a):=by
 intro P x
 induction x with
 |pure b=>intro h;simp only[fY,amr,Except.ok.injEq]at h;subst h;rfl
 |program k ih=>intro h;exact ih P h
 |mark m k ih=>intro h;exact ih h
 |halt x=>intro h;cases x<;>simp[fY]at h
 |_=>intro h;simp[fY]at h
theorem DW{t:amz}{d:TypeDesc}(h:P.underlying t=some d):fY P (underlying t)=some (.ok d):=by
 have:underlying t=Sem.program fun p=>(match p.underlying t with
  |some d=>pure d
  |none=>stuck "no such type"):=rfl
 rw[this]
 show fY P (match P.underlying t with
  |some d=>pure d
  |none=>stuck "no such type")=_
 rw[h]
 rfl
def DX(t:amz)(x i:amn):EO:=match P.underlying t,x,i with
 |some .string,.string s,.int _ z=>dW (decide (0≤z)) (dW (amG z.toNat s.size) (j9 (.int .u8 ((s.data.toList.getD z.toNat 0).toNat)) []))
 |_,_,_=>.fail
theorem U0{t:amz}{x i:amn}{out:bi}{l:List Nat}{g:Nat→Option ai}(h:(DX P t x i).Has (out,l)):(v9 P t x i).run g=some (out,l):=by
 unfold DX at h
 split at h
 ·rename_i s k z ht
  obtain⟨h1,h⟩:=ed h
  obtain⟨h2,h⟩:=ed h
  obtain⟨rfl,rfl⟩:=kD h
  have h1:0≤z:=by simpa using h1
  have h2:=dI.1 h2
  have hg:s[z.toNat]?=some (s.data.toList.getD z.toNat 0):=by
   have h3:z.toNat<s.data.toList.length:=by simpa using h2
   rw[getElem?_pos s z.toNat h2,List.getD_eq_getElem?_getD,amt h3]
   rfl
  unfold v9
  show(jY P (do let v ←apA t (.string s) (.int k z);pure (.value v))).run g=_
  unfold jY
  have:fY P (do let u ←apA t (.string s) (.int k z);pure (anC u))=some (.ok (.value (.int .u8 ((s.data.toList.getD z.toNat 0).toNat)))):=by
   refine(nc (a:=(.int .u8 ((s.data.toList.getD z.toNat 0).toNat):amn)) ?_).trans rfl
   unfold apA
   refine(nc (a:=(k,z)) rfl).trans ?_
   refine(nc (DW P ht)).trans ?_
   simp only[h1,if_true,hg]
   rfl
  rw[this]
  rfl
 ·cases h
def zw:Nat→Option amn→(Nat→EO)→EO
 |d,none,k=>k d
 |_,some (.int _ z),k=>dW (decide (0≤z)) (k z.toNat)
 |_,_,_=>.fail
def DY(t:amz)(x:amn)(lo hi mx:Option amn):EO:=match P.underlying t,x,mx with
 |some .string,.string s,none=>match lo.all fl&&hi.all fl with
  |true=>zw 0 lo fun l=>zw s.size hi fun h=>dW (amO h s.size) (dW (amO l h) (j9 (.string (s.extract l h)) []))
  |false=>.fail
 |_,_,_=>.fail
theorem Kv{d:Nat}{o:Option amn}{k:Nat→EO}{a:bi×List Nat}(h:(zw d o k).Has a):∃n,(k n).Has a∧((o=none∧n=d)∨∃ik z,o=some (.int ik z)∧0≤z∧n=z.toNat):=by
 unfold zw at h
 split at h
 ·exact⟨_,h,.inl ⟨rfl,rfl⟩⟩
 ·rename_i ik z
  obtain⟨h1,h⟩:=ed h
  exact⟨_,h,.inr ⟨ik,z,rfl,by simpa using h1,rfl⟩⟩
 ·cases h
theorem zx{ik:IntKind}{z:Int}{y:Nat}{code:BoundsCode}(h0:0≤z)(h1:z.toNat≤y):fY P (apu (.int ik z) y code)=some (.ok z.toNat):=by
 unfold apu
 refine(nc (a:=(ik,z)) rfl).trans ?_
 have:0≤z∧z≤(y:Int):=⟨h0,by omega⟩
 simp only[this,and_self,if_true]
 rfl
theorem U1{t:amz}{x:amn}{lo hi mx:Option amn}{out:bi}{l:List Nat}{g:Nat→Option ai}(h:(DY P t x lo hi mx).Has (out,l)):(qD P t x lo hi mx).run g=some (out,l):=by
 unfold DY at h
 split at h
 ·rename_i s ht
  split at h
  ·rename_i fC
   obtain⟨n1,h,ka⟩:=Kv h
   obtain⟨n2,h,lH⟩:=Kv h
   obtain⟨h2,h⟩:=ed h
   obtain⟨h1,h⟩:=ed h
   obtain⟨rfl,rfl⟩:=kD h
   have h1:=amS h1
   have h2:=amS h2
   unfold qD
   have qR:fl (.string s)=true:=rfl
   rw[qR]
   dsimp only
   rw[fC]
   have hr:fY P (aow t (.string s) lo hi none)=some (.ok (.string (s.extract n1 n2))):=by
    unfold aow
    refine(nc (DW P ht)).trans ?_
    dsimp only
    unfold Instr.slice
    refine(nc (DW P ht)).trans ?_
    dsimp only
    refine(nc (a:=(n1,n2,s.size)) ?_).trans rfl
    rcases lH with⟨rfl,rfl⟩|⟨ik,z,rfl,hz,rfl⟩<;>rcases ka with⟨rfl,rfl⟩|⟨U2,z',rfl,pF,rfl⟩
    ·rfl
    ·exact(nc (f:=fun l=>pure (l,s.size,s.size)) (zx P pF h1)).trans rfl
    ·exact(nc (f:=fun h=>pure (0,h,s.size)) (zx P hz h2)).trans rfl
    ·exact(nc (f:=fun h=>(apu (.int U2 z') h .sliceB).bind fun l=>pure (l,h,s.size)) (zx P hz h2)).trans ((nc (f:=fun l=>pure (l,z.toNat,s.size)) (zx P pF h1)).trans rfl)
   show(jY P _).run g=_
   unfold jY
   have eo:fY P (do let v ←aow t (.string s) lo hi none;pure (anC v))=some (.ok (.value (.string (s.extract n1 n2)))):=nc hr
   rw[eo]
   rfl
  ·cases h
 ·cases h
def DZ(g:Nat→Option ai)(argTypes:List amz)(args:List amn):EO:=match argTypes,args with
 |t::_,x::_=>match P.underlying t,x with
  |some (.slice el),.slice (some ⟨b,off,none⟩) k _=>.ask (amE k 0) fun d=>match d with
   |true=>j9 (.tuple #[]) []
   |false=>match bT P el,zeroOf P el,g b with
    |some size,some z,some (.cells c ce false)=>dW (amO (off+k*size) c.length) (match fl z&&amE z.cells.size size&&z.cells.toList.all ano with
     |true=>.done (⟨.val (.tuple #[]),[(b,.cells (amk c off (eU z.cells.toList k)) ce false)],none⟩,[b])
     |false=>.fail)
    |_,_,_=>.fail
  |_,_=>.fail
 |_,_=>.fail
theorem U3{argTypes:List amz}{args:List amn}{out:bi}{l:List Nat}{g:Nat→Option ai}(h:(DZ P g argTypes args).Has (out,l)):(vZ P argTypes args).run g=some (out,l):=by
 unfold DZ at h
 unfold vZ
 split at h
 ·rename_i t _ x _
  dsimp only
  split at h
  ·rename_i el b off k cap ht
   have h:=DT.nS h
   rw[ht]
   cases k with
   |zero=>
    obtain⟨rfl,rfl⟩:=kD h
    rfl
   |succ k=>
    have hk:amE (k+1) 0=false:=rfl
    rw[hk]at h
    dsimp only at h
    show(match bT P el,zeroOf P el with
     |some size,some z=>Rd.read b fun
      | .cells c ce false=>match fl z&&amE z.cells.size size&&amO (off+(k+1)*size) c.length&&z.cells.toList.all ano with
       |true=>.done ⟨.val (.tuple #[]),[(b,.cells (amk c off (eU z.cells.toList (k+1))) ce false)],none⟩
       |false=>.fail
      |_=>.fail
     |_,_=>.fail:Rd bi).run g=_
    split at h
    ·rename_i size z c ce hs hz hg
     obtain⟨hb,h⟩:=ed h
     split at h
     ·rename_i hf
      rw[hs,hz]
      simp only[Rd.run,hg]
      simp only[amB]at hf
      obtain⟨⟨f1,f2⟩,f3⟩:=hf
      rw[f1,f2,hb,f3]
      cases DT.cp h
      rfl
     ·cases h
    ·cases h
  ·cases h
 ·cases h
def wZ(es:List amW)(k:amn):Bool:=match e7 k es 0 with
 |some none=>true
 |_=>false
def uy(es:List amW)(k:amn):Bool:=(e7 k es 0).isSome
def nU(es:List amW)(k:amn):List amW:=match e7 k es 0 with
 |some (some (i,_))=>es.eraseIdx i
 |_=>es
def D0(g:Nat→Option ai)(t:amz)(x k v:amn):EO:=match P.underlying t with
 |some (.map kt _)=>match oG P kt k,x with
  |true,.map (some r)=>match g r with
   |some (.map es clock)=>dW (wZ es k) (.done (⟨.skip,[(r,.map (es++[{key:=k,val:=v,born:=clock}]) (clock+1))],none⟩,[r]))
   |_=>.fail
  |_,_=>.fail
 |_=>.fail
theorem U4{g:Nat→Option ai}{t:amz}{x k v:amn}{out:bi}{l:List Nat}(h:(D0 P g t x k v).Has (out,l)):(vW P t x k v).run g=some (out,l):=by
 unfold D0 at h
 unfold vW
 split at h
 ·rename_i kt _ ht
  rw[ht]
  split at h
  ·rename_i r hk
   simp only[hk]
   split at h
   ·rename_i es clock hg
    obtain⟨h1,h⟩:=ed h
    have:=DT.cp h
    cases this
    unfold wZ at h1
    split at h1
    ·rename_i hf
     simp only[Rd.run,hg,hf]
    ·cases h1
   ·cases h
  ·cases h
 ·cases h
def D1(g:Nat→Option ai)(argTypes:List amz)(args:List amn):EO:=match argTypes,args with
 |t::_,.map (some r)::k::_=>match P.underlying t with
  |some (.map kt _)=>match oG P kt k with
   |true=>match g r with
    |some (.map es clock)=>dW (uy es k) (.done (⟨.val (.tuple #[]),[(r,.map (nU es k) clock)],none⟩,[r]))
    |_=>.fail
   |false=>.fail
  |_=>.fail
 |_,_=>.fail
theorem U5{g:Nat→Option ai}{argTypes:List amz}{args:List amn}{out:bi}{l:List Nat}(h:(D1 P g argTypes args).Has (out,l)):(vX P argTypes args).run g=some (out,l):=by
 unfold D1 at h
 unfold vX
 split at h
 ·rename_i t _ r k _
  dsimp only
  split at h
  ·rename_i kt _ ht
   rw[ht]
   dsimp only
   split at h
   ·rename_i hk
    rw[hk]
    dsimp only
    split at h
    ·rename_i es clock hg
     obtain⟨h1,h⟩:=ed h
     have:=DT.cp h
     cases this
     unfold uy at h1
     cases hf:e7 k es 0 with
     |none=>rw[hf]at h1;cases h1
     |some f=>
      cases f with
      |none=>simp only[Rd.run,hg,hf,nU]
      |some p=>simp only[Rd.run,hg,hf,nU]
    ·cases h
   ·cases h
  ·cases h
 ·cases h
def Kw(g:Nat→Option ai)(x:amn):Bool:=match x with
 | .map (some r)=>match g r with
  |some (.map es _)=>amE es.length es.length
  |_=>true
 |_=>true
def U6(g:Nat→Option ai)(e:anX→amn)(c:Call):Bool:=match c.callee with
 | .builtin .delete=>match c.args.toList.map e with
  |x::_=>Kw g x
  |_=>true
 |_=>true
def fE(e:anX→amn)(g:Nat→Option ai)(c:Call)(n:Nat):EO:=match c.callee with
 | .builtin .append=>DR P g c.argTypes.toList (c.args.toList.map e) n
 | .builtin .clear=>DZ P g c.argTypes.toList (c.args.toList.map e)
 | .builtin .delete=>D1 P g c.argTypes.toList (c.args.toList.map e)
 |_=>.fail
def Kx(l:List amn):Bool:=match l with
 |v::w::_=>(match v with
  | .slice _ n c=>amE n n&&amE c c
  |_=>true)&&(match w with
  | .slice _ n _=>amE n n
  | .string s=>amE s.size s.size
  |_=>true)
 |_=>true
def U7(e:anX→amn)(c:Call):Bool:=match c.callee with
 | .builtin .append=>Kx (c.args.toList.map e)
 | .builtin .clear=>Kx (c.args.toList.map e++[.nilFunc])
 |_=>true
def U8(op:aqR)(a b:amn):Option Bool:=match op,a,b with
 | .quo,.int _ _,.int _ y=>some (decide (y=y))
 | .rem,.int _ _,.int _ y=>some (decide (y=y))
 | .add,.string x,.string y=>some (amE (x.size+y.size) (x.size+y.size))
 |_,_,_=>none
def Ky:amn→Nat
 | .pointer (some ⟨_,off,_⟩)=>off
 |_=>0
def isClosed(n:Nat):Bool:=amE n n
def uz:amn→Bool
 | .int _ z=>decide (z=z)
 |_=>true
def Kz:amn→Bool
 | .slice _ n c=>amE n n&&amE c c
 |_=>true
def U9(g:Nat→Option ai):amn→Bool
 | .slice (some ⟨b,off,_⟩) len _=>match g b with
  |some (.cells c _ _)=>((cut c off len).bind bytesOf).isSome
  |_=>true
 |_=>true
def D2(op:aqR)(a b:amn):Option (Nat×Bool):=match op,a,b with
 | .eql,.slice (some _) _ c,.slice none 0 0=>some (c,false)
 | .neq,.slice (some _) _ c,.slice none 0 0=>some (c,true)
 |_,_,_=>none
def D3(t:amz)(c:Nat)(r:Bool):EO:=match P.underlying t with
 |some (.slice _)=>dW (amG 0 c) (j9 (.bool r) [])
 |_=>.fail
theorem Va{op:aqR}{t:amz}{x y:anX}{a b:amn}{c:Nat}{r:Bool}{out:bi}{l:List Nat}{g:Nat→Option ai}(hl:D2 op a b=some (c,r))(h:(D3 P t c r).Has (out,l)):
 (rZ P op t x y a b).run g=some (out,l):=by
 unfold D3 at h
 split at h
 ·rename_i el ht
  obtain⟨hc,h⟩:=ed h
  obtain⟨rfl,rfl⟩:=kD h
  unfold D2 at hl
  split at hl
  ·cases hl
   unfold rZ
   have:fl (.slice (some ‹Addr›) ‹Nat› c)=false:=rfl
   rw[this]
   simp only[apO,tY,ht,yu,hc]
   rfl
  ·cases hl
   unfold rZ
   have:fl (.slice (some ‹Addr›) ‹Nat› c)=false:=rfl
   rw[this]
   simp only[apO,tY,ht,yu,hc]
   rfl
  ·cases hl
 ·cases h
def KA(g:Nat→Option ai)(v:amn):Bool:=match v with
 | .pointer (some ⟨b,off,none⟩)=>match g b with
  |some (.cells c _ _)=>match c[off]?with
   |some _=>true
   |none=>true
  |_=>true
 |_=>true
def D4(t:Fr)(S:VS)(o:anp):EO:=match o.op with
 | .pick c a b=>DM (bK t c) (bK t a) (bK t b)
 | .load ty a=>.fm (isClosed (Ky (bK t a))&&KA (gt S.mem) (bK t a)) (DT.fB ((ev P (bK t) S.next o).run (gt S.mem))) (match nu P ty with
  |some true=>DG P (gt S.mem) ty (bK t a)
  |_=>DD P (gt S.mem) ty (bK t a))
 | .store ty a x=>.fm (isClosed (Ky (bK t a))&&KA (gt S.mem) (bK t a)) (DT.fB ((ev P (bK t) S.next o).run (gt S.mem))) (match rowOf P (gt S.mem) ty (bK t a)with
  |true=>DI P (gt S.mem) ty (bK t a) (bK t x)
  |false=>DJ P (gt S.mem) ty (bK t a) (bK t x))
 | .index ty x i=>match bK t x with
  | .string s=>.fm (uz (bK t i)&&amE s.size s.size) (DT.fB ((ev P (bK t) S.next o).run (gt S.mem))) (DX P ty (bK t x) (bK t i))
  |_=>DT.fB ((ev P (bK t) S.next o).run (gt S.mem))
 | .binOp op ty x y _=>match U8 op (bK t x) (bK t y)with
  |some p=>.fm p (DT.fB ((ev P (bK t) S.next o).run (gt S.mem))) (DU op (bK t x) (bK t y))
  |none=>match D2 op (bK t x) (bK t y)with
   |some (c,r)=>.fm (isClosed c) (DT.fB ((ev P (bK t) S.next o).run (gt S.mem))) (D3 P ty c r)
   |none=>DT.fB ((ev P (bK t) S.next o).run (gt S.mem))
 | .indexAddr ty x i=>.fm (uz (bK t i)&&Kz (bK t x)) (DT.fB ((ev P (bK t) S.next o).run (gt S.mem))) (DB P ty (bK t x) (bK t i))
 | .convert src dst x=>.fm (U9 (gt S.mem) (bK t x)) (DT.fB ((ev P (bK t) S.next o).run (gt S.mem))) (DK P (gt S.mem) src dst (bK t x))
 | .slice ty x lo hi mx=>match bK t x with
  | .string s=>.fm (amE s.size s.size&&(lo.map (bK t)).all uz&&(hi.map (bK t)).all uz) (DT.fB ((ev P (bK t) S.next o).run (gt S.mem))) (DY P ty (bK t x) (lo.map (bK t)) (hi.map (bK t)) (mx.map (bK t)))
  |_=>.fm (Kz (bK t x)&&(lo.map (bK t)).all uz&&(hi.map (bK t)).all uz) (DT.fB ((ev P (bK t) S.next o).run (gt S.mem))) (DL P (gt S.mem) ty (bK t x) (lo.map (bK t)) (hi.map (bK t)) (mx.map (bK t)))
 | .mapUpdate ty m k x=>.fm (Kw (gt S.mem) (bK t m)) (DT.fB ((ev P (bK t) S.next o).run (gt S.mem))) (D0 P (gt S.mem) ty (bK t m) (bK t k) (bK t x))
 | .call c=>.fm (U7 (bK t) c&&U6 (gt S.mem) (bK t) c) (DT.fB ((ev P (bK t) S.next o).run (gt S.mem))) (fE P (bK t) (gt S.mem) c S.next)
 |_=>DT.fB ((ev P (bK t) S.next o).run (gt S.mem))
theorem Vb{e:anX→amn}{g:Nat→Option ai}{c:Call}{ty:amz}{n:Nat}{out:bi}{l:List Nat}(h:(fE P e g c n).Has (out,l)):(qC P c e ty n).run g=some (out,l):=by
 unfold fE at h
 split at h
 ·rename_i hc
  have:=UY P h
  unfold qC
  rw[hc]
  exact this
 ·rename_i hc
  have:=U3 P h
  unfold qC
  rw[hc]
  exact this
 ·rename_i hc
  have:=U5 P h
  unfold qC
  rw[hc]
  exact this
 ·cases h
theorem Vc{t:Fr}{S:VS}{o:anp}{out:bi}{l:List Nat}(h:(D4 P t S o).Has (out,l)):(ev P (bK t) S.next o).run (gt S.mem)=some (out,l):=by
 unfold D4 at h
 obtain⟨dst,op,type,pos,after,guard⟩:=o
 dsimp only at h
 split at h
 ·exact UT h
 ·rcases DT.na h with h|h
  ·exact DT.gM h
  ·split at h
   ·exact UK P h
   ·exact UI P h
 ·rcases DT.na h with h|h
  ·exact DT.gM h
  ·split at h
   ·exact UM P h
   ·exact UP P h
 ·split at h
  ·rcases DT.na h with h|h
   ·exact DT.gM h
   ·exact U0 P h
  ·exact DT.gM h
 ·split at h
  ·rcases DT.na h with h|h
   ·exact DT.gM h
   ·exact UZ P h
  ·split at h
   ·rename_i zy
    rcases DT.na h with h|h
    ·exact DT.gM h
    ·exact Va P zy h
   ·exact DT.gM h
 ·rcases DT.na h with h|h
  ·exact DT.gM h
  ·exact UG P h
 ·rcases DT.na h with h|h
  ·exact DT.gM h
  ·exact UR P h
 ·split at h
  ·rcases DT.na h with h|h
   ·exact DT.gM h
   ·exact U1 P h
  ·rcases DT.na h with h|h
   ·exact DT.gM h
   ·exact US P h
 ·rcases DT.na h with h|h
  ·exact DT.gM h
  ·exact U4 P h
 ·rcases DT.na h with h|h
  ·exact DT.gM h
  ·exact Vb P h
 ·exact DT.gM h
def zz(t:Fr)(S:VS)(o:anp):DT (jE×VS):=match kV P t S o with
 |some V=>match o.op.operands.toList.all oE,V.i with
  |true,.int _ z=>dW (decide (0≤z)) (dW (amG z.toNat V.n) (dW (amG z.toNat V.len) (DT.fB (wa S V.b V.el (V.row z.toNat)))))
  |_,_=>.fail
 |none=>match o.op.operands.toList.all oE with
  |false=>.fail
  |true=>(D4 P t S o).bind fun p=>DT.fB (yA S p.2 p.1)
theorem KB{t:Fr}{S:VS}{o:anp}{r:jE×VS}(h:(zz P t S o).Has r):jd P t S o=some r:=by
 unfold zz at h
 unfold jd
 split at h
 ·rename_i V hV
  rw[hV]
  dsimp only
  split at h
  ·rename_i ik z cJ hi
   obtain⟨h1,h⟩:=ed h
   obtain⟨h2,h⟩:=ed h
   obtain⟨h3,h⟩:=ed h
   rw[cJ,hi,zt h1]
   dsimp only
   rw[h2,h3]
   exact DT.gM h
  ·cases h
 ·rename_i hV
  rw[hV]
  dsimp only
  unfold mW
  split at h
  ·cases h
  ·rename_i cJ
   obtain⟨p,h1,h2⟩:=DT.fi h
   obtain⟨out,l⟩:=p
   have:=Vc P h1
   simp only[cJ,this]
   exact DT.gM h2
abbrev fo:=amY→List amn→VS→DT (bL×VS)
def D5{α:Type}(ops:List anp)(o:anp)(t:Fr)(k:Bool→DT α):DT α:=match o.guard with
 |none=>k true
 |some (j,want)=>match(ops[j]?).bind (·.dst)with
  |some d=>match t.at d with
   | .bool b=>.ask b fun b=>match b,want with
    |true,true=>k true
    |false,false=>k true
    |_,_=>k false
   |_=>k false
  |none=>k false
theorem Vd{α:Type}{ops:List anp}{o:anp}{t:Fr}{k:Bool→DT α}{a:α}(h:(D5 ops o t k).Has a):(k (anZ o (kW ops t))).Has a:=by
 unfold D5 at h
 unfold anZ kW
 split at h
 ·rename_i hg;simp only[hg];exact h
 ·rename_i j want hg
  simp only[hg]
  split at h
  ·rename_i d hd
   simp only[hd]
   split at h
   ·rename_i b hb
    have h:=DT.nS h
    simp only[hb]
    cases b<;>cases want<;>exact h
   ·rename_i bt
    cases hv:t.at d with
    |bool b=>exact absurd hv (bt b)
    |_=>simpa using h
  ·rename_i hd
   simp only[hd]
   simpa using h
def zA(call:fo)(ops:List anp)(o:anp)(t:Fr)(S:VS):DT (Option amn×Fr×VS):=
 D5 ops o t fun w=>match w with
  |false=>DT.fB ((put t o.dst undef).map fun t1=>(none,t1,S))
  |true=>(zz P t S o).bind fun p=>match p.1 with
   | .val v=>DT.fB ((put t o.dst v).map fun t1=>(none,t1,p.2))
   | .skip=>DT.fB ((put t o.dst undef).map fun t1=>(none,t1,p.2))
   | .panic v=>.done (some v,t,p.2)
   | .defer _=>.fail
   | .enter f args=>(call f args p.2).bind fun q=>match q.1 with
    | .ret v=>DT.fB ((put t o.dst v).map fun t1=>(none,t1,q.2))
    | .panic v=>.done (some v,t,q.2)
theorem KC{fE:fo}{call:cx}(hc:∀f args S r,(fE f args S).Has r→call f args S=some r){ops:List anp}{o:anp}{t:Fr}{S:VS}{r:Option amn×Fr×VS}
 (h:(zA P fE ops o t S).Has r):jZ P call ops o t S=some r:=by
 unfold zA at h
 have h:=Vd h
 unfold jZ
 cases hw:anZ o (kW ops t)with
 |false=>rw[hw]at h;exact DT.gM h
 |true=>
  rw[hw]at h
  dsimp only at h⊢
  obtain⟨p,h1,h2⟩:=DT.fi h
  obtain⟨r1,S1⟩:=p
  rw[KB P h1]
  dsimp only at h2⊢
  cases r1 with
  |val v=>exact DT.gM h2
  |skip=>exact DT.gM h2
  |panic v=>rw[DT.cp h2]
  |defer d=>cases h2
  |enter f args=>
   dsimp only at h2⊢
   obtain⟨q,h3,h4⟩:=DT.fi h2
   obtain⟨cr,S2⟩:=q
   rw[hc _ _ _ _ h3]
   cases cr with
   |ret v=>exact DT.gM h4
   |panic v=>rw[DT.cp h4]
def w0(call:fo)(df:Bool)(ops:List anp):List anp→Fr→VS→DT (bf×Fr×VS)
 | [],t,S=>.done (.normal,t,S)
 |o::rest,t,S=>match wb o with
  |some c=>match df with
   |true=>match yB P t o c with
    |some t1=>w0 call df ops rest t1 S
    |none=>.fail
   |false=>.fail
  |none=>(zA P call ops o t S).bind fun p=>match p.1 with
   |some v=>.done (.panic v,p.2.1,p.2.2)
   |none=>w0 call df ops rest p.2.1 p.2.2
theorem D6{fE:fo}{call:cx}(hc:∀f args S r,(fE f args S).Has r→call f args S=some r){df:Bool}{ops:List anp}:∀{rest:List anp} {t:Fr} {S:VS} {r:bf×Fr×VS},
 (w0 P fE df ops rest t S).Has r→opsV P call df ops rest t S=some r
 | [],t,S,r,h=>by rw[DT.cp h];rfl
 |o::rest,t,S,r,h=>by
  unfold w0 at h
  unfold opsV
  split at h
  ·rename_i c hd
   rw[hd]
   dsimp only
   split at h
   ·split at h
    ·rename_i t1 Dl
     rw[Dl]
     exact D6 hc h
    ·cases h
   ·cases h
  ·rename_i hd
   rw[hd]
   dsimp only
   obtain⟨p,h1,h2⟩:=DT.fi h
   obtain⟨ov,t1,S1⟩:=p
   rw[KC P hc h1]
   cases ov with
   |some v=>rw[DT.cp h2]
   |none=>exact D6 hc h2
def zB(call:fo)(ops:List anp):List anp→Fr→VS→DT (Fr×VS×List Fp)
 | [],t,S=>.done (t,S,[])
 |o::rest,t,S=>(zA P call ops o t {S with rd:=[],wr:=[]}).bind fun p=>match p.1 with
  |some _=>.fail
  |none=>(zB call ops rest p.2.1 {p.2.2 with rd:=p.2.2.rd++S.rd,wr:=p.2.2.wr++S.wr}).bind fun q=>.done (q.1,q.2.1,⟨p.2.2.rd,p.2.2.wr⟩::q.2.2)
theorem KD{fE:fo}{call:cx}(hc:∀f args S r,(fE f args S).Has r→call f args S=some r){ops:List anp}:∀{rest:List anp} {t:Fr} {S:VS} {r:Fr×VS×List Fp},
 (zB P fE ops rest t S).Has r→j3 P call ops rest t S=some r
 | [],t,S,r,h=>by rw[DT.cp h];rfl
 |o::rest,t,S,r,h=>by
  unfold zB at h
  obtain⟨p,h1,h2⟩:=DT.fi h
  obtain⟨ov,t1,S1⟩:=p
  unfold j3
  rw[KC P hc h1]
  cases ov with
  |some v=>cases h2
  |none=>
   dsimp only at h2⊢
   obtain⟨q,h3,h4⟩:=DT.fi h2
   obtain⟨t2,S2,fP⟩:=q
   rw[KD hc h3,DT.cp h4]
def zC(f:Fr→VS→DT (bf×Fr×VS)):Nat→Fr→VS→DT (bf×Fr×VS)
 |0,_,_=>.fail
 |k+1,t,S=>(f t S).bind fun p=>match p.1 with
  | .normal=>zC f k p.2.1 p.2.2
  |_=>.done p
theorem KE{f:Fr→VS→DT (bf×Fr×VS)}{f':Fr→VS→Option (bf×Fr×VS)}(hf:∀t S r,(f t S).Has r→f' t S=some r):∀{k:Nat} {t:Fr} {S:VS} {r:bf×Fr×VS},
 (zC f k t S).Has r→iter f' k t S=some r
 |0,t,S,r,h=>by cases h
 |k+1,t,S,r,h=>by
  unfold zC at h
  obtain⟨p,h1,h2⟩:=DT.fi h
  obtain⟨e,t1,S1⟩:=p
  unfold iter
  rw[hf _ _ _ h1]
  cases e with
  |normal=>exact KE hf h2
  |exit id=>rw[DT.cp h2]
  |ret=>rw[DT.cp h2]
  |panic v=>rw[DT.cp h2]
def iV(call:fo)(lf:Nat)(df:Bool):am3→Fr→VS→DT (bf×Fr×VS)
 | .skip,t,S=>.done (.normal,t,S)
 | .region _ ops false,t,S=>w0 P call df ops.toList ops.toList t S
 | .region _ ops true,t,S=>(zB P call ops.toList ops.toList t S).bind fun q=>match r5 ops q.2.2 with
  |true=>.done (.normal,q.1,q.2.1)
  |false=>.fail
 | .seq a b,t,S=>(iV call lf df a t S).bind fun p=>match p.1 with
  | .normal=>iV call lf df b p.2.1 p.2.2
  |_=>.done p
 | .cond c a b,t,S=>match bK t c with
  | .bool d=>.ask d fun d=>match d with
   |true=>iV call lf df a t S
   |false=>iV call lf df b t S
  |_=>.fail
 | .block id c,t,S=>(iV call lf df c t S).bind fun p=>match p.1 with
  | .exit j=>match amE j id with
   |true=>.done (.normal,p.2.1,p.2.2)
   |false=>.done p
  |_=>.done p
 | .loop c,t,S=>zC (iV call lf df c) lf t S
 | .exit id,t,S=>.done (.exit id,t,S)
 | .ret,t,S=>.done (.ret,t,S)
 | .scope c,t,S=>iV call lf df c t S
 | .label _,t,S=>.done (.normal,t,S)
 |_,_,_=>.fail
theorem zD{fE:fo}{call:cx}(hc:∀f args S r,(fE f args S).Has r→call f args S=some r)(lf:Nat){df:Bool}:∀{c:am3} {t:Fr} {S:VS} {r:bf×Fr×VS},
 (iV P fE lf df c t S).Has r→cS P call lf df c t S=some r:=by
 intro c
 induction c with
 |skip=>intro t S r h;rw[DT.cp h];rfl
 |region id ops draw=>
  intro t S r h
  cases draw with
  |false=>exact D6 P hc h
  |true=>
   simp only[iV]at h
   obtain⟨q,h1,h2⟩:=DT.fi h
   obtain⟨t1,S1,fP⟩:=q
   simp only[cS]
   rw[KD P hc h1]
   dsimp only at h2⊢
   split at h2
   ·rename_i hk;rw[DT.cp h2,hk]
   ·cases h2
 |seq a b ir kC=>
  intro t S r h
  simp only[iV]at h
  obtain⟨p,h1,h2⟩:=DT.fi h
  obtain⟨e,t1,S1⟩:=p
  simp only[cS]
  rw[ir h1]
  cases e with
  |normal=>exact kC h2
  |exit id=>rw[DT.cp h2]
  |ret=>rw[DT.cp h2]
  |panic v=>rw[DT.cp h2]
 |cond c a b ir kC=>
  intro t S r h
  simp only[iV]at h
  simp only[cS]
  split at h
  ·rename_i d hd
   have h:=DT.nS h
   rw[hd]
   cases d with
   |true=>exact ir h
   |false=>exact kC h
  ·cases h
 |block id c ih=>
  intro t S r h
  simp only[iV]at h
  obtain⟨p,h1,h2⟩:=DT.fi h
  obtain⟨e,t1,S1⟩:=p
  simp only[cS]
  rw[ih h1]
  cases e with
  |normal=>rw[DT.cp h2]
  |exit j=>
   dsimp only at h2⊢
   split at h2
   ·rename_i hj;rw[DT.cp h2,hj]
   ·rename_i hj;rw[DT.cp h2,hj]
  |ret=>rw[DT.cp h2]
  |panic v=>rw[DT.cp h2]
 |loop c ih=>
  intro t S r h
  simp only[iV]at h
  exact KE (fun t S r h=>ih h) h
 |exit id=>intro t S r h;rw[DT.cp h];rfl
 |ret=>intro t S r h;rw[DT.cp h];rfl
 |scope c ih=>intro t S r h;simp only[iV]at h;exact ih h
 |label l=>intro t S r h;rw[DT.cp h];rfl
 |_=>intro t S r h;simp[iV]at h;cases h
def zE:List anp→Fr→VS→DT (Fr×VS)
 | [],t,S=>.done (t,S)
 |o::rest,t,S=>match o.guard with
  |some _=>.fail
  |none=>(zz P t S o).bind fun p=>match p.1 with
   | .val v=>(DT.fB (put t o.dst v)).bind fun t1=>zE rest t1 p.2
   |_=>.fail
theorem KF:∀{rest:List anp} {t:Fr} {S:VS} {r:Fr×VS},(zE P rest t S).Has r→oI P rest t S=some r
 | [],t,S,r,h=>by rw[DT.cp h];rfl
 |o::rest,t,S,r,h=>by
  unfold zE at h
  unfold oI
  split at h
  ·cases h
  ·rename_i hg
   rw[hg]
   dsimp only
   obtain⟨p,h1,h2⟩:=DT.fi h
   obtain⟨v,S1⟩:=p
   rw[KB P h1]
   cases v with
   |val v=>
    obtain⟨t1,h3,h4⟩:=DT.fi h2
    dsimp only
    rw[DT.gM h3]
    exact KF h4
   |_=>cases h2
def sI(call:fo)(lf:Nat)(md:Md):am3→Fr→VS→DT (Md×bf×Fr×VS)
 | .seq a b,t,S=>(sI call lf md a t S).bind fun p=>match p.2.1 with
  | .normal=>(iV P call lf false b p.2.2.1 p.2.2.2).bind fun q=>.done (p.1,q.1,q.2.1,q.2.2)
  |_=>.done p
 | .region id ops false,t,S=>match ops.toList with
  |o::rest=>match Cb o with
   |true=>(DT.fB (put t o.dst (IM md))).bind fun t1=>(zE P rest t1 S).bind fun q=>.done (.ret,.normal,q.1,q.2)
   |false=>(iV P call lf false (.region id ops false) t S).bind fun q=>.done (md,q.1,q.2.1,q.2.2)
  | []=>.fail
 |c,t,S=>(iV P call lf false c t S).bind fun q=>.done (md,q.1,q.2.1,q.2.2)
theorem Ve{fE:fo}{call:cx}(hc:∀f args S r,(fE f args S).Has r→call f args S=some r){lf:Nat}{md:Md}:∀{c:am3} {t:Fr} {S:VS} {r:Md×bf×Fr×VS},
 (sI P fE lf md c t S).Has r→jF P call lf md c t S=some r:=by
 intro c
 have nQ:∀{c:am3} {t:Fr} {S:VS} {r:Md×bf×Fr×VS},((iV P fE lf false c t S).bind fun q=>DT.done (md,q.1,q.2.1,q.2.2)).Has r→(cS P call lf false c t S).map (fun r=>(md,r))=some r:=by
  intro c t S r h
  obtain⟨q,h1,h2⟩:=DT.fi h
  rw[zD P hc lf h1,DT.cp h2]
  rfl
 induction c with
 |seq a b ir kC=>
  intro t S r h
  unfold sI at h
  unfold jF
  obtain⟨p,h1,h2⟩:=DT.fi h
  obtain⟨fk,e,t1,S1⟩:=p
  rw[ir h1]
  cases e with
  |normal=>
   obtain⟨q,h3,h4⟩:=DT.fi h2
   dsimp only
   rw[zD P hc lf h3,DT.cp h4]
   rfl
  |exit id=>rw[DT.cp h2]
  |ret=>rw[DT.cp h2]
  |panic v=>rw[DT.cp h2]
 |region id ops draw=>
  intro t S r h
  cases draw with
  |true=>unfold sI at h;unfold jF;exact nQ h
  |false=>
   unfold sI at h
   unfold jF
   split at h
   ·rename_i o rest lL
    rw[lL]
    dsimp only
    split at h
    ·rename_i la
     rw[la]
     dsimp only
     obtain⟨t1,h1,h2⟩:=DT.fi h
     obtain⟨q,h3,h4⟩:=DT.fi h2
     rw[DT.gM h1]
     dsimp only
     rw[KF P h3,DT.cp h4]
    ·rename_i la
     rw[la]
     dsimp only
     exact nQ h
   ·cases h
 |_=>intro t S r h;unfold sI at h;unfold jF;exact nQ h
def D7(call:fo)(lf:Nat)(md:Md)(k:amY)(args:List amn)(S:VS):DT (Md×VS):=match P.funcs[k]?with
 |none=>.fail
 |some fn=>match fn.body with
  |none=>.fail
  |some c=>match Fr.of args fn.ntmps with
   |none=>.fail
   |some t0=>(sI P call lf md c t0 S).bind fun p=>match p.2.1,p.2.2.1.ds,p.2.2.1.base with
    | .normal,[],[]=>(DT.fB (ny P p.2.2.1 fn p.2.2.2)).bind fun q=>.done (p.1,q.2)
    | .ret,[],[]=>(DT.fB (ny P p.2.2.1 fn p.2.2.2)).bind fun q=>.done (p.1,q.2)
    |_,_,_=>.fail
theorem Vf{fE:fo}{call:cx}(hc:∀f args S r,(fE f args S).Has r→call f args S=some r){lf:Nat}{md:Md}{k:amY}{args:List amn}{S:VS}{r:Md×VS}
 (h:(D7 P fE lf md k args S).Has r):r6 P call lf md k args S=some r:=by
 unfold D7 at h
 unfold r6
 split at h
 ·cases h
 ·rename_i fn gh
  rw[gh]
  dsimp only
  split at h
  ·cases h
  ·rename_i c hb
   rw[hb]
   dsimp only
   split at h
   ·cases h
   ·rename_i t0 ld
    rw[ld]
    dsimp only
    obtain⟨p,h1,h2⟩:=DT.fi h
    obtain⟨fk,e,t1,S1⟩:=p
    rw[Ve P hc h1]
    dsimp only at h2⊢
    split at h2
    ·rename_i h3 h4
     obtain⟨q,h5,h6⟩:=DT.fi h2
     rw[h3,h4]
     dsimp only
     rw[DT.gM h5,DT.cp h6]
    ·rename_i h3 h4
     obtain⟨q,h5,h6⟩:=DT.fi h2
     rw[h3,h4]
     dsimp only
     rw[DT.gM h5,DT.cp h6]
    ·cases h2
def zG(call:fo)(lf:Nat):List (amY×List amn)→Md→VS→DT (Md×VS)
 | [],md,S=>.done (md,S)
 |(k,args)::l,md,S=>(D7 P call lf md k args S).bind fun p=>zG call lf l p.1 p.2
theorem KG{fE:fo}{call:cx}(hc:∀f args S r,(fE f args S).Has r→call f args S=some r){lf:Nat}:∀{ds:List (amY×List amn)} {md:Md} {S:VS} {r:Md×VS},
 (zG P fE lf ds md S).Has r→nz P call lf ds md S=some r
 | [],md,S,r,h=>by rw[DT.cp h];rfl
 |(k,args)::l,md,S,r,h=>by
  unfold zG at h
  obtain⟨p,h1,h2⟩:=DT.fi h
  unfold nz
  rw[Vf P hc h1]
  exact KG hc h2
def w5(call:fo)(lf:Nat)(fn:Func)(md:Md)(t:Fr)(S:VS):DT (bL×VS):=match t.base with
 | []=>(zG P call lf t.ds md S).bind fun p=>match p.1 with
  | .ret=>DT.fB (ny P t fn p.2)
  | .mh v=>.done (.panic v,p.2)
 |_=>.fail
theorem D8{fE:fo}{call:cx}(hc:∀f args S r,(fE f args S).Has r→call f args S=some r){lf:Nat}{fn:Func}{md:Md}{t:Fr}{S:VS}{r:bL×VS}
 (h:(w5 P fE lf fn md t S).Has r):oJ P call lf fn md t S=some r:=by
 unfold w5 at h
 unfold oJ
 split at h
 ·rename_i hb
  rw[hb]
  dsimp only
  obtain⟨p,h1,h2⟩:=DT.fi h
  obtain⟨fk,S1⟩:=p
  rw[KG P hc h1]
  cases fk with
  |ret=>exact DT.gM h2
  |mh v=>rw[DT.cp h2]
 ·cases h
def qS(my:fo→fo)(lf:Nat):Nat→fo
 |0,_,_,_=>.fail
 |d+1,f,args,S=>match P.funcs[f]?with
  |none=>.fail
  |some fn=>match fn.body with
   |none=>.fail
   |some c=>match Fr.of args fn.ntmps with
    |none=>.fail
    |some t0=>(iV P (my (qS my lf d)) lf true c t0 S).bind fun p=>match p.1 with
     | .normal=>w5 P (my (qS my lf d)) lf fn .ret p.2.1 p.2.2
     | .ret=>w5 P (my (qS my lf d)) lf fn .ret p.2.1 p.2.2
     | .panic v=>w5 P (my (qS my lf d)) lf fn (.mh v) p.2.1 p.2.2
     |_=>.fail
theorem D9{my:fo→fo}{sp:cx→cx}(cW:∀(c:fo) (c':cx),(∀f args S r,(c f args S).Has r→c' f args S=some r)→∀f args S r,(my c f args S).Has r→sp c' f args S=some r)(lf:Nat):
 ∀{d:Nat} {f:amY} {args:List amn} {S:VS} {r:bL×VS},(qS P my lf d f args S).Has r→lG P sp lf d f args S=some r
 |0,f,args,S,r,h=>by cases h
 |d+1,f,args,S,r,h=>by
  unfold qS at h
  unfold lG
  split at h
  ·cases h
  ·rename_i fn gh
   split at h
   ·cases h
   ·rename_i c hb
    split at h
    ·cases h
    ·rename_i t0 ld
     obtain⟨p,h1,h2⟩:=DT.fi h
     obtain⟨e,t1,S1⟩:=p
     have:=zD P (cW _ _ fun f args S r h=>D9 cW lf h) lf h1
     rw[gh]
     dsimp only
     rw[hb]
     dsimp only
     rw[ld]
     dsimp only
     rw[this]
     have iU:∀f args S r,(my (qS P my lf d) f args S).Has r→sp (lG P sp lf d) f args S=some r:=cW _ _ fun f args S r h=>D9 cW lf h
     cases e with
     |normal=>exact D8 P iU h2
     |ret=>exact D8 P iU h2
     |panic v=>exact D8 P iU h2
     |exit id=>cases h2
end
end Go.Proofs.Ytnlkkgpcikkpoaa.Vm
namespace Go.Proofs.Ytnlkkgpcikkpoaa.Vm
open Go.RowKit
def Ea(p:Nat×Nat):Nat×Nat:=if p.1=0 then(p.2+1,0)else(p.1-1,p.2+1)
def mz:Nat→Nat×Nat
 |0=>(0,0)
 |n+1=>Ea (mz n)
theorem Eb:∀(s b:Nat),b≤s→∃n,mz n=(s-b,b)
 |0,0,_=>⟨0,rfl⟩
 |s+1,0,_=>by
  obtain⟨n,h⟩:=Eb s s (amX s)
  exact⟨n+1,by simp[mz,h,Ea]⟩
 |s,b+1,hb=>by
  obtain⟨n,h⟩:=Eb s b (by omega)
  have h1:s-b≠0:=by omega
  exact⟨n+1,by simp[mz,h,Ea,h1];omega⟩
termination_by s b=>(s,b)
theorem Ec(a b:Nat):∃n,mz n=(a,b):=by
 obtain⟨n,h⟩:=Eb (a+b) b (by omega)
 exact⟨n,by rw[h];congr 1;omega⟩
def uA(n:Nat):bP:=⟨(mz (mz n).1).1,(mz (mz n).1).2,(mz (mz n).2).1,(mz (mz n).2).2⟩
theorem KH(r:bP):∃n,uA n=r:=by
 obtain⟨a,ha⟩:=Ec r.aJ r.sh
 obtain⟨b,hb⟩:=Ec r.sz r.dn
 obtain⟨n,hn⟩:=Ec a b
 exact⟨n,by simp[uA,hn,ha,hb]⟩
theorem zH(n:Nat):small (n+262144)=false:=by
 cases hs:small (n+262144)with
 |false=>rfl
 |true=>have:=gW.1 hs;omega
def Full(ρ:Ren):Prop:=∀r:bP,∃y,small y=false∧ρ y=some r
theorem w6{ρ ρ':Ren}:∀{l l':List amn},l.length=l'.length→(∀(i:Nat) (v v':amn),l[i]?=some v→l'[i]?=some v'→∃u,VR ρ' u v')→
 ∃lu:List amn,LR ρ' lu l'
 | [],[],_,_=>⟨[],LR.nil _⟩
 |v::l,v'::l',hl,h=>by
  obtain⟨u,hu⟩:=h 0 v v' rfl rfl
  obtain⟨lu,wu⟩:=w6 (ρ:=ρ) (ρ':=ρ') (l:=l) (l':=l') (by simpa using hl) fun i a b ha hb=>h (i+1) a b (by simpa using ha) (by simpa using hb)
  exact⟨u::lu,LR.cons hu wu⟩
 | [],_::_,hl,_=>by simp at hl
 |_::_,[],hl,_=>by simp at hl
theorem VR.Vg{ρ ρ':Ren}(hm:∀x r,ρ x=some r→∃y,ρ' y=some r){v v':amn}(h:VR ρ v v'):∃u,VR ρ' u v':=by
 induction h with
 |bH v h=>exact⟨v,.bH v h⟩
 |ptr b off r h=>obtain⟨y,hy⟩:=hm b r h;exact⟨_,.ptr y off r hy⟩
 |sl b off len cap bq r h hc=>obtain⟨y,hy⟩:=hm b r h;exact⟨_,.sl y off len cap bq r hy hc⟩
 |dV a a'=>exact⟨_,.dV a a'⟩
 |lI b off t=>exact⟨_,.lI b off t⟩
 |mj b off t len cap=>exact⟨_,.mj b off t len cap⟩
 |map b r h=>obtain⟨y,hy⟩:=hm b r h;exact⟨_,.map y r hy⟩
 |func fn f f' c c' h h1 h2 h3 h4 Cf Cg=>
  obtain⟨lf,hf⟩:=w6 (ρ:=ρ) h1 Cf
  obtain⟨lc,hc⟩:=w6 (ρ:=ρ) h3 Cg
  exact⟨.func fn lf.toArray lc.toArray,.func fn _ _ _ _ h (by simpa using hf.len) (by simpa using hf.at_) (by simpa using hc.len) (by simpa using hc.at_)⟩
 |iface t v v' h ih=>obtain⟨u,hu⟩:=ih;exact⟨.iface t u,.iface t u v' hu⟩
 |agg c c' h1 h2 ih=>obtain⟨lu,hu⟩:=w6 (ρ:=ρ) h1 ih;exact⟨.agg lu.toArray,VR.wh (by simpa using hu)⟩
 |tuple c c' h1 h2 ih=>obtain⟨lu,hu⟩:=w6 (ρ:=ρ) h1 ih;exact⟨.tuple lu.toArray,VR.Ch (by simpa using hu)⟩
theorem VR.full{ρ ρ':Ren}(hf:Full ρ'){v v':amn}(h:VR ρ v v'):∃u,VR ρ' u v':=h.Vg fun x r _=>let⟨y,_,hy⟩:=hf r;⟨y,hy⟩
def eI:List Nat→Nat→Option Nat
 | [],_=>none
 |y::l,x=>match amE y x with
  |true=>some 0
  |false=>match eI l x with
   |some i=>some (i+1)
   |none=>none
theorem zI:∀{σ:List Nat} {x i:Nat},eI σ x=some i→σ[i]?=some x
 | [],x,i,h=>by cases h
 |y::l,x,i,h=>by
  unfold eI at h
  split at h
  ·rename_i hb
   cases h
   simp[amI hb]
  ·split at h
   ·rename_i j hj
    cases h
    simpa using zI hj
   ·cases h
def lP(f:amn→Option amn):List amn→Option (List amn)
 | []=>some []
 |v::l=>match f v,lP f l with
  |some u,some r=>some (u::r)
  |_,_=>none
def gN(τ:Nat→Option Nat):Nat→amn→Option amn
 |_,.pointer (some ⟨b,off,none⟩)=>match τ b with
  |some i=>some (.pointer (some ⟨i,off,none⟩))
  |none=>none
 |_,.slice (some ⟨b,off,none⟩) len cap=>match τ b with
  |some i=>some (.slice (some ⟨i,off,none⟩) len cap)
  |none=>none
 |_,.map (some b)=>match τ b with
  |some i=>some (.map (some i))
  |none=>none
 |_,.pointer (some ⟨b,off,some t⟩)=>some (.pointer (some ⟨b,off,some t⟩))
 |_,.slice (some ⟨b,off,some t⟩) len cap=>some (.slice (some ⟨b,off,some t⟩) len cap)
 |d+1,.func fn f c=>match lP (gN τ d) f.toList,lP (gN τ d) c.toList with
  |some f',some c'=>some (.func fn f'.toArray c'.toArray)
  |_,_=>none
 |d+1,.iface t v=>match gN τ d v with
  |some u=>some (.iface t u)
  |none=>none
 |d+1,.agg c=>match lP (gN τ d) c.toList with
  |some c'=>some (.agg c'.toArray)
  |none=>none
 |d+1,.tuple c=>match lP (gN τ d) c.toList with
  |some c'=>some (.tuple c'.toArray)
  |none=>none
 |_,v=>match af v with
  |true=>some v
  |false=>none
theorem sJ{ρ ρ':Ren}{f:amn→Option amn}(hf:∀v u v',f v=some u→VR ρ v v'→VR ρ' u v'):∀{l r l':List amn},lP f l=some r→LR ρ l l'→LR ρ' r l'
 | [],r,l',h,hl=>by cases h;rw[hl.kw];exact LR.nil _
 |v::l,r,l',h,hl=>by
  unfold lP at h
  split at h
  ·rename_i u q hu hq
   cases h
   obtain⟨v',l2,rfl,h1,h2⟩:=hl.gq
   exact LR.cons (hf v u v' hu h1) (sJ hf hq h2)
  ·cases h
theorem p9{ρ ρ':Ren}{τ:Nat→Option Nat}(hσ:∀y i r,τ y=some i→ρ y=some r→ρ' i=some r):∀(d:Nat) (v u v':amn),gN τ d v=some u→VR ρ v v'→VR ρ' u v':=by
 intro d
 induction d with
 |zero=>
  intro v u v' h hv
  unfold gN at h
  split at h
  ·rename_i b off
   split at h
   ·rename_i i hi
    cases h
    obtain⟨r,hr,rfl⟩:=hv.kx
    exact .ptr i off r (hσ _ _ _ hi hr)
   ·cases h
  ·rename_i b off len cap
   split at h
   ·rename_i i hi
    cases h
    cases hv with
    |bH _ h=>cases h
    |sl _ _ _ _ bq r hr hc=>exact .sl i off len cap bq r (hσ _ _ _ hi hr) hc
    |dV _ a'=>exact .dV _ _
   ·cases h
  ·rename_i b
   split at h
   ·rename_i i hi
    cases h
    obtain⟨r,hr,rfl⟩:=hv.pE
    exact .map i r (hσ _ _ _ hi hr)
   ·cases h
  ·rename_i b off t
   cases h
   cases hv with
   |bH _ h=>cases h
   |lI=>exact .lI _ _ _
  ·rename_i b off t len cap
   cases h
   cases hv with
   |bH _ h=>cases h
   |dV _ a'=>exact .dV _ _
   |mj=>exact .mj _ _ _ _ _
  ·omega
  ·omega
  ·omega
  ·omega
  ·split at h
   ·rename_i hs
    cases h
    rw[VR.r7 hs hv]
    exact .bH _ hs
   ·cases h
 |succ d ih=>
  intro v u v' h hv
  unfold gN at h
  split at h
  ·rename_i b off
   split at h
   ·rename_i i hi
    cases h
    obtain⟨r,hr,rfl⟩:=hv.kx
    exact .ptr i off r (hσ _ _ _ hi hr)
   ·cases h
  ·rename_i b off len cap
   split at h
   ·rename_i i hi
    cases h
    cases hv with
    |bH _ h=>cases h
    |sl _ _ _ _ bq r hr hc=>exact .sl i off len cap bq r (hσ _ _ _ hi hr) hc
    |dV _ a'=>exact .dV _ _
   ·cases h
  ·rename_i b
   split at h
   ·rename_i i hi
    cases h
    obtain⟨r,hr,rfl⟩:=hv.pE
    exact .map i r (hσ _ _ _ hi hr)
   ·cases h
  ·rename_i b off t
   cases h
   cases hv with
   |bH _ h=>cases h
   |lI=>exact .lI _ _ _
  ·rename_i b off t len cap
   cases h
   cases hv with
   |bH _ h=>cases h
   |dV _ a'=>exact .dV _ _
   |mj=>exact .mj _ _ _ _ _
  ·rename_i d' fn f c hd
   obtain rfl:=aqN hd
   split at h
   ·rename_i f1 c1 h1 h2
    cases h
    cases hv with
    |bH _ h=>cases h
    |func _ _ f' _ c' gh a1 a2 a3 a4=>
     have b1:=sJ (fun v u v'=>ih v u v') h1 (⟨a1,a2⟩:LR ρ f.toList f'.toList)
     have b2:=sJ (fun v u v'=>ih v u v') h2 (⟨a3,a4⟩:LR ρ c.toList c'.toList)
     exact .func _ _ _ _ _ gh (by simpa using b1.len) (by simpa using b1.at_) (by simpa using b2.len) (by simpa using b2.at_)
   ·cases h
  ·rename_i hd
   obtain rfl:=aqN hd
   split at h
   ·rename_i u1 h1
    cases h
    obtain⟨v1,rfl,h2⟩:=hv.wj
    exact .iface _ _ _ (ih _ _ _ h1 h2)
   ·cases h
  ·rename_i hd
   obtain rfl:=aqN hd
   split at h
   ·rename_i c1 h1
    cases h
    obtain⟨c',rfl,h2⟩:=hv.Ci
    exact .wh (by simpa using sJ (fun v u v'=>ih v u v') h1 h2)
   ·cases h
  ·rename_i hd
   obtain rfl:=aqN hd
   split at h
   ·rename_i c1 h1
    cases h
    obtain⟨c',rfl,h2⟩:=hv.IR
    exact .Ch (by simpa using sJ (fun v u v'=>ih v u v') h1 h2)
   ·cases h
  ·split at h
   ·rename_i hs
    cases h
    rw[VR.r7 hs hv]
    exact .bH _ hs
   ·cases h
theorem sK{f:amn→Option amn}:∀{l r:List amn},lP f l=some r→r.length=l.length
 | [],r,h=>by cases h;rfl
 |v::l,r,h=>by
  unfold lP at h
  split at h
  ·rename_i u q hu hq
   cases h
   simp[sK hq]
  ·cases h
def qT(σ:Nat→Option Nat):List amW→Option (List amW)
 | []=>some []
 |e::l=>match gN σ 6 e.key,gN σ 6 e.val,qT σ l with
  |some k,some v,some r=>some ({e with key:=k,val:=v}::r)
  |_,_,_=>none
def qa(τ:Nat→Option Nat):amn→Bool
 | .pointer (some ⟨b,_,none⟩)=>match τ b with|some i=>amE i b|none=>false
 | .slice (some ⟨b,_,none⟩) _ _=>match τ b with|some i=>amE i b|none=>false
 | .pointer (some ⟨_,_,some _⟩)=>true
 | .slice (some ⟨_,_,some _⟩) _ _=>true
 |v=>af v
theorem KI{τ:Nat→Option Nat}{v:amn}(h:qa τ v=true):gN τ 6 v=some v:=by
 unfold qa at h
 split at h
 ·split at h
  ·rename_i i hi
   have:=amI h
   subst this
   simp only[gN,hi]
  ·cases h
 ·split at h
  ·rename_i i hi
   have:=amI h
   subst this
   simp only[gN,hi]
  ·cases h
 ·simp only[gN]
 ·simp only[gN]
 ·unfold af at h
  split at h<;>first|rfl|cases h
def dM(τ:Nat→Option Nat)(e:amW):amn:=match qa τ e.key&&qa τ e.val with
 |true=>.bool true
 |false=>.tuple #[]
def bu(bs:List Nat)(es:List amW):List amn:=es.map (dM (eI bs))
theorem Ed{τ:Nat→Option Nat}:∀{es:List amW},(es.map (dM τ)).all af=true→qT τ es=some es
 | [],_=>rfl
 |e::l,h=>by
  simp only[ani,List.all_cons,amB]at h
  have h1:(qa τ e.key&&qa τ e.val)=true:=by
   have:=h.1
   unfold dM at this
   split at this
   ·assumption
   ·cases this
  rw[amB]at h1
  unfold qT
  rw[KI h1.1,KI h1.2,Ed h.2]
inductive ON(σ:Nat→Option Nat):ai→ai→Prop where
 |plain (c:List amn) (el:amz) (ro:Bool) (h:c.all af=true):ON σ (.cells c el ro) (.cells c el ro)
 |cells (c c':List amn) (el:amz) (ro:Bool) (h:lP (gN σ 6) c=some c'):ON σ (.cells c el ro) (.cells c' el ro)
 |map (es cH:List amW) (clock:Nat) (h:qT σ es=some cH):ON σ (.map es clock) (.map cH clock)
 |kr (s:ByteArray) (pos:Nat):ON σ (.kr s pos) (.kr s pos)
 |rows (n size:Nat) (row:Nat→List SV):ON σ (.rows n size row) (.rows n size row)
 |abs (d:kU):ON σ (.abs d) (.abs d)
 |dead (o:ai):ON σ o .dead
theorem KJ{ρ ρ':Ren}{σ:Nat→Option Nat}(hσ:∀y i r,σ y=some i→ρ y=some r→ρ' i=some r):∀{es qb:List amW} {cH:List amW},qT σ es=some qb→es.length=cH.length→
 (∀(i:Nat) (e e':amW),es[i]?=some e→cH[i]?=some e'→mn ρ e e')→qb.length=cH.length∧∀(i:Nat) (e e':amW),qb[i]?=some e→cH[i]?=some e'→mn ρ' e e'
 | [],qb,cH,h,hl,hr=>by cases h;exact⟨hl,fun i e e' h=>by simp at h⟩
 |e::es,qb,[],h,hl,hr=>by simp at hl
 |e::es,qb,e'::cH,h,hl,hr=>by
  unfold qT at h
  split at h
  ·rename_i k v r hk hv hq
   cases h
   obtain⟨h1,h2⟩:=KJ hσ hq (by simpa using hl) fun i a b ha hb=>hr (i+1) a b (by simpa using ha) (by simpa using hb)
   have h0:=hr 0 e e' rfl rfl
   refine⟨by simp[h1],fun i a b ha hb=>?_⟩
   cases i with
   |zero=>
    simp only[anb,amr]at ha hb
    subst ha hb
    exact⟨p9 hσ _ _ _ _ hk h0.key,p9 hσ _ _ _ _ hv h0.val,h0.born⟩
   |succ i=>exact h2 i a b (by simpa using ha) (by simpa using hb)
  ·cases h
theorem ON.or{P:amF}{ρ ρ':Ren}{σ:Nat→Option Nat}(hσ:∀y i r,σ y=some i→ρ y=some r→ρ' i=some r){ob o:ai}(h:ON σ ob o){r:bP}(hl:Live o r=true):(∀o',OR P ρ r ob o'→OR P ρ' r o o'):=by
 intro o' ho
 cases h with
 |plain c el ro hc=>
  cases ho with
  |cells _ _ bR _ c' fr hp hs he hz hf iU=>
   refine .cells c el bR ro c' fr hp hs he hz hf fun i v hv=>?_
   obtain⟨v',a,b⟩:=iU i v hv
   have iC:=am1.1 hc v (am8 hv)
   have:=VR.r7 iC b
   subst this
   exact⟨_,a,.bH _ iC⟩
 |cells c c1 el ro hc=>
  cases ho with
  |cells _ _ bR _ c' fr hp hs he hz hf iU=>
   have hlen:=sK hc
   refine .cells c1 el bR ro c' fr hp (by rw[hlen];exact hs) he hz hf ?_
   have Vh:LR ρ c ((aoO c.length).map fun i=>(c'[r.sh+i]?).getD undef):=by
    refine⟨by simp,fun i v v' hv fG=>?_⟩
    obtain⟨v2,a,b⟩:=iU i v hv
    have hi:i<c.length:=(amy.1 hv).1
    rw[anT,apB hi]at fG
    simp only[anL,amr,a,aoc]at fG
    rw[←fG]
    exact b
   have h2:=sJ (p9 hσ 6) hc Vh
   intro i v hv
   obtain⟨v',b1,b2⟩:=h2.get hv
   have hi:i<c.length:=by rw[←hlen];exact(amy.1 hv).1
   rw[anT,apB hi]at b1
   simp only[anL,amr]at b1
   have e9:r.sh+i<c'.size:=by omega
   rw[aog e9]at b1
   simp only[aoc]at b1
   exact⟨_,aog e9,by rw[b1];exact b2⟩
 |map es qb clock uq=>
  cases ho with
  |map _ cH _ h1 h2=>
   obtain⟨h3,h4⟩:=KJ hσ uq h1 h2
   exact .map qb cH clock h3 h4
 |kr s pos=>cases ho;exact .kr s pos
 |rows n size row=>cases hl
 |abs d=>cases hl
 |dead=>cases hl
theorem ON.ne{σ:Nat→Option Nat}{ob o:ai}(h:ON σ ob o)(bt:o≠ .dead):ob≠ .dead:=by
 cases h<;>first|exact absurd rfl bt|(intro e;cases e)
theorem ON.live{σ:Nat→Option Nat}{ob o:ai}(h:ON σ ob o){r:bP}(hl:Live o r=true):Live ob r=true∧(o.ro=false→ob.ro=false):=by
 cases h with
 |plain=>exact⟨hl,fun h=>h⟩
 |cells c c1 el ro hc=>
  refine⟨?_,fun h=>h⟩
  cases c with
  |nil=>cases hc;exact hl
  |cons v c=>rfl
 |map=>exact⟨rfl,fun h=>h⟩
 |kr=>exact⟨rfl,fun h=>h⟩
 |rows=>cases hl
 |abs=>cases hl
 |dead=>cases hl
theorem WR.Ee{P:amF}{B:Nat→Prop}{w₀ w:amC}{ρ ρ':Ren}{m m':Nat→Option ai}(h:WR P B w₀ ρ m w)(σ:Nat→Option Nat)
 (hm:∀x o,m' x=some o→o≠ .dead→∃y ob,σ x=some y∧m y=some ob∧ob≠ .dead∧ρ' x=ρ y∧(∀r,Live o r=true→Live ob r=true∧(o.ro=false→ob.ro=false)∧∀o',OR P ρ r ob o'→OR P ρ' r o o')∧
  (∀n size row,o=.rows n size row→ob=o)∧(∀el ro,o=.cells [] el ro→ob=o)∧∀d,o=.abs d→ob=o)
 (wv:∀x y z,σ x=some z→σ y=some z→x=y)(Vi:∀x,m' x=none→ρ' x=none):WR P B w₀ ρ' m' w where
 env:=h.env
 below:=h.below
 size:=h.size
 live:=by
  intro x o r hx hr hl
  obtain⟨y,ob,h1,h2,_,h3,h4,_⟩:=hm x o hx (by rintro rfl;cases hl)
  obtain⟨h5,h6,h7⟩:=h4 r hl
  obtain⟨o',h8,h9,bI⟩:=h.live y ob r h2 (h3▸hr) h5
  exact⟨o',h8,h7 o' h9,fun e=>bI (h6 e)⟩
 inj:=by
  intro x y ox oy rx ry hx hy ke cm kg cT hd he
  obtain⟨a,oa,a1,a2,_,a3,a4,_⟩:=hm x ox hx (by rintro rfl;cases kg)
  obtain⟨b,ob,b1,b2,_,b3,b4,_⟩:=hm y oy hy (by rintro rfl;cases cT)
  obtain⟨a5,a6,_⟩:=a4 rx kg
  obtain⟨b5,b6,_⟩:=b4 ry cT
  have:=h.inj a b oa ob rx ry a2 b2 (a3▸ke) (b3▸cm) a5 b5 (hd.imp a6 b6) he
  subst this
  exact wv x y a a1 b1
 fresh:=Vi
 rows:=by
  intro x n size row hx
  obtain⟨y,ob,h1,h2,_,h3,_,h5,_⟩:=hm x _ hx (by intro e;cases e)
  rw[h5 n size row rfl]at h2
  obtain⟨r,h6,h7⟩:=h.rows y n size row h2
  exact⟨r,by rw[h3,h6],h7⟩
 nil:=by
  intro x el ro r hx hr
  obtain⟨y,ob,h1,h2,_,h3,_,_,h5,_⟩:=hm x _ hx (by intro e;cases e)
  rw[h5 el ro rfl]at h2
  exact h.nil y el ro r h2 (h3▸hr)
 named:=by
  intro x o hx bt
  obtain⟨y,ob,h1,h2,h3,h4,_⟩:=hm x o hx bt
  rw[h4]
  exact h.named y ob h2 h3
 abs:=by
  obtain⟨F,a1,a2,a3⟩:=h.abs
  refine⟨fun x k=>∃y d,σ x=some y∧m' x=some (.abs d)∧F y k,fun x d hx=>?_,?_,?_⟩
  ·obtain⟨y,ob,h1,h2,_,h3,_,_,_,h5⟩:=hm x _ hx (by intro e;cases e)
   rw[h5 d rfl]at h2
   obtain⟨r,S,c,e,f⟩:=a1 y d h2
   exact⟨r,S,by rw[h3,c],e,fun k hk=>⟨y,d,h1,hx,f k hk⟩⟩
  ·rintro x k ⟨y,d,g1,g2,g3⟩
   obtain⟨_,b2,b3,b4⟩:=a2 y k g3
   refine⟨⟨d,g2⟩,b2,b3,fun z o r hz hr hl=>?_⟩
   obtain⟨y2,ob,h1,h2,_,h3,h4,_⟩:=hm z o hz (by rintro rfl;cases hl)
   exact b4 y2 ob r h2 (h3▸hr) (h4 r hl).1
  ·rintro x1 x2 k ⟨y1,_,g1,_,g3⟩ ⟨y2,_,q1,_,q3⟩
   have:=a3 y1 y2 k g3 q3
   subst this
   exact wv x1 x2 y1 g1 q1
def w7:List ai→Nat→Tr ai→Tr ai
 | [],_,t=>t
 |o::l,i,t=>w7 l (i+1) (Tr.set 18 t i o)
def kE(l:List ai):VS:=⟨w7 l 0 .nil,l.length,[],[]⟩
theorem KK:∀(l:List ai) (i:Nat) (t:Tr ai) (x:Nat),i+l.length≤262144→gt (w7 l i t) x=if i≤x∧x<i+l.length then l[x-i]?else gt t x
 | [],i,t,x,h=>by
  rw[if_neg (by simp only[apj];omega)];rfl
 |o::l,i,t,x,h=>by
  simp only[am9]at h
  show gt (w7 l (i+1) (Tr.set 18 t i o)) x=_
  rw[KK l (i+1) _ x (by omega),wg (gW.2 (by omega))]
  simp only[am9]
  by_cases h1:x=i
  ·subst h1
   rw[if_neg (by omega),fg,if_pos (by omega),Nat.sub_self];rfl
  ·rw[dU _ h1]
   by_cases h2:i≤x∧x<i+(l.length+1)
   ·rw[if_pos (by omega),if_pos h2,show x-i=x-(i+1)+1 by omega];rfl
   ·rw[if_neg (by omega),if_neg h2]
theorem Vj(x:Nat):gt (.nil:Tr ai) x=none:=by
 unfold gt
 split
 ·rw[Tr.Cc]
 ·rfl
theorem w8{l:List ai}(h:l.length≤262144)(x:Nat):gt (kE l).mem x=l[x]? :=by
 show gt (w7 l 0 .nil) x=_
 rw[KK l 0 .nil x (by omega),Vj]
 by_cases hx:x<l.length
 ·rw[if_pos (by omega),apc]
 ·rw[if_neg (by omega),anH (by omega)]
def cq(objs:List ai):Nat→Option ai:=fun x=>match small x with
 |true=>objs[x]?
 |false=>some .dead
theorem cA{objs:List ai}{x:Nat}(h:small x=true):cq objs x=objs[x]? :=by unfold cq;rw[h]
theorem iu{objs:List ai}{x:Nat}(h:small x=false):cq objs x=some .dead:=by unfold cq;rw[h]
abbrev zJ(gO:List amn):Fr:=⟨Fr.qz gO 0 .nil,gO.length,[],[]⟩
def fU(n:Nat)(u:Nat→amn)(l:List (Nat×amn)):List amn:=l.foldl (fun L p=>L.set p.1 p.2) ((aoO n).map u)
def ee(n:Nat)(u:Nat→amn)(l:List (Nat×amn)):Fr:=zJ (fU n u l)
theorem FR.Vk{ρ:Ren}{gO:List amn}{a:Act}{b:List an1}(h:LR ρ gO a.tmps.toList)(hd:a.defers=b)(hn:gO.length≤1024):FR ρ ((zJ gO).dx b) a:=by
 have hlen:gO.length=a.tmps.size:=by have:=h.len;simpa using this
 refine⟨hlen.symm,hn,fun i=>?_,by rw[hd];exact .nil⟩
 show VR ρ (Fr.at ⟨Fr.qz gO 0 .nil,gO.length,[],[]⟩ i) _
 unfold Fr.at
 dsimp only
 by_cases hi:i<gO.length
 ·rw[dI.2 hi]
  dsimp only
  rw[Fr.wU (by omega) (by omega),if_pos (by omega),apc]
  obtain⟨v',h1,h2⟩:=h.get (amt hi)
  rw[amt hi,am4]
  have h3:a.tmps[i]?=some v':=by simpa using h1
  rw[h3]
  exact h2
 ·have hb:amG i gO.length=false:=by cases hb:amG i gO.length with
   |false=>rfl
   |true=>exact absurd (dI.1 hb) hi
  rw[hb]
  dsimp only
  rw[am4,Array.getElem?_eq_none (by omega)]
  exact VR.undef ρ
theorem LR.set{ρ:Ren}{l l':List amn}(h:LR ρ l l'){i:Nat}{v v':amn}(fG:l'[i]?=some v')(hv:VR ρ v v'):LR ρ (l.set i v) l':=
 ⟨by simp[h.len],fun k u u' hu qM=>by
  by_cases e:k=i
  ·subst e
   have hk:k<l.length:=by rw[h.len];exact(amy.1 qM).1
   rw[aoP hk]at hu
   cases hu
   rw[fG]at qM
   cases qM
   exact hv
  ·rw[ao3 (Ne.symm e)]at hu
   exact h.at_ k u u' hu qM⟩
theorem lg:∀(l:List (Nat×amn)) (L:List amn),(l.foldl (fun L p=>L.set p.1 p.2) L).length=L.length
 | [],L=>rfl
 |p::l,L=>by rw[aom,lg l,List.length_set]
theorem KL{ρ:Ren}{L':List amn}:∀(l:List (Nat×amn)) (L:List amn),LR ρ L L'→(∀p∈l,∃v',L'[p.1]?=some v'∧VR ρ p.2 v')→LR ρ (l.foldl (fun L p=>L.set p.1 p.2) L) L'
 | [],L,h,_=>h
 |p::l,L,h,hl=>by
  rw[aom]
  obtain⟨v',h1,h2⟩:=hl p amN
  exact KL l _ (h.set h1 h2) fun q hq=>hl q (amK _ hq)
theorem FR.make{ρ:Ren}{a:Act}{n:Nat}{b:List an1}(cc:a.tmps.size=n)(hn:n≤1024)(hd:a.defers=b)(hok:∀i,∃u,VR ρ u (a.tmps.getD i undef)){l:List (Nat×amn)}
 (hl:∀p∈l,p.1<n∧VR ρ p.2 (a.tmps.getD p.1 undef)):∃u:Nat→amn,FR ρ ((ee n u l).dx b) a:=by
 refine⟨fun i=>Classical.choose (hok i),?_⟩
 have at_:∀i,i<n→a.tmps.toList[i]?=some (a.tmps.getD i undef):=fun i hi=>by
  rw[Array.getElem?_toList,am4,aog (by omega)];rfl
 refine FR.Vk (KL l _ ⟨by simp[cc],fun i v v' hv fG=>?_⟩ fun p hp=>⟨_,at_ _ (hl p hp).1,(hl p hp).2⟩) hd (by unfold fU;rw[lg];simpa using hn)
 have hi:i<n:=by simpa using(amy.1 hv).1
 rw[anT,apB hi]at hv
 simp only[anL,amr]at hv
 rw[at_ i hi]at fG
 cases fG
 rw[←hv]
 exact Classical.choose_spec (hok i)
structure aj where
 sl:List (Nat×amn)
 objs:List ai
structure uB where
 B:Nat→Prop
 w₀:amC
 k:Nat
 ρ₀:Ren
 n:Nat
 named:∀x,x<k→∃r,ρ₀ x=some r
def eh(D:Nat):an1:={target:=.collected D,args:= #[]}
structure Hd(P:amF)(X:uB)(d:aj)(ρ:Ren)(u:Nat→amn)(M:List Nat)(a:Act)(w:amC):Prop where
 full:Full ρ
 kept:∀x,x<X.k→ρ x=X.ρ₀ x
 fr:FR ρ ((ee X.n u d.sl).dx (M.map eh)) a
 mem:WR P X.B X.w₀ ρ (cq d.objs) w
 bS:d.objs.length≤262144
 quiet:∀D∈M,w.heap[D]?=some (.deferred (some []))
 gp:M.Nodup
 outside:∀D∈M,¬X.B D
def Holds(P:amF)(X:uB)(d:aj)(a:Act)(w:amC):Prop:=∃ρ u M,Hd P X d ρ u M a w
inductive dD{α β:Type}(R:α→β→Prop):List α→List β→Prop where
 |nil:dD R [] []
 |cons {a:α} {b:β} {l:List α} {l':List β} (h:R a b) (t:dD R l l'):dD R (a::l) (b::l')
theorem dD.len{α β:Type}{R:α→β→Prop}{l:List α}{l':List β}(h:dD R l l'):l.length=l'.length:=by
 induction h with
 |nil=>rfl
 |cons _ _ ih=>simp[ih]
theorem dD.get{α β:Type}{R:α→β→Prop}{l:List α}{l':List β}(h:dD R l l'):∀{i:Nat} {b:β},l'[i]?=some b→∃a,l[i]?=some a∧R a b:=by
 induction h with
 |nil=>intro i b hb;simp at hb
 |cons h t ih=>
  intro i b hb
  cases i with
  |zero=>simp only[anb,amr]at hb;subst hb;exact⟨_,rfl,h⟩
  |succ i=>simpa using ih (by simpa using hb)
def sL:Nat→List Nat→Nat→Bool
 |0,_,_=>true
 |k+1,y::l,i=>amE y i&&sL k l (i+1)
 |_+1,[],_=>false
theorem Ef:∀{k i:Nat} {l:List Nat},sL k l i=true→∀x,x<k→l[x]?=some (i+x)
 |0,i,l,h,x,hx=>by omega
 |k+1,i,y::l,h,x,hx=>by
  simp only[sL,amB]at h
  cases x with
  |zero=>simp[amI h.1]
  |succ x=>simpa[show i+1+x=i+(x+1)by omega]using Ef h.2 x (by omega)
 |k+1,i,[],h,x,hx=>by cases h
def nodupB:List Nat→Bool
 | []=>true
 |y::l=> !(l.any (amE y))&&nodupB l
theorem sM:∀{l:List Nat},nodupB l=true→∀{x y z:Nat},l[x]?=some z→l[y]?=some z→x=y
 | [],h,x,y,z,hx,hy=>by simp at hx
 |a::l,h,x,y,z,hx,hy=>by
  simp only[nodupB,amB,Bool.not_eq_true',List.any_eq_false]at h
  have bt:∀i,l[i]? ≠some a:=fun i hi=>by
   have:=h.1 a (am8 hi)
   simp at this
  cases x with
  |zero=>
   simp only[anb,amr]at hx
   subst hx
   cases y with
   |zero=>rfl
   |succ y=>exact absurd (by simpa using hy) (bt y)
  |succ x=>
   cases y with
   |zero=>
    simp only[anb,amr]at hy
    subst hy
    exact absurd (by simpa using hx) (bt x)
   |succ y=>exact congrArg (· +1) (sM h.2 (x:=x) (y:=y) (z:=z) (by simpa using hx) (by simpa using hy))
def uC(σ:Nat→Option Nat):List Nat→List amn→Option (List (Nat×amn))
 | [],[]=>some []
 |i::l,v::vs=>match gN σ 6 v,uC σ l vs with
  |some u,some r=>some ((i,u)::r)
  |_,_=>none
 |_,_=>none
theorem Eg{σ:Nat→Option Nat}:∀{sl:List Nat} {vs:List amn} {r:List (Nat×amn)},uC σ sl vs=some r→∀p∈r,∃(j:Nat) (v:amn),sl[j]?=some p.1∧vs[j]?=some v∧gN σ 6 v=some p.2
 | [],[],r,h,p,hp=>by cases h;cases hp
 |i::l,v::vs,r,h,p,hp=>by
  unfold uC at h
  split at h
  ·rename_i u q hu hq
   cases h
   rcases amH.1 hp with rfl|hp
   ·exact⟨0,v,rfl,rfl,hu⟩
   ·obtain⟨j,v',h1,h2,h3⟩:=Eg hq p hp
    exact⟨j+1,v',by simpa using h1,by simpa using h2,h3⟩
  ·cases h
 | [],_::_,r,h,p,hp=>by cases h
 |_::_,[],r,h,p,hp=>by cases h
theorem Holds.KM{P:amF}{X:uB}{ρ ρ':Ren}{m:Nat→Option ai}{t:Fr}{M:List Nat}{a:Act}{w:amC}(gP:Full ρ)(hle:ρ.le ρ')(hk:∀x,x<X.k→ρ x=X.ρ₀ x)
 (cn:FR ρ' t a)(KN:t.n=X.n)(Vl:t.ds=[])(Vn:t.base=M.map eh)(Vo:∀D∈M,w.heap[D]?=some (.deferred (some [])))(Vp:M.Nodup)(Vq:∀D∈M,¬X.B D)(hw:WR P X.B X.w₀ ρ' m w){sl:List Nat}{gO:List amn}(sE:sl.map t.at=gO){bl:List (Nat×ai)}(mA:∀p∈bl,m p.1=some p.2){d:aj}
 (lQ:sL X.k (bl.map (·.1)) 0=true)(de:nodupB (bl.map (·.1))=true)(Cv:uC (eI (bl.map (·.1))) sl gO=some d.sl)(eO:dD (ON (eI (bl.map (·.1)))) (bl.map (·.2)) d.objs)
 (Vr:sl.all (fun i=>amG i X.n)=true)(jw:amO d.objs.length 262144=true):Holds P X d a w:=by
 subst sE
 let σ:List Nat:=bl.map (·.1)
 let ρ2:Ren:=fun x=>match small x with
  |true=>(σ[x]?).bind ρ'
  |false=>ρ' x
 have ec:∀x,small x=true→ρ2 x=(σ[x]?).bind ρ':=fun x h=>by show(match small x with|true=>_|false=>_)=_;rw[h]
 have kF:∀x,small x=false→ρ2 x=ρ' x:=fun x h=>by show(match small x with|true=>_|false=>_)=_;rw[h]
 have uD:=amS jw
 have hlen:bl.length=d.objs.length:=by have:=eO.len;simpa using this
 have oZ:Full ρ2:=fun r=>by
  obtain⟨y,h1,h2⟩:=gP r
  exact⟨y,h1,by rw[kF y h1];exact hle _ _ h2⟩
 have sN:∀i y,σ[i]?=some y→small i=true:=fun i y h=>gW.2 (by
  have:i<σ.length:=(amy.1 h).1
  have e:σ.length=bl.length:=by simp[σ]
  have:(2:Nat)^18=262144:=rfl
  omega)
 have hσ:∀i y r,σ[i]?=some y→ρ' y=some r→ρ2 i=some r:=fun i y r h1 h2=>by rw[ec i (sN i y h1),h1];exact h2
 have qU:∀y i r,eI σ y=some i→ρ' y=some r→ρ2 i=some r:=fun y i r h1 h2=>hσ i y r (zI h1) h2
 obtain⟨u,hu⟩:∃u:Nat→amn,FR ρ2 ((ee X.n u d.sl).dx (M.map eh)) a:=by
  refine FR.make (by rw[cn.size,KN]) (by rw[←KN];exact cn.small) ((cn.qN Vl).trans Vn) (fun i=>(cn.at_ i).full oZ) fun p hp=>?_
  obtain⟨j,v,h1,h2,h3⟩:=Eg Cv p hp
  rw[anT,h1]at h2
  simp only[anL,amr]at h2
  subst h2
  exact⟨dI.1 (am1.1 Vr p.1 (am8 h1)),p9 qU 6 _ _ _ h3 (cn.at_ p.1)⟩
 refine⟨ρ2,u,M,oZ,fun x hx=>?_,hu,?_,uD,Vo,Vp,Vq⟩
 ·have:=Ef lQ x hx
  rw[an8]at this
  obtain⟨r,hr⟩:=X.named x hx
  rw[hσ x x r this (hle _ _ ((hk x hx).trans hr)),hr]
 ·have su:∀(i:Nat) (o:ai),d.objs[i]?=some o→∃y ob,σ[i]?=some y∧m y=some ob∧ON (eI σ) ob o:=fun i o hi=>by
   obtain⟨ob,h1,h2⟩:=eO.get hi
   rw[anT]at h1
   cases hb:bl[i]?with
   |none=>rw[hb]at h1;cases h1
   |some p=>
    rw[hb]at h1
    simp only[anL,amr]at h1
    subst h1
    exact⟨p.1,p.2,by simp[σ,hb],mA p (am8 hb),h2⟩
  refine hw.Ee (fun x=>match small x with
   |true=>σ[x]?
   |false=>none) (fun x o hx bt=>?_) (fun x y z hx hy=>?_) fun x hx=>?_
  ·cases hs:small x with
   |false=>rw[iu hs]at hx;cases hx;exact absurd rfl bt
   |true=>
    rw[cA hs]at hx
    obtain⟨y,ob,h1,h2,h3⟩:=su x o hx
    refine⟨y,ob,h1,h2,h3.ne bt,?_,fun r hl=>⟨(h3.live hl).1,(h3.live hl).2,h3.or qU hl⟩,fun n size row e=>?_,fun el ro e=>?_,fun d e=>?_⟩
    ·rw[ec x hs,h1];rfl
    ·subst e;cases h3;rfl
    ·subst e
     cases h3 with
     |plain=>rfl
     |cells c _ _ _ h=>
      cases c with
      |nil=>rfl
      |cons v c=>have:=sK h;simp at this
    ·subst e;cases h3;rfl
  ·have key:∀q,(match small q with|true=>σ[q]? |false=>none)=some z→σ[q]?=some z:=fun q hq=>by
    cases hs:small q with
    |true=>rw[hs]at hq;exact hq
    |false=>rw[hs]at hq;cases hq
   exact sM de (key x hx) (key y hy)
  ·cases hs:small x with
   |false=>rw[iu hs]at hx;cases hx
   |true=>
    rw[cA hs]at hx
    rw[ec x hs]
    have:σ[x]?=none:=by
     rw[aob]at hx⊢
     simp[σ]
     omega
    rw[this]
    rfl
def ba:am3→List am3
 | .seq a b=>ba a++ba b
 |c=>[c]
def iH(P:amF):List am3→(aoF→Act→amC→Prop)→Act→amC→Prop
 | [],Q,a,w=>Q .normal a w
 |c::l,Q,a,w=>c.wp P (Exit.then (iH P l Q) Q) a w
theorem w9{P:amF}:∀{l:List am3} {Q Q':aoF→Act→amC→Prop} {a:Act} {w:amC},iH P l Q a w→(∀e a w,Q e a w→Q' e a w)→iH P l Q' a w
 | [],Q,Q',a,w,h,hq=>hq _ _ _ h
 |c::l,Q,Q',a,w,h,hq=>aqt h fun e a w he=>by
  cases e with
  |normal=>exact w9 he hq
  |_=>exact hq _ _ _ he
theorem Eh{P:amF}:∀{l l':List am3} {Q:aoF→Act→amC→Prop} {a:Act} {w:amC},iH P l (Exit.then (iH P l' Q) Q) a w→iH P (l++l') Q a w
 | [],l',Q,a,w,h=>h
 |c::l,l',Q,a,w,h=>aqt h fun e a w he=>by
  cases e with
  |normal=>exact Eh he
  |_=>exact he
theorem xa{P:amF}:∀{c:am3} {Q:aoF→Act→amC→Prop} {a:Act} {w:amC},iH P (ba c) Q a w→c.wp P Q a w:=by
 intro c
 induction c with
 |seq a b ir kC=>
  intro Q t w h
  have h:iH P (ba a++ba b) Q t w:=h
  refine wp_seq (ir ?_)
  -- take apart what stands one behind the other
  have key:∀(l l':List am3) (Q:aoF→Act→amC→Prop) (t:Act) (w:amC),iH P (l++l') Q t w→iH P l (Exit.then (iH P l' Q) Q) t w:=by
   intro l
   induction l with
   |nil=>intro l' Q t w h;exact h
   |cons c l ih=>
    intro l' Q t w h
    refine aqt (show c.wp P (Exit.then (iH P (l++l') Q) Q) t w from h) fun e t w he=>?_
    cases e with
    |normal=>exact ih l' Q t w he
    |_=>exact he
  refine w9 (key _ _ _ _ _ h) fun e t w he=>?_
  cases e with
  |normal=>exact kC he
  |_=>exact he
 |_=>
  intro Q t w h
  refine aqt (show Code.wp P _ (Exit.then (iH P [] Q) Q) t w from h) fun e t w he=>?_
  cases e<;>exact he
def sO(P:amF)(call:fo)(lf:Nat):List am3→Fr→VS→DT (bf×Fr×VS)
 | [],t,S=>.done (.normal,t,S)
 |c::l,t,S=>(iV P call lf false c t S).bind fun p=>match p.1 with
  | .normal=>sO P call lf l p.2.1 p.2.2
  |_=>.done p
def kG(P:amF)(call:cx)(lf:Nat):List am3→Fr→VS→Option (bf×Fr×VS)
 | [],t,S=>some (.normal,t,S)
 |c::l,t,S=>match cS P call lf false c t S with
  |some (.normal,t1,S1)=>kG P call lf l t1 S1
  |r=>r
structure dg(P:amF)(cO:fo):Prop where
 ex:∃cV:cx,gJ P cV∧∀f args S r,(cO f args S).Has r→cV f args S=some r
theorem Ei{P:amF}{fE:fo}{call:cx}(hc:∀f args S r,(fE f args S).Has r→call f args S=some r)(lf:Nat):∀{l:List am3} {t:Fr} {S:VS} {r:bf×Fr×VS},
 (sO P fE lf l t S).Has r→kG P call lf l t S=some r
 | [],t,S,r,h=>by rw[DT.cp h];rfl
 |c::l,t,S,r,h=>by
  unfold sO at h
  obtain⟨p,h1,h2⟩:=DT.fi h
  obtain⟨e,t1,S1⟩:=p
  unfold kG
  rw[zD P hc lf h1]
  cases e with
  |normal=>exact Ei hc lf h2
  |exit id=>rw[DT.cp h2]
  |ret=>rw[DT.cp h2]
  |panic v=>rw[DT.cp h2]
theorem xc{P:amF}{call:cx}(hc:gJ P call)(lf:Nat):∀{l:List am3} {t t1:Fr} {S S1:VS} {x:bf},kG P call lf l t S=some (x,t1,S1)→dC S S1
 | [],t,t1,S,S1,x,h=>by
  simp only[kG,amr,amv]at h
  obtain⟨_,_,rfl⟩:=h
  exact dC.refl S
 |c::l,t,t1,S,S1,x,h=>by
  unfold kG at h
  split at h
  ·rename_i t2 S2 hx
   exact(m9 hc lf hx).trans (xc hc lf h)
  ·exact m9 hc lf h
theorem KO{P:amF}(hP:hI P=true)(fh:P.follows .mixedOrders=true){call:cx}(hc:gJ P call)(lf:Nat):∀{l:List am3} {t t1:Fr} {S S1:VS} {x:bf},kG P call lf l t S=some (x,t1,S1)→
 ∀{B:Nat→Prop} {w₀:amC} {ρ:Ren} {m:Nat→Option ai} {w:amC} {a:Act},FR ρ t a→WR P B w₀ ρ m w→fv S S1 m→
 ∀{Q:aoF→Act→amC→Prop},(∀(ρ':Ren) (e:aoF) (a':Act) (w':amC),ρ.le ρ'→XR ρ' x e→FR ρ' t1 a'→WR P B w₀ ρ' (post m S1) w'→Q e a' w')→iH P l Q a w
 | [],t,t1,S,S1,x,h,B,w₀,ρ,m,w,a,ht,hw,hm,Q,hQ=>by
  simp only[kG,amr,amv]at h
  obtain⟨rfl,rfl,rfl⟩:=h
  exact hQ ρ _ a w (Ren.le_refl ρ) .normal ht (by rw[nO hm];exact hw)
 |c::l,t,t1,S,S1,x,h,B,w₀,ρ,m,w,a,ht,hw,hm,Q,hQ=>by
  unfold kG at h
  split at h
  ·rename_i t2 S2 hx
   have e2:=xc hc lf h
   refine(ap5 (n:=0)).1 (sG hP fh hc lf (r:=none) (fun h=>by cases h) c hx ht hw (hm.first e2) fun ρ' e a' w' hle dq cn cC=>?_)
   cases dq
   refine KO hP fh hc lf h cn cC (hm.next (m9 hc lf hx)) fun ρ2 pY a2 w2 jN ju k9 gL=>?_
   rw[nN e2]at gL
   exact hQ ρ2 pY a2 w2 (Ren.le_trans hle jN) ju k9 gL
  ·rename_i bt
   refine(ap5 (n:=0)).1 (sG hP fh hc lf (r:=none) (fun h=>by cases h) c h ht hw hm fun ρ' e a' w' hle dq cn cC=>?_)
   cases dq with
   |normal=>exact absurd h (bt _ _)
   |_=>exact hQ ρ' _ a' w' hle (by constructor<;>assumption) cn cC
theorem Ej{P:amF}{call:cx}{lf:Nat}(b:List an1):∀{l:List am3} {t t1:Fr} {S S1:VS} {x:bf},kG P call lf l t S=some (x,t1,S1)→kG P call lf l (t.dx b) S=some (x,t1.dx b,S1)
 | [],t,t1,S,S1,x,h=>by
  simp only[kG,amr,amv]at h
  obtain⟨rfl,rfl,rfl⟩:=h
  rfl
 |c::l,t,t1,S,S1,x,h=>by
  unfold kG at h⊢
  rw[UE]
  cases hx:cS P call lf false c t S with
  |none=>rw[hx]at h;cases h
  |some p=>
   obtain⟨e,t2,S2⟩:=p
   rw[hx]at h
   cases e with
   |normal=>exact Ej b h
   |exit j=>simp only[amr,amv]at h;obtain⟨rfl,rfl,rfl⟩:=h;rfl
   |ret=>simp only[amr,amv]at h;obtain⟨rfl,rfl,rfl⟩:=h;rfl
   |panic v=>simp only[amr,amv]at h;obtain⟨rfl,rfl,rfl⟩:=h;rfl
theorem KP{w:amC}{M:List Nat}(hq:∀D∈M,w.heap[D]?=some (.deferred (some []))):∀D∈M,∃o,w.heap[D]?=some o∧qP o=true:=fun D hD=>⟨_,hq D hD,rfl⟩
def o5:List Nat→VS→Option (List (Nat×ai))
 | [],_=>some []
 |x::l,S=>match gt S.mem x,o5 l S with
  |some o,some r=>some ((x,o)::r)
  |_,_=>none
theorem Ek:∀{bs:List Nat} {S:VS} {r:List (Nat×ai)},o5 bs S=some r→∀p∈r,gt S.mem p.1=some p.2
 | [],S,r,h,p,hp=>by
  simp only[o5,amr]at h
  rw[←h]at hp
  cases hp
 |x::l,S,r,h,p,hp=>by
  unfold o5 at h
  split at h
  ·rename_i o r' h1 h3
   simp only[amr]at h
   rw[←h]at hp
   rcases amH.1 hp with rfl|hp
   ·exact h1
   ·exact Ek h3 p hp
  ·cases h
def al(P:amF)(n k:Nat)(l:List am3)(d:aj)(Q:bf→aj→Prop):Prop:=
 ∀(X:uB),X.n=n→X.k=k→∀(a:Act) (w:amC),Holds P X d a w→iH P l (fun e a' w'=>∃x d',Q x d'∧XR (fun _=>none) x e∧Holds P X d' a' w') a w
theorem al.mono{P:amF}{n k:Nat}{l:List am3}{d:aj}{Q Q':bf→aj→Prop}(h:al P n k l d Q)(hq:∀x d',Q x d'→Q' x d'):al P n k l d Q':=
 fun X hn hk a w hd=>w9 (h X hn hk a w hd) fun e a w ⟨x,d',h1,h2,h3⟩=>⟨x,d',hq x d' h1,h2,h3⟩
theorem al.nil{P:amF}{n k:Nat}{d:aj}{Q:bf→aj→Prop}(h:Q .normal d):al P n k [] d Q:=fun X hn hk a w hd=>⟨.normal,d,h,.normal,hd⟩
def Vs:bf→Bool
 | .panic v=>fl v
 |_=>true
def inner:List am3→am3
 | .block _ c::_=>c
 | .loop c::_=>c
 | .scope c::_=>c
 |_=>.skip
def El:List am3→Option Nat
 | .block id _::_=>some id
 |_=>none
def Em:List am3→Bool
 | .loop _::_=>true
 |_=>false
def QB(id:Nat)(N:aj→Prop)(Q:bf→aj→Prop):bf→aj→Prop
 | .normal,d=>N d
 | .exit j,d=>match amE j id with
  |true=>N d
  |false=>Q (.exit j) d
 |x,d=>Q x d
theorem al.block{P:amF}{n k id:Nat}{l:List am3}{d:aj}{Q:bf→aj→Prop}(hl:El l=some id)(h:al P n k (ba (inner l)) d (QB id (fun d'=>al P n k l.tail d' Q) Q)):al P n k l d Q:=by
 intro X hn hk a w hd
 unfold El at hl
 split at hl
 ·rename_i akS c l'
  cases hl
  refine wp_block (aqt (xa (h X hn hk a w hd)) fun e a' w' he=>?_)
  obtain⟨x,d',h1,h2,h3⟩:=he
  cases h2 with
  |normal=>exact h1 X hn hk a' w' h3
  |exit j=>
   by_cases hj:j=id
   ·subst hj
    simp only[QB,anw]at h1
    simp only[aqf,if_true]
    exact h1 X hn hk a' w' h3
   ·have hb:amE j id=false:=by
     cases hb:amE j id with
     |false=>rfl
     |true=>exact absurd (amI hb) hj
    simp only[QB,hb]at h1
    simp only[aqf,hj,if_false]
    exact⟨_,d',h1,.exit j,h3⟩
  |ret=>exact⟨_,d',h1,.ret,h3⟩
  |panic v v' hv=>exact⟨_,d',h1,.panic v v' hv,h3⟩
 ·cases hl
theorem al.loop{P:amF}{n k:Nat}{l:List am3}{Q:bf→aj→Prop}{σ:Type}(I:σ→aj)(μ:σ→Nat)(ok:σ→Prop)(hl:Em l=true)
 (h:∀s,ok s→al P n k (ba (inner l)) (I s) (fun x d'=>match x with
  | .normal=>∃s',ok s'∧μ s'<μ s∧d'=I s'
  |x=>Q x d')):∀s,ok s→al P n k l (I s) Q:=by
 intro s hs X hn hk a w hd
 unfold Em at hl
 split at hl
 ·rename_i c l'
  have key:∀m s a w,ok s→μ s≤m→Holds P X (I s) a w→Code.rounds P c (Exit.then (iH P l' fun e a' w'=>∃x d',Q x d'∧XR (fun _=>none) x e∧Holds P X d' a' w') fun e a' w'=>∃x d',Q x d'∧XR (fun _=>none) x e∧Holds P X d' a' w') (m+1) a w:=by
   intro m
   induction m with
   |zero=>
    intro s a w hs hm hd
    rw[rounds_succ]
    refine aqt (xa (h s hs X hn hk a w hd)) fun e a' w' he=>?_
    obtain⟨x,d',h1,h2,h3⟩:=he
    cases h2 with
    |normal=>obtain⟨s',_,hlt,_⟩:=h1;omega
    |exit j=>exact⟨_,d',h1,.exit j,h3⟩
    |ret=>exact⟨_,d',h1,.ret,h3⟩
    |panic v v' hv=>exact⟨_,d',h1,.panic v v' hv,h3⟩
   |succ m ih=>
    intro s a w hs hm hd
    rw[rounds_succ]
    refine aqt (xa (h s hs X hn hk a w hd)) fun e a' w' he=>?_
    obtain⟨x,d',h1,h2,h3⟩:=he
    cases h2 with
    |normal=>
     obtain⟨s',m5,hlt,rfl⟩:=h1
     exact ih s' a' w' m5 (by omega) h3
    |exit j=>exact⟨_,d',h1,.exit j,h3⟩
    |ret=>exact⟨_,d',h1,.ret,h3⟩
    |panic v v' hv=>exact⟨_,d',h1,.panic v v' hv,h3⟩
  exact wp_loop_rounds _ (key _ s a w hs (amX _) hd)
 ·cases hl
def zK:List am3→Option Nat
 | .cond (.tmp i) _ _::_=>some i
 |_=>none
def o6(b:Bool):List am3→am3
 | .cond _ x y::_=>if b then x else y
 |_=>.skip
def ji:List (Nat×amn)→Nat→Option amn
 | [],_=>none
 |p::l,i=>match ji l i with
  |some v=>some v
  |none=>match amE p.1 i with
   |true=>some p.2
   |false=>none
theorem KQ{n:Nat}{u:Nat→amn}:∀(l:List (Nat×amn)) (L:List amn) (i:Nat) (v:amn),ji l i=some v→i<L.length→(l.foldl (fun L p=>L.set p.1 p.2) L)[i]?=some v
 | [],L,i,v,h,hi=>by cases h
 |p::l,L,i,v,h,hi=>by
  rw[aom]
  unfold ji at h
  split at h
  ·rename_i v' hv
   cases h
   exact KQ (n:=n) (u:=u) l _ i v hv (by simpa using hi)
  ·rename_i hn
   split at h
   ·rename_i hb
    cases h
    have hb:=amI hb
    subst hb
    have key:∀(l:List (Nat×amn)) (L:List amn) (i:Nat),ji l i=none→(l.foldl (fun L p=>L.set p.1 p.2) L)[i]?=L[i]? :=by
     intro l
     induction l with
     |nil=>intro L i _;rfl
     |cons q l ih=>
      intro L i h
      rw[aom]
      unfold ji at h
      split at h
      ·cases h
      ·rename_i h'
       rw[ih _ _ h']
       split at h
       ·cases h
       ·rename_i hb
        rw[ao3]
        intro e
        rw[e,anw]at hb
        cases hb
    rw[key l _ _ hn,aoP hi]
   ·cases h
theorem uE{n:Nat}{u:Nat→amn}{l:List (Nat×amn)}{i:Nat}{v:amn}(hn:n≤1024)(hi:i<n)(h:ji l i=some v):(ee n u l).at i=v:=by
 have hlen:(fU n u l).length=n:=by unfold fU;rw[lg];simp
 have:=KQ (n:=n) (u:=u) l ((aoO n).map u) i v h (by simpa using hi)
 unfold ee zJ Fr.at
 dsimp only
 rw[dI.2 (by omega)]
 dsimp only
 rw[Fr.wU (by omega) (by omega),if_pos (by omega),apc]
 have:(fU n u l)[i]?=some v:=this
 rw[this]
theorem al.cond{P:amF}{n k i:Nat}{l:List am3}{d:aj}{Q:bf→aj→Prop}{b:Bool}(hl:zK l=some i)(hi:amG i n=true)(hv:ji d.sl i=some (.bool b))
 (h:al P n k (ba (o6 b l)++l.tail) d Q):al P n k l d Q:=by
 intro X hn hk a w hd
 unfold zK at hl
 split at hl
 ·rename_i i' x y l'
  simp only[amr]at hl
  subst hl
  have h0:iH P (ba (if b then x else y)++l') _ a w:=h X hn hk a w hd
  obtain⟨ρ,u,M,hd⟩:=hd
  subst hn
  have ec:=hd.fr.small
  have zy:((ee X.n u d.sl).dx (M.map eh)).n=X.n:=by show(fU X.n u d.sl).length=_;unfold fU;rw[lg];simp
  have lK:a.eval (.tmp i')=.bool b:=hd.fr.Dj (c:=.tmp i') (uE (by omega) (dI.1 hi) hv)
  have key:∀(l l':List am3) (Q:aoF→Act→amC→Prop) (t:Act) (w:amC),iH P (l++l') Q t w→iH P l (Exit.then (iH P l' Q) Q) t w:=by
   intro l
   induction l with
   |nil=>intro l' Q t w h;exact h
   |cons c l ih=>
    intro l' Q t w h
    refine aqt (show c.wp P (Exit.then (iH P (l++l') Q) Q) t w from h) fun e t w he=>?_
    cases e with
    |normal=>exact ih l' Q t w he
    |_=>exact he
  have h2:=xa (key _ _ _ _ _ h0)
  cases b with
  |true=>exact wp_cond_true lK h2
  |false=>exact wp_cond_false lK h2
 ·cases hl
def uF:List amn→Nat→List (Nat×amn)
 | [],_=>[]
 |v::l,i=>(i,v)::uF l (i+1)
theorem KR:∀{l:List amn} {i:Nat} {p:Nat×amn},p∈uF l i→∃j,p.1=i+j∧l[j]?=some p.2
 | [],i,p,h=>by cases h
 |v::l,i,p,h=>by
  rcases amH.1 h with rfl|h
  ·exact⟨0,rfl,rfl⟩
  ·obtain⟨j,h1,h2⟩:=KR h
   exact⟨j+1,by omega,by simpa using h2⟩
theorem WR.uG{P:amF}{B:Nat→Prop}{w₀ w:amC}{ρ:Ren}{g:Nat→Option ai}(h:WR P B w₀ ρ g w){D:Nat}{o:Obj}(hB:¬B D)(hD:w.heap[D]?=some o)(ho:qP o=true)(o2:Obj):WR P B w₀ ρ g (w.putObj D o2) where
 env:=h.env
 below:=h.below.trans ⟨rfl,rfl,rfl,by simp,fun k hk=>anM (fun e=>hB (e▸hk))⟩
 size:=fun k hk=>by simpa using h.size k hk
 live:=fun x ob r hx hr hl=>by
  obtain⟨o',h1,h2,h3⟩:=h.live x ob r hx hr hl
  refine⟨o',?_,h2,h3⟩
  rw[anM]
  ·exact h1
  ·intro e
   rw[e,hD]at h1
   cases h1
   rw[h2.row]at ho
   cases ho
 inj:=h.inj
 fresh:=h.fresh
 rows:=h.rows
 nil:=h.nil
 named:=h.named
 abs:=by
  obtain⟨F,a1,a2,a3⟩:=h.abs
  refine⟨fun x k=>F x k∧k≠D,fun x d hx=>?_,fun x k hk=>?_,fun x y k p q=>a3 x y k p.1 q.1⟩
  ·obtain⟨r,S,c,b9,f⟩:=a1 x d hx
   have xe:∀k,S k→k≠D:=fun k hk e=>by
    obtain⟨q,hq,hr⟩:=b9.row k hk
    rw[e,hD]at hq
    cases hq
    cases o<;>first|(cases hr;done)|(cases ho;done)
   exact⟨r,S,c,b9.frame fun k hk=>anM (xe k hk),fun k hk=>⟨f k hk,xe k hk⟩⟩
  ·obtain⟨b1,b2,b3⟩:=a2 x k hk.1
   exact⟨b1,by simpa using b2,b3⟩
theorem KS{P:amF}{B:Nat→Prop}{w₀:amC}{ρ:Ren}{g:Nat→Option ai}{fn:Func}{tmps:Array amn}{R:Ending→amC→Prop}{mode:FrameMode}(hm:mode≠ .run)(hl:∀w2,WR P B w₀ ρ g w2→LeavesIn api 0 P fn tmps R [] mode w2):
 ∀(M:List Nat) (w:amC),M.Nodup→(∀D∈M,¬B D∧w.heap[D]?=some (.deferred (some [])))→WR P B w₀ ρ g w→LeavesInM api 0 P fn tmps R (M.map eh) mode w
 | [],w,_,_,hw=>hl w hw
 |D::M,w,hn,hq,hw=>by
  obtain⟨h1,h2⟩:=hq D amN
  have yE:=List.nodup_cons.1 hn
  refine⟨hm,.inl ⟨D,_,rfl,run_takeDeferred h2,KS hm hl M _ yE.2 (fun E hE=>?_) (hw.uG h1 h2 rfl _)⟩⟩
  obtain⟨h3,h4⟩:=hq E (amK _ hE)
  refine⟨h3,?_⟩
  rw[anM]
  ·exact h4
  ·rintro rfl
   exact yE.1 hE
theorem En{P:amF}(b:List an1)(t:Fr):∀l:List ResultVar,gG P (t.dx b) l=gG P t l
 | []=>rfl
 | .tmp i::l=>by unfold gG;rw[En b t l];rfl
 | .cell a ty::l=>by unfold gG;rw[En b t l];rfl
def aG(P:amF)(f:amY)(args:List amn)(objs:List ai)(Q:bL→List ai→Prop):Prop:=
 ∀(B:Nat→Prop) (w₀:amC) (ρ:Ren) (w:amC) (args':Array amn),Full ρ→(∀x,x<objs.length→∃r,ρ x=some r)→LR ρ args args'.toList→WR P B w₀ ρ (cq objs) w→
  Calls P f args' w fun e w'=>∃r iI ρ',Q r iI∧CR ρ' r e∧Full ρ'∧WR P B w₀ ρ' (cq iI) w'∧iI.length≤262144∧∀x,x<objs.length→ρ' x=ρ x
theorem aG.mono{P:amF}{f:amY}{args:List amn}{objs:List ai}{Q Q':bL→List ai→Prop}(h:aG P f args objs Q)(hq:∀r o,Q r o→Q' r o):aG P f args objs Q':=
 fun B w₀ ρ w args' h1 h2 h3 h4=>(h B w₀ ρ w args' h1 h2 h3 h4).mono fun e w' ⟨r,o,ρ',a,b⟩=>⟨r,o,ρ',hq r o a,b⟩
def Fin(P:amF)(fn:Func)(Q:bL→List ai→Prop):bf→aj→Prop
 | .normal,d=>∃vs l,(∀u,(gG P (ee fn.ntmps u d.sl) fn.results.toList).run (gt (kE d.objs).mem)=some (vs,l))∧Q (.ret (mg vs)) d.objs
 | .ret,d=>∃vs l,(∀u,(gG P (ee fn.ntmps u d.sl) fn.results.toList).run (gt (kE d.objs).mem)=some (vs,l))∧Q (.ret (mg vs)) d.objs
 | .panic v,d=>Q (.panic v) d.objs
 |_,_=>False
theorem aG.Vt{P:amF}{f:amY}{fn:Func}{c:am3}(hf:P.funcs[f]?=some fn)(hb:fn.body=some c){args:List amn}{objs:List ai}{Q:bL→List ai→Prop}
 (hn:(amO args.length fn.ntmps&&amO fn.ntmps 1024&&amO objs.length 262144)=true)(h:al P fn.ntmps objs.length (ba c) ⟨uF args 0,objs⟩ (Fin P fn Q)):aG P f args objs Q:=by
 intro B w₀ ρ w args' gP Eo iq hw
 simp only[amB]at hn
 obtain⟨⟨ka,lH⟩,Vu⟩:=hn
 have ka:=amS ka
 have lH:=amS lH
 refine(callsIn_wide (n:=0)).1 (callsIn_of_wp_marks hf hb trivial (ap5.2 ?_) rfl)
 have KT:Fr.of args fn.ntmps=some ⟨Fr.qz args 0 .nil,fn.ntmps,[],[]⟩:=by
  unfold Fr.of
  rw[am2 ka,am2 lH]
  rfl
 have cn:=Fr.Dq iq KT
 have hlen:args.length=args'.size:=by have:=iq.len;simpa using this
 obtain⟨u,hu⟩:∃u:Nat→amn,FR ρ ((ee fn.ntmps u (uF args 0)).dx (([]:List Nat).map eh)) {tmps:=args'++Array.replicate (fn.ntmps-args'.size) undef,defers:=[]}:=by
  refine FR.make (b:=[]) (by simp;omega) lH rfl (fun i=>(cn.at_ i).full gP) fun p hp=>?_
  obtain⟨j,h1,h2⟩:=KR hp
  have hj:j<args.length:=(amy.1 h2).1
  rw[an8]at h1
  refine⟨by omega,?_⟩
  obtain⟨v',h3,h4⟩:=iq.get h2
  rw[h1,am4,Array.getElem?_append_left (by omega)]
  have h5:args'[j]?=some v':=by simpa using h3
  rw[h5]
  exact h4
 refine xa (w9 (h ⟨B,w₀,objs.length,ρ,fn.ntmps,Eo⟩ rfl rfl _ w ⟨ρ,u,[],gP,fun _ _=>rfl,hu,hw,amS Vu,(fun D hD=>by cases hD),.nil,fun D hD=>by cases hD⟩) fun e a' w' he=>?_)
 obtain⟨x,d',h1,h2,ρ',u',M,hd⟩:=he
 have lm:∀mode,mode≠FrameMode.run→(∀w2,WR P B w₀ ρ' (cq d'.objs) w2→LeavesIn api 0 P fn a'.tmps (fun e w'=>∃r iI ρ',Q r iI∧CR ρ' r e∧Full ρ'∧WR P B w₀ ρ' (cq iI) w'∧iI.length≤262144∧∀x,x<objs.length→ρ' x=ρ x) [] mode w2)→
  LeavesInM api 0 P fn a'.tmps (fun e w'=>∃r iI ρ',Q r iI∧CR ρ' r e∧Full ρ'∧WR P B w₀ ρ' (cq iI) w'∧iI.length≤262144∧∀x,x<objs.length→ρ' x=ρ x) a'.defers mode w':=fun mode hm hl=>by
  rw[hd.fr.qN rfl]
  exact KS hm hl M w' hd.gp (fun D hD=>⟨hd.outside D hD,hd.quiet D hD⟩) hd.mem
 have fin:(∃vs l,(∀u,(gG P (ee fn.ntmps u d'.sl) fn.results.toList).run (gt (kE d'.objs).mem)=some (vs,l))∧Q (.ret (mg vs)) d'.objs)→∀w2,WR P B w₀ ρ' (cq d'.objs) w2→∃v,(results fn a'.tmps).run P w2=.ok v w2∧
  ∃r iI ρ',Q r iI∧CR ρ' r (.returned v)∧Full ρ'∧WR P B w₀ ρ' (cq iI) w2∧iI.length≤262144∧∀x,x<objs.length→ρ' x=ρ x:=by
  rintro⟨vs,l,h3,h4⟩ w2 dG
  have h5:(gG P (ee fn.ntmps u' d'.sl) fn.results.toList).run (cq d'.objs)=some (vs,l):=Rd.yG (h3 u') fun y hy=>by
   obtain⟨o,ho⟩:=Rd.yH (h3 u') y hy
   rw[cA (oL ho),w8 hd.bS]
  obtain⟨v',h6,h7⟩:=Dp (t:=(ee fn.ntmps u' d'.sl).dx (M.map eh)) dG hd.fr (by rw[En];exact h5)
  exact⟨v',h6,.ret (mg vs),d'.objs,ρ',h4,h7,hd.full,dG,hd.bS,hd.kept⟩
 cases h2 with
 |normal=>exact lm _ (by intro e;cases e) (fin h1)
 |ret=>exact lm _ (by intro e;cases e) (fin h1)
 |exit id=>exact h1.elim
 |panic v v' hv=>exact lm _ (by intro e;cases e) fun w2 dG=>⟨.panic v,d'.objs,ρ',h1,⟨v',rfl,hv.mono (fun x r h=>by cases h)⟩,hd.full,dG,hd.bS,hd.kept⟩
inductive QT(α:Type) where
 |done (a:α)
 |fail
 |ask (d:Bool) (k:Bool→QT α)
def QT.run{α:Type}:QT α→Option α
 | .done a=>some a
 | .fail=>none
 | .ask d k=>(k d).run
def QT.dt{α:Type}:QT α→DT α
 | .done a=>.done a
 | .fail=>.fail
 | .ask d k=>.ask d fun b=>(k b).dt
def QT.bind{α β:Type}:QT α→(α→QT β)→QT β
 | .done a,f=>f a
 | .fail,_=>.fail
 | .ask d k,f=>.ask d fun b=>(k b).bind f
def QT.uH{α:Type}(d:Bool)(k:QT α):QT α:=.ask d fun b=>match b with
 |true=>k
 |false=>.fail
theorem QT.Vv{α:Type}{q:QT α}{a:α}(h:q.dt.Has a):q.run=some a:=by
 induction q with
 |done b=>have:=DT.cp h;subst this;rfl
 |fail=>cases h
 |ask d k ih=>exact ih d (DT.nS h)
theorem QT.run_bind{α β:Type}{q:QT α}{f:α→QT β}{b:β}(h:(q.bind f).run=some b):∃a,q.run=some a∧(f a).run=some b:=by
 induction q with
 |done a=>exact⟨a,rfl,h⟩
 |fail=>cases h
 |ask d k ih=>exact ih d h
theorem QT.xf{α:Type}{d:Bool}{k:QT α}{a:α}(h:(QT.uH d k).run=some a):d=true∧k.run=some a:=by
 cases d with
 |true=>exact⟨rfl,h⟩
 |false=>cases h
structure Sum where
 names:List amn→(Nat→Option ai)→Option (List Nat)
 spec:List amn→List ai→QT (bL×List ai)
def bp(P:amF)(f:amY)(s:Sum):Prop:=
 ∀(args:List amn) (objs:List ai) (r:bL) (iI:List ai),(s.spec args objs).run=some (r,iI)→aG P f args objs fun r' o'=>r'=r∧o'=iI
section
variable (P:amF)
def Ep:Nat→amz→Bool
 |0,t=>match P.underlying t with
  |some .bool|some (.int _)|some .string|some (.float _)=>true
  |_=>false
 |d+1,t=>match P.underlying t with
  |some .bool|some (.int _)|some .string|some (.float _)=>true
  |some (.struct fs)=>fs.toList.all fun f=>Ep d f.type
  |some (.array _ e)=>Ep d e
  |_=>false
def KU(t:amz):Bool:=Ep P 3 t
def zL(τ:Nat→Option Nat):ai→QT ai
 | .cells c el ro=>match KU P el with
  |true=>.uH (c.all af) (.done (.cells c el ro))
  |false=>match lP (gN τ 6) c with
   |some c'=>.done (.cells c' el ro)
   |none=>.fail
 | .map es clock=>.ask ((es.map (dM τ)).all af) fun b=>match b with
  |true=>.done (.map es clock)
  |false=>match qT τ es with
   |some cH=>.done (.map cH clock)
   |none=>.fail
 | .kr s p=>.done (.kr s p)
 | .rows n s r=>.done (.rows n s r)
 | .abs d=>.done (.abs d)
 | .dead=>.fail
def xg(τ:Nat→Option Nat):List ai→QT (List ai)
 | []=>.done []
 |o::l=>(zL P τ o).bind fun o'=>(xg τ l).bind fun r=>.done (o'::r)
def getAll(g:Nat→Option ai):List Nat→Option (List ai)
 | []=>some []
 |x::l=>match g x,getAll g l with
  |some o,some r=>some (o::r)
  |_,_=>none
def qV(τ:Nat→Option Nat):List ai→List ai→QT (List ai)
 |ob::bZ,o::l=>match ob.ro with
  |true=>(qV τ bZ l).bind fun r=>.done (ob::r)
  |false=>match o with
   | .dead=>(qV τ bZ l).bind fun r=>.done (.dead::r)
   |o=>(zL P τ o).bind fun o'=>match o'.ro with
    |true=>.fail
    |false=>(qV τ bZ l).bind fun r=>.done (o'::r)
 | [],l=>(xg P τ l).bind fun r=>match r.all (fun o=> !o.ro)with
  |true=>.done r
  |false=>.fail
 |_::_,[]=>.fail
def sP:List Nat→List ai→List ai→Tr ai×List Nat→Option (Tr ai×List Nat×List ai)
 |x::σ,ob::bZ,o::l,(t,wr)=>match ob.ro with
  |true=>sP σ bZ l (t,wr)
  |false=>sP σ bZ l (t.set 18 x o,x::wr)
 | [],[],l,(t,wr)=>some (t,wr,l)
 |_,_,_,_=>none
def eV:Nat→Nat→List Nat
 |_,0=>[]
 |k,n+1=>k::eV (k+1) n
def qc(τ:Nat→Option Nat):bL→Option bL
 | .ret v=>match gN τ 6 v with
  |some u=>some (.ret u)
  |none=>none
 | .panic v=>match fl v with
  |true=>some (.panic v)
  |false=>none
def zM(s:Sum)(args:List amn)(S:VS):QT (bL×VS):=match s.names args (gt S.mem)with
 |none=>.fail
 |some σ=>match getAll (gt S.mem) σ,lP (gN (eI σ) 6) args,nodupB σ&&amO σ.length 262144 with
  |some bZ,some o7,true=>(xg P (eI σ) bZ).bind fun jj=>(s.spec o7 jj).bind fun p=>
   (qV P (fun i=>(σ++eV S.next (p.2.length-σ.length))[i]?) bZ p.2).bind fun iJ=>
    match qc (fun i=>(σ++eV S.next (p.2.length-σ.length))[i]?) p.1,sP σ bZ iJ (S.mem,S.wr)with
    |some r,some (t,wr,news)=>match qE news ⟨t,S.next,σ++S.rd,wr⟩with
     |some S1=>.done (r,S1)
     |none=>.fail
    |_,_=>.fail
  |_,_,_=>.fail
end
section
variable {P:amF}
theorem KV{τ:Nat→Option Nat}{o o':ai}(h:(zL P τ o).run=some o'):ON τ o o'∧o'.ro=o.ro∧o≠ .dead∧o'≠ .dead:=by
 unfold zL at h
 split at h
 ·split at h
  ·obtain⟨h1,h⟩:=QT.xf h
   cases h
   exact⟨.plain _ _ _ h1,rfl,(by intro e;cases e),(by intro e;cases e)⟩
  ·split at h
   ·rename_i hc
    cases h
    exact⟨.cells _ _ _ _ hc,rfl,(by intro e;cases e),(by intro e;cases e)⟩
   ·cases h
 ·rename_i es clock
  cases hb:(es.map (dM τ)).all af with
  |true=>
   simp only[QT.run,hb]at h
   cases h
   exact⟨.map _ _ _ (Ed hb),rfl,(by intro e;cases e),(by intro e;cases e)⟩
  |false=>
   simp only[QT.run,hb]at h
   split at h
   ·rename_i uq
    cases h
    exact⟨.map _ _ _ uq,rfl,(by intro e;cases e),(by intro e;cases e)⟩
   ·cases h
 ·cases h;exact⟨.kr _ _,rfl,(by intro e;cases e),(by intro e;cases e)⟩
 ·cases h;exact⟨.rows _ _ _,rfl,(by intro e;cases e),(by intro e;cases e)⟩
 ·cases h;exact⟨.abs _,rfl,(by intro e;cases e),(by intro e;cases e)⟩
 ·cases h
theorem Er{τ:Nat→Option Nat}:∀{l l':List ai},(xg P τ l).run=some l'→dD (fun o o'=>ON τ o o'∧o'.ro=o.ro∧o≠ .dead∧o'≠ .dead) l l'
 | [],l',h=>by cases h;exact .nil
 |o::l,l',h=>by
  unfold xg at h
  obtain⟨o',h1,h⟩:=QT.run_bind h
  obtain⟨r,h2,h⟩:=QT.run_bind h
  cases h
  exact .cons (KV h1) (Er h2)
theorem zN{τ:Nat→Option Nat}:∀{bZ l l':List ai},(qV P τ bZ l).run=some l'→l'.length=l.length∧bZ.length≤l.length∧
 ∀(i:Nat) (o o':ai),l[i]?=some o→l'[i]?=some o'→(∀ob:ai,bZ[i]?=some ob→ob.ro=false)→ON τ o o'∧o'.ro=false∧True
 | [],l,l',h=>by
  unfold qV at h
  obtain⟨r,h1,h⟩:=QT.run_bind h
  split at h
  ·rename_i j6
   cases h
   have h2:=Er h1
   refine⟨h2.len.symm,by simp,fun i o o' ho zO _=>?_⟩
   obtain⟨o2,h3,h4,h5,h6,h7⟩:=h2.get zO
   rw[ho]at h3
   cases h3
   have:=am1.1 j6 o' (am8 zO)
   exact⟨h4,by simpa using this,trivial⟩
  ·cases h
 |ob::bZ,[],l',h=>by cases h
 |ob::bZ,o::l,l',h=>by
  unfold qV at h
  split at h
  ·rename_i db
   obtain⟨r,h1,h⟩:=QT.run_bind h
   cases h
   obtain⟨h2,h3,h4⟩:=zN h1
   refine⟨by simp[h2],by simpa using h3,fun i a a' ha fH eO=>?_⟩
   cases i with
   |zero=>have:=eO ob rfl;rw[db]at this;cases this
   |succ i=>exact h4 i a a' (by simpa using ha) (by simpa using fH) fun q hq=>eO q (by simpa using hq)
  ·split at h
   ·obtain⟨r,h1,h⟩:=QT.run_bind h
    cases h
    obtain⟨h2,h3,h4⟩:=zN h1
    refine⟨by simp[h2],by simpa using h3,fun i a a' ha fH eO=>?_⟩
    cases i with
    |zero=>
     simp only[anb,amr]at ha fH
     subst ha fH
     exact⟨.dead _,rfl,trivial⟩
    |succ i=>exact h4 i a a' (by simpa using ha) (by simpa using fH) fun q hq=>eO q (by simpa using hq)
   ·obtain⟨o',h0,h⟩:=QT.run_bind h
    split at h
    ·cases h
    ·rename_i zP
     obtain⟨r,h1,h⟩:=QT.run_bind h
     cases h
     obtain⟨h2,h3,h4⟩:=zN h1
     refine⟨by simp[h2],by simpa using h3,fun i a a' ha fH eO=>?_⟩
     cases i with
     |zero=>
      simp only[anb,amr]at ha fH
      subst ha fH
      exact⟨(KV h0).1,by simpa using zP,trivial⟩
     |succ i=>exact h4 i a a' (by simpa using ha) (by simpa using fH) fun q hq=>eO q (by simpa using hq)
theorem zQ{g:Nat→Option ai}:∀{σ:List Nat} {bZ:List ai},getAll g σ=some bZ→σ.length=bZ.length∧∀(i x:Nat),σ[i]?=some x→∃o,bZ[i]?=some o∧g x=some o
 | [],bZ,h=>by cases h;exact⟨rfl,fun i x h=>by simp at h⟩
 |y::σ,bZ,h=>by
  unfold getAll at h
  split at h
  ·rename_i o r h1 h2
   cases h
   obtain⟨h3,h4⟩:=zQ h2
   refine⟨by simp[h3],fun i x hx=>?_⟩
   cases i with
   |zero=>simp only[anb,amr]at hx;subst hx;exact⟨o,rfl,h1⟩
   |succ i=>simpa using h4 i x (by simpa using hx)
  ·cases h
def lU(m:Nat→Option ai):List Nat→List ai→List ai→Nat→Option ai
 |x::σ,ob::bZ,o::l=>lU (bif ob.ro then m else cG m x o) σ bZ l
 |_,_,_=>m
theorem qd{x:Nat}:∀{σ:List Nat} {bZ l:List ai} {m:Nat→Option ai},(∀(i:Nat) (ob:ai),σ[i]?=some x→bZ[i]?=some ob→ob.ro=true)→lU m σ bZ l x=m x
 | [],bZ,l,m,h=>by cases bZ<;>rfl
 |y::σ,[],l,m,h=>rfl
 |y::σ,ob::bZ,[],m,h=>rfl
 |y::σ,ob::bZ,o::l,m,h=>by
  show lU (bif ob.ro then m else cG m y o) σ bZ l x=m x
  have h':∀(i:Nat) (o8:ai),σ[i]?=some x→bZ[i]?=some o8→o8.ro=true:=fun i o8 h1 h2=>h (i+1) o8 (by simpa using h1) (by simpa using h2)
  rw[qd h']
  cases db:ob.ro with
  |true=>rfl
  |false=>
   show cG m y o x=m x
   rw[dU]
   rintro rfl
   have:=h 0 ob rfl rfl
   rw[db]at this
   cases this
theorem uI{x:Nat}:∀{σ:List Nat} {bZ l:List ai} {m:Nat→Option ai} {i:Nat} {ob o:ai},nodupB σ=true→σ[i]?=some x→bZ[i]?=some ob→l[i]?=some o→ob.ro=false→lU m σ bZ l x=some o
 | [],bZ,l,m,i,ob,o,hn,h1,h2,h3,h4=>by simp at h1
 |y::σ,[],l,m,i,ob,o,hn,h1,h2,h3,h4=>by simp at h2
 |y::σ,b::bZ,[],m,i,ob,o,hn,h1,h2,h3,h4=>by simp at h3
 |y::σ,b::bZ,a::l,m,i,ob,o,hn,h1,h2,h3,h4=>by
  have o9:=hn
  simp only[nodupB,amB]at hn
  show lU (bif b.ro then m else cG m y a) σ bZ l x=some o
  cases i with
  |zero=>
   simp only[anb,amr]at h1 h2 h3
   subst h1 h2 h3
   rw[h4]
   show lU (cG m y a) σ bZ l y=some a
   rw[qd,fg]
   intro j o8 hj _
   have:=sM o9 (x:=0) (y:=j+1) (z:=y) rfl (by simpa using hj)
   omega
  |succ i=>exact uI hn.2 (by simpa using h1) (by simpa using h2) (by simpa using h3) h4
theorem zR:∀{σ:List Nat} {bZ l:List ai} {t t':Tr ai} {wr qe:List Nat} {news:List ai},sP σ bZ l (t,wr)=some (t',qe,news)→(∀x∈σ,small x=true)→
 gt t'=lU (gt t) σ bZ l∧σ.length=bZ.length∧(∃qW,l=qW++news∧qW.length=σ.length)∧(∀x,x∈wr→x∈qe)∧
 (∀x,x∈qe→x∈wr∨x∈σ)∧∀(i x:Nat) (ob:ai),σ[i]?=some x→bZ[i]?=some ob→ob.ro=false→x∈qe
 | [],[],l,t,t',wr,qe,news,h,hs=>by
  simp only[sP,amr,amv]at h
  obtain⟨rfl,rfl,rfl⟩:=h
  exact⟨rfl,rfl,⟨[],rfl,rfl⟩,fun _ h=>h,fun _ h=>.inl h,fun i x ob h=>by simp at h⟩
 |x::σ,ob::bZ,o::l,t,t',wr,qe,news,h,hs=>by
  unfold sP at h
  split at h
  ·rename_i db
   obtain⟨h1,h2,⟨qW,h3,h4⟩,h5,h6,h7⟩:=zR h fun y hy=>hs y (amK _ hy)
   refine⟨?_,by simp[h2],⟨o::qW,by simp[h3],by simp[h4]⟩,h5,fun y hy=>(h6 y hy).imp id (amK _),fun i y o8 a b c=>?_⟩
   ·rw[h1];show _=lU (bif ob.ro then gt t else cG (gt t) x o) σ bZ l;rw[db];rfl
   ·cases i with
    |zero=>simp only[anb,amr]at b;subst b;rw[db]at c;cases c
    |succ i=>exact h7 i y o8 (by simpa using a) (by simpa using b) c
  ·rename_i db
   obtain⟨h1,h2,⟨qW,h3,h4⟩,h5,h6,h7⟩:=zR h fun y hy=>hs y (amK _ hy)
   refine⟨?_,by simp[h2],⟨o::qW,by simp[h3],by simp[h4]⟩,fun y hy=>h5 y (amK _ hy),fun y hy=>?_,fun i y o8 a b c=>?_⟩
   ·rw[h1,wg (hs x amN)]
    show _=lU (bif ob.ro then gt t else cG (gt t) x o) σ bZ l
    rw[db]
    rfl
   ·rcases h6 y hy with hy|hy
    ·rcases amH.1 hy with rfl|hy
     ·exact .inr amN
     ·exact .inl hy
    ·exact .inr (amK _ hy)
   ·cases i with
    |zero=>simp only[anb,amr]at a;subst a;exact h5 _ amN
    |succ i=>exact h7 i y o8 (by simpa using a) (by simpa using b) c
 | [],_::_,l,t,t',wr,qe,news,h,hs=>by cases h
 |_::_,[],l,t,t',wr,qe,news,h,hs=>by cases h
 |_::_,_::_,[],t,t',wr,qe,news,h,hs=>by cases h
theorem Et:∀{n k i:Nat},(eV k n)[i]?=if i<n then some (k+i)else none
 |0,k,i=>by simp[eV]
 |n+1,k,i=>by
  cases i with
  |zero=>simp[eV]
  |succ i=>
   simp only[eV,anD]
   rw[Et]
   by_cases h:i<n
   ·rw[if_pos h,if_pos (by omega)];congr 1;omega
   ·rw[if_neg h,if_neg (by omega)]
theorem SR.mono{w₀ w:amC}{B B':Nat→Prop}(hB:∀b,B b→B' b∧w.heap[b]?=w₀.heap[b]?){s:SV}{v:amn}(h:SR P w₀ B s v):SR P w B' s v:=by
 induction h with
 |val v h=>exact .val v h
 |nil el a=>exact .nil el a
 |cells n c el b off cap c' bR fr h1 h2 h3 h4 h5 h6=>exact .cells n c el b off cap c' bR fr (hB b h1).1 ((hB b h1).2.trans h2) h3 h4 h5 h6
 |mY size row a=>exact .mY size row a
 |rows n size row b off cap c' bR fr h1 h2 h3 h4 h5 h6 u h7 h8 ih=>exact .rows n size row b off cap c' bR fr (hB b h1).1 ((hB b h1).2.trans h2) h3 h4 h5 h6 u h7 ih
theorem mm.mono{w₀ w:amC}{B B':Nat→Prop}(hB:∀b,B b→B' b∧w.heap[b]?=w₀.heap[b]?){r:bP}{n size:Nat}{row:Nat→List SV}(h:mm P w₀ B r n size row):mm P w B' r n size row:=by
 obtain⟨c',bR,fr,h1,h2,h3,h4⟩:=h.at_
 exact⟨(hB _ h.aJ).1,h.sz,c',bR,fr,(hB _ h.aJ).2.trans h1,h2,h3,fun i hi=>⟨(h4 i hi).1,fun k sv hk=>let⟨v',a,b⟩:=(h4 i hi).2 k sv hk;⟨v',a,b.mono hB⟩⟩⟩
end
end Go.Proofs.Ytnlkkgpcikkpoaa.Vm
namespace Go.Proofs.Ytnlkkgpcikkpoaa.Vm
open Go.RowKit
section
variable {P:amF}
structure qX(P:amF)(s:Sum)(args:List amn)(S S':VS)(r:bL) where
 σ:List Nat
 bZ:List ai
 o7:List amn
 jj:List ai
 r1:bL
 iJ:List ai
 back:List ai
 t:Tr ai
 wr:List Nat
 news:List ai
 eO:getAll (gt S.mem) σ=some bZ
 Eu:lP (gN (eI σ) 6) args=some o7
 de:nodupB σ=true
 jw:σ.length≤262144
 qY:dD (fun o o'=>ON (eI σ) o o'∧o'.ro=o.ro∧o≠ .dead∧o'≠ .dead) bZ jj
 sQ:(s.spec o7 jj).run=some (r1,iJ)
 Ev:(qV P (fun i=>(σ++eV S.next (iJ.length-σ.length))[i]?) bZ iJ).run=some back
 hr:qc (fun i=>(σ++eV S.next (iJ.length-σ.length))[i]?) r1=some r
 zS:sP σ bZ back (S.mem,S.wr)=some (t,wr,news)
 uc:qE news ⟨t,S.next,σ++S.rd,wr⟩=some S'
theorem KW{s:Sum}{args:List amn}{S S':VS}{r:bL}(h:(zM P s args S).run=some (r,S')):Nonempty (qX P s args S S' r):=by
 unfold zM at h
 split at h
 ·cases h
 ·rename_i σ hσ
  split at h
  ·rename_i bZ o7 h1 h2 h3
   simp only[amB]at h3
   obtain⟨jj,h4,h⟩:=QT.run_bind h
   obtain⟨⟨r1,iJ⟩,h5,h⟩:=QT.run_bind h
   obtain⟨back,h6,h⟩:=QT.run_bind h
   dsimp only at h h6
   split at h
   ·rename_i r' t wr news h7 h8
    split at h
    ·rename_i S1 h9
     simp only[QT.run,amr,amv]at h
     obtain⟨rfl,rfl⟩:=h
     exact⟨⟨σ,bZ,o7,jj,r1,iJ,back,t,wr,news,h1,h2,h3.1,amS h3.2,Er h4,h5,h6,h7,h8,h9⟩⟩
    ·cases h
   ·cases h
  ·cases h
theorem qX.Ew{s:Sum}{args:List amn}{S S':VS}{r:bL}(A:qX P s args S S' r):∀x∈A.σ,small x=true:=fun x hx=>by
 obtain⟨i,hi⟩:=anQ hx
 obtain⟨o,_,h⟩:=(zQ A.eO).2 i x hi
 exact oL h
theorem qX.ext{s:Sum}{args:List amn}{S S':VS}{r:bL}(A:qX P s args S S' r):dC S S':=by
 obtain⟨h1,h2,_,h4,h5,h6⟩:=zR A.zS A.Ew
 obtain⟨e,gv,_,_⟩:=wJ A.uc
 refine dC.trans (b:=⟨A.t,S.next,A.σ++S.rd,A.wr⟩) ⟨fun x hx=>List.mem_append_right _ hx,h4,fun x hx=>?_,fun hS x hx=>?_⟩ e
 ·show gt A.t x=gt S.mem x
  rw[h1,qd]
  intro i ob hi eO
  cases db:ob.ro with
  |true=>rfl
  |false=>exact absurd (h6 i x ob hi eO db) hx
 ·rcases hx with hx|hx
  ·rcases List.mem_append.1 hx with hx|hx
   ·exact A.Ew x hx
   ·exact hS x (.inl hx)
  ·rcases h5 x hx with hx|hx
   ·exact hS x (.inr hx)
   ·exact A.Ew x hx
theorem qX.call{f:amY}{s:Sum}(hs:bp P f s){args:List amn}{S S':VS}{r:bL}(A:qX P s args S S' r){B:Nat→Prop}{w₀:amC}{ρ:Ren}{m:Nat→Option ai}{w:amC}{args':Array amn}
 (ha:LR ρ args args'.toList)(hw:WR P B w₀ ρ m w)(hm:fv S S' m):Calls P f args' w fun e w'=>∃ρ',ρ.le ρ'∧CR ρ' r e∧WR P B w₀ ρ' (post m S') w':=by
 obtain⟨σ,bZ,o7,jj,r1,iJ,back,t,wr,news,eO,Eu,de,jw,qY,sQ,Ev,hr,zS,uc⟩:=A
 have hA:qX P s args S S' r:=⟨σ,bZ,o7,jj,r1,iJ,back,t,wr,news,eO,Eu,de,jw,qY,sQ,Ev,hr,zS,uc⟩
 obtain⟨qZ,zT⟩:=zQ eO
 have Vw:∀x∈σ,small x=true:=fun x hx=>by
  obtain⟨i,hi⟩:=anQ hx
  obtain⟨o,_,h⟩:=zT i x hi
  exact oL h
 obtain⟨l1,l2,⟨qW,l3,akT⟩,l4,l5,l6⟩:=zR zS Vw
 obtain⟨e1,gv,y9,sB⟩:=wJ uc
 obtain⟨b1,b2,b3⟩:=zN Ev
 -- the caller's memory at the old names
 have uJ:∀(i x:Nat),σ[i]?=some x→∃o,bZ[i]?=some o∧m x=some o:=fun i x hi=>by
  obtain⟨o,h1,h2⟩:=zT i x hi
  refine⟨o,h1,?_⟩
  rw[hm x (.inl (by rw[gv];exact List.mem_append_left _ (am8 hi)))]
  exact h2
 obtain⟨F,fa,fb,fc⟩:=hw.abs
 have Vx:jj.length=σ.length:=by rw[←qY.len,qZ]
 have bt:∀(i:Nat) (o:ai),bZ[i]?=some o→o≠ .dead:=fun i o hi=>by
  obtain⟨o',zO⟩:∃o',jj[i]?=some o':=by
   have:i<jj.length:=by rw[←qY.len];exact(amy.1 hi).1
   exact⟨_,amt this⟩
  obtain⟨o2,h1,_,_,h2,_⟩:=qY.get zO
  rw[hi]at h1
  cases h1
  exact h2
 have KX:∀(i x:Nat),σ[i]?=some x→∃q,ρ x=some q:=fun i x hi=>by
  obtain⟨o,h1,h2⟩:=uJ i x hi
  exact hw.named x o h2 (bt i o h1)
 -- the callee's names
 let ρ1:Ren:=fun x=>match small x with
  |true=>(σ[x]?).bind ρ
  |false=>some (uA (x-262144))
 have lV:∀x,small x=true→ρ1 x=(σ[x]?).bind ρ:=fun x h=>by show(match small x with|true=>_|false=>_)=_;rw[h]
 have q9:∀x,small x=false→ρ1 x=some (uA (x-262144)):=fun x h=>by show(match small x with|true=>_|false=>_)=_;rw[h]
 have uK:∀(i x:Nat),σ[i]?=some x→small i=true:=fun i x h=>gW.2 (by
  have:i<σ.length:=(amy.1 h).1
  have:(2:Nat)^18=262144:=rfl
  omega)
 have KY:∀y i q,eI σ y=some i→ρ y=some q→ρ1 i=some q:=fun y i q h1 h2=>by
  have h3:=zI h1
  rw[lV i (uK i y h3),h3]
  exact h2
 have gP:Full ρ1:=fun q=>by
  obtain⟨n,h⟩:=KH q
  exact⟨n+262144,zH n,by rw[q9 _ (zH n)];simp[h]⟩
 let B1:Nat→Prop:=fun b=>b<w.heap.size∧(∀(i x:Nat) (o:ai) (q:bP),σ[i]?=some x→bZ[i]?=some o→ρ x=some q→o.ro=false→Live o q=true→q.aJ≠b)∧∀(i x:Nat) (d:kU),σ[i]?=some x→bZ[i]?=some (.abs d)→¬F x b
 have pa:∀b,B b→B1 b:=fun b hb=>⟨hw.size b hb,fun i x o q h1 h2 h3 h4 h5 e=>by
  obtain⟨o',h6,h7⟩:=uJ i x h1
  rw[h2]at h6
  cases h6
  obtain⟨_,_,_,h8⟩:=hw.live x o q h7 h3 h5
  exact h8 h4 (e▸hb),fun i x d _ _ hF=>(fb x b hF).2.2.1 hb⟩
 have Ey:∀b,B b→B1 b∧w.heap[b]?=w₀.heap[b]? :=fun b hb=>⟨pa b hb,hw.below.block b hb⟩
 have nf:∀(i:Nat) (o':ai),jj[i]?=some o'→∃x o,σ[i]?=some x∧bZ[i]?=some o∧m x=some o∧ON (eI σ) o o'∧o'.ro=o.ro:=fun i o' hi=>by
  obtain⟨o,h1,h2,h3,_,_⟩:=qY.get hi
  have hlt:i<σ.length:=by rw[←Vx];exact(amy.1 hi).1
  obtain⟨o2,h4,h5⟩:=uJ i _ (amt hlt)
  rw[h1]at h4
  cases h4
  exact⟨_,o,amt hlt,h1,h5,h2,h3⟩
 have ra:∀x o',cq jj x=some o'→o'≠ .dead→small x=true∧jj[x]?=some o':=fun x o' hx bt=>by
  cases jk:small x with
  |true=>rw[cA jk]at hx;exact⟨rfl,hx⟩
  |false=>rw[iu jk]at hx;cases hx;exact absurd rfl bt
 have gy:WR P B1 w ρ1 (cq jj) w:=
  {below:=fQ.refl _ _
   env:=hw.env.next hw.below pa
   size:=fun k hk=>hk.1
   live:=by
    intro x o' q hx hq hl
    obtain⟨jk,fT⟩:=ra x o' hx (by rintro rfl;cases hl)
    obtain⟨y,o,h1,h2,h3,h4,h5⟩:=nf x o' fT
    rw[lV x jk,h1]at hq
    have hq:ρ y=some q:=hq
    obtain⟨pQ,_⟩:=h4.live hl
    obtain⟨oo,h6,h7,h8⟩:=hw.live y o q h3 hq pQ
    exact⟨oo,h6,h4.or KY hl oo h7,fun db hb=>hb.2.1 x y o q h1 h2 hq (h5▸db) pQ rfl⟩
   inj:=by
    intro x y ox oy rx ry hx hy ke cm kg cT hd he
    obtain⟨jk,fT⟩:=ra x ox hx (by rintro rfl;cases kg)
    obtain⟨Vy,j4⟩:=ra y oy hy (by rintro rfl;cases cT)
    obtain⟨a,oa,a1,a2,a3,a4,a5⟩:=nf x ox fT
    obtain⟨b,ob,c1,c2,c3,c4,c5⟩:=nf y oy j4
    rw[lV x jk,a1]at ke
    rw[lV y Vy,c1]at cm
    have:=hw.inj a b oa ob rx ry a3 c3 ke cm (a4.live kg).1 (c4.live cT).1 (hd.imp (fun h=>a5▸h) (fun h=>c5▸h)) he
    subst this
    exact sM de a1 c1
   fresh:=by
    intro x hx
    cases jk:small x with
    |true=>
     rw[cA jk]at hx
     rw[lV x jk]
     have:σ[x]?=none:=by
      rw[aob]at hx⊢
      omega
     rw[this];rfl
    |false=>rw[iu jk]at hx;cases hx
   rows:=by
    intro x n size row hx
    obtain⟨jk,fT⟩:=ra x _ hx (by intro e;cases e)
    obtain⟨y,o,h1,h2,h3,h4,h5⟩:=nf x _ fT
    cases h4
    obtain⟨q,h6,h7⟩:=hw.rows y n size row h3
    exact⟨q,by rw[lV x jk,h1];exact h6,fun hn=>(h7 hn).mono Ey⟩
   nil:=by
    intro x el ro q hx hq
    obtain⟨jk,fT⟩:=ra x _ hx (by intro e;cases e)
    obtain⟨y,o,h1,h2,h3,h4,h5⟩:=nf x _ fT
    rw[lV x jk,h1]at hq
    have hq:ρ y=some q:=hq
    cases h4 with
    |plain=>exact hw.nil y el ro q h3 hq
    |cells c _ _ _ h=>
     cases c with
     |nil=>exact hw.nil y el ro q h3 hq
     |cons v c=>have:=sK h;simp at this
   named:=by
    intro x o' hx zU
    obtain⟨jk,fT⟩:=ra x o' hx zU
    obtain⟨y,o,h1,h2,h3,h4,h5⟩:=nf x o' fT
    obtain⟨q,hq⟩:=KX x y h1
    exact⟨q,by rw[lV x jk,h1];exact hq⟩
   abs:=by
    refine⟨fun i k=>∃x d,σ[i]?=some x∧bZ[i]?=some (.abs d)∧F x k,fun i d hi=>?_,?_,?_⟩
    ·obtain⟨jk,fT⟩:=ra i _ hi (by intro e;cases e)
     obtain⟨y,o,h1,h2,h3,h4,h5⟩:=nf i _ fT
     cases h4
     obtain⟨r,S,c,e,f⟩:=fa y d h3
     exact⟨r,S,by rw[lV i jk,h1];exact c,e,fun k hk=>⟨y,d,h1,h2,f k hk⟩⟩
    ·rintro i k ⟨x,d,g1,g2,g3⟩
     obtain⟨_,b2,b3,b4⟩:=fb x k g3
     have hlt:i<jj.length:=by rw[←qY.len];exact(amy.1 g2).1
     obtain⟨o2,q1,q2,q3,_,q5⟩:=qY.get (amt hlt)
     rw[g2]at q1
     cases q1
     have hi:cq jj i=some (.abs d):=by
      rw[cA (uK i x g1),amt hlt]
      generalize jj[i]=oo at q2 q5
      cases q2 with
      |abs=>rfl
      |dead=>exact absurd rfl q5
     refine⟨⟨d,hi⟩,b2,fun hk=>hk.2.2 i x d g1 g2 g3,fun z o' q hz hq hl=>?_⟩
     obtain⟨jk,fT⟩:=ra z o' hz (by rintro rfl;cases hl)
     obtain⟨y,o,h1,h2,h3,h4,h5⟩:=nf z o' fT
     rw[lV z jk,h1]at hq
     exact b4 y o q h3 hq (h4.live hl).1
    ·rintro i j k ⟨x,_,g1,_,g3⟩ ⟨x',_,Vz,_,VA⟩
     have:=fc x x' k g3 VA
     subst this
     exact sM de g1 Vz}
 have VB:∀x,x<jj.length→∃q,ρ1 x=some q:=fun x hx=>by
  have hlt:x<σ.length:=by omega
  obtain⟨q,hq⟩:=KX x _ (amt hlt)
  exact⟨q,by rw[lV x (uK x _ (amt hlt)),amt hlt];exact hq⟩
 have VC:LR ρ1 o7 args'.toList:=sJ (p9 KY 6) Eu ha
 refine(hs o7 jj r1 iJ sQ B1 w ρ1 w args' gP VB VC gy).mono fun e w' he=>?_
 obtain⟨r2,VD,ρ2,⟨eo,wY⟩,iK,oZ,dG,VE,lQ⟩:=he
 rw[eo]at iK
 rw[wY]at dG VE
 clear eo wY r2 VD
 -- the caller's names behind the call
 let N:Nat:=iJ.length-σ.length
 have VF:back.length=iJ.length:=b1
 have akU:news.length=N:=by
  have:=congrArg List.length l3
  rw[List.length_append]at this
  show news.length=iJ.length-σ.length
  omega
 have hle:σ.length≤iJ.length:=by omega
 let ρ':Ren:=fun y=>if S.next≤y∧y<S.next+N then ρ2 (σ.length+(y-S.next))else ρ y
 have oX:∀j,j<N→m (S.next+j)=none:=fun j hj=>by
  obtain⟨h1,h2⟩:=y9 j (by omega)
  have h1:gt t (S.next+j)=none:=h1
  have h2:S.next+j∈S'.wr:=h2
  rw[hm _ (.inr h2)]
  rw[l1,qd]at h1
  ·exact h1
  ·intro i ob hi eO
   cases db:ob.ro with
   |true=>rfl
   |false=>
    exfalso
    have e8:i<back.length:=by have:=(amy.1 hi).1;omega
    rw[uI de hi eO (amt e8) db]at h1
    cases h1
 have Ez:∀(i x:Nat),σ[i]?=some x→¬(S.next≤x∧x<S.next+N):=fun i x hi hx=>by
  obtain⟨o,_,h2⟩:=uJ i x hi
  have:=oX (x-S.next) (by omega)
  rw[show S.next+(x-S.next)=x by omega,h2]at this
  cases this
 have KZ:∀j,j<N→ρ' (S.next+j)=ρ2 (σ.length+j):=fun j hj=>by
  show(if _ then _ else _)=_
  rw[if_pos ⟨by omega,by omega⟩,show S.next+j-S.next=j by omega]
 have zV:∀y,¬(S.next≤y∧y<S.next+N)→ρ' y=ρ y:=fun y hy=>by
  show(if _ then _ else _)=_
  rw[if_neg hy]
 have K0:∀(i x:Nat),σ[i]?=some x→ρ' x=ρ2 i:=fun i x hi=>by
  have hlt:i<σ.length:=(amy.1 hi).1
  rw[zV x (Ez i x hi),lQ i (by omega),lV i (uK i x hi),hi]
  rfl
 have DH:ρ.le ρ':=fun y q hy=>by
  by_cases e9:S.next≤y∧y<S.next+N
  ·have:=hw.fresh _ (oX (y-S.next) (by omega))
   rw[show S.next+(y-S.next)=y by omega,hy]at this
   cases this
  ·rw[zV y e9,hy]
 let τ:Nat→Option Nat:=fun i=>(σ++eV S.next (iJ.length-σ.length))[i]?
 have hτ:∀i y,τ i=some y→(σ[i]?=some y)∨(σ.length≤i∧i-σ.length<N∧y=S.next+(i-σ.length)):=fun i y h=>by
  have h:(σ++eV S.next N)[i]?=some y:=h
  by_cases hi:i<σ.length
  ·rw[ane hi]at h;exact .inl h
  ·rw[am5 (by omega),Et]at h
   split at h
   ·rename_i h3;cases h;exact .inr ⟨by omega,h3,rfl⟩
   ·cases h
 have K1:∀i y q,τ i=some y→ρ2 i=some q→ρ' y=some q:=fun i y q h1 h2=>by
  rcases hτ i y h1 with h3|⟨h3,h4,rfl⟩
  ·rw[K0 i y h3,h2]
  ·rw[KZ _ h4,show σ.length+(i-σ.length)=i by omega,h2]
 have VG:CR ρ' r e:=by
  unfold qc at hr
  split at hr
  ·rename_i v
   split at hr
   ·rename_i u hu
    cases hr
    cases e with
    |returned v'=>exact p9 K1 6 v u v' hu iK
    |panicked chain=>cases iK
    |outgrown=>cases iK
   ·cases hr
  ·rename_i v
   split at hr
   ·rename_i fC
    cases hr
    cases e with
    |returned v'=>cases iK
    |panicked chain=>
     obtain⟨v',h1,h2⟩:=iK
     have:=ml fC h2
     subst this
     exact⟨v',h1,mX fC⟩
    |outgrown=>cases iK
   ·cases hr
 -- the memory behind the call
 let m0:Nat→Option ai:=lU m σ bZ back
 have uL:fv ⟨t,S.next,σ++S.rd,wr⟩ S' m0:=fun x hx=>by
  show lU m σ bZ back x=gt t x
  rw[l1]
  by_cases hex:∃(i:Nat) (ob:ai),σ[i]?=some x∧bZ[i]?=some ob∧ob.ro=false
  ·obtain⟨i,ob,h1,h2,h3⟩:=hex
   have e8:i<back.length:=by have:=(amy.1 h1).1;omega
   rw[uI de h1 h2 (amt e8) h3,uI de h1 h2 (amt e8) h3]
  ·have j6:∀(i:Nat) (ob:ai),σ[i]?=some x→bZ[i]?=some ob→ob.ro=true:=fun i ob h1 h2=>by
    cases h3:ob.ro with
    |true=>rfl
    |false=>exact absurd ⟨i,ob,h1,h2,h3⟩ hex
   rw[qd j6,qd j6]
   exact hm x hx
 have EA:post m S'=im m0 S.next news:=by
  have h1:=sB m0 uL
  have h1:post m0 S'=im m0 S.next news:=h1
  rw[←h1]
  funext x
  unfold post
  by_cases hx:x∈S'.wr
  ·rw[if_pos hx,if_pos hx]
  ·rw[if_neg hx,if_neg hx]
   show m x=lU m σ bZ back x
   rw[qd]
   intro i ob h1 h2
   cases h3:ob.ro with
   |true=>rfl
   |false=>exact absurd (e1.wr x (l6 i x ob h1 h2 h3)) hx
 have K2:∀(l:List ai) (k j:Nat) (g:Nat→Option ai),j<l.length→im g k l (k+j)=l[j]? :=by
  intro l
  induction l with
  |nil=>intro k j g h;simp at h
  |cons o l ih=>
   intro k j g h
   cases j with
   |zero=>
    show im (cG g k o) (k+1) l (k+0)=_
    rw[yV (.inl (by omega)),aoC,fg]
    rfl
   |succ j=>
    show im (cG g k o) (k+1) l (k+(j+1))=_
    rw[show k+(j+1)=k+1+j by omega,ih (k+1) j _ (by simpa using h)]
    rfl
 -- each name of the caller's: another's, or one of the callee's
 have kY:∀y o,post m S' y=some o→(m y=some o∧ρ' y=ρ y∧∀(i:Nat) (ob:ai),σ[i]?=some y→bZ[i]?=some ob→ob.ro=true)∨
  ∃i o2,τ i=some y∧small i=true∧cq iJ i=some o2∧ON τ o2 o∧o.ro=false∧True∧ρ' y=ρ2 i:=fun y o hy=>by
  rw[EA]at hy
  by_cases e9:S.next≤y∧y<S.next+N
  ·right
   have hj:y-S.next<news.length:=by omega
   rw[show y=S.next+(y-S.next)by omega,K2 news _ _ _ hj]at hy
   have zW:back[σ.length+(y-S.next)]?=some o:=by
    rw[l3,am5 (by omega),show σ.length+(y-S.next)-qW.length=y-S.next by omega]
    exact hy
   have hi:σ.length+(y-S.next)<iJ.length:=by rw[←VF];exact(amy.1 zW).1
   obtain⟨c1,c2,c3⟩:=b3 _ _ o (amt hi) zW (fun ob eO=>by
    have:=(amy.1 eO).1
    omega)
   have xh:small (σ.length+(y-S.next))=true:=gW.2 (by have:(2:Nat)^18=262144:=rfl;omega)
   refine⟨σ.length+(y-S.next),_,?_,xh,by rw[cA xh,amt hi],c1,c2,c3,?_⟩
   ·show(σ++eV S.next N)[σ.length+(y-S.next)]?=some y
    rw[am5 (by omega),Et,if_pos (by omega)]
    congr 1
    omega
   ·have:=KZ (y-S.next) (by omega)
    rwa[show S.next+(y-S.next)=y by omega]at this
  ·rw[yV (by omega)]at hy
   have hy:lU m σ bZ back y=some o:=hy
   by_cases hex:∃(i:Nat) (ob:ai),σ[i]?=some y∧bZ[i]?=some ob∧ob.ro=false
   ·right
    obtain⟨i,ob,h1,h2,h3⟩:=hex
    have e8:i<back.length:=by have:=(amy.1 h1).1;omega
    rw[uI de h1 h2 (amt e8) h3]at hy
    have zW:back[i]?=some o:=by rw[amt e8,←hy]
    have uM:i<iJ.length:=by omega
    obtain⟨c1,c2,c3⟩:=b3 _ _ o (amt uM) zW (fun o8 eO=>by rw[h2]at eO;cases eO;exact h3)
    refine⟨i,_,?_,uK i y h1,by rw[cA (uK i y h1),amt uM],c1,c2,c3,K0 i y h1⟩
    show(σ++eV S.next N)[i]?=some y
    rw[ane (amy.1 h1).1,h1]
   ·left
    have j6:∀(i:Nat) (ob:ai),σ[i]?=some y→bZ[i]?=some ob→ob.ro=true:=fun i ob h1 h2=>by
     cases h3:ob.ro with
     |true=>rfl
     |false=>exact absurd ⟨i,ob,h1,h2,h3⟩ hex
    rw[qd j6]at hy
    exact⟨hy,zV y e9,j6⟩
 have akV:∀i j y,τ i=some y→τ j=some y→i=j:=fun i j y h1 h2=>by
  rcases hτ i y h1 with h3|⟨h3,h4,h5⟩<;>rcases hτ j y h2 with h6|⟨h6,h7,h8⟩
  ·exact sM de h3 h6
  ·exact absurd ⟨by omega,by omega⟩ (Ez i y h3)
  ·exact absurd ⟨by omega,by omega⟩ (Ez j y h6)
  ·omega
 have hold:∀y o q,m y=some o→ρ y=some q→Live o q=true→(∀(i:Nat) (ob:ai),σ[i]?=some y→bZ[i]?=some ob→ob.ro=true)→B1 q.aJ:=fun y o q h1 h2 h3 h4=>by
  obtain⟨oo,h5,_⟩:=hw.live y o q h1 h2 h3
  refine⟨(Array.getElem?_eq_some_iff.1 h5).1,fun i x o' q' g1 g2 g3 g4 g5 e=>?_,fun i x d _ _ hF=>(fb x q.aJ hF).2.2.2 y o q h1 h2 h3 rfl⟩
  obtain⟨o2,g6,g7⟩:=uJ i x g1
  rw[g2]at g6
  cases g6
  have:=hw.inj x y o' o q' q g7 h1 g3 h2 g5 h3 (.inl g4) e
  subst this
  have:=h4 i o' g1 g2
  rw[g4]at this
  cases this
 refine⟨ρ',DH,VG,
  {env:=hw.env
   below:=hw.below.trans ⟨dG.below.os,dG.below.tape,dG.below.output,dG.below.size,fun k hk=>dG.below.block k (pa k hk)⟩
   size:=fun k hk=>aoS (hw.size k hk) dG.below.size
   live:=?_,inj:=?_,fresh:=?_,rows:=?_,nil:=?_,named:=?_,abs:=?_}⟩
 ·intro y o q hy hq hl
  rcases kY y o hy with⟨h1,h2,h3⟩|⟨i,o2,h1,h2,h3,h4,h5,_,h6⟩
  ·rw[h2]at hq
   obtain⟨oo,g1,g2,g3⟩:=hw.live y o q h1 hq hl
   exact⟨oo,by rw[dG.below.block _ (hold y o q h1 hq hl h3)];exact g1,g2.mono DH,g3⟩
  ·rw[h6]at hq
   obtain⟨oo,g1,g2,g3⟩:=dG.live i o2 q h3 hq (h4.live hl).1
   exact⟨oo,g1,h4.or K1 hl oo g2,fun db hb=>g3 ((h4.live hl).2 db) (pa _ hb)⟩
 ·intro x y ox oy rx ry hx hy ke cm kg cT hd he
  rcases kY x ox hx with⟨h1,h2,h3⟩|⟨i,o2,h1,h2,h3,h4,h5,_,h6⟩<;>rcases kY y oy hy with⟨g1,g2,g3⟩|⟨j,o3,g1,g2,g3,g4,g5,_,g6⟩
  ·rw[h2]at ke
   rw[g2]at cm
   exact hw.inj x y ox oy rx ry h1 g1 ke cm kg cT hd he
  ·rw[h2]at ke
   rw[g6]at cm
   obtain⟨_,_,_,g7⟩:=dG.live j o3 ry g3 cm (g4.live cT).1
   exact absurd (hold x ox rx h1 ke kg h3) (he▸g7 ((g4.live cT).2 g5))
  ·rw[h6]at ke
   rw[g2]at cm
   obtain⟨_,_,_,h7⟩:=dG.live i o2 rx h3 ke (h4.live kg).1
   exact absurd (hold y oy ry g1 cm cT g3) (he▸h7 ((h4.live kg).2 h5))
  ·rw[h6]at ke
   rw[g6]at cm
   have:=dG.inj i j o2 o3 rx ry h3 g3 ke cm (h4.live kg).1 (g4.live cT).1 (.inl ((h4.live kg).2 h5)) he
   subst this
   rw[h1]at g1
   cases g1
   rfl
 ·intro y hy
  by_cases e9:S.next≤y∧y<S.next+N
  ·rw[EA,show y=S.next+(y-S.next)by omega,K2 news _ _ _ (by omega)]at hy
   rw[aob]at hy
   omega
  ·rw[EA,yV (by omega)]at hy
   have hy:lU m σ bZ back y=none:=hy
   rw[zV y e9]
   by_cases hex:∃(i:Nat) (ob:ai),σ[i]?=some y∧bZ[i]?=some ob∧ob.ro=false
   ·obtain⟨i,ob,h1,h2,h3⟩:=hex
    have e8:i<back.length:=by have:=(amy.1 h1).1;omega
    rw[uI de h1 h2 (amt e8) h3]at hy
    cases hy
   ·rw[qd (fun i ob h1 h2=>by
     cases h3:ob.ro with
     |true=>rfl
     |false=>exact absurd ⟨i,ob,h1,h2,h3⟩ hex)]at hy
    exact hw.fresh y hy
 ·intro y n size row hy
  rcases kY y _ hy with⟨h1,h2,h3⟩|⟨i,o2,h1,h2,h3,h4,h5,_,h6⟩
  ·obtain⟨q,g1,g2⟩:=hw.rows y n size row h1
   exact⟨q,by rw[h2];exact g1,g2⟩
  ·cases h5
 ·intro y el ro q hy hq
  rcases kY y _ hy with⟨h1,h2,h3⟩|⟨i,o2,h1,h2,h3,h4,h5,_,h6⟩
  ·rw[h2]at hq;exact hw.nil y el ro q h1 hq
  ·rw[h6]at hq
   cases h4 with
   |plain=>exact dG.nil i el ro q h3 hq
   |cells c _ _ _ h=>
    cases c with
    |nil=>exact dG.nil i el ro q h3 hq
    |cons v c=>have:=sK h;simp at this
 ·intro y o hy zU
  rcases kY y o hy with⟨h1,h2,h3⟩|⟨i,o2,h1,h2,h3,h4,h5,_,h6⟩
  ·rw[h2];exact hw.named y o h1 zU
  ·rw[h6];exact dG.named i o2 h3 (h4.ne zU)
 ·obtain⟨F2,ga,gb,gc⟩:=dG.abs
  have xe:∀(y:Nat) (d:kU) (k:Nat),(∀(i:Nat) (ob:ai),σ[i]?=some y→bZ[i]?=some ob→ob.ro=true)→F y k→B1 k:=fun y d k db hk=>by
   obtain⟨_,b2,b3,b4⟩:=fb y k hk
   refine⟨b2,fun i x o q g1 g2 g3 g4 g5=>?_,fun i x d' g1 g2 hF=>?_⟩
   ·obtain⟨o2,g6,g7⟩:=uJ i x g1
    rw[g2]at g6
    cases g6
    exact b4 x o q g7 g3 g5
   ·have:=fc x y k hF hk
    subst this
    have:=db i _ g1 g2
    cases this
  refine⟨fun y k=>(∃d,post m S' y=some (.abs d)∧F y k∧B1 k)∨∃i d,τ i=some y∧post m S' y=some (.abs d)∧F2 i k,fun y d hy=>?_,fun y k hk=>?_,fun y1 y2 k uN jO=>?_⟩
  ·rcases kY y _ hy with⟨h1,h2,h3⟩|⟨i,o2,h1,h2,h3,h4,h5,_,h6⟩
   ·obtain⟨r,S,c,e,f⟩:=fa y d h1
    exact⟨r,S,by rw[h2,c],e.frame fun k hk=>dG.below.block k (xe y d k h3 (f k hk)),fun k hk=>.inl ⟨d,hy,f k hk,xe y d k h3 (f k hk)⟩⟩
   ·cases h4
    obtain⟨r,S,c,e,f⟩:=ga i d h3
    exact⟨r,S,by rw[h6,c],e,fun k hk=>.inr ⟨i,d,h1,hy,f k hk⟩⟩
  ·rcases hk with⟨d,p1,p3,p4⟩|⟨i,d,p1,p2,p4⟩
   ·obtain⟨_,b2,b3,b4⟩:=fb y k p3
    refine⟨⟨d,p1⟩,aoS b2 dG.below.size,b3,fun z o r hz hr hl=>?_⟩
    rcases kY z o hz with⟨h1,h2,h3⟩|⟨i,o2,h1,h2,h3,h4,h5,_,h6⟩
    ·rw[h2]at hr;exact b4 z o r h1 hr hl
    ·rw[h6]at hr
     obtain⟨_,_,_,g3⟩:=dG.live i o2 r h3 hr (h4.live hl).1
     exact fun e=>g3 ((h4.live hl).2 h5) (e▸p4)
   ·obtain⟨_,q2,q3,q4⟩:=gb i k p4
    refine⟨⟨d,p2⟩,q2,fun hB=>q3 (pa k hB),fun z o r hz hr hl=>?_⟩
    rcases kY z o hz with⟨h1,h2,h3⟩|⟨j,o2,h1,h2,h3,h4,h5,_,h6⟩
    ·rw[h2]at hr;exact fun e=>q3 (e▸hold z o r h1 hr hl h3)
    ·rw[h6]at hr;exact q4 j o2 r h3 hr (h4.live hl).1
  ·rcases uN with⟨d,p1,p3,p4⟩|⟨i,d,p1,p2,p4⟩<;>rcases jO with⟨d',s1,s3,s4⟩|⟨j,d',s1,s2,s4⟩
   ·exact fc y1 y2 k p3 s3
   ·exact absurd p4 (gb j k s4).2.2.1
   ·exact absurd s4 (gb i k p4).2.2.1
   ·have:=gc i j k p4 s4
    subst this
    rw[p1]at s1
    cases s1
    rfl
end
def zX(P:amF)(lW:amY→Option Sum)(base:fo):fo:=fun f args S=>match lW f with
 |some s=>(zM P s args S).dt
 |none=>base f args S
def sR(P:amF)(lW:amY→Option Sum)(base:cx):cx:=fun f args S=>match lW f with
 |some s=>(zM P s args S).run
 |none=>base f args S
def dE(P:amF)(lW:amY→Option Sum)(lf d:Nat):fo:=zX P lW (qS P (zX P lW) lf d)
theorem dJ{P:amF}(hP:hI P=true)(fh:P.follows .mixedOrders=true){lW:amY→Option Sum}(ht:∀f s,lW f=some s→bp P f s)(lf d:Nat):dg P (dE P lW lf d):=by
 have h1:∀call,gJ P call→gJ P (sR P lW call):=fun call hc=>
  {ext:=by
    intro f args S r S' h
    unfold sR at h
    split at h
    ·rename_i s hs
     obtain⟨A⟩:=KW h
     exact A.ext
    ·exact hc.ext h
   ok:=by
    intro f args S r S' h B w₀ ρ m w args' ha hw hm
    unfold sR at h
    split at h
    ·rename_i s hs
     obtain⟨A⟩:=KW h
     exact A.call (ht f s hs) ha hw hm
    ·exact hc.ok h ha hw hm}
 have h2:∀(c:fo) (c':cx),(∀f args S r,(c f args S).Has r→c' f args S=some r)→∀f args S r,(zX P lW c f args S).Has r→sR P lW c' f args S=some r:=by
  intro c c' hc f args S r h
  unfold zX at h
  unfold sR
  split at h
  ·exact QT.Vv h
  ·exact hc f args S r h
 exact⟨sR P lW (lG P (sR P lW) lf d),h1 _ (Kj hP fh h1 lf d),h2 _ _ fun f args S r h=>D9 P h2 lf h⟩
end Go.Proofs.Ytnlkkgpcikkpoaa.Vm
namespace Go.Proofs.Ytnlkkgpcikkpoaa.Vm
open Go.RowKit
theorem al.done{P:amF}{n k:Nat}{l:List am3}{d:aj}{Q:bf→aj→Prop}(hl:l.isEmpty=true)(h:Q .normal d):al P n k l d Q:=by
 cases l with
 |nil=>exact al.nil h
 |cons c l=>cases hl
def dy(P:amF)(f:amY):am3:=match(P.funcs[f]?).bind (·.body)with
 |some c=>c
 |none=>.skip
def rc(P:amF)(f:amY):List ResultVar:=match P.funcs[f]?with
 |some fn=>fn.results.toList
 |none=>[]
def ct(P:amF)(f:amY):Nat:=match P.funcs[f]?with
 |some fn=>fn.ntmps
 |none=>0
def K3(P:amF)(f:amY)(n:Nat)(Q:bL→List ai→Prop):bf→aj→Prop
 | .normal,d=>∃vs l,(∀u,(gG P (ee n u d.sl) (rc P f)).run (gt (kE d.objs).mem)=some (vs,l))∧Q (.ret (mg vs)) d.objs
 | .ret,d=>∃vs l,(∀u,(gG P (ee n u d.sl) (rc P f)).run (gt (kE d.objs).mem)=some (vs,l))∧Q (.ret (mg vs)) d.objs
 | .panic v,d=>Q (.panic v) d.objs
 |_,_=>False
theorem aG.of{P:amF}{f:amY}{n:Nat}{args:List amn}{objs:List ai}{Q:bL→List ai→Prop}
 (hf:(((P.funcs[f]?).bind (·.body)).isSome&&amE (ct P f) n&&amO args.length n&&amO n 1024&&amO objs.length 262144)=true)
 (h:al P n objs.length (ba (dy P f)) ⟨uF args 0,objs⟩ (K3 P f n Q)):aG P f args objs Q:=by
 simp only[amB]at hf
 obtain⟨⟨⟨⟨h1,h2⟩,h3⟩,h4⟩,h5⟩:=hf
 cases gh:P.funcs[f]?with
 |none=>rw[gh]at h1;cases h1
 |some fn=>
  cases hb:fn.body with
  |none=>rw[gh]at h1;dsimp only[aqL]at h1;rw[hb]at h1;cases h1
  |some c=>
   have e1:dy P f=c:=by unfold dy;rw[gh];dsimp only[aqL];rw[hb]
   have e2:rc P f=fn.results.toList:=by unfold rc;rw[gh]
   have e3:fn.ntmps=n:=by have:=amI h2;unfold ct at this;rw[gh]at this;exact this
   subst e3
   refine aG.Vt gh hb (by rw[h3,h4,h5];rfl) ?_
   rw[e1]at h
   refine h.mono fun x d' hx=>?_
   unfold K3 at hx
   rw[e2]at hx
   cases x<;>exact hx
def ag(b:ByteArray):List amn:=b.data.toList.map fun x=>.int .u8 x.toNat
def ao(l:List ByteArray):List amn:=l.map Value.string
def aq(l:List Int):List amn:=l.map (amu .i64)
theorem mB(b:ByteArray):(ag b).length=b.size:=by unfold ag;simp
theorem xj(l:List ByteArray):(ao l).length=l.length:=by unfold ao;simp
theorem EB(l:List Int):(aq l).length=l.length:=by unfold aq;simp
theorem aI(b:ByteArray):(ag b).all af=true:=by unfold ag;rw[List.all_map];exact am1.2 fun _ _=>rfl
theorem aN(l:List ByteArray):(ao l).all af=true:=by unfold ao;simp[af]
theorem aS(l:List Int):(aq l).all af=true:=by unfold aq;simp[af]
theorem aB{a b:List amn}(ha:a.all af=true)(hb:b.all af=true):(a++b).all af=true:=by rw[List.all_append,ha,hb];rfl
theorem aO{a:List amn}(ha:a.all af=true)(n:Nat):(a.drop n).all af=true:=by
 rw[am1]at ha⊢
 exact fun x hx=>ha x (List.mem_of_mem_drop hx)
theorem aA{a:List amn}(ha:a.all af=true)(n:Nat):(a.take n).all af=true:=by
 rw[am1]at ha⊢
 exact fun x hx=>ha x (List.mem_of_mem_take hx)
theorem aD{a b:List amn}(ha:a.all af=true)(hb:b.all af=true)(n:Nat):(amk a n b).all af=true:=by
 unfold amk
 exact aB (aB (aA ha n) hb) (aO ha _)
theorem aP(b:List UInt8):(b.map fun x=>amu .u8 (x.toNat:Int)).all af=true:=by simp[af]
theorem sS{c:List amn}(h:c.all af=true):c.all ano=true:=by
 rw[am1]at h⊢
 intro x hx
 have:=h x hx
 cases x<;>first|rfl|cases this
theorem K4:∀l:List UInt8,bytesOf (l.map fun x=>amu .u8 (x.toNat:Int))=some l
 | []=>rfl
 |x::l=>by
  simp only[ani,bytesOf,K4 l]
  simp
theorem EC{l:List Int}{i:Nat}(h:i<l.length):au (aq l) i=l[i]:=by unfold au aq;simp[h]
theorem ED{l:List Int}{i:Nat}(h:i<l.length):cy .i64 (aq l) i=true:=by unfold cy aq;simp[h]
theorem K5{l:List ByteArray}{i:Nat}(h:i<l.length):a8 (ao l) i=l[i]:=by unfold a8 ao;simp[h]
theorem K6{l:List ByteArray}{i:Nat}(h:i<l.length):eB (ao l) i=true:=by unfold eB ao;simp[h]
theorem K7{b:ByteArray}{i:Nat}(h:i<b.size):au (ag b) i=(b[i].toNat:Int):=by
 unfold au ag
 have:i<b.data.toList.length:=by simpa using h
 simp only[anT,amt this,anL]
 rfl
theorem K8{b:ByteArray}{i:Nat}(h:i<b.size):cy .u8 (ag b) i=true:=by
 unfold cy ag
 have:i<b.data.toList.length:=by simpa using h
 simp[anT,amt this]
theorem mC{x:Int}(h0: -9223372036854775808≤x)(h1:x≤9223372036854775807):amA.wrap x=x:=by
 rw[IntKind.wrap_i64];omega
end Go.Proofs.Ytnlkkgpcikkpoaa.Vm
