/- Part of the proof: Dkb, Dkj, Srp, Soa, Srt, Sru, Sod, Srv, Sob, Srw, Soc, Srx, Soe, Sry, Sof, Srz, Sog, Sr1, Soh, Sr2, Sr3, Sop, Sr6, Sr4, Sou, Sos, Sr5, Sr7, Spr, Sps, Spc, Spt, Dkp, Dkg, Dkc, Dkd, Dke. -/
import Derived.Test.YtnlkkgpcikkpoaaJAe
import Derived.Sort.Defs
import Derived.KernelRfl
import Derived.Sort.LotC
import Derived.Sort.LotA
import Derived.Sort.LotD5
import Derived.Sort.LotD4
import Derived.Sort.LotD3
import Derived.Sort.AssemblyPlain
import Derived.Sort.Walk13a
import Derived.WalkKit
open BitVec renaming ofInt→anG,toNat→aol
open Classical renaming propDecidable→amR
open Go renaming Code→am3,FuncId→amY,MapEntry→amW,Value→amn
open Go.Addr renaming mk→apP
open Go.Fn renaming func→aqu
open Go.Instr renaming lookup→aoD
open Go.IntKind renaming i64→amA,u64→anc,u8→amJ,wrap→aml
open Go.MapEntry renaming mk→anO
open Go.Proofs.Try renaming prog→anm,prog→asz
open Go.Result renaming andThen_ok→amo
open Go.Sem renaming run_bind→amp,run_pure→am6
open Go.Sort renaming bitsLen→asd,heapBuild→arT,heapPop→asc,insInner→ar0,partEqLoop→arM,partLoop→ar2,pdq→asx,siftDown→ar1
open Go.Value renaming func→apw,int→amu,map→aoG,oneCell'→ano,pointer→anx
open Int renaming fdiv→anS,le_refl→aqY,toNat→amm
open List renaming all→amq,all_eq_true→am1,append_nil→anV,drop→an4,findIdx?_eq_none_iff→aqH,findIdx?_eq_some_iff_getElem→apT,getElem?_eq_getElem→amt,length→mM,length_cons→am9,map→am0,map_append→anh,map_cons→ani,mem_append→amU,mem_append_left→anR,mem_append_right→anu,mem_cons→amH,mem_cons_of_mem→amK,mem_cons_self→amN,mem_of_getElem?→am8,nodup_append→ans,nodup_cons→anP,not_mem_nil→ana,take→amM
open Nat renaming ble→amO,blt→amG,lt_trans→ase,mul_one→aoQ,zero_le→ann
open Option.some renaming injEq→amr
open Prod.mk renaming injEq→amv
set_option linter.unusedVariables false
set_option linter.unusedSimpArgs false
namespace Go.Proofs.Ytnlkkgpcikkpoaa
open Go Vm Go.RowKit
set_option maxRecDepth 100000
def cI(sc:List (Int×Int))(c:Int):Int:=match sc.findIdx? (fun x=>x.1==c)with
 |some i=>i
 |none=> -1
theorem Wv{sc:List (Int×Int)}{c:Int}{j:Nat}(hj:j<sc.length)(h1:∀i,i<j→∀x,sc[i]?=some x→(x.1==c)=false)(h2:(sc[j].1==c)=true):cI sc c=j:=by
 unfold cI
 have:sc.findIdx? (fun x=>x.1==c)=some j:=by
  rw[apT]
  exact⟨hj,h2,fun i hi=>by rw[h1 i hi _ (amt (by omega))];simp⟩
 rw[this]
theorem LL{sc:List (Int×Int)}{c:Int}(h1:∀i,i<sc.length→∀x,sc[i]?=some x→(x.1==c)=false):cI sc c= -1:=by
 unfold cI
 have:sc.findIdx? (fun x=>x.1==c)=none:=by
  rw[aqH]
  intro x hx
  obtain⟨i,hi,rfl⟩:=List.getElem_of_mem hx
  exact h1 i hi _ (amt hi)
 rw[this]
theorem LN(sc:List (Int×Int)):(aF sc).length=2*sc.length:=by
 unfold aF
 induction sc with
 |nil=>rfl
 |cons x l ih=>rw[ani,List.flatten_cons,List.length_append,ih,am9,am9,am9,List.length_nil];omega
theorem LO(x:Int×Int)(l:List (Int×Int)):aF (x::l)=.int .i64 x.1:: .int .i64 x.2::aF l:=rfl
theorem LP:∀(sc:List (Int×Int)) (i:Nat) (h:i<sc.length),(aF sc)[2*i]?=some (.int .i64 sc[i].1)∧(aF sc)[2*i+1]?=some (.int .i64 sc[i].2)
 | [],i,h=>by cases h
 |x::l,0,h=>⟨rfl,rfl⟩
 |x::l,i+1,h=>by
  obtain⟨a,b⟩:=LP l i (by simpa using h)
  rw[LO,show 2*(i+1)=2*i+1+1 by omega]
  exact⟨by simpa using a,by simpa using b⟩
theorem a9(sc:List (Int×Int)):(aF sc).all af=true:=by
 induction sc with
 |nil=>rfl
 |cons x l ih=>rw[LO];simpa[af]using ih
theorem nZ{sc:List (Int×Int)}{j:Int}(h0:0≤j)(h:j<sc.length):cy amA (aF sc) (0+amm j*2)=true∧cy amA (aF sc) (0+amm j*2+1)=true∧
 au (aF sc) (0+amm j*2)=(sc[j.toNat]'(by omega)).1∧au (aF sc) (0+amm j*2+1)=(sc[j.toNat]'(by omega)).2∧amO (0+amm j*2+2) (mM (aF sc))=true:=by
 obtain⟨a,b⟩:=LP sc j.toNat (by omega)
 rw[show 2*j.toNat=0+j.toNat*2 by omega]at a b
 refine⟨?_,?_,?_,?_,Nat.ble_eq_true_of_le (by rw[LN];omega)⟩
 ·unfold cy;rw[a];rfl
 ·unfold cy;rw[b];rfl
 ·unfold au;rw[a]
 ·unfold au;rw[b]
structure tb(sc:List (Int×Int))(c j:Int):Prop where
 a:0≤j
 b:j≤sc.length
 c:∀i,i<j.toNat→∀x,sc[i]?=some x→(x.1==c)=false
theorem tb.next{sc:List (Int×Int)}{c j:Int}(h:tb sc c j)(hlt:j<sc.length)(hd:(au (aF sc) (0+amm j*2)==c)=false):tb sc c (j+1):=
 ⟨by have:=h.a;omega,by omega,fun i hi x hx=>by
  have ha:=h.a
  by_cases ia:i<j.toNat
  ·exact h.c i ia x hx
  ·have e:i=j.toNat:=by omega
   subst e
   rw[(nZ ha hlt).2.2.1]at hd
   rw[amt (by omega)]at hx
   cases hx
   exact hd⟩
theorem tb.found{sc:List (Int×Int)}{c j:Int}(h:tb sc c j)(hlt:j<sc.length)(hd:(au (aF sc) (0+amm j*2)==c)=true):cI sc c=j:=by
 have ha:=h.a
 rw[(nZ ha hlt).2.2.1]at hd
 rw[Wv (j:=j.toNat) (by omega) h.c hd]
 omega
theorem LQ(sc:List (Int×Int))(c:Int):(cI sc c= -1∧sc.find? (fun x=>x.1==c)=none)∨∃i,∃h:i<sc.length,cI sc c=(i:Int)∧sc.find? (fun x=>x.1==c)=some sc[i]:=by
 unfold cI
 cases h:sc.findIdx? (fun x=>x.1==c)with
 |none=>exact .inl ⟨rfl,by rw[List.find?_eq_none];rw[aqH]at h;intro x hx;simpa using h x hx⟩
 |some i=>
  obtain⟨h1,h2,h3⟩:=apT.1 h
  refine .inr ⟨i,h1,rfl,?_⟩
  rw[List.find?_eq_some_iff_getElem]
  exact⟨h2,i,h1,rfl,fun k hk=>by simpa using h3 k hk⟩
def z6(e:amW):Bool:=af e.key&&match e.val with
 | .pointer (some ⟨b,_,none⟩)=>amG b 6
 | .pointer (some ⟨_,_,some _⟩)=>true
 |_=>false
def b8(es:List amW):Bool:=es.all z6
theorem b8.LS{es:List amW}(h:b8 es=true){τ:Nat→Option Nat}(hτ:∀y,y<6→τ y=some y):(es.map (dM τ)).all af=true:=by
 rw[List.all_map,am1]
 intro e he
 have h:=am1.1 h e he
 unfold z6 at h
 rw[Bool.and_eq_true]at h
 have hk:qa τ e.key=true:=by
  have h1:=h.1
  unfold af at h1
  split at h1<;>first|(rename_i sy;rw[sy];rfl)|cases h1
 have hv:qa τ e.val=true:=by
  have h2:=h.2
  split at h2
  ·rename_i b o hb
   rw[hb]
   unfold qa
   dsimp only
   rw[hτ b (dI.1 h2)]
   exact Nat.beq_refl b
  ·rename_i hb;rw[hb];rfl
  ·cases h2
 show af (dM τ e)=true
 unfold dM
 rw[hk,hv]
 rfl
theorem Ww{k n:Nat}(hk:6≤k)(y:Nat)(hy:y<6)(l:List Nat):([0,1,2,3,4,5]++l)[y]?=some y:=by
 rw[List.getElem?_append_left (by simpa using hy)]
 have:y=0∨y=1∨y=2∨y=3∨y=4∨y=5:=by omega
 rcases this with rfl|rfl|rfl|rfl|rfl|rfl<;>rfl
theorem Wx(y:Nat)(hy:y<6)(l:List Nat):eI ([0,1,2,3,4,5]++l) y=some y:=by
 have:y=0∨y=1∨y=2∨y=3∨y=4∨y=5:=by omega
 rcases this with rfl|rfl|rfl|rfl|rfl|rfl<;>rfl
theorem b8.idx{es:List amW}(h:b8 es=true)(l:List Nat):(bu ([0,1,2,3,4,5]++l) es).all af=true:=b8.LS h fun y hy=>Wx y hy l
theorem b8.qj{es:List amW}(h:b8 es=true)(l:List Nat):(es.map (dM fun i=>([0,1,2,3,4,5]++l)[i]?)).all af=true:=b8.LS h fun y hy=>Ww (k:=6) (n:=0) (Nat.le_refl _) y hy l
def dN:List Nat:=[0,1,2,3,4,5]
def jP:List Nat:=[0,1,2,3,4,5,6]
def fx(sc:List (Int×Int))(x0:List amn)(es:List amW)(ck nb:Nat)(f5:List amn)(dm dc dr:Int):List ai:=[.cells [.slice (some ⟨2,0,none⟩) sc.length sc.length,.map (some 3),.int .i64 dm,.int .i64 (dc),.int .i64 (dr)] 70 false,.cells x0 5 false,.cells (aF sc) 67 false,.map es ck,.cells [.slice (some ⟨5,0,none⟩) nb nb] 174 false,.cells f5 5 false]
def Wy(sc:List (Int×Int))(x0:List amn)(es:List amW)(ck nb:Nat)(f5:List amn)(dm dc dr:Int)(j:Int):aj:=⟨[(0,.slice (some ⟨2,0,none⟩) sc.length sc.length),(1,.func (.func 115) #[] #[.pointer (some ⟨6,0,none⟩)]),(7,.int .i64 sc.length),(8,.int .i64 j)],fx sc x0 es ck nb f5 dm dc dr++[.cells [.pointer (some ⟨0,0,none⟩)] 33 false]⟩
theorem Wz(sc:List (Int×Int))(x0:List amn)(es:List amW)(ck nb:Nat)(f5:List amn)(dm dc dr:Int)(hs:sc.length≤1000000)(h0:x0.all af=true)(h3:(bu jP es).all af=true)(h5:f5.all af=true):aG asz 114 [.slice (some ⟨2,0,none⟩) sc.length sc.length,.func (.func 115) #[] #[.pointer (some ⟨6,0,none⟩)]] (fx sc x0 es ck nb f5 dm dc dr++[.cells [.pointer (some ⟨0,0,none⟩)] 33 false])
 fun r o=>r=.ret (.int .i64 (cI sc dc))∧o=fx sc x0 es ck nb f5 dm dc dr++[.cells [.pointer (some ⟨0,0,none⟩)] 33 false]:=by
 refine aG.cM (n:=ct asz 114) (by kernel_rfl) ?_
 have hp:=a9 sc
 apply Wg sc x0 es ck nb f5 dm dc dr<;>try assumption
 intros
 refine al.eJ 2 0 (by kernel_rfl) ?_
 refine al.fJ (Wy sc x0 es ck nb f5 dm dc dr) (fun j=>(sc.length-j).toNat) (tb sc dc) 0 (by kernel_rfl) ⟨aqY 0,by omega,fun i hi=>by simp at hi⟩ ?_
 intro j hj
 have ha:=hj.a
 apply Wj sc x0 es ck nb f5 dm dc dr j hj.a<;>try assumption
 case n0=>intro g;exact(nZ ha (of_decide_eq_true g)).2.2.2.2
 case n1=>intro g;exact(nZ ha (of_decide_eq_true g)).1
 case n2=>intro g;exact(nZ ha (of_decide_eq_true g)).2.1
 case l7=>
  intro g g1
  have g:=of_decide_eq_true g
  with_reducible (repeat first|refine QL.ret ?_|refine QL.exit ?_|refine QB.ret ?_|refine QB.ci ?_|refine QB.normal ?_|refine QB.cu (by rfl) ?_)
  exact Wh sc x0 es ck nb f5 dm dc dr j h0 hp h3 h5 ⟨by rw[hj.found g g1],rfl⟩
 case l8=>
  intro g g1
  have g:=of_decide_eq_true g
  have hw:aml amA (j+1)=j+1:=mC (by omega) (by omega)
  exact QL.to (j+1) (hj.next g g1) (by omega) (by unfold LG;rw[hw];rfl)
 case l9=>
  intro g
  have g:=of_decide_eq_false g
  with_reducible (repeat first|refine QL.ret ?_|refine QL.exit ?_|refine QB.ret ?_|refine QB.ci ?_|refine QB.normal ?_|refine QB.cu (by rfl) ?_)
  refine Wl sc x0 es ck nb f5 dm dc dr ?_ ?_ ?_ ?_ ?_<;>try assumption
  intros
  exact Wk sc x0 es ck nb f5 dm dc dr h0 hp h3 h5 ⟨by rw[LL fun i hi=>hj.c i (by omega)],rfl⟩
def fq(sc:List (Int×Int))(x0:List amn)(es:List amW)(ck nb:Nat)(f5:List amn)(dm dc dr:Int):List ai:=[.cells [.slice (some ⟨2,0,none⟩) sc.length sc.length,.map (some 3),.int .i64 dm,.int .i64 (dc),.int .i64 (dr)] 70 false,.cells x0 5 false,.cells (aF sc) 67 false,.map es ck,.cells [] 174 false,.cells f5 5 false]
def WA(sc:List (Int×Int))(x0:List amn)(es:List amW)(ck nb:Nat)(f5:List amn)(dm dc dr:Int)(j:Int):aj:=⟨[(0,.slice (some ⟨2,0,none⟩) sc.length sc.length),(1,.func (.func 115) #[] #[.pointer (some ⟨6,0,none⟩)]),(7,.int .i64 sc.length),(8,.int .i64 j)],fq sc x0 es ck nb f5 dm dc dr++[.cells [.pointer (some ⟨0,0,none⟩)] 33 false]⟩
theorem WB(sc:List (Int×Int))(x0:List amn)(es:List amW)(ck nb:Nat)(f5:List amn)(dm dc dr:Int)(hs:sc.length≤1000000)(h0:x0.all af=true)(h3:(bu jP es).all af=true)(h5:f5.all af=true):aG asz 114 [.slice (some ⟨2,0,none⟩) sc.length sc.length,.func (.func 115) #[] #[.pointer (some ⟨6,0,none⟩)]] (fq sc x0 es ck nb f5 dm dc dr++[.cells [.pointer (some ⟨0,0,none⟩)] 33 false])
 fun r o=>r=.ret (.int .i64 (cI sc dc))∧o=fq sc x0 es ck nb f5 dm dc dr++[.cells [.pointer (some ⟨0,0,none⟩)] 33 false]:=by
 refine aG.cM (n:=ct asz 114) (by kernel_rfl) ?_
 have hp:=a9 sc
 apply Wo sc x0 es ck nb f5 dm dc dr<;>try assumption
 intros
 refine al.eJ 2 0 (by kernel_rfl) ?_
 refine al.fJ (WA sc x0 es ck nb f5 dm dc dr) (fun j=>(sc.length-j).toNat) (tb sc dc) 0 (by kernel_rfl) ⟨aqY 0,by omega,fun i hi=>by simp at hi⟩ ?_
 intro j hj
 have ha:=hj.a
 apply Wr sc x0 es ck nb f5 dm dc dr j hj.a<;>try assumption
 case n0=>intro g;exact(nZ ha (of_decide_eq_true g)).2.2.2.2
 case n1=>intro g;exact(nZ ha (of_decide_eq_true g)).1
 case n2=>intro g;exact(nZ ha (of_decide_eq_true g)).2.1
 case l7=>
  intro g g1
  have g:=of_decide_eq_true g
  with_reducible (repeat first|refine QL.ret ?_|refine QL.exit ?_|refine QB.ret ?_|refine QB.ci ?_|refine QB.normal ?_|refine QB.cu (by rfl) ?_)
  exact Wp sc x0 es ck nb f5 dm dc dr j h0 hp h3 h5 ⟨by rw[hj.found g g1],rfl⟩
 case l8=>
  intro g g1
  have g:=of_decide_eq_true g
  have hw:aml amA (j+1)=j+1:=mC (by omega) (by omega)
  exact QL.to (j+1) (hj.next g g1) (by omega) (by unfold LJ;rw[hw];rfl)
 case l9=>
  intro g
  have g:=of_decide_eq_false g
  with_reducible (repeat first|refine QL.ret ?_|refine QL.exit ?_|refine QB.ret ?_|refine QB.ci ?_|refine QB.normal ?_|refine QB.cu (by rfl) ?_)
  refine Wu sc x0 es ck nb f5 dm dc dr ?_ ?_ ?_ ?_ ?_<;>try assumption
  intros
  exact Wt sc x0 es ck nb f5 dm dc dr h0 hp h3 h5 ⟨by rw[LL fun i hi=>hj.c i (by omega)],rfl⟩
end Go.Proofs.Ytnlkkgpcikkpoaa
namespace Go.Proofs.Ytnlkkgpcikkpoaa
open Go Vm Go.RowKit
set_option maxRecDepth 100000
set_option maxHeartbeats 1000000
structure Left(d:ay)(eR:List amW)(L2:List (Nat×CO))(o':List ai)(K:List Nat)(d':ay):Prop where
 it:∃A R C eA eM eC F eF LA LM LC ck,d.files=A++(R++C)∧eR=eA++(eM++eC)∧L2=LA++(LM++LC)∧fA A eA LA∧fA C eC LC∧d'.script=d.script∧d'.files=A++(F++C)∧
  o'[0]?=some (.cells [.slice (some ⟨2,0,none⟩) d.script.length d.script.length,.map (some 3),.int .i64 d'.made,.int .i64 d'.calls,.int .i64 d'.raw] 70 false)∧
  o'[3]?=some (.map (bU eA++(eF++bU eC)) ck)∧rh o' K F eF
 row:o'[2]?=some (.cells (aF d.script) 67 false)
 k2:K.contains 2=true
 k3:K.contains 3=true
 own:∀o∈o',o.ro=false
 bS:o'.length≤262144
theorem u5{c:List amn}(h:c.all af=true):c.all fl=true:=by
 rw[am1]at h⊢
 intro v hv
 have:=h v hv
 unfold af at this
 split at this<;>first|rfl|cases this
theorem z7{a b:Nat}{X Y:List Nat}(h:(a::b::(X++Y)).Nodup):a≠b∧a∉X∧a∉Y∧b∉X∧b∉Y∧∀x∈X,x∉Y:=by
 simp only[anP,amH,amU,not_or]at h
 obtain⟨⟨h1,h2,h3⟩,⟨h4,h5⟩,h6⟩:=h
 exact⟨h1,h2,h3,h4,h5,fun x hx hy=>(ans.1 h6).2.2 x hx x hy rfl⟩
theorem oc(sc:List (Int×Int)):(aF sc).length=sc.length*2:=by rw[LN,Nat.mul_comm]
theorem aG.z8{f:amY}{args:List amn}{d:ay}{x0:List amn}{Q:bL→List ai→Prop}(h:∀eR L2 ck,fA d.files eR L2→aG asz f args (fq d.script [] (bU eR) ck 0 [] d.made d.calls d.raw) fun v o'=>∃d' K,Left d eR L2 o' K d'∧Q v (closed d' K o')):aG asz f args (.abs d::[]) Q:=by
 refine aG.uT fun w r S L hG jf hL=>?_
 obtain⟨eo,v,m,es,ck,L1,L2,lY,ll,da⟩:=jf
 have tc:∀p∈L1,eH w p.1 p.2:=fun p hp=>hL.at_ p (by rw[da];simp[hp])
 obtain⟨qs,od,ln,td⟩:=uZ lY tc (oc _)
 have de:=hL.gp
 rw[da]at de
 simp only[ani,anh]at de
 obtain⟨n1,n2,n3,n4,n5,n6⟩:=z7 de
 refine⟨.cells [.slice (some ⟨2,0,none⟩) d.script.length d.script.length,.map (some 3),.int .i64 d.made,.int .i64 d.calls,.int .i64 d.raw] 70 false,[(⟨0,0,1,0⟩,.cells [] 5 false),(qs,.cells (aF d.script) 67 false),(⟨m,0,0,0⟩,.map (bU es) ck),(⟨0,0,1,0⟩,.cells [] 174 false),(⟨0,0,1,0⟩,.cells [] 5 false)],_,⟨?_,?_,?_,?_⟩,by simp,h es L2 ck ll,?_⟩
 ·intro p hp
  simp only[amH,ana,or_false]at hp
  rcases hp with rfl|rfl|rfl|rfl|rfl|rfl<;>exact⟨rfl,by intro d' e;cases e⟩
 ·intro p hp el ro he n hn
  simp only[amH,ana,or_false]at hp
  rcases hp with rfl|rfl|rfl|rfl|rfl|rfl
  ·cases he
  ·cases he;rw[qi]at hn;cases hn;rfl
  ·injection he with e1 e2 e3;subst e2;rw[pd]at hn;cases hn;exact od
  ·cases he
  ·cases he;rw[z3]at hn;cases hn;rfl
  ·cases he;rw[qi]at hn;cases hn;rfl
 ·intro ρ sX hρ p hp hl
  have te:ρ 2=some qs:=hρ 1 _ rfl
  have tf:ρ 3=some ⟨m,0,0,0⟩:=hρ 2 _ rfl
  simp only[amH,ana,or_false]at hp
  rcases hp with rfl|rfl|rfl|rfl|rfl|rfl
  ·have hc:eH w r.aJ (.cells [v,.map (some m),.int .i64 d.made,.int .i64 d.calls,.int .i64 d.raw] 70 r.sh r.dn):=hL.at_ (r.aJ,_) (by rw[da];exact amN)
   refine⟨by rw[da];simp,?_⟩
   exact hc.or (fun n hn=>by rw[xw]at hn;cases hn;exact eo) (.cons (td ρ 2 te) (.cons (.map 3 _ tf) (.cons (.bH _ rfl) (.cons (.bH _ rfl) (.cons (.bH _ rfl) (LR.nil ρ))))))
  ·cases hl
  ·obtain⟨h1,h2⟩:=ln hl
   exact⟨by rw[da];simp only[ani,anh,amH,amU];exact .inr (.inr (.inl h1)),h2.or (fun n hn=>by rw[pd]at hn;cases hn;exact od) (LR.qG (u5 (a9 _)))⟩
  ·have hc:eH w m _:=hL.at_ (m,_) (by rw[da];exact amK _ amN)
   exact⟨by rw[da];simp,eH.z2 (q:=⟨m,0,0,0⟩) hc (dD.uY ll)⟩
  ·cases hl
  ·cases hl
 ·have s1:Live (.cells (aF d.script) 67 false) qs=true→qs.aJ∈L1.map (·.1):=fun hl=>(ln hl).1
  refine .cons (fun q hq=>?_) ?_
  ·simp only[amH,ana,or_false]at hq
   rcases hq with rfl|rfl|rfl|rfl|rfl
   ·intro h1 h2;exact absurd h2 (by decide)
   ·exact fun h1 h2 e=>n2 (by rw[show r.aJ=qs.aJ from e];exact s1 h2)
   ·exact fun h1 h2 e=>n1 e
   ·intro h1 h2;exact absurd h2 (by decide)
   ·intro h1 h2;exact absurd h2 (by decide)
  refine .cons (fun q hq=>?_) ?_
  ·simp only[amH,ana,or_false]at hq
   rcases hq with rfl|rfl|rfl|rfl
   ·intro h1 h2;exact absurd h1 (by decide)
   ·intro h1 h2;exact absurd h1 (by decide)
   ·intro h1 h2;exact absurd h2 (by decide)
   ·intro h1 h2;exact absurd h2 (by decide)
  refine .cons (fun q hq=>?_) ?_
  ·simp only[amH,ana,or_false]at hq
   rcases hq with rfl|rfl|rfl
   ·exact fun h1 h2 e=>n4 (by rw[←show qs.aJ=m from e];exact s1 h1)
   ·intro h1 h2;exact absurd h2 (by decide)
   ·intro h1 h2;exact absurd h2 (by decide)
  refine .cons (fun q hq=>?_) ?_
  ·simp only[amH,ana,or_false]at hq
   rcases hq with rfl|rfl
   ·intro h1 h2;exact absurd h2 (by decide)
   ·intro h1 h2;exact absurd h2 (by decide)
  refine .cons (fun q hq=>?_) ?_
  ·simp only[amH,ana,or_false]at hq
   rcases hq with rfl
   ·intro h1 h2;exact absurd h2 (by decide)
  refine .cons (fun q hq=>?_) ?_
  ·simp only[amH,ana,or_false]at hq
  exact .nil
 ·rintro vr o' ⟨d',K,⟨⟨A,R,C,eA,eM,eC,F,eF,LA,LM,LC,tg,c0,ce,cl,hA,hC,c1,c2,c3,c4,c5⟩,c6,c7,c8,c9,th⟩,hQ⟩ B ρ w' hw h0 hρ hid
  rw[cl]at da n3 n5 n6
  simp only[anh]at n3 n5 n6
  have jy:∀k,k∈LA.map (·.1)∨k∈LC.map (·.1)→k∈LA.map (·.1)++(LM.map (·.1)++LC.map (·.1)):=fun k hk=>by
   rcases hk with hk|hk
   ·exact anR _ hk
   ·exact anu _ (anu _ hk)
  have oe:∀k,k∈LA.map (·.1)∨k∈LC.map (·.1)→∀q∈(r,.cells [.slice (some ⟨2,0,none⟩) d.script.length d.script.length,.map (some 3),.int .i64 d.made,.int .i64 d.calls,.int .i64 d.raw] 70 false)::([(⟨0,0,1,0⟩,.cells [] 5 false),(qs,.cells (aF d.script) 67 false),(⟨m,0,0,0⟩,.map (bU es) ck),(⟨0,0,1,0⟩,.cells [] 174 false),(⟨0,0,1,0⟩,.cells [] 5 false)]:List (bP×ai)),Live q.2 q.1=true→q.1.aJ≠k:=by
   intro k hk q hq hl e
   have jy:=jy k hk
   simp only[amH,ana,or_false]at hq
   rcases hq with rfl|rfl|rfl|rfl|rfl|rfl
   ·exact n3 (by rw[show r.aJ=k from e];exact jy)
   ·cases hl
   ·exact n6 _ (ln hl).1 (by rw[show qs.aJ=k from e];exact jy)
   ·exact n5 (by rw[show m=k from e];exact jy)
   ·cases hl
   ·cases hl
  have og:∀k,k∈LA.map (·.1)∨k∈LC.map (·.1)→k∈L.map (·.1):=fun k hk=>by rw[da];simp only[ani,anh,amH,amU];exact hk.elim (fun hk=>.inr (.inr (.inr (.inl hk)))) (fun hk=>.inr (.inr (.inr (.inr (.inr hk)))))
  obtain⟨S',b9,hS⟩:=z5 (C:=C) (made:=d'.made) (calls:=d'.calls) (raw:=d'.raw) hL eo da hA hC hw th h0 (fun k hk=>hid k (og k hk) (oe k hk)) c3 c6 (a9 _) (oc _) c4 c5 c7 c8
  rw[←c1,←c2]at b9
  refine⟨d',S',K,b9,fun k hk=>?_,fun y o _ _ hy hr=>?_,hQ⟩
  ·rcases hS k hk with hk|⟨y,hy,o,q,a1,a2,a3,a4,a5⟩
   ·exact .inl ⟨og k hk,oe k hk⟩
   ·exact .inr ⟨y,o,q,hy,a1,a2,a3,a4,a5⟩
  ·have:=c9 o (am8 hy);rw[this]at hr;cases hr
theorem aG.WC{f:amY}{args:List amn}{d:ay}{x0:List amn}{Q:bL→List ai→Prop}(h:∀eR L2 ck,fA d.files eR L2→aG asz f args (fq d.script x0 (bU eR) ck 0 [] d.made d.calls d.raw) fun v o'=>∃d' K,Left d eR L2 o' K d'∧Q v (closed d' K o')):aG asz f args (.abs d::[.cells x0 5 false]) Q:=by
 refine aG.uT fun w r S L hG jf hL=>?_
 obtain⟨eo,v,m,es,ck,L1,L2,lY,ll,da⟩:=jf
 have tc:∀p∈L1,eH w p.1 p.2:=fun p hp=>hL.at_ p (by rw[da];simp[hp])
 obtain⟨qs,od,ln,td⟩:=uZ lY tc (oc _)
 have de:=hL.gp
 rw[da]at de
 simp only[ani,anh]at de
 obtain⟨n1,n2,n3,n4,n5,n6⟩:=z7 de
 refine⟨.cells [.slice (some ⟨2,0,none⟩) d.script.length d.script.length,.map (some 3),.int .i64 d.made,.int .i64 d.calls,.int .i64 d.raw] 70 false,[(qs,.cells (aF d.script) 67 false),(⟨m,0,0,0⟩,.map (bU es) ck),(⟨0,0,1,0⟩,.cells [] 174 false),(⟨0,0,1,0⟩,.cells [] 5 false)],_,⟨?_,?_,?_,?_⟩,by simp,h es L2 ck ll,?_⟩
 ·intro p hp
  simp only[amH,ana,or_false]at hp
  rcases hp with rfl|rfl|rfl|rfl|rfl<;>exact⟨rfl,by intro d' e;cases e⟩
 ·intro p hp el ro he n hn
  simp only[amH,ana,or_false]at hp
  rcases hp with rfl|rfl|rfl|rfl|rfl
  ·cases he
  ·injection he with e1 e2 e3;subst e2;rw[pd]at hn;cases hn;exact od
  ·cases he
  ·cases he;rw[z3]at hn;cases hn;rfl
  ·cases he;rw[qi]at hn;cases hn;rfl
 ·intro ρ sX hρ p hp hl
  have te:ρ 2=some qs:=hρ 0 _ rfl
  have tf:ρ 3=some ⟨m,0,0,0⟩:=hρ 1 _ rfl
  simp only[amH,ana,or_false]at hp
  rcases hp with rfl|rfl|rfl|rfl|rfl
  ·have hc:eH w r.aJ (.cells [v,.map (some m),.int .i64 d.made,.int .i64 d.calls,.int .i64 d.raw] 70 r.sh r.dn):=hL.at_ (r.aJ,_) (by rw[da];exact amN)
   refine⟨by rw[da];simp,?_⟩
   exact hc.or (fun n hn=>by rw[xw]at hn;cases hn;exact eo) (.cons (td ρ 2 te) (.cons (.map 3 _ tf) (.cons (.bH _ rfl) (.cons (.bH _ rfl) (.cons (.bH _ rfl) (LR.nil ρ))))))
  ·obtain⟨h1,h2⟩:=ln hl
   exact⟨by rw[da];simp only[ani,anh,amH,amU];exact .inr (.inr (.inl h1)),h2.or (fun n hn=>by rw[pd]at hn;cases hn;exact od) (LR.qG (u5 (a9 _)))⟩
  ·have hc:eH w m _:=hL.at_ (m,_) (by rw[da];exact amK _ amN)
   exact⟨by rw[da];simp,eH.z2 (q:=⟨m,0,0,0⟩) hc (dD.uY ll)⟩
  ·cases hl
  ·cases hl
 ·have s1:Live (.cells (aF d.script) 67 false) qs=true→qs.aJ∈L1.map (·.1):=fun hl=>(ln hl).1
  refine .cons (fun q hq=>?_) ?_
  ·simp only[amH,ana,or_false]at hq
   rcases hq with rfl|rfl|rfl|rfl
   ·exact fun h1 h2 e=>n2 (by rw[show r.aJ=qs.aJ from e];exact s1 h2)
   ·exact fun h1 h2 e=>n1 e
   ·intro h1 h2;exact absurd h2 (by decide)
   ·intro h1 h2;exact absurd h2 (by decide)
  refine .cons (fun q hq=>?_) ?_
  ·simp only[amH,ana,or_false]at hq
   rcases hq with rfl|rfl|rfl
   ·exact fun h1 h2 e=>n4 (by rw[←show qs.aJ=m from e];exact s1 h1)
   ·intro h1 h2;exact absurd h2 (by decide)
   ·intro h1 h2;exact absurd h2 (by decide)
  refine .cons (fun q hq=>?_) ?_
  ·simp only[amH,ana,or_false]at hq
   rcases hq with rfl|rfl
   ·intro h1 h2;exact absurd h2 (by decide)
   ·intro h1 h2;exact absurd h2 (by decide)
  refine .cons (fun q hq=>?_) ?_
  ·simp only[amH,ana,or_false]at hq
   rcases hq with rfl
   ·intro h1 h2;exact absurd h2 (by decide)
  refine .cons (fun q hq=>?_) ?_
  ·simp only[amH,ana,or_false]at hq
  exact .nil
 ·rintro vr o' ⟨d',K,⟨⟨A,R,C,eA,eM,eC,F,eF,LA,LM,LC,tg,c0,ce,cl,hA,hC,c1,c2,c3,c4,c5⟩,c6,c7,c8,c9,th⟩,hQ⟩ B ρ w' hw h0 hρ hid
  rw[cl]at da n3 n5 n6
  simp only[anh]at n3 n5 n6
  have jy:∀k,k∈LA.map (·.1)∨k∈LC.map (·.1)→k∈LA.map (·.1)++(LM.map (·.1)++LC.map (·.1)):=fun k hk=>by
   rcases hk with hk|hk
   ·exact anR _ hk
   ·exact anu _ (anu _ hk)
  have oe:∀k,k∈LA.map (·.1)∨k∈LC.map (·.1)→∀q∈(r,.cells [.slice (some ⟨2,0,none⟩) d.script.length d.script.length,.map (some 3),.int .i64 d.made,.int .i64 d.calls,.int .i64 d.raw] 70 false)::([(qs,.cells (aF d.script) 67 false),(⟨m,0,0,0⟩,.map (bU es) ck),(⟨0,0,1,0⟩,.cells [] 174 false),(⟨0,0,1,0⟩,.cells [] 5 false)]:List (bP×ai)),Live q.2 q.1=true→q.1.aJ≠k:=by
   intro k hk q hq hl e
   have jy:=jy k hk
   simp only[amH,ana,or_false]at hq
   rcases hq with rfl|rfl|rfl|rfl|rfl
   ·exact n3 (by rw[show r.aJ=k from e];exact jy)
   ·exact n6 _ (ln hl).1 (by rw[show qs.aJ=k from e];exact jy)
   ·exact n5 (by rw[show m=k from e];exact jy)
   ·cases hl
   ·cases hl
  have og:∀k,k∈LA.map (·.1)∨k∈LC.map (·.1)→k∈L.map (·.1):=fun k hk=>by rw[da];simp only[ani,anh,amH,amU];exact hk.elim (fun hk=>.inr (.inr (.inr (.inl hk)))) (fun hk=>.inr (.inr (.inr (.inr (.inr hk)))))
  obtain⟨S',b9,hS⟩:=z5 (C:=C) (made:=d'.made) (calls:=d'.calls) (raw:=d'.raw) hL eo da hA hC hw th h0 (fun k hk=>hid k (og k hk) (oe k hk)) c3 c6 (a9 _) (oc _) c4 c5 c7 c8
  rw[←c1,←c2]at b9
  refine⟨d',S',K,b9,fun k hk=>?_,fun y o _ _ hy hr=>?_,hQ⟩
  ·rcases hS k hk with hk|⟨y,hy,o,q,a1,a2,a3,a4,a5⟩
   ·exact .inl ⟨og k hk,oe k hk⟩
   ·exact .inr ⟨y,o,q,hy,a1,a2,a3,a4,a5⟩
  ·have:=c9 o (am8 hy);rw[this]at hr;cases hr
theorem aG.WD{f:amY}{args:List amn}{d:ay}{x0:List amn}{A C:List (Nat×ByteArray)}{p:Nat×ByteArray}(hd:d.files=A++([p]++C)){Q:bL→List ai→Prop}(h:∀eA eC born kf sf LA LF LC ck,fA A eA LA→fA C eC LC→fileAt p kf sf LF→aG asz f args (fx d.script [] (bU eA++([anO (amu .i64 p.1) (anx (some ⟨4,0,none⟩)) born]++bU eC)) ck p.2.size (ag p.2) d.made d.calls d.raw) fun v o'=>∃d' K F eF tg,d'.script=d.script∧d'.files=A++(F++C)∧o'[0]?=some (.cells [.slice (some ⟨2,0,none⟩) d.script.length d.script.length,.map (some 3),.int .i64 d'.made,.int .i64 d'.calls,.int .i64 d'.raw] 70 false)∧o'[3]?=some (.map (bU eA++(eF++bU eC)) tg)∧rh o' K F eF∧o'[2]?=some (.cells (aF d.script) 67 false)∧K.contains 2=true∧K.contains 3=true∧(∀o∈o',o.ro=false)∧o'.length≤262144∧Q v (closed d' K o')):aG asz f args (.abs d::[]) Q:=by
 refine aG.uT fun w r S L hG jf hL=>?_
 obtain⟨eo,v,m,es,ck,L1,L2,lY,ll,da⟩:=jf
 rw[hd]at ll
 obtain⟨eA,e1,LA,L3,rfl,rfl,hA,ll⟩:=uX ll
 obtain⟨eM,eC,LM,LC,rfl,rfl,hM,hC⟩:=uX ll
 obtain⟨kf,sf,born,LF,rfl,iv,E5⟩:∃kf sf born LF,eM=[{key:=.int .i64 p.1,val:=.pointer (some ⟨kf,sf,none⟩),born}]∧LM=LF∧fileAt p kf sf LF:=by
  cases hM with
  |cons _ kf sf born _ _ L L' h1 h2=>cases h2;exact⟨kf,sf,born,L,rfl,by rw[anV],h1⟩
 subst iv
 obtain⟨vf,mH,Lr,xx,iv⟩:=E5
 have E6:∀p∈Lr,eH w p.1 p.2:=fun p hp=>hL.at_ p (by rw[da,iv];simp[hp])
 obtain⟨qr,nV,ti,E7⟩:=uZ xx E6 (by rw[z4,mB,aoQ])
 have iE:eH w kf (.cells [vf] 174 sf mH):=hL.at_ (kf,_) (by rw[da,iv];simp)
 have tc:∀p∈L1,eH w p.1 p.2:=fun p hp=>hL.at_ p (by rw[da];simp[hp])
 obtain⟨qs,od,ln,td⟩:=uZ lY tc (oc _)
 have de:=hL.gp
 rw[da]at de
 simp only[ani,anh]at de
 obtain⟨n1,n2,n3,n4,n5,n6⟩:=z7 de
 have E8:kf∉Lr.map (·.1):=by
  have:=(ans.1 ((anP.1 (anP.1 de).2).2)).2.1
  have:=(ans.1 (ans.1 this).2.1).1
  rw[iv]at this
  exact(anP.1 this).1
 have mI:∀k,k=kf∨k∈Lr.map (·.1)→k∈LA.map (·.1)++(LM.map (·.1)++LC.map (·.1)):=fun k hk=>by
  rw[iv]
  rcases hk with rfl|hk
  ·simp
  ·simp only[ani,amU,amH];exact .inr (.inl (.inr hk))
 refine⟨.cells [.slice (some ⟨2,0,none⟩) d.script.length d.script.length,.map (some 3),.int .i64 d.made,.int .i64 d.calls,.int .i64 d.raw] 70 false,[(⟨0,0,1,0⟩,.cells [] 5 false),(qs,.cells (aF d.script) 67 false),(⟨m,0,0,0⟩,.map (bU eA++([anO (amu .i64 p.1) (anx (some ⟨4,0,none⟩)) born]++bU eC)) ck),(⟨kf,sf,1,mH⟩,.cells [.slice (some ⟨5,0,none⟩) p.2.size p.2.size] 174 false),(qr,.cells (ag p.2) 5 false)],_,⟨?_,?_,?_,?_⟩,by simp,h eA eC born kf sf LA LM LC ck hA hC ⟨vf,mH,Lr,xx,iv⟩,?_⟩
 ·intro p hp
  simp only[amH,ana,or_false]at hp
  rcases hp with rfl|rfl|rfl|rfl|rfl|rfl<;>exact⟨rfl,by intro d' e;cases e⟩
 ·intro p hp el ro he n hn
  simp only[amH,ana,or_false]at hp
  rcases hp with rfl|rfl|rfl|rfl|rfl|rfl
  ·cases he
  ·cases he;rw[qi]at hn;cases hn;rfl
  ·injection he with e1 e2 e3;subst e2;rw[pd]at hn;cases hn;exact od
  ·cases he
  ·cases he
  ·injection he with e1 e2 e3;subst e2;rw[qi]at hn;cases hn;exact nV
 ·intro ρ sX hρ p hp hl
  have te:ρ 2=some qs:=hρ 1 _ rfl
  have tf:ρ 3=some ⟨m,0,0,0⟩:=hρ 2 _ rfl
  have E9:ρ 4=some ⟨kf,sf,1,mH⟩:=hρ 3 _ rfl
  have Fa:ρ 5=some qr:=hρ 4 _ rfl
  simp only[amH,ana,or_false]at hp
  rcases hp with rfl|rfl|rfl|rfl|rfl|rfl
  ·have hc:eH w r.aJ (.cells [v,.map (some m),.int .i64 d.made,.int .i64 d.calls,.int .i64 d.raw] 70 r.sh r.dn):=hL.at_ (r.aJ,_) (by rw[da];exact amN)
   refine⟨by rw[da];simp,?_⟩
   exact hc.or (fun n hn=>by rw[xw]at hn;cases hn;exact eo) (.cons (td ρ 2 te) (.cons (.map 3 _ tf) (.cons (.bH _ rfl) (.cons (.bH _ rfl) (.cons (.bH _ rfl) (LR.nil ρ))))))
  ·cases hl
  ·obtain⟨h1,h2⟩:=ln hl
   exact⟨by rw[da];simp only[ani,anh,amH,amU];exact .inr (.inr (.inl h1)),h2.or (fun n hn=>by rw[pd]at hn;cases hn;exact od) (LR.qG (u5 (a9 _)))⟩
  ·have hc:eH w m _:=hL.at_ (m,_) (by rw[da];exact amK _ amN)
   exact⟨by rw[da];simp,eH.z2 (q:=⟨m,0,0,0⟩) hc (dD.lJ (dD.uY hA) (dD.lJ (.cons ⟨.bH _ rfl,.ptr 4 0 _ E9,rfl⟩ .nil) (dD.uY hC)))⟩
  ·exact⟨by rw[da,iv];simp,eH.or (q:=⟨kf,sf,1,mH⟩) iE (fun n hn=>by rw[z3]at hn;cases hn;rfl) (.cons (E7 ρ 5 Fa) (LR.nil ρ))⟩
  ·obtain⟨h1,h2⟩:=ti hl
   rw[z4]at h2
   exact⟨by rw[da,iv];simp only[ani,anh,amH,amU];exact .inr (.inr (.inr (.inr (.inl (.inr h1))))),h2.or (fun n hn=>by rw[qi]at hn;cases hn;exact nV) (LR.qG (u5 (aI _)))⟩
 ·have s1:Live (.cells (aF d.script) 67 false) qs=true→qs.aJ∈L1.map (·.1):=fun hl=>(ln hl).1
  have s2:Live (.cells (ag p.2) 5 false) qr=true→qr.aJ∈Lr.map (·.1):=fun hl=>(ti hl).1
  refine .cons (fun q hq=>?_) ?_
  ·simp only[amH,ana,or_false]at hq
   rcases hq with rfl|rfl|rfl|rfl|rfl
   ·intro h1 h2;exact absurd h2 (by decide)
   ·exact fun h1 h2 e=>n2 (by rw[show r.aJ=qs.aJ from e];exact s1 h2)
   ·exact fun h1 h2 e=>n1 e
   ·exact fun h1 h2 e=>n3 (by rw[show r.aJ=kf from e];exact mI _ (.inl rfl))
   ·exact fun h1 h2 e=>n3 (by rw[show r.aJ=qr.aJ from e];exact mI _ (.inr (s2 h2)))
  refine .cons (fun q hq=>?_) ?_
  ·simp only[amH,ana,or_false]at hq
   rcases hq with rfl|rfl|rfl|rfl
   ·intro h1 h2;exact absurd h1 (by decide)
   ·intro h1 h2;exact absurd h1 (by decide)
   ·intro h1 h2;exact absurd h1 (by decide)
   ·intro h1 h2;exact absurd h1 (by decide)
  refine .cons (fun q hq=>?_) ?_
  ·simp only[amH,ana,or_false]at hq
   rcases hq with rfl|rfl|rfl
   ·exact fun h1 h2 e=>n4 (by rw[←show qs.aJ=m from e];exact s1 h1)
   ·exact fun h1 h2 e=>n6 _ (s1 h1) (by rw[show qs.aJ=kf from e];exact mI _ (.inl rfl))
   ·exact fun h1 h2 e=>n6 _ (s1 h1) (by rw[show qs.aJ=qr.aJ from e];exact mI _ (.inr (s2 h2)))
  refine .cons (fun q hq=>?_) ?_
  ·simp only[amH,ana,or_false]at hq
   rcases hq with rfl|rfl
   ·exact fun h1 h2 e=>n5 (by rw[show m=kf from e];exact mI _ (.inl rfl))
   ·exact fun h1 h2 e=>n5 (by rw[show m=qr.aJ from e];exact mI _ (.inr (s2 h2)))
  refine .cons (fun q hq=>?_) ?_
  ·simp only[amH,ana,or_false]at hq
   rcases hq with rfl
   ·exact fun h1 h2 e=>E8 (by rw[show kf=qr.aJ from e];exact s2 h2)
  refine .cons (fun q hq=>?_) ?_
  ·simp only[amH,ana,or_false]at hq
  exact .nil
 ·rintro vr o' ⟨d',K,F,eF,tg,c1,c2,c3,c4,c5,c6,c7,c8,c9,th,hQ⟩ B ρ w' hw h0 hρ hid
  have oe:∀k,k∈LA.map (·.1)∨k∈LC.map (·.1)→∀q∈(r,.cells [.slice (some ⟨2,0,none⟩) d.script.length d.script.length,.map (some 3),.int .i64 d.made,.int .i64 d.calls,.int .i64 d.raw] 70 false)::([(⟨0,0,1,0⟩,.cells [] 5 false),(qs,.cells (aF d.script) 67 false),(⟨m,0,0,0⟩,.map (bU eA++([anO (amu .i64 p.1) (anx (some ⟨4,0,none⟩)) born]++bU eC)) ck),(⟨kf,sf,1,mH⟩,.cells [.slice (some ⟨5,0,none⟩) p.2.size p.2.size] 174 false),(qr,.cells (ag p.2) 5 false)]:List (bP×ai)),Live q.2 q.1=true→q.1.aJ≠k:=by
   intro k hk q hq hl e
   have xy:=(ans.1 ((anP.1 (anP.1 de).2).2)).2.1
   have nF:∀x,x∈LM.map (·.1)→x≠k:=fun x hx ex=>by
    subst ex
    rcases hk with hk|hk
    ·exact(ans.1 xy).2.2 _ hk _ (anR _ hx) rfl
    ·exact(ans.1 (ans.1 xy).2.1).2.2 _ hx _ hk rfl
   have jy:k∈LA.map (·.1)++(LM.map (·.1)++LC.map (·.1)):=by
    rcases hk with hk|hk
    ·exact anR _ hk
    ·exact anu _ (anu _ hk)
   simp only[amH,ana,or_false]at hq
   rcases hq with rfl|rfl|rfl|rfl|rfl|rfl
   ·exact n3 (by rw[show r.aJ=k from e];exact jy)
   ·cases hl
   ·exact n6 _ (ln hl).1 (by rw[show qs.aJ=k from e];exact jy)
   ·exact n5 (by rw[show m=k from e];exact jy)
   ·exact nF kf (by rw[iv];simp) e
   ·exact nF _ (by rw[iv];exact amK _ (ti hl).1) e
  have og:∀k,k∈LA.map (·.1)∨k∈LC.map (·.1)→k∈L.map (·.1):=fun k hk=>by rw[da];simp only[ani,anh,amH,amU];exact hk.elim (fun hk=>.inr (.inr (.inr (.inl hk)))) (fun hk=>.inr (.inr (.inr (.inr (.inr hk)))))
  obtain⟨S',b9,hS⟩:=z5 (C:=C) (made:=d'.made) (calls:=d'.calls) (raw:=d'.raw) hL eo da hA hC hw th h0 (fun k hk=>hid k (og k hk) (oe k hk)) c3 c6 (a9 _) (oc _) c4 c5 c7 c8
  rw[←c1,←c2]at b9
  refine⟨d',S',K,b9,fun k hk=>?_,fun y o _ _ hy hr=>?_,hQ⟩
  ·rcases hS k hk with hk|⟨y,hy,o,q,a1,a2,a3,a4,a5⟩
   ·exact .inl ⟨og k hk,oe k hk⟩
   ·exact .inr ⟨y,o,q,hy,a1,a2,a3,a4,a5⟩
  ·have:=c9 o (am8 hy);rw[this]at hr;cases hr
theorem aG.WE{f:amY}{args:List amn}{d:ay}{x0:List amn}{A C:List (Nat×ByteArray)}{p:Nat×ByteArray}(hd:d.files=A++([p]++C)){Q:bL→List ai→Prop}(h:∀eA eC born kf sf LA LF LC ck,fA A eA LA→fA C eC LC→fileAt p kf sf LF→aG asz f args (fx d.script x0 (bU eA++([anO (amu .i64 p.1) (anx (some ⟨4,0,none⟩)) born]++bU eC)) ck p.2.size (ag p.2) d.made d.calls d.raw) fun v o'=>∃d' K F eF tg,d'.script=d.script∧d'.files=A++(F++C)∧o'[0]?=some (.cells [.slice (some ⟨2,0,none⟩) d.script.length d.script.length,.map (some 3),.int .i64 d'.made,.int .i64 d'.calls,.int .i64 d'.raw] 70 false)∧o'[3]?=some (.map (bU eA++(eF++bU eC)) tg)∧rh o' K F eF∧o'[2]?=some (.cells (aF d.script) 67 false)∧K.contains 2=true∧K.contains 3=true∧(∀o∈o',o.ro=false)∧o'.length≤262144∧Q v (closed d' K o')):aG asz f args (.abs d::[.cells x0 5 false]) Q:=by
 refine aG.uT fun w r S L hG jf hL=>?_
 obtain⟨eo,v,m,es,ck,L1,L2,lY,ll,da⟩:=jf
 rw[hd]at ll
 obtain⟨eA,e1,LA,L3,rfl,rfl,hA,ll⟩:=uX ll
 obtain⟨eM,eC,LM,LC,rfl,rfl,hM,hC⟩:=uX ll
 obtain⟨kf,sf,born,LF,rfl,iv,E5⟩:∃kf sf born LF,eM=[{key:=.int .i64 p.1,val:=.pointer (some ⟨kf,sf,none⟩),born}]∧LM=LF∧fileAt p kf sf LF:=by
  cases hM with
  |cons _ kf sf born _ _ L L' h1 h2=>cases h2;exact⟨kf,sf,born,L,rfl,by rw[anV],h1⟩
 subst iv
 obtain⟨vf,mH,Lr,xx,iv⟩:=E5
 have E6:∀p∈Lr,eH w p.1 p.2:=fun p hp=>hL.at_ p (by rw[da,iv];simp[hp])
 obtain⟨qr,nV,ti,E7⟩:=uZ xx E6 (by rw[z4,mB,aoQ])
 have iE:eH w kf (.cells [vf] 174 sf mH):=hL.at_ (kf,_) (by rw[da,iv];simp)
 have tc:∀p∈L1,eH w p.1 p.2:=fun p hp=>hL.at_ p (by rw[da];simp[hp])
 obtain⟨qs,od,ln,td⟩:=uZ lY tc (oc _)
 have de:=hL.gp
 rw[da]at de
 simp only[ani,anh]at de
 obtain⟨n1,n2,n3,n4,n5,n6⟩:=z7 de
 have E8:kf∉Lr.map (·.1):=by
  have:=(ans.1 ((anP.1 (anP.1 de).2).2)).2.1
  have:=(ans.1 (ans.1 this).2.1).1
  rw[iv]at this
  exact(anP.1 this).1
 have mI:∀k,k=kf∨k∈Lr.map (·.1)→k∈LA.map (·.1)++(LM.map (·.1)++LC.map (·.1)):=fun k hk=>by
  rw[iv]
  rcases hk with rfl|hk
  ·simp
  ·simp only[ani,amU,amH];exact .inr (.inl (.inr hk))
 refine⟨.cells [.slice (some ⟨2,0,none⟩) d.script.length d.script.length,.map (some 3),.int .i64 d.made,.int .i64 d.calls,.int .i64 d.raw] 70 false,[(qs,.cells (aF d.script) 67 false),(⟨m,0,0,0⟩,.map (bU eA++([anO (amu .i64 p.1) (anx (some ⟨4,0,none⟩)) born]++bU eC)) ck),(⟨kf,sf,1,mH⟩,.cells [.slice (some ⟨5,0,none⟩) p.2.size p.2.size] 174 false),(qr,.cells (ag p.2) 5 false)],_,⟨?_,?_,?_,?_⟩,by simp,h eA eC born kf sf LA LM LC ck hA hC ⟨vf,mH,Lr,xx,iv⟩,?_⟩
 ·intro p hp
  simp only[amH,ana,or_false]at hp
  rcases hp with rfl|rfl|rfl|rfl|rfl<;>exact⟨rfl,by intro d' e;cases e⟩
 ·intro p hp el ro he n hn
  simp only[amH,ana,or_false]at hp
  rcases hp with rfl|rfl|rfl|rfl|rfl
  ·cases he
  ·injection he with e1 e2 e3;subst e2;rw[pd]at hn;cases hn;exact od
  ·cases he
  ·cases he
  ·injection he with e1 e2 e3;subst e2;rw[qi]at hn;cases hn;exact nV
 ·intro ρ sX hρ p hp hl
  have te:ρ 2=some qs:=hρ 0 _ rfl
  have tf:ρ 3=some ⟨m,0,0,0⟩:=hρ 1 _ rfl
  have E9:ρ 4=some ⟨kf,sf,1,mH⟩:=hρ 2 _ rfl
  have Fa:ρ 5=some qr:=hρ 3 _ rfl
  simp only[amH,ana,or_false]at hp
  rcases hp with rfl|rfl|rfl|rfl|rfl
  ·have hc:eH w r.aJ (.cells [v,.map (some m),.int .i64 d.made,.int .i64 d.calls,.int .i64 d.raw] 70 r.sh r.dn):=hL.at_ (r.aJ,_) (by rw[da];exact amN)
   refine⟨by rw[da];simp,?_⟩
   exact hc.or (fun n hn=>by rw[xw]at hn;cases hn;exact eo) (.cons (td ρ 2 te) (.cons (.map 3 _ tf) (.cons (.bH _ rfl) (.cons (.bH _ rfl) (.cons (.bH _ rfl) (LR.nil ρ))))))
  ·obtain⟨h1,h2⟩:=ln hl
   exact⟨by rw[da];simp only[ani,anh,amH,amU];exact .inr (.inr (.inl h1)),h2.or (fun n hn=>by rw[pd]at hn;cases hn;exact od) (LR.qG (u5 (a9 _)))⟩
  ·have hc:eH w m _:=hL.at_ (m,_) (by rw[da];exact amK _ amN)
   exact⟨by rw[da];simp,eH.z2 (q:=⟨m,0,0,0⟩) hc (dD.lJ (dD.uY hA) (dD.lJ (.cons ⟨.bH _ rfl,.ptr 4 0 _ E9,rfl⟩ .nil) (dD.uY hC)))⟩
  ·exact⟨by rw[da,iv];simp,eH.or (q:=⟨kf,sf,1,mH⟩) iE (fun n hn=>by rw[z3]at hn;cases hn;rfl) (.cons (E7 ρ 5 Fa) (LR.nil ρ))⟩
  ·obtain⟨h1,h2⟩:=ti hl
   rw[z4]at h2
   exact⟨by rw[da,iv];simp only[ani,anh,amH,amU];exact .inr (.inr (.inr (.inr (.inl (.inr h1))))),h2.or (fun n hn=>by rw[qi]at hn;cases hn;exact nV) (LR.qG (u5 (aI _)))⟩
 ·have s1:Live (.cells (aF d.script) 67 false) qs=true→qs.aJ∈L1.map (·.1):=fun hl=>(ln hl).1
  have s2:Live (.cells (ag p.2) 5 false) qr=true→qr.aJ∈Lr.map (·.1):=fun hl=>(ti hl).1
  refine .cons (fun q hq=>?_) ?_
  ·simp only[amH,ana,or_false]at hq
   rcases hq with rfl|rfl|rfl|rfl
   ·exact fun h1 h2 e=>n2 (by rw[show r.aJ=qs.aJ from e];exact s1 h2)
   ·exact fun h1 h2 e=>n1 e
   ·exact fun h1 h2 e=>n3 (by rw[show r.aJ=kf from e];exact mI _ (.inl rfl))
   ·exact fun h1 h2 e=>n3 (by rw[show r.aJ=qr.aJ from e];exact mI _ (.inr (s2 h2)))
  refine .cons (fun q hq=>?_) ?_
  ·simp only[amH,ana,or_false]at hq
   rcases hq with rfl|rfl|rfl
   ·exact fun h1 h2 e=>n4 (by rw[←show qs.aJ=m from e];exact s1 h1)
   ·exact fun h1 h2 e=>n6 _ (s1 h1) (by rw[show qs.aJ=kf from e];exact mI _ (.inl rfl))
   ·exact fun h1 h2 e=>n6 _ (s1 h1) (by rw[show qs.aJ=qr.aJ from e];exact mI _ (.inr (s2 h2)))
  refine .cons (fun q hq=>?_) ?_
  ·simp only[amH,ana,or_false]at hq
   rcases hq with rfl|rfl
   ·exact fun h1 h2 e=>n5 (by rw[show m=kf from e];exact mI _ (.inl rfl))
   ·exact fun h1 h2 e=>n5 (by rw[show m=qr.aJ from e];exact mI _ (.inr (s2 h2)))
  refine .cons (fun q hq=>?_) ?_
  ·simp only[amH,ana,or_false]at hq
   rcases hq with rfl
   ·exact fun h1 h2 e=>E8 (by rw[show kf=qr.aJ from e];exact s2 h2)
  refine .cons (fun q hq=>?_) ?_
  ·simp only[amH,ana,or_false]at hq
  exact .nil
 ·rintro vr o' ⟨d',K,F,eF,tg,c1,c2,c3,c4,c5,c6,c7,c8,c9,th,hQ⟩ B ρ w' hw h0 hρ hid
  have oe:∀k,k∈LA.map (·.1)∨k∈LC.map (·.1)→∀q∈(r,.cells [.slice (some ⟨2,0,none⟩) d.script.length d.script.length,.map (some 3),.int .i64 d.made,.int .i64 d.calls,.int .i64 d.raw] 70 false)::([(qs,.cells (aF d.script) 67 false),(⟨m,0,0,0⟩,.map (bU eA++([anO (amu .i64 p.1) (anx (some ⟨4,0,none⟩)) born]++bU eC)) ck),(⟨kf,sf,1,mH⟩,.cells [.slice (some ⟨5,0,none⟩) p.2.size p.2.size] 174 false),(qr,.cells (ag p.2) 5 false)]:List (bP×ai)),Live q.2 q.1=true→q.1.aJ≠k:=by
   intro k hk q hq hl e
   have xy:=(ans.1 ((anP.1 (anP.1 de).2).2)).2.1
   have nF:∀x,x∈LM.map (·.1)→x≠k:=fun x hx ex=>by
    subst ex
    rcases hk with hk|hk
    ·exact(ans.1 xy).2.2 _ hk _ (anR _ hx) rfl
    ·exact(ans.1 (ans.1 xy).2.1).2.2 _ hx _ hk rfl
   have jy:k∈LA.map (·.1)++(LM.map (·.1)++LC.map (·.1)):=by
    rcases hk with hk|hk
    ·exact anR _ hk
    ·exact anu _ (anu _ hk)
   simp only[amH,ana,or_false]at hq
   rcases hq with rfl|rfl|rfl|rfl|rfl
   ·exact n3 (by rw[show r.aJ=k from e];exact jy)
   ·exact n6 _ (ln hl).1 (by rw[show qs.aJ=k from e];exact jy)
   ·exact n5 (by rw[show m=k from e];exact jy)
   ·exact nF kf (by rw[iv];simp) e
   ·exact nF _ (by rw[iv];exact amK _ (ti hl).1) e
  have og:∀k,k∈LA.map (·.1)∨k∈LC.map (·.1)→k∈L.map (·.1):=fun k hk=>by rw[da];simp only[ani,anh,amH,amU];exact hk.elim (fun hk=>.inr (.inr (.inr (.inl hk)))) (fun hk=>.inr (.inr (.inr (.inr (.inr hk)))))
  obtain⟨S',b9,hS⟩:=z5 (C:=C) (made:=d'.made) (calls:=d'.calls) (raw:=d'.raw) hL eo da hA hC hw th h0 (fun k hk=>hid k (og k hk) (oe k hk)) c3 c6 (a9 _) (oc _) c4 c5 c7 c8
  rw[←c1,←c2]at b9
  refine⟨d',S',K,b9,fun k hk=>?_,fun y o _ _ hy hr=>?_,hQ⟩
  ·rcases hS k hk with hk|⟨y,hy,o,q,a1,a2,a3,a4,a5⟩
   ·exact .inl ⟨og k hk,oe k hk⟩
   ·exact .inr ⟨y,o,q,hy,a1,a2,a3,a4,a5⟩
  ·have:=c9 o (am8 hy);rw[this]at hr;cases hr
end Go.Proofs.Ytnlkkgpcikkpoaa
namespace Go.Proofs.Ytnlkkgpcikkpoaa
open Go Vm Go.RowKit
def jz(x y:UInt8):Bool:=decide (x<y)
abbrev gQ(d:Array UInt8):ByteArray:=⟨d⟩
theorem LU(d:Array UInt8):(gQ d).size=d.size:=rfl
theorem u6{d:Array UInt8}{i:Nat}(h:i<d.size):au (ag (gQ d)) i=(d[i]!.toNat:Int):=by
 rw[K7 (b:=gQ d) h,getElem!_pos d i h];rfl
theorem z9{d:Array UInt8}{p:Nat}(h:p<d.size):cy amJ (ag (gQ d)) p=true:=K8 h
abbrev xz(n:Nat):amn:=.slice (some ⟨0,0,none⟩) n n
abbrev iA(n:Nat):amn:=.int .i64 (n:Int)
theorem WG{x:Int}(h0: -1000000≤x)(h1:x≤1000000):aml amA x=x:=mC (by omega) (by omega)
end Go.Proofs.Ytnlkkgpcikkpoaa
namespace Go.Proofs.Ytnlkkgpcikkpoaa
open Go Vm Go.RowKit
set_option maxRecDepth 100000
open Tree renaming aU→mN,dh→mF,eQ→mL
theorem qk{x:Nat}:0+amm (x:Int)*1=x:=by simp
theorem Fb{x:Nat}(h:x≤100000):amu .i64 (aml amA ((x:Int)+1))=iA (x+1):=by rw[WG (by omega) (by omega)];rfl
structure alh(d:Array UInt8)(n a z:Nat)(s:Array UInt8×Nat):Prop where
 h1:s.1.size=n
 h2:a+1≤s.2
 h3:s.2≤100000
 h4:Sort.insOuter jz a z s.2 s.1=Sort.insertionSort jz d a z
structure ali(d:Array UInt8)(n a i:Nat)(s:Array UInt8×Nat):Prop where
 h1:s.1.size=n
 h2:s.2≤i
 h3:ar0 jz a s.2 s.1=ar0 jz a i d
structure alj(d:Array UInt8)(n a z:Nat)(s:Array UInt8×Nat×Int):Prop where
 h1:s.1.size=n
 h2: -1≤s.2.2
 h3:s.2.2<n
 h5:s.2.1≤n
 h4:Sort.reverseLoop s.2.1 s.2.2.toNat s.1=Sort.reverseRange d a z
structure alk(d:Array UInt8)(n hi fs lo:Nat)(s:Array UInt8×Nat):Prop where
 h1:s.1.size=n
 h2:s.2≤n
 h3:ar1 jz hi fs s.2 s.1=ar1 jz hi fs lo d
def rl(l:List amn):Array UInt8:=(l.map fun v=>match v with| .int _ x=>UInt8.ofNat x.toNat|_=>0).toArray
@[simp] theorem LV(d:Array UInt8):rl (ag (gQ d))=d:=by
 unfold rl ag gQ
 simp[Function.comp_def]
noncomputable def pf(l:List amn)(P:Prop):Bool:=@decide ((∃d:Array UInt8,l=ag (gQ d))∧P) (amR _)
theorem Fc{l:List amn}{P:Prop}:pf l P=true↔(∃d:Array UInt8,l=ag (gQ d))∧P:=by unfold pf;exact @decide_eq_true_iff _ (amR _)
theorem WH{d:Array UInt8}{P:Prop}(h:P):pf (ag (gQ d)) P=true:=Fc.2 ⟨⟨d,rfl⟩,h⟩
open Tree renaming aU→mN,dh→mF,eQ→mL
structure alm(d:Array UInt8)(n a hi:Nat)(s:Array UInt8×Int):Prop where
 h1:s.1.size=n
 h2: -1≤s.2
 h3:s.2≤n
 h4:arT jz hi a (s.2+1).toNat s.1=arT jz hi a ((hi-1)/2+1) d
structure aln(d:Array UInt8)(n a hi:Nat)(s:Array UInt8×Int):Prop where
 h1:s.1.size=n
 h2: -1≤s.2
 h3:s.2<hi
 h4:asc jz a (s.2+1).toNat s.1=asc jz a hi d
open Tree renaming aU→mN,dh→mF,eQ→mL
structure alo(d:Array UInt8)(n a i0 j0:Nat)(s:Array UInt8×Nat×Nat):Prop where
 h1:s.1.size=n
 h2:1≤s.2.1
 h3:s.2.1≤n
 h4:s.2.2<n
 h5:ar2 jz a s.2.1 s.2.2 s.1=ar2 jz a i0 j0 d
structure alp(d:Array UInt8)(n a i0 j0:Nat)(s:Array UInt8×Nat×Nat):Prop where
 h1:s.1.size=n
 h2:1≤s.2.1
 h3:s.2.1≤n
 h4:s.2.2<n
 h5:arM jz a s.2.1 s.2.2 s.1=arM jz a i0 j0 d
open Tree renaming aU→mN,dh→mF,eQ→mL
end Go.Proofs.Ytnlkkgpcikkpoaa
namespace Go.Proofs.Ytnlkkgpcikkpoaa.Vm
open Go.RowKit
end Go.Proofs.Ytnlkkgpcikkpoaa.Vm
namespace Go.Proofs.Ytnlkkgpcikkpoaa
open Go Vm Go.RowKit
set_option maxRecDepth 100000
structure alq(d:Array UInt8)(n a z:Nat)(s:Array UInt8×Nat×Nat):Prop where
 h1:s.1.size=n
 h2:a+1≤s.2.1
 h3:s.2.1≤z
 h4:s.2.2≤5
 h5:Sort.partialIns jz a z (5-s.2.2) s.2.1 s.1=Sort.partialInsertionSort jz d a z
end Go.Proofs.Ytnlkkgpcikkpoaa
namespace Go.Proofs.Ytnlkkgpcikkpoaa
noncomputable section
open Go Vm Go.RowKit
set_option maxRecDepth 100000
noncomputable def WI:List am3:=ba (dy asz 53)
noncomputable def WJ:List am3:=ba (dy asz 49)
open Tree renaming aU→mN,dh→mF,eQ→mL,fw→mQ,dz→mR,fI→mE
def LW:Nat→Bool→Bool→Tree→Tree
 |0,_,_,t=>t
 |n+1,d,b,t=>.cD d b (LW n d b t)
theorem WK{R:bf→aj→Prop}{c v:Bool}{t:Tree}(n:Nat)(h1:c=v)(h2:t.ok R):(LW n c v t).ok R:=by
 induction n with
 |zero=>exact h2
 |succ n ih=>exact⟨h1,ih⟩
abbrev WL:=fun b (n:Nat) (a z s:Int)=>(⟨[(8,aa z),(9,aa a)],[ab (ag b) 5,ab [.int .i64 (aml .i64 (s+1))] 3]⟩:aj)
abbrev WM:=fun b (n:Nat) (a z s:Int)=>(⟨[(8,aa a),(9,aa z)],[ab (ag b) 5,ab [aa s] 3]⟩:aj)
abbrev WN:=fun b (n:Nat) (a z s:Int)=>(⟨[(0,ah 0 n),(1,aa a),(2,aa z),(3,an 1)],[ab (ag b) 5,ab [aa s] 3]⟩:aj)
theorem o2(b:ByteArray)(n:Nat)(a z s:Int)(hn:n≤b.size)(h0:0≤a)(h1:a<n)(h2:0≤z)(h3:z<n)(h4:aml .i64 (s+1)=s+1){Q:aV}(n0:(cy amJ (ag b) (0+amm z*1))=true)(n1:(cy amJ (ag b) (0+amm a*1))=true)(aW:amq (ag b) af=true)(l3:(decide (au (ag b) (0+amm z*1)<au (ag b) (0+amm a*1)))=true→Q .ret (WL b n a z s))(l4:(decide (au (ag b) (0+amm z*1)<au (ag b) (0+amm a*1)))=false→Q .ret (WM b n a z s)):al asz 28 2 WI (WN b n a z s) Q:=
 aZ bo 1000 (av [0,1,1,0,1,0,1,1,0,1,4,0,0,0] (.fork 4 (.leaf [8,9] [0,1] [0]) (.leaf [8,9] [0,1] [0]))) (fun u=>by kernel_rfl) (mN (decide_eq_true (by omega):(decide (0≤z))=true) (mN (show(amG (amm z) n)=true by simp at hn h0 h1 h2 h3 h4⊢ <;>omega) (mN n0 (mN (decide_eq_true (by omega):(decide (0≤a))=true) (mN (show(amG (amm a) n)=true by simp at hn h0 h1 h2 h3 h4⊢ <;>omega) (mN n1 (WK 4 (show(au (ag b) (0+amm z*1) != au (ag b) (0+amm z*1))=false by simp) (mF (c:=decide (au (ag b) (0+amm z*1)<au (ag b) (0+amm a*1))) (fun h0=>(mN (aI b) (mR (l3 h0)))) (fun h0=>(mN (aI b) (mR (l4 h0))))))))))))
abbrev WO(x:Int):aj:=⟨[(2,.int .u64 (aml anc (↑(aol (anG 64 (aml anc (↑(aol (anG 64 (aml anc (↑(aol (anG 64 x^^^anG 64 (aml anc (x*8192)))):Int))^^^anG 64 (anS (aml anc (↑(aol (anG 64 x^^^anG 64 (aml anc (x*8192)))):Int)) 128))):Int))^^^anG 64 (aml anc (aml anc (↑(aol (anG 64 (aml anc (↑(aol (anG 64 x^^^anG 64 (aml anc (x*8192)))):Int))^^^anG 64 (anS (aml anc (↑(aol (anG 64 x^^^anG 64 (aml anc (x*8192)))):Int)) 128))):Int)*131072)))):Int)))],[ab ([.int .u64 (aml anc (↑(aol (anG 64 (aml anc (↑(aol (anG 64 (aml anc (↑(aol (anG 64 x^^^anG 64 (aml anc (x*8192)))):Int))^^^anG 64 (anS (aml anc (↑(aol (anG 64 x^^^anG 64 (aml anc (x*8192)))):Int)) 128))):Int))^^^anG 64 (aml anc (aml anc (↑(aol (anG 64 (aml anc (↑(aol (anG 64 x^^^anG 64 (aml anc (x*8192)))):Int))^^^anG 64 (anS (aml anc (↑(aol (anG 64 x^^^anG 64 (aml anc (x*8192)))):Int)) 128))):Int)*131072)))):Int))]) 112]⟩
abbrev WQ(x:Int):aj:=⟨[(0,an 0)],[ab [.int .u64 x] 112]⟩
theorem xs(x:Int){Q:aV}(l0:Q .ret (WO x)):al asz 33 1 WJ (WQ x) Q:=
 aZ bo 1000 (.leaf [2] [0] []) (fun u=>by kernel_rfl) (mR l0)
end
end Go.Proofs.Ytnlkkgpcikkpoaa
namespace Go.Proofs.Ytnlkkgpcikkpoaa
open Go Vm Go.RowKit
set_option maxRecDepth 100000
open Tree renaming aU→mN,dh→mF,eQ→mL
open Tree renaming aU→mN,dh→mF,eQ→mL
def Fe(a l m:Nat):Nat→Nat→UInt64×Array UInt8→UInt64×Array UInt8
 |0,_,st=>st
 |k+1,i,st=>Fe a l m k (i+1) (Sort.breakStep a l m st i)
structure alr(d:Array UInt8)(n a l i0:Nat)(s:(UInt64×Array UInt8)×Nat):Prop where
 h1:s.1.2.size=n
 h2:i0≤s.2
 h3:s.2≤i0+3
 h4:Fe a l (2^asd l) (i0+3-s.2) s.2 s.1=Fe a l (2^asd l) 3 i0 (UInt64.ofNat l,d)
open Tree renaming aU→mN,dh→mF,eQ→mL
open Tree renaming aU→mN,dh→mF,eQ→mL
end Go.Proofs.Ytnlkkgpcikkpoaa
namespace Go.Proofs.Ytnlkkgpcikkpoaa
open Go Vm Go.RowKit
noncomputable def rp(d:Array UInt8):Bool:=@decide (d.toList.Nodup) (amR _)
theorem LX{d:Array UInt8}:rp d=true↔d.toList.Nodup:=by unfold rp;exact @decide_eq_true_iff _ (amR _)
theorem LY{d:Array UInt8}:d.toList.Nodup↔∀i j,i<j→j<d.size→d[i]! ≠d[j]! :=by
 unfold List.Nodup
 rw[List.pairwise_iff_getElem]
 constructor
 ·intro h i j ia hj
  have:=h i j (by simpa using ase ia hj) (by simpa using hj) ia
  rw[getElem!_pos d i (ase ia hj),getElem!_pos d j hj]
  simpa using this
 ·intro h i j hi hj ia
  have e8:i<d.size:=by simpa using hi
  have j5:j<d.size:=by simpa using hj
  have:=h i j ia j5
  rw[getElem!_pos d i e8,getElem!_pos d j j5]at this
  simpa using this
end Go.Proofs.Ytnlkkgpcikkpoaa
namespace Go.Proofs.Ytnlkkgpcikkpoaa
open Go Vm Go.RowKit
set_option maxRecDepth 100000
structure WS where
 d:Array UInt8
 a:Nat
 z:Nat
 q:Nat
 x:Bool
 y:Bool
structure als(d:Array UInt8)(n a z q N:Nat)(s:WS):Prop where
 h1:s.d.size=n
 h2:s.z≤n
 h3:s.a≤s.z
 h4:s.q≤100
 h5:s.z-s.a≤N
 h6:Go.Sort.Below jz s.a s.z s.d
 h7:asx jz s.d s.a s.z s.q s.x s.y=asx jz d a z q true true
end Go.Proofs.Ytnlkkgpcikkpoaa
namespace Go.Proofs.Ytnlkkgpcikkpoaa
noncomputable section
open Go Vm Go.RowKit
set_option maxRecDepth 100000
theorem cg{l:List amn}(h:l.all af=true):∀n,(eU l n).all af=true
 |0=>rfl
 |n+1=>aB h (cg h n)
noncomputable def Aa:List am3:=ba (dy asz 22)
noncomputable def Ab:List am3:=ba (dy asz 23)
open Tree renaming aU→mN,dh→mF,eQ→mL,fw→mQ,dz→mR,fI→mE
noncomputable abbrev Ac:List am3:=(ba (inner (ba (inner (Ab.drop 2)))))
noncomputable abbrev Ff:List am3:=(ba (inner (Ac.drop 2)))
noncomputable abbrev WT:List am3:=(ba (inner (ba (inner (Aa.drop 2)))))
noncomputable abbrev WU:List am3:=(ba (inner (ba (inner (Ff.drop 1)))))
abbrev ic:=fun b (ro:Bool)=>([.cells (ag b) 5 ro]:List ai)
abbrev WV:=fun b (n:Nat) (v:Int) (ro:Bool)=>(⟨[(0,ah 0 n),(1,.int .u8 v)],ic b ro⟩:aj)
noncomputable abbrev LZ(b:ByteArray)(n:Nat)(ro:Bool):aj:=⟨[],ic b ro⟩
abbrev WW:=fun b (n:Nat) (v:Int) (ro:Bool)=>(⟨[(0,ah 0 n),(1,.int .u8 v),(5,aa 0)],ic b ro⟩:aj)
theorem WX(b:ByteArray)(n:Nat)(v:Int)(ro:Bool)(hn:n≤b.size){Q:aV}(l1:al asz 18 1 (Aa.drop 2) (WW b n v ro) Q):al asz 18 1 Aa (WV b n v ro) Q:=
 aZ bo 2 (.leaf [0,1,5] [0] [0]) (fun u=>by kernel_rfl) (mN (aI b) (mQ l1))
noncomputable abbrev L0(b:ByteArray)(n:Nat)(j:Int)(v:Int)(ro:Bool):aj:=⟨[(4,.bool true)],ic b ro⟩
theorem WY(b)(n:Nat)(j v:Int)(ro:Bool){Q:bk}(hq:Q (.ret (.bool true)) (ic b ro)):aH asz 22 18 1 Q .ret (L0 b n j v ro):=aH.ret (vs:=[.bool true]) (l:=[]) (bs:=[0]) (pl:=[0]) (q:=[ag b]) (fun u=>by kernel_rfl) (by kernel_rfl) (aE (aI b) bd) hq
abbrev L4:=fun b (n:Nat) (j v:Int) (ro:Bool)=>(⟨[(0,ah 0 n),(1,.int .u8 v),(5,.int .i64 (aml .i64 (j+1)))],ic b ro⟩:aj)
noncomputable abbrev WZ(b:ByteArray)(n:Nat)(j:Int)(v:Int)(ro:Bool):aj:=⟨[],ic b ro⟩
abbrev W5:=fun b (n:Nat) (j v:Int) (ro:Bool)=>(⟨[(0,ah 0 n),(1,.int .u8 v),(5,aa j)],ic b ro⟩:aj)
theorem W6(b:ByteArray)(n:Nat)(j v:Int)(ro:Bool)(hn:n≤b.size)(h0:0≤j){Q:aV}(n0:(decide (j<(↑n:Int)))=true→(cy amJ (ag b) (0+amm j*1))=true)(l2:(decide (j<(↑n:Int)))=true→(au (ag b) (0+amm j*1)==v)=true→Q .ret (L0 b n j v ro))(l3:(decide (j<(↑n:Int)))=true→(au (ag b) (0+amm j*1)==v)=false→Q .normal (L4 b n j v ro))(l4:(decide (j<(↑n:Int)))=false→Q (.exit 0) (WZ b n j v ro)):al asz 18 1 WT (W5 b n j v ro) Q:=
 aZ bo 1000 (.fork 1 (av [0,1,1,0,1] (.fork 0 (.leaf [4] [0] [0]) (.leaf [0,1,5] [0] [0]))) (.leaf [] [0] [0])) (fun u=>by kernel_rfl) (mF (c:=decide (j<(↑n:Int))) (fun h0=>(mN (decide_eq_true (by omega):(decide (0≤j))=true) (mN (show(amG (amm j) n)=true by simp at hn h0 h0⊢ <;>omega) (mN (n0 h0) (mF (c:=au (ag b) (0+amm j*1)==v) (fun h1=>(mN (aI b) (mR (l2 h0 h1)))) (fun h1=>(mN (aI b) (mQ (al.done (by kernel_rfl) (l3 h0 h1)))))))))) (fun h0=>(mN (aI b) (mE 0 (l4 h0)))))
noncomputable abbrev L5(b:ByteArray)(n:Nat)(ro:Bool):aj:=⟨[(4,.bool false)],ic b ro⟩
theorem W7(b)(n:Nat)(ro:Bool){Q:bk}(hq:Q (.ret (.bool false)) (ic b ro)):aH asz 22 18 1 Q .ret (L5 b n ro):=aH.ret (vs:=[.bool false]) (l:=[]) (bs:=[0]) (pl:=[0]) (q:=[ag b]) (fun u=>by kernel_rfl) (by kernel_rfl) (aE (aI b) bd) hq
theorem W8(b:ByteArray)(n:Nat)(ro:Bool)(hn:n≤b.size){Q:aV}(l1:Q .ret (L5 b n ro)):al asz 18 1 (Aa.drop 3) (LZ b n ro) Q:=
 aZ bo 1000 (.leaf [4] [0] [0]) (fun u=>by kernel_rfl) (mN (aI b) (mR l1))
abbrev W9:=fun b (n:Nat) (ro:Bool)=>(⟨[(0,ah 0 n),(3,aa 0)],ic b ro⟩:aj)
abbrev Xa:=fun b (n:Nat) (ro:Bool)=>(⟨[(0,ah 0 n)],ic b ro⟩:aj)
theorem Xb(b:ByteArray)(n:Nat)(ro:Bool)(hn:n≤b.size){Q:aV}(l1:al asz 25 1 (Ab.drop 2) (W9 b n ro) Q):al asz 25 1 Ab (Xa b n ro) Q:=
 aZ bo 2 (.leaf [0,3] [0] [0]) (fun u=>by kernel_rfl) (mN (aI b) (mQ l1))
abbrev Xc:=fun b (n:Nat) (i:Int) (ro:Bool)=>(⟨[(0,ah 0 n),(3,aa i)],ic b ro⟩:aj)
noncomputable abbrev Xd(b:ByteArray)(n:Nat)(i:Int)(ro:Bool):aj:=⟨[],ic b ro⟩
abbrev Fg:=fun b (n:Nat) (i:Int) (ro:Bool)=>(⟨[(0,ah 0 n),(3,aa i)],ic b ro⟩:aj)
theorem Xe(b:ByteArray)(n:Nat)(i:Int)(ro:Bool)(hn:n≤b.size){Q:aV}(l1:(decide (i<(↑n:Int)))=true→al asz 25 1 (Ac.drop 2) (Xc b n i ro) Q)(l2:(decide (i<(↑n:Int)))=false→Q (.exit 0) (Xd b n i ro)):al asz 25 1 Ac (Fg b n i ro) Q:=
 aZ bo 2 (.fork 1 (.leaf [0,3] [0] [0]) (.leaf [] [0] [0])) (fun u=>by kernel_rfl) (mF (c:=decide (i<(↑n:Int))) (fun h0=>(mN (aI b) (mQ (l1 h0)))) (fun h0=>(mN (aI b) (mE 0 (l2 h0)))))
abbrev Xf:=fun b (n:Nat) (i:Int) (ro:Bool)=>(⟨[(0,ah 0 n),(3,aa i),(4,aa 0)],ic b ro⟩:aj)
theorem Xg(b:ByteArray)(n:Nat)(i:Int)(ro:Bool)(hn:n≤b.size){Q:aV}(l1:al asz 25 1 (Ff.drop 1) (Xf b n i ro) Q):al asz 25 1 Ff (Fg b n i ro) Q:=
 aZ bo 1 (.leaf [0,3,4] [0] [0]) (fun u=>by kernel_rfl) (mN (aI b) (mQ l1))
noncomputable abbrev L6(b:ByteArray)(n:Nat)(i k:Int)(ro:Bool):aj:=⟨[(2,.bool false)],ic b ro⟩
theorem Xh(b)(n:Nat)(i k:Int)(ro:Bool){Q:bk}(hq:Q (.ret (.bool false)) (ic b ro)):aH asz 23 25 1 Q .ret (L6 b n i k ro):=aH.ret (vs:=[.bool false]) (l:=[]) (bs:=[0]) (pl:=[0]) (q:=[ag b]) (fun u=>by kernel_rfl) (by kernel_rfl) (aE (aI b) bd) hq
abbrev L7:=fun b (n:Nat) (i k:Int) (ro:Bool)=>(⟨[(0,ah 0 n),(3,aa i),(4,.int .i64 (aml .i64 (k+1)))],ic b ro⟩:aj)
abbrev Xi:=fun b (n:Nat) (i k:Int) (ro:Bool)=>(⟨[(0,ah 0 n),(3,aa i)],ic b ro⟩:aj)
abbrev Xj:=fun b (n:Nat) (i k:Int) (ro:Bool)=>(⟨[(0,ah 0 n),(3,aa i),(4,aa k)],ic b ro⟩:aj)
theorem Xk(b:ByteArray)(n:Nat)(i k:Int)(ro:Bool)(hn:n≤b.size)(h0:0≤k)(h1:0≤i)(h2:i<n){Q:aV}(n0:(decide (k<i))=true→(cy amJ (ag b) (0+amm k*1))=true)(n1:(decide (k<i))=true→(cy amJ (ag b) (0+amm i*1))=true)(l3:(decide (k<i))=true→(au (ag b) (0+amm k*1)==au (ag b) (0+amm i*1))=true→Q .ret (L6 b n i k ro))(l4:(decide (k<i))=true→(au (ag b) (0+amm k*1)==au (ag b) (0+amm i*1))=false→Q .normal (L7 b n i k ro))(l5:(decide (k<i))=false→Q (.exit 2) (Xi b n i k ro)):al asz 25 1 WU (Xj b n i k ro) Q:=
 aZ bo 1000 (.fork 0 (av [0,1,1,0,1,0,1,1,0,1] (.fork 0 (.leaf [2] [0] [0]) (.leaf [0,3,4] [0] [0]))) (.leaf [0,3] [0] [0])) (fun u=>by kernel_rfl) (mF (c:=decide (k<i)) (fun h0=>(mN (decide_eq_true (by omega):(decide (0≤k))=true) (mN (show(amG (amm k) n)=true by simp at hn h0 h1 h2 h0⊢ <;>omega) (mN (n0 h0) (mN (decide_eq_true (by omega):(decide (0≤i))=true) (mN (show(amG (amm i) n)=true by simp at hn h0 h1 h2 h0⊢ <;>omega) (mN (n1 h0) (mF (c:=au (ag b) (0+amm k*1)==au (ag b) (0+amm i*1)) (fun h1=>(mN (aI b) (mR (l3 h0 h1)))) (fun h1=>(mN (aI b) (mQ (al.done (by kernel_rfl) (l4 h0 h1))))))))))))) (fun h0=>(mN (aI b) (mE 2 (l5 h0)))))
abbrev L8:=fun b (n:Nat) (i:Int) (ro:Bool)=>(⟨[(0,ah 0 n),(3,.int .i64 (aml .i64 (i+1)))],ic b ro⟩:aj)
theorem Xl(b:ByteArray)(n:Nat)(i:Int)(ro:Bool)(hn:n≤b.size){Q:aV}(l1:Q .normal (L8 b n i ro)):al asz 25 1 (Ac.drop 3) (Fg b n i ro) Q:=
 aZ bo 1000 (.leaf [0,3] [0] [0]) (fun u=>by kernel_rfl) (mN (aI b) (mQ (al.done (by kernel_rfl) l1)))
noncomputable abbrev L9(b:ByteArray)(n:Nat)(ro:Bool):aj:=⟨[(2,.bool true)],ic b ro⟩
theorem Xm(b)(n:Nat)(ro:Bool){Q:bk}(hq:Q (.ret (.bool true)) (ic b ro)):aH asz 23 25 1 Q .ret (L9 b n ro):=aH.ret (vs:=[.bool true]) (l:=[]) (bs:=[0]) (pl:=[0]) (q:=[ag b]) (fun u=>by kernel_rfl) (by kernel_rfl) (aE (aI b) bd) hq
theorem Xn(b:ByteArray)(n:Nat)(ro:Bool)(hn:n≤b.size){Q:aV}(l1:Q .ret (L9 b n ro)):al asz 25 1 (Ab.drop 3) (LZ b n ro) Q:=
 aZ bo 1000 (.leaf [2] [0] [0]) (fun u=>by kernel_rfl) (mN (aI b) (mR l1))
end
end Go.Proofs.Ytnlkkgpcikkpoaa
namespace Go.Proofs.Ytnlkkgpcikkpoaa
open Go Vm Go.RowKit
set_option maxRecDepth 100000
noncomputable def rq(d:Array UInt8)(v:Int):Bool:=@decide (∃j,j<d.size∧(d[j]!.toNat:Int)=v) (amR _)
theorem Ma{d:Array UInt8}{v:Int}:rq d v=true↔∃j,j<d.size∧(d[j]!.toNat:Int)=v:=by unfold rq;exact @decide_eq_true_iff _ (amR _)
theorem Xo{d:Array UInt8}{v:Int}(h:∀j,j<d.size→(d[j]!.toNat:Int)≠v):rq d v=false:=by
 cases g:rq d v with
 |false=>rfl
 |true=>obtain⟨j,h1,h2⟩:=Ma.1 g;exact absurd h2 (h j h1)
def Ad(k0:Nat)(d:Array UInt8)(x k:Nat):Nat×Array UInt8:=
 if k0+x<d.size then(if d[k0+x]! ≠d[k0+x-1]!then Ad k0 (d.setIfInBounds k d[k0+x]!) (x+1) (k+1)else Ad k0 d (x+1) k)else(k,d)
termination_by d.size-(k0+x)
decreasing_by all_goals first|(simp only[Array.size_setIfInBounds];omega)|omega
abbrev tj(d:Array UInt8)(ro:Bool):ai:=.cells (ag (gQ d)) 5 ro
theorem Xp(d:Array UInt8)(n:Nat)(v:Int)(hd:d.size=n)(hn:n≤10000)(ro:Bool):
 aG asz 22 [xz n,.int .u8 v] [tj d ro] fun r o=>r=.ret (.bool (rq d v))∧o=[tj d ro]:=by
 have cc:n≤(gQ d).size:=by rw[LU];omega
 refine aG.cM (n:=ct asz 22) (by kernel_rfl) ?_
 apply WX (gQ d) n v ro cc
 ·
  refine al.eJ 2 0 (by kernel_rfl) ?_
  refine al.fJ (fun j:Nat=>⟨[(0,xz n),(1,.int .u8 v),(5,iA j)],[tj d ro]⟩) (fun j=>n-j) (fun j=>j≤n∧∀i,i<j→(d[i]!.toNat:Int)≠v) 0 (by kernel_rfl) ⟨ann _,fun i h=>by omega⟩ ?_
  rintro j ⟨h1,h2⟩
  apply W6 (gQ d) n (j:Nat) v ro cc (by omega)
  case n0=>intro g;have g:=of_decide_eq_true g;rw[qk];exact z9 (by omega)
  case l2=>
   intro g g2
   have g:=of_decide_eq_true g
   rw[qk,u6 (by omega)]at g2
   with_reducible (repeat first|refine QL.ret ?_|refine QL.exit ?_|refine QB.ret ?_|refine QB.ci ?_|refine QB.normal ?_|refine QB.cu (by rfl) ?_)
   refine WY (gQ d) n (j:Nat) v ro ?_
   rw[Ma.2 ⟨j,by omega,by simpa using g2⟩]
   exact⟨rfl,rfl⟩
  case l3=>
   intro g g2
   have g:=of_decide_eq_true g
   rw[qk,u6 (by omega)]at g2
   with_reducible (repeat first|refine QL.ret ?_|refine QL.exit ?_|refine QB.ret ?_|refine QB.ci ?_|refine QB.normal ?_|refine QB.cu (by rfl) ?_)
   refine QL.to (j+1) ⟨by omega,fun i hi=>?_⟩ (by omega) (by unfold L4;rw[Fb (by omega)])
   by_cases e:i=j
   ·subst e;simpa using g2
   ·exact h2 i (by omega)
  case l4=>
   intro g
   have g:=of_decide_eq_false g
   with_reducible (repeat first|refine QL.ret ?_|refine QL.exit ?_|refine QB.ret ?_|refine QB.ci ?_|refine QB.normal ?_|refine QB.cu (by rfl) ?_)
   apply W8 (gQ d) n ro cc
   ·
    with_reducible (repeat first|refine QL.ret ?_|refine QL.exit ?_|refine QB.ret ?_|refine QB.ci ?_|refine QB.normal ?_|refine QB.cu (by rfl) ?_)
    refine W7 (gQ d) n ro ?_
    rw[Xo fun i hi=>h2 i (by omega)]
    exact⟨rfl,rfl⟩
theorem Xq{d:Array UInt8}{i j:Nat}(h:i<j)(hj:j<d.size)(e:d[i]! =d[j]!):rp d=false:=by
 cases g:rp d with
 |false=>rfl
 |true=>exact absurd e (LY.1 (LX.1 g) i j h hj)
theorem Xr(d:Array UInt8)(n:Nat)(hd:d.size=n)(hn:n≤10000)(ro:Bool):
 aG asz 23 [xz n] [tj d ro] fun r o=>r=.ret (.bool (rp d))∧o=[tj d ro]:=by
 have cc:n≤(gQ d).size:=by rw[LU];omega
 refine aG.cM (n:=ct asz 23) (by kernel_rfl) ?_
 apply Xb (gQ d) n ro cc
 ·
  refine al.eJ 2 0 (by kernel_rfl) ?_
  refine al.fJ (fun j:Nat=>⟨[(0,xz n),(3,iA j)],[tj d ro]⟩) (fun j=>n-j) (fun j=>j≤n∧∀p q,p<q→q<j→d[p]! ≠d[q]!) 0 (by kernel_rfl) ⟨ann _,fun p q h h2=>by omega⟩ ?_
  rintro i ⟨h1,h2⟩
  apply Xe (gQ d) n (i:Nat) ro cc
  case l2=>
   intro g
   have g:=of_decide_eq_false g
   with_reducible (repeat first|refine QL.ret ?_|refine QL.exit ?_|refine QB.ret ?_|refine QB.ci ?_|refine QB.normal ?_|refine QB.cu (by rfl) ?_)
   apply Xn (gQ d) n ro cc
   ·
    with_reducible (repeat first|refine QL.ret ?_|refine QL.exit ?_|refine QB.ret ?_|refine QB.ci ?_|refine QB.normal ?_|refine QB.cu (by rfl) ?_)
    refine Xm (gQ d) n ro ?_
    rw[LX.2 (LY.2 fun p q Xs hq=>h2 p q Xs (by omega))]
    exact⟨rfl,rfl⟩
  case l1=>
   intro g
   have g:=of_decide_eq_true g
   refine al.eJ 2 1 (by kernel_rfl) ?_
   apply Xg (gQ d) n (i:Nat) ro cc
   ·
    refine al.eJ 1 2 (by kernel_rfl) ?_
    refine al.fJ (fun k:Nat=>⟨[(0,xz n),(3,iA i),(4,iA k)],[tj d ro]⟩) (fun k=>i-k) (fun k=>k≤i∧∀p,p<k→d[p]! ≠d[i]!) 0 (by kernel_rfl) ⟨ann _,fun p h=>by omega⟩ ?_
    rintro k ⟨h3,h4⟩
    apply Xk (gQ d) n (i:Nat) (k:Nat) ro cc (by omega) (by omega) (by omega)
    case n0=>intro g;have g:=of_decide_eq_true g;rw[qk];exact z9 (by omega)
    case n1=>intro g;have g:=of_decide_eq_true g;rw[qk];exact z9 (by omega)
    case l3=>
     intro g g2
     have g:=of_decide_eq_true g
     rw[qk,qk,u6 (by omega),u6 (by omega)]at g2
     have g3:=beq_iff_eq.1 g2
     have g2:d[k]! =d[i]! :=UInt8.toNat_inj.1 (by omega)
     with_reducible (repeat first|refine QL.ret ?_|refine QL.exit ?_|refine QB.ret ?_|refine QB.ci ?_|refine QB.normal ?_|refine QB.cu (by rfl) ?_)
     refine Xh (gQ d) n (i:Nat) (k:Nat) ro ?_
     rw[Xq (show k<i by omega) (by omega) g2]
     exact⟨rfl,rfl⟩
    case l4=>
     intro g g2
     have g:=of_decide_eq_true g
     rw[qk,qk,u6 (by omega),u6 (by omega)]at g2
     with_reducible (repeat first|refine QL.ret ?_|refine QL.exit ?_|refine QB.ret ?_|refine QB.ci ?_|refine QB.normal ?_|refine QB.cu (by rfl) ?_)
     refine QL.to (k+1) ⟨by omega,fun p hp=>?_⟩ (by omega) (by unfold L7;rw[Fb (by omega)])
     by_cases e:p=k
     ·subst e;intro e;rw[e]at g2;simp at g2
     ·exact h4 p (by omega)
    case l5=>
     intro g
     have g:=of_decide_eq_false g
     with_reducible (repeat first|refine QL.ret ?_|refine QL.exit ?_|refine QB.ret ?_|refine QB.ci ?_|refine QB.normal ?_|refine QB.cu (by rfl) ?_)
     refine al.done (by kernel_rfl) ?_
     with_reducible (repeat first|refine QL.ret ?_|refine QL.exit ?_|refine QB.ret ?_|refine QB.ci ?_|refine QB.normal ?_|refine QB.cu (by rfl) ?_)
     apply Xl (gQ d) n (i:Nat) ro cc
     ·
      refine QL.to (i+1) ⟨by omega,fun p q hp hq=>?_⟩ (by omega) (by unfold L8;rw[Fb (by omega)])
      by_cases e:q=i
      ·subst e;exact h4 p (by omega)
      ·exact h2 p q hp (by omega)
structure alt(n k0:Nat)(d:Array UInt8)(s:Array UInt8×Nat×Nat):Prop where
 h1:s.1.size=n
 h2:1≤s.2.1
 h3:s.2.1≤n-k0
 h4:s.2.2+1≤k0+s.2.1
 h5:Ad k0 s.1 s.2.1 s.2.2=Ad k0 d 1 k0
noncomputable def Fh(a:List amn)(o:List ai):Option (Bool×bL×List ai):=match a,o with
 | [.slice (some ⟨0,0,none⟩) n m,.int .u8 v],[.cells l el ro]=>some (pf l (m=n∧el=5∧l.length=n∧n≤10000),.ret (.bool (rq (rl l) v)),[.cells l el ro])
 |_,_=>none
theorem Xt:bp asz 22 (Sum.of Fh):=bp.of fun a o r o' hg=>by
 unfold Fh at hg
 split at hg
 ·rename_i n m v l el ro
  simp only[amr,amv,Fc]at hg
  obtain⟨⟨⟨d,rfl⟩,rfl,rfl,hl,hn⟩,rfl,rfl⟩:=hg
  have hd:d.size=m:=by rw[←hl,mB];rfl
  rw[LV]
  exact Xp d m v hd hn ro
 ·cases hg
noncomputable def Fi(a:List amn)(o:List ai):Option (Bool×bL×List ai):=match a,o with
 | [.slice (some ⟨0,0,none⟩) n m],[.cells l el ro]=>some (pf l (m=n∧el=5∧l.length=n∧n≤10000),.ret (.bool (rp (rl l))),[.cells l el ro])
 |_,_=>none
theorem Xu:bp asz 23 (Sum.of Fi):=bp.of fun a o r o' hg=>by
 unfold Fi at hg
 split at hg
 ·rename_i n m l el ro
  simp only[amr,amv,Fc]at hg
  obtain⟨⟨⟨d,rfl⟩,rfl,rfl,hl,hn⟩,rfl,rfl⟩:=hg
  have hd:d.size=m:=by rw[←hl,mB];rfl
  rw[LV]
  exact Xr d m hd hn ro
 ·cases hg
end Go.Proofs.Ytnlkkgpcikkpoaa
namespace Go.Proofs.Ytnlkkgpcikkpoaa
noncomputable section
open Go Vm Go.RowKit
set_option maxRecDepth 100000
noncomputable def Xv:List am3:=ba (dy asz 27)
end
end Go.Proofs.Ytnlkkgpcikkpoaa
namespace Go.Proofs.Ytnlkkgpcikkpoaa
open Go Vm Go.RowKit
set_option maxRecDepth 100000
def Mb:amn:=.agg #[.int .i64 (0),.int .i64 (0),.int .i64 (0),.int .i64 (0),.int .i64 (0),.int .i64 (0),.int .i64 (0),.int .i64 (0),.int .i64 (15),.int .i64 (0),.int .i64 (0),.int .i64 (1),.int .i64 (0),.int .i64 (0),.int .i64 (0),.int .i64 (15),.int .i64 (0),.int .i64 (1),.int .i64 (0),.int .i64 (0),.int .i64 (0),.int .i64 (0),.int .i64 (1000000000),.int .i64 (0),.int .i64 (1),.int .i64 (1),.int .i64 (64),.int .i64 (0),.int .i64 (0),.int .i64 (9223372036854775807),.int .i64 (0),.int .i64 (1),.int .i64 (1),.int .i64 (64),.int .i64 (64),.int .i64 (0),.int .i64 (1),.int .i64 (1),.int .i64 (1),.int .i64 (1),.int .i64 (64),.int .i64 (0),.int .i64 (0),.int .i64 (0),.int .i64 (2),.int .i64 (1),.int .i64 (1),.int .i64 (0),.int .i64 (0),.int .i64 (1),.int .i64 (65535),.int .i64 (3),.int .i64 (1),.int .i64 (1),.int .i64 (64),.int .i64 (0),.int .i64 (0),.int .i64 (1),.int .i64 (0),.int .i64 (1),.int .i64 (1),.int .i64 (128),.int .i64 (0),.int .i64 (0),.int .i64 (0),.int .i64 (0),.int .i64 (1),.int .i64 (1),.int .i64 (0),.int .i64 (0),.int .i64 (0),.int .i64 (1000000000),.int .i64 (0),.int .i64 (1),.int .i64 (1),.int .i64 (64),.int .i64 (0),.int .i64 (0),.int .i64 (1),.int .i64 (0),.int .i64 (1),.int .i64 (1),.int .i64 (320),.int .i64 (0),.int .i64 (1),.int .i64 (4),.int .i64 (0),.int .i64 (-1),.int .i64 (1),.int .i64 (0),.int .i64 (0),.int .i64 (1),.int .i64 (4),.int .i64 (3),.int .i64 (-1),.int .i64 (1),.int .i64 (0),.int .i64 (96),.int .i64 (1),.int .i64 (9223372036854775807),.int .i64 (3),.int .i64 (2),.int .i64 (1),.int .i64 (192),.int .i64 (128),.int .i64 (1),.int .i64 (4),.int .i64 (0),.int .i64 (1),.int .i64 (-1),.int .i64 (0),.int .i64 (0),.int .i64 (1),.int .i64 (4),.int .i64 (0),.int .i64 (1),.int .i64 (-1),.int .i64 (64),.int .i64 (0)]
def Fj(a:List amn)(o:List ai):Option (Bool×bL×List ai):=match a,o with
 | [],[]=>some (true,.ret Mb,[])
 |_,_=>none
end Go.Proofs.Ytnlkkgpcikkpoaa
namespace Go.Proofs.Ytnlkkgpcikkpoaa
noncomputable section
open Go Vm Go.RowKit
set_option maxRecDepth 100000
noncomputable def Ae:List am3:=ba (dy asz 30)
open Tree renaming aU→mN,dh→mF,eQ→mL
end
end Go.Proofs.Ytnlkkgpcikkpoaa
namespace Go.Proofs.Ytnlkkgpcikkpoaa
open Go Vm Go.RowKit
set_option maxRecDepth 100000
theorem aG.Mc{P:Program}{f:amY}{args:List amn}{objs:List ai}{Q Q':bL→List ai→Prop}(el:TypeId){s:Nat}(hz:bT P el=some s)(hk:objs.length<262144)(h:aG P f args objs Q)
 (hq:∀r o,Q r o→objs.length≤o.length∧o.length<262144∧(Q' r o∨(r=.ret (.slice none 0 0)∧Q' (.ret (.slice (some ⟨o.length,0,none⟩) 0 0)) (o++[.cells [] el false])))):aG P f args objs Q':=by
 intro B w₀ ρ w args' h1 h2 h3 h4
 refine(h B w₀ ρ w args' h1 h2 h3 h4).mono ?_
 rintro e w' ⟨r,o,ρ',a,b,c,d,e1,e2⟩
 obtain⟨hl,js,hq⟩:=hq r o a
 rcases hq with hq|⟨rfl,hq⟩
 ·exact⟨r,o,ρ',hq,b,c,d,e1,e2⟩
 ·obtain⟨ρ1,f1,f2,f3,r',f4⟩:=d.Lb hz js
  refine⟨_,_,ρ1,hq,?_,fun r=>?_,f2,by simp;omega,fun x hx=>by rw[f3 x (by omega),e2 x hx]⟩
  ·cases e with
   |returned v=>have hv:VR ρ' (.slice none 0 0) v:=b;cases hv with
    |bH _ _=>exact VR.dV _ _
   |panicked ch=>cases b
   |outgrown=>cases b
  ·obtain⟨y,g1,g2⟩:=c r
   exact⟨y,g1,f1 _ _ g2⟩
end Go.Proofs.Ytnlkkgpcikkpoaa
namespace Go.Proofs.Ytnlkkgpcikkpoaa
noncomputable section
open Go Vm Go.RowKit
set_option maxRecDepth 100000
open Tree renaming aU→mN,dh→mF,eQ→mL,fw→mQ,dz→mR,fI→mE
noncomputable abbrev Me:List am3:=(Ae.drop 2)
abbrev Mf:=fun c (o n m:Nat)=>(⟨[(2,ah 1 (0+n))],[ab (ag c) 5,ab ([]++amM (n*1) (an4 o (ag c))) 5]⟩:aj)
theorem Xw(c)(o n m:Nat){Q:bk}(aW:amq (ag c) af=true)(hq:Q (.ret (ah 1 (0+n))) [ab (ag c) 5,ab ([]++amM (n*1) (an4 o (ag c))) 5]):aH asz 30 8 1 Q .ret (Mf c o n m):=aH.ret (vs:=[ah 1 (0+n)]) (l:=[]) (bs:=[0,1]) (pl:=[0,1]) (q:=[ag c,[]++amM (n*1) (an4 o (ag c))]) (fun u=>by kernel_rfl) (by kernel_rfl) (aE aW (aE (by first|exact aP _|assumption|exact aD (by assumption) rfl _|exact aD (aD (aD (by assumption) rfl _) rfl _) rfl _|exact aD (aP _) (cg (by rfl) _) _|exact aA (aO (aN _) _) _|(simp;done)|exact aB (by assumption) rfl|exact aB (aP _) rfl|exact aB rfl (aA (by assumption) _)|exact aB (by assumption) (aA (by assumption) _)|exact aB rfl (aA (aO (by assumption) _) _)|exact aA (aO (by assumption) _) _) bd)) hq
abbrev tk:=fun c=>([ab (ag c) 5]:List ai)
abbrev Xx:=fun c (o n m:Nat)=>(⟨[(0,di 0 o n m)],tk c⟩:aj)
theorem Xy(c:ByteArray)(o n m:Nat)(h1:0<m)(h2:n≤m)(h3:o+m=c.size)(h4:c.size≤1000000){Q:aV}(n0:(amq (amM (n*1) (an4 o (ag c))) ano)=true)(aW:amq (ag c) af=true)(l2:Q .ret (Mf c o n m)):al asz 8 1 Ae (Xx c o n m) Q:=
 aZ bo 1000 (av [0,1,2,1,1,1,1] (.leaf [2] [0,2] [0,2])) (fun u=>by kernel_rfl) (mN (show(amG 0 m)=true by simp at h1 h2 h3 h4⊢ <;>omega) (mN (show(amO (o+n*1) (mM (ag c)))=true by simp at h1 h2 h3 h4⊢ <;>omega) (mN (show(amO (0+n) 1000000)=true by simp at h1 h2 h3 h4⊢ <;>omega) (mN n0 (mN (show(Nat.beq (mM (amM (n*1) (an4 o (ag c)))) (n*1))=true by simp at h1 h2 h3 h4⊢ <;>omega) (mN (aI c) (mN (show(amq ([]++amM (n*1) (an4 o (ag c))) af)=true by first|exact aP _|assumption|exact aD (by assumption) rfl _|exact aD (aD (aD (by assumption) rfl _) rfl _) rfl _|exact aD (aP _) (cg (by rfl) _) _|exact aA (aO (aN _) _) _|(simp;done)|exact aB (by assumption) rfl|exact aB (aP _) rfl|exact aB rfl (aA (by assumption) _)|exact aB (by assumption) (aA (by assumption) _)|exact aB rfl (aA (aO (by assumption) _) _)|exact aA (aO (by assumption) _) _) (mR l2))))))))
abbrev Xz:=fun c (o:Nat)=>(⟨[(0,di 0 o 0 0)],tk c⟩:aj)
abbrev XA:=fun c (o:Nat)=>(⟨[(0,di 0 o 0 0)],tk c⟩:aj)
theorem XB(c)(o:Nat){Q:aV}(l1:al asz 8 1 (Ae.drop 1) (Xz c o) Q):al asz 8 1 Ae (XA c o) Q:=
 aZ bo 1 (.leaf [0] [0] [0]) (fun u=>by kernel_rfl) (mN (aI c) (mQ l1))
abbrev Mg:=fun c (o:Nat)=>(⟨[(2,cd)],tk c⟩:aj)
theorem XC(c)(o:Nat){Q:bk}(hq:Q (.ret (cd)) (tk c)):aH asz 30 8 1 Q .ret (Mg c o):=aH.ret (vs:=[cd]) (l:=[]) (bs:=[0]) (pl:=[0]) (q:=[ag c]) (fun u=>by kernel_rfl) (by kernel_rfl) (aE (aI c) bd) hq
abbrev XD:=fun c (o:Nat)=>(⟨[(0,di 0 o 0 0),(4,.bool true)],tk c⟩:aj)
theorem XE(c)(o:Nat){Q:aV}(aW:amq (ag c) af=true)(l1:Q .ret (Mg c o)):al asz 8 1 Me (XD c o) Q:=
 aZ bo 1000 (.leaf [2] [0] [0]) (fun u=>by kernel_rfl) (mN (aI c) (mR l1))
abbrev Mh:=fun c (o n:Nat)=>(⟨[(2,ah 1 (0+n))],[ab (ag c) 5,ab ([]++amM (n*1) (an4 o (ag c))) 5]⟩:aj)
theorem XF(c)(o n:Nat){Q:bk}(aW:amq (ag c) af=true)(hq:Q (.ret (ah 1 (0+n))) [ab (ag c) 5,ab ([]++amM (n*1) (an4 o (ag c))) 5]):aH asz 30 8 1 Q .ret (Mh c o n):=aH.ret (vs:=[ah 1 (0+n)]) (l:=[]) (bs:=[0,1]) (pl:=[0,1]) (q:=[ag c,[]++amM (n*1) (an4 o (ag c))]) (fun u=>by kernel_rfl) (by kernel_rfl) (aE aW (aE (by first|exact aP _|assumption|exact aD (by assumption) rfl _|exact aD (aD (aD (by assumption) rfl _) rfl _) rfl _|exact aD (aP _) (cg (by rfl) _) _|exact aA (aO (aN _) _) _|(simp;done)|exact aB (by assumption) rfl|exact aB (aP _) rfl|exact aB rfl (aA (by assumption) _)|exact aB (by assumption) (aA (by assumption) _)|exact aB rfl (aA (aO (by assumption) _) _)|exact aA (aO (by assumption) _) _) bd)) hq
abbrev XG:=fun c (o n:Nat)=>(⟨[(0,di 0 o n n),(4,.bool false)],tk c⟩:aj)
theorem XH(c:ByteArray)(o n:Nat)(h1:o+n≤c.size)(h2:c.size≤1000000){Q:aV}(n0:(amq (amM (n*1) (an4 o (ag c))) ano)=true)(aW:amq (ag c) af=true)(l2:Q .ret (Mh c o n)):al asz 8 1 Me (XG c o n) Q:=
 aZ bo 1000 (av [2,1,1,1,1] (.leaf [2] [0,2] [0,2])) (fun u=>by kernel_rfl) (mN (show(amO (o+n*1) (mM (ag c)))=true by simp at h1 h2⊢ <;>omega) (mN (show(amO (0+n) 1000000)=true by simp at h1 h2⊢ <;>omega) (mN n0 (mN (show(Nat.beq (mM (amM (n*1) (an4 o (ag c)))) (n*1))=true by simp at h1 h2⊢ <;>omega) (mN (aI c) (mN (show(amq ([]++amM (n*1) (an4 o (ag c))) af)=true by first|exact aP _|assumption|exact aD (by assumption) rfl _|exact aD (aD (aD (by assumption) rfl _) rfl _) rfl _|exact aD (aP _) (cg (by rfl) _) _|exact aA (aO (aN _) _) _|(simp;done)|exact aB (by assumption) rfl|exact aB (aP _) rfl|exact aB rfl (aA (by assumption) _)|exact aB (by assumption) (aA (by assumption) _)|exact aB rfl (aA (aO (by assumption) _) _)|exact aA (aO (by assumption) _) _) (mR l2)))))))
end
end Go.Proofs.Ytnlkkgpcikkpoaa
namespace Go.Proofs.Ytnlkkgpcikkpoaa
open Go Vm Go.RowKit
set_option maxRecDepth 100000
theorem XI(c:ByteArray)(o:Nat)(ho:o≤c.size)(hc:c.size≤1000000):aG asz 30 [.slice (some ⟨0,o,none⟩) 0 0] [.cells (ag c) 5 false] fun r o'=>r=.ret (.slice (some ⟨1,0,none⟩) 0 0)∧o'=[.cells (ag c) 5 false,.cells [] 5 false]:=by
 refine aG.Mc (Q:=fun r o=>(r=.ret (.slice (some ⟨1,0,none⟩) 0 0)∧o=[.cells (ag c) 5 false,.cells [] 5 false])∨(r=.ret (.slice none 0 0)∧o=[.cells (ag c) 5 false])) 5 (s:=1) (by kernel_rfl) (by simp) ?_ ?_
 ·refine aG.cM (n:=ct asz 30) (by kernel_rfl) ?_
  apply XB c o
  refine al.Le ⟨0,3,4,22⟩ 5 ⟨0,o,none⟩ (by kernel_rfl) (by kernel_rfl) (by rfl) (by rfl) ?_
  intro b
  cases b with
  |true=>exact XE c o (by simp) (XC c o (.inr ⟨rfl,rfl⟩))
  |false=>exact XH c o 0 ho hc (by rfl) (by simp) (XF c o 0 (by simp) (.inl ⟨rfl,by simp⟩))
 ·rintro r o (⟨rfl,rfl⟩|⟨rfl,rfl⟩)
  ·exact⟨by simp,by simp,.inl ⟨rfl,rfl⟩⟩
  ·exact⟨by simp,by simp,.inr ⟨rfl,rfl,rfl⟩⟩
theorem XJ(c:ByteArray)(o n m:Nat)(h1:n≤m)(h2:o+m=c.size)(hc:c.size≤1000000):aG asz 30 [.slice (some ⟨0,o,none⟩) n m] [.cells (ag c) 5 false] fun r o'=>r=.ret (.slice (some ⟨1,0,none⟩) n n)∧o'=[.cells (ag c) 5 false,.cells (((ag c).drop o).take n) 5 false]:=by
 by_cases h0:m=0
 ·subst h0
  have:n=0:=by omega
  subst this
  refine(XI c o (by omega) hc).mono ?_
  rintro r o' ⟨rfl,rfl⟩
  exact⟨rfl,by rw[List.take_zero]⟩
 ·refine aG.cM (n:=ct asz 30) (by kernel_rfl) ?_
  apply Xy c o n m (by omega) h1 h2 hc
  case n0=>exact sS (aA (aO (aI _) _) _)
  case aW=>simp
  case l2=>exact Xw c o n m (by simp) ⟨by rw[Nat.zero_add],by rw[List.nil_append,aoQ]⟩
noncomputable def Af(l:List amn)(o n m:Nat)(el:TypeId)(ro:Bool):Bool:=@decide (∃c:ByteArray,l=ag c∧n≤m∧o+m=c.size∧c.size≤1000000∧el=5∧ro=false) (amR _)
noncomputable def Fk(a:List amn)(o:List ai):Option (Bool×bL×List ai):=match a,o with
 | [.slice (some ⟨0,p,none⟩) n m],[.cells l el ro]=>some (Af l p n m el ro,.ret (.slice (some ⟨1,0,none⟩) n n),[.cells l el ro,.cells ((l.drop p).take n) el false])
 |_,_=>none
theorem XK:bp asz 30 (Sum.of Fk):=bp.of fun a o r o' hg=>by
 unfold Fk at hg
 split at hg
 ·rename_i p n m l el ro
  simp only[amr,amv]at hg
  obtain⟨h1,rfl,rfl⟩:=hg
  obtain⟨c,rfl,h2,h3,h4,rfl,rfl⟩:=@of_decide_eq_true _ (amR _) h1
  exact XJ c p n m h2 h3 h4
 ·cases hg
theorem XL{c:ByteArray}{o n m:Nat}(h1:n≤m)(h2:o+m=c.size)(h3:c.size≤1000000):Af (ag c) o n m 5 false=true:=by
 unfold Af
 exact(@decide_eq_true_iff _ (amR _)).2 ⟨c,rfl,h1,h2,h3,rfl,rfl⟩
theorem XM(c:ByteArray)(a b:Nat):ag (c.extract a b)=((ag c).drop a).take (b-a):=by
 unfold ag
 rw[ByteArray.data_extract,Array.toList_extract,List.extract_eq_take_drop,List.map_take,List.map_drop]
theorem Mi(a b:ByteArray):ag (a++b)=ag a++ag b:=by
 unfold ag
 rw[ByteArray.data_append,Array.toList_append,anh]
end Go.Proofs.Ytnlkkgpcikkpoaa
namespace Go.Proofs.Ytnlkkgpcikkpoaa
noncomputable section
open Go Vm Go.RowKit
set_option maxRecDepth 100000
def XN(sc:List (Int×Int))(x0:List amn)(es:List amW)(ck nb:Nat)(f5:List amn)(dm dc dr:Int):List (amY×Sum):=[(114,Sum.one (fun _ _=>some jP) [ah 2 sc.length,.func (.func 115) #[] #[an 6]] (fx sc x0 es ck nb f5 dm dc dr++[ab [an 0] 33]) (.ret (aa (cI sc dc))) (fx sc x0 es ck nb f5 dm dc dr++[ab [an 0] 33]))]
theorem XO(sc:List (Int×Int))(x0:List amn)(es:List amW)(ck nb:Nat)(f5:List amn)(dm dc dr:Int)(hs:(mM sc)≤1000000)(h0:x0.all af=true)(h3:(bu jP es).all af=true)(h5:f5.all af=true):dg asz (dE asz (dF (XN sc x0 es ck nb f5 dm dc dr)) 50 40):=
 dJ cZ mixed (dQ (.cons (bp.one (Wz sc x0 es ck nb f5 dm dc dr hs h0 h3 h5)) .nil)) 50 40
def XP(sc:List (Int×Int))(x0:List amn)(es:List amW)(ck nb:Nat)(f5:List amn)(dm dc dr:Int):List (amY×Sum):=[(114,Sum.one (fun _ _=>some jP) [ah 2 sc.length,.func (.func 115) #[] #[an 6]] (fq sc x0 es ck nb f5 dm dc dr++[ab [an 0] 33]) (.ret (aa (cI sc dc))) (fq sc x0 es ck nb f5 dm dc dr++[ab [an 0] 33]))]
theorem XQ(sc:List (Int×Int))(x0:List amn)(es:List amW)(ck nb:Nat)(f5:List amn)(dm dc dr:Int)(hs:(mM sc)≤1000000)(h0:x0.all af=true)(h3:(bu jP es).all af=true)(h5:f5.all af=true):dg asz (dE asz (dF (XP sc x0 es ck nb f5 dm dc dr)) 50 40):=
 dJ cZ mixed (dQ (.cons (bp.one (WB sc x0 es ck nb f5 dm dc dr hs h0 h3 h5)) .nil)) 50 40
noncomputable def Mj:List am3:=ba (dy asz 108)
abbrev Mk:=fun(sc:List (Int×Int)) x0 es (ck nb:Nat) f5 (dm dc dr:Int)=>(⟨[(2,aa 0)],[ab ([ah 2 (mM sc),.map (some 3),aa dm,.int .i64 (aml amA (dc+1)),aa dr]) 70,ab x0 5,ab (aF sc) 67,.map es ck,ab [ah 5 nb] 174,ab f5 5]⟩:aj)
theorem XS(sc:List (Int×Int))(x0 es)(ck nb:Nat)(f5)(dm dc dr:Int){Q:bk}(aW:amq x0 af=true)(cj:amq (bu [0,1,2,3,4,5] es) af=true)(br:amq f5 af=true)(hq:Q (.ret (aa 0)) [ab ([ah 2 (mM sc),.map (some 3),aa dm,.int .i64 (aml amA (dc+1)),aa dr]) 70,ab x0 5,ab (aF sc) 67,.map es ck,ab [ah 5 nb] 174,ab f5 5]):aH anm 108 30 6 Q .ret (Mk sc x0 es ck nb f5 dm dc dr):=aH.ret (vs:=[aa 0]) (l:=[]) (bs:=[0,1,2,3,4,5]) (pl:=[1,2,3,5]) (q:=[x0,aF sc,bu [0,1,2,3,4,5] es,f5]) (fun u=>by kernel_rfl) (by kernel_rfl) (aE aW (aE (a9 sc) (aE cj (aE br bd)))) hq
abbrev Ml:=fun(sc:List (Int×Int)) x0 es (ck nb:Nat) f5 (dm dc dr:Int)=>(⟨[(2,aa 25)],[ab ([ah 2 (mM sc),.map (some 3),aa dm,.int .i64 (aml amA (dc+1)),aa (au (aF sc) (0+amm (cI sc dc)*2+1))]) 70,ab x0 5,ab (aF sc) 67,.map es ck,ab [ah 5 nb] 174,ab f5 5]⟩:aj)
theorem XT(sc:List (Int×Int))(x0 es)(ck nb:Nat)(f5)(dm dc dr:Int){Q:bk}(aW:amq x0 af=true)(cj:amq (bu [0,1,2,3,4,5] es) af=true)(br:amq f5 af=true)(hq:Q (.ret (aa 25)) [ab ([ah 2 (mM sc),.map (some 3),aa dm,.int .i64 (aml amA (dc+1)),aa (au (aF sc) (0+amm (cI sc dc)*2+1))]) 70,ab x0 5,ab (aF sc) 67,.map es ck,ab [ah 5 nb] 174,ab f5 5]):aH anm 108 30 6 Q .ret (Ml sc x0 es ck nb f5 dm dc dr):=aH.ret (vs:=[aa 25]) (l:=[]) (bs:=[0,1,2,3,4,5]) (pl:=[1,2,3,5]) (q:=[x0,aF sc,bu [0,1,2,3,4,5] es,f5]) (fun u=>by kernel_rfl) (by kernel_rfl) (aE aW (aE (a9 sc) (aE cj (aE br bd)))) hq
theorem XU(sc:List (Int×Int))(x0:List amn)(es:List amW)(ck nb:Nat)(f5:List amn)(dm dc dr:Int)(hs:(mM sc)≤1000000)(h0:x0.all af=true)(h3:(bu jP es).all af=true)(h4:(es.map (dM fun i=>(jP++eV 7 0)[i]?)).all af=true)(hp:(aF sc).all af=true)(h6:(bu dN es).all af=true)(h5:f5.all af=true){Q:aV}(n0:(dX [ah 2 (mM sc),apw (aqu 115) #[] #[anx (some (apP (0+1+1+1+1+1+1) 0 none))]] [ah 2 (mM sc),apw (aqu 115) #[] #[an 6]] [ab [ah 2 (mM sc),aoG (some (0+1+1+1)),aa dm,aa dc,aa dr] 70,ab x0 5,ab (aF sc) 67,ai.map es ck,ab [ah 5 nb] 174,ab f5 5,ab [an 0] 33] (fx sc x0 es ck nb f5 dm dc dr++[ab [an 0] 33]))=true)(aW:amq x0 af=true)(be:amq (aF sc) af=true)(bB:amq (bu [0,1,2,3,4,5] es) af=true)(br:amq f5 af=true)(l5:(decide (cI sc dc<0))=true→Q .ret (Mk sc x0 es ck nb f5 dm dc dr))(n6:(decide (cI sc dc<0))=false→(amG (amm (cI sc dc)) (mM sc))=true)(n7:(decide (cI sc dc<0))=false→(cy amA (aF sc) (0+amm (cI sc dc)*2+1))=true)(l8:(decide (cI sc dc<0))=false→Q .ret (Ml sc x0 es ck nb f5 dm dc dr)):al anm 30 6 Mj ⟨[(0,an 0)],[ab [ah 2 (mM sc),.map (some 3),aa dm,aa dc,aa dr] 70,ab x0 5,ab (aF sc) 67,.map es ck,ab [ah 5 nb] 174,ab f5 5]⟩ Q:=
 aZ (XO sc x0 es ck nb f5 dm dc dr hs h0 h3 h5) 1000 (av [7,1,1,1,1,1,1,1,1] (.fork 3 (.leaf [2] [0,1,2,3,4,5] [1,2,3,5]) (av [6,1,1,0,1] (.leaf [2] [0,1,2,3,4,5] [1,2,3,5])))) (fun u=>by kernel_rfl) (Tree.aU (show(amq x0 af)=true by assumption) (Tree.aU (a9 sc) (Tree.aU (show(amq (am0 (dM (eI jP)) es) af)=true by assumption) (Tree.aU (show(amq f5 af)=true by assumption) (Tree.aU (n0:(dX [ah 2 (mM sc),apw (aqu 115) #[] #[anx (some (apP (0+1+1+1+1+1+1) 0 none))]] [ah 2 (mM sc),apw (aqu 115) #[] #[an 6]] [ab [ah 2 (mM sc),aoG (some (0+1+1+1)),aa dm,aa dc,aa dr] 70,ab x0 5,ab (aF sc) 67,ai.map es ck,ab [ah 5 nb] 174,ab f5 5,ab [an 0] 33] (fx sc x0 es ck nb f5 dm dc dr++[ab [an 0] 33]))=true) (Tree.aU (show(amq x0 af)=true by assumption) (Tree.aU (a9 sc) (Tree.aU (show(amq (am0 (dM fun i=>(jP++eV 7 (mM (fx sc x0 es ck nb f5 dm dc dr++[ab [an 0] 33])-7))[i]?) es) af)=true by assumption) (Tree.aU (show(amq f5 af)=true by assumption) (Tree.dh (c:=decide (cI sc dc<0)) (fun h0=>(Tree.aU aW (Tree.aU (a9 sc) (Tree.aU bB (Tree.aU br (Tree.dz (l5 h0))))))) (fun h0=>(Tree.aU (show(decide (0≤cI sc dc))=true by simp at hs h0 h3 h4 hp h6 h5 h0⊢ <;>omega) (Tree.aU (n6 h0) (Tree.aU (n7 h0) (Tree.aU aW (Tree.aU (a9 sc) (Tree.aU bB (Tree.aU br (Tree.dz (l8 h0))))))))))))))))))))
abbrev Mm:=fun(sc:List (Int×Int)) x0 es (ck nb:Nat) f5 (dm dc dr:Int)=>(⟨[(2,aa 0)],[ab ([ah 2 (mM sc),.map (some 3),aa dm,.int .i64 (aml amA (dc+1)),aa dr]) 70,ab x0 5,ab (aF sc) 67,.map es ck,ab [] 174,ab f5 5]⟩:aj)
theorem XV(sc:List (Int×Int))(x0 es)(ck nb:Nat)(f5)(dm dc dr:Int){Q:bk}(aW:amq x0 af=true)(cj:amq (bu [0,1,2,3,4,5] es) af=true)(br:amq f5 af=true)(hq:Q (.ret (aa 0)) [ab ([ah 2 (mM sc),.map (some 3),aa dm,.int .i64 (aml amA (dc+1)),aa dr]) 70,ab x0 5,ab (aF sc) 67,.map es ck,ab [] 174,ab f5 5]):aH anm 108 30 6 Q .ret (Mm sc x0 es ck nb f5 dm dc dr):=aH.ret (vs:=[aa 0]) (l:=[]) (bs:=[0,1,2,3,4,5]) (pl:=[1,2,3,5]) (q:=[x0,aF sc,bu [0,1,2,3,4,5] es,f5]) (fun u=>by kernel_rfl) (by kernel_rfl) (aE aW (aE (a9 sc) (aE cj (aE br bd)))) hq
abbrev Mn:=fun(sc:List (Int×Int)) x0 es (ck nb:Nat) f5 (dm dc dr:Int)=>(⟨[(2,aa 25)],[ab ([ah 2 (mM sc),.map (some 3),aa dm,.int .i64 (aml amA (dc+1)),aa (au (aF sc) (0+amm (cI sc dc)*2+1))]) 70,ab x0 5,ab (aF sc) 67,.map es ck,ab [] 174,ab f5 5]⟩:aj)
theorem XW(sc:List (Int×Int))(x0 es)(ck nb:Nat)(f5)(dm dc dr:Int){Q:bk}(aW:amq x0 af=true)(cj:amq (bu [0,1,2,3,4,5] es) af=true)(br:amq f5 af=true)(hq:Q (.ret (aa 25)) [ab ([ah 2 (mM sc),.map (some 3),aa dm,.int .i64 (aml amA (dc+1)),aa (au (aF sc) (0+amm (cI sc dc)*2+1))]) 70,ab x0 5,ab (aF sc) 67,.map es ck,ab [] 174,ab f5 5]):aH anm 108 30 6 Q .ret (Mn sc x0 es ck nb f5 dm dc dr):=aH.ret (vs:=[aa 25]) (l:=[]) (bs:=[0,1,2,3,4,5]) (pl:=[1,2,3,5]) (q:=[x0,aF sc,bu [0,1,2,3,4,5] es,f5]) (fun u=>by kernel_rfl) (by kernel_rfl) (aE aW (aE (a9 sc) (aE cj (aE br bd)))) hq
theorem XX(sc:List (Int×Int))(x0:List amn)(es:List amW)(ck nb:Nat)(f5:List amn)(dm dc dr:Int)(hs:(mM sc)≤1000000)(h0:x0.all af=true)(h3:(bu jP es).all af=true)(h4:(es.map (dM fun i=>(jP++eV 7 0)[i]?)).all af=true)(hp:(aF sc).all af=true)(h6:(bu dN es).all af=true)(h5:f5.all af=true){Q:aV}(n0:(dX [ah 2 (mM sc),apw (aqu 115) #[] #[anx (some (apP (0+1+1+1+1+1+1) 0 none))]] [ah 2 (mM sc),apw (aqu 115) #[] #[an 6]] [ab [ah 2 (mM sc),aoG (some (0+1+1+1)),aa dm,aa dc,aa dr] 70,ab x0 5,ab (aF sc) 67,ai.map es ck,ab [] 174,ab f5 5,ab [an 0] 33] (fq sc x0 es ck nb f5 dm dc dr++[ab [an 0] 33]))=true)(aW:amq x0 af=true)(be:amq (aF sc) af=true)(bB:amq (bu [0,1,2,3,4,5] es) af=true)(br:amq f5 af=true)(l5:(decide (cI sc dc<0))=true→Q .ret (Mm sc x0 es ck nb f5 dm dc dr))(n6:(decide (cI sc dc<0))=false→(amG (amm (cI sc dc)) (mM sc))=true)(n7:(decide (cI sc dc<0))=false→(cy amA (aF sc) (0+amm (cI sc dc)*2+1))=true)(l8:(decide (cI sc dc<0))=false→Q .ret (Mn sc x0 es ck nb f5 dm dc dr)):al anm 30 6 Mj ⟨[(0,an 0)],[ab [ah 2 (mM sc),.map (some 3),aa dm,aa dc,aa dr] 70,ab x0 5,ab (aF sc) 67,.map es ck,ab [] 174,ab f5 5]⟩ Q:=
 aZ (XQ sc x0 es ck nb f5 dm dc dr hs h0 h3 h5) 1000 (av [7,1,1,1,1,1,1,1,1] (.fork 3 (.leaf [2] [0,1,2,3,4,5] [1,2,3,5]) (av [6,1,1,0,1] (.leaf [2] [0,1,2,3,4,5] [1,2,3,5])))) (fun u=>by kernel_rfl) (Tree.aU (show(amq x0 af)=true by assumption) (Tree.aU (a9 sc) (Tree.aU (show(amq (am0 (dM (eI jP)) es) af)=true by assumption) (Tree.aU (show(amq f5 af)=true by assumption) (Tree.aU (n0:(dX [ah 2 (mM sc),apw (aqu 115) #[] #[anx (some (apP (0+1+1+1+1+1+1) 0 none))]] [ah 2 (mM sc),apw (aqu 115) #[] #[an 6]] [ab [ah 2 (mM sc),aoG (some (0+1+1+1)),aa dm,aa dc,aa dr] 70,ab x0 5,ab (aF sc) 67,ai.map es ck,ab [] 174,ab f5 5,ab [an 0] 33] (fq sc x0 es ck nb f5 dm dc dr++[ab [an 0] 33]))=true) (Tree.aU (show(amq x0 af)=true by assumption) (Tree.aU (a9 sc) (Tree.aU (show(amq (am0 (dM fun i=>(jP++eV 7 (mM (fq sc x0 es ck nb f5 dm dc dr++[ab [an 0] 33])-7))[i]?) es) af)=true by assumption) (Tree.aU (show(amq f5 af)=true by assumption) (Tree.dh (c:=decide (cI sc dc<0)) (fun h0=>(Tree.aU aW (Tree.aU (a9 sc) (Tree.aU bB (Tree.aU br (Tree.dz (l5 h0))))))) (fun h0=>(Tree.aU (show(decide (0≤cI sc dc))=true by simp at hs h0 h3 h4 hp h6 h5 h0⊢ <;>omega) (Tree.aU (n6 h0) (Tree.aU (n7 h0) (Tree.aU aW (Tree.aU (a9 sc) (Tree.aU bB (Tree.aU br (Tree.dz (l8 h0))))))))))))))))))))
end
end Go.Proofs.Ytnlkkgpcikkpoaa
namespace Go.Proofs.Ytnlkkgpcikkpoaa
open Go Vm Go.RowKit
set_option maxRecDepth 100000
def cE(sc:List (Int×Int))(c:Int):Int:=match sc.find? fun x=>x.1==c with
 |none=>0
 |some _=>25
def cR(sc:List (Int×Int))(c r:Int):Int:=match sc.find? fun x=>x.1==c with
 |none=>r
 |some p=>p.2
theorem Mo{sc:List (Int×Int)}{c:Int}(h:cI sc c<0)(r:Int):cE sc c=0∧cR sc c r=r:=by
 rcases LQ sc c with⟨_,h2⟩|⟨i,hi,h1,_⟩
 ·unfold cE cR;rw[h2];exact⟨rfl,rfl⟩
 ·omega
theorem u7{sc:List (Int×Int)}{c:Int}(h:¬cI sc c<0)(r:Int):cE sc c=25∧0≤cI sc c∧cI sc c<sc.length∧cR sc c r=au (aF sc) (0+amm (cI sc c)*2+1):=by
 rcases LQ sc c with⟨h1,_⟩|⟨i,hi,h1,h2⟩
 ·omega
 ·rw[h1]at h⊢
  have:=(nZ (sc:=sc) (j:=i) (by omega) (by omega)).2.2.2.1
  refine⟨by unfold cE;rw[h2],by omega,by omega,?_⟩
  rw[this]
  unfold cR
  rw[h2]
  rfl
theorem Mp(sc:List (Int×Int))(x0:List amn)(es:List amW)(ck nb:Nat)(f5:List amn)(dm dc dr:Int)(hs:sc.length≤1000000)(h0:x0.all af=true)(he:b8 es=true)(h5:f5.all af=true):
 aG asz 108 [.pointer (some ⟨0,0,none⟩)] (fx sc x0 es ck nb f5 dm dc dr) fun r o=>r=.ret (.int .i64 (cE sc dc))∧o=fx sc x0 es ck nb f5 dm (aml .i64 (dc+1)) (cR sc dc dr):=by
 have h3:(bu jP es).all af=true:=b8.idx he [6]
 have h6:(bu dN es).all af=true:=b8.idx he []
 have h4:(es.map (dM fun i=>(jP++eV 7 0)[i]?)).all af=true:=b8.qj he [6]
 have hp:=a9 sc
 refine aG.cM (n:=ct asz 108) (by kernel_rfl) ?_
 apply XU sc x0 es ck nb f5 dm dc dr hs h0 h3 h4 hp h6 h5<;>try assumption
 case n0=>exact fe rfl rfl
 case l5=>
  intro g
  obtain⟨e1,e2⟩:=Mo (of_decide_eq_true g) dr
  exact XS sc x0 es ck nb f5 dm dc dr h0 h6 h5 ⟨by rw[e1],by rw[e2];rfl⟩
 case n6=>intro g;obtain⟨e1,e2,e3,e4⟩:=u7 (of_decide_eq_false g) dr;exact dI.2 (by omega)
 case n7=>intro g;obtain⟨e1,e2,e3,e4⟩:=u7 (of_decide_eq_false g) dr;exact(nZ e2 e3).2.1
 case l8=>
  intro g
  obtain⟨e1,e2,e3,e4⟩:=u7 (of_decide_eq_false g) dr
  exact XT sc x0 es ck nb f5 dm dc dr h0 h6 h5 ⟨by rw[e1],by rw[e4];rfl⟩
theorem Mq(sc:List (Int×Int))(x0:List amn)(es:List amW)(ck nb:Nat)(f5:List amn)(dm dc dr:Int)(hs:sc.length≤1000000)(h0:x0.all af=true)(he:b8 es=true)(h5:f5.all af=true):
 aG asz 108 [.pointer (some ⟨0,0,none⟩)] (fq sc x0 es ck nb f5 dm dc dr) fun r o=>r=.ret (.int .i64 (cE sc dc))∧o=fq sc x0 es ck nb f5 dm (aml .i64 (dc+1)) (cR sc dc dr):=by
 have h3:(bu jP es).all af=true:=b8.idx he [6]
 have h6:(bu dN es).all af=true:=b8.idx he []
 have h4:(es.map (dM fun i=>(jP++eV 7 0)[i]?)).all af=true:=b8.qj he [6]
 have hp:=a9 sc
 refine aG.cM (n:=ct asz 108) (by kernel_rfl) ?_
 apply XX sc x0 es ck nb f5 dm dc dr hs h0 h3 h4 hp h6 h5<;>try assumption
 case n0=>exact fe rfl rfl
 case l5=>
  intro g
  obtain⟨e1,e2⟩:=Mo (of_decide_eq_true g) dr
  exact XV sc x0 es ck nb f5 dm dc dr h0 h6 h5 ⟨by rw[e1],by rw[e2];rfl⟩
 case n6=>intro g;obtain⟨e1,e2,e3,e4⟩:=u7 (of_decide_eq_false g) dr;exact dI.2 (by omega)
 case n7=>intro g;obtain⟨e1,e2,e3,e4⟩:=u7 (of_decide_eq_false g) dr;exact(nZ e2 e3).2.1
 case l8=>
  intro g
  obtain⟨e1,e2,e3,e4⟩:=u7 (of_decide_eq_false g) dr
  exact XW sc x0 es ck nb f5 dm dc dr h0 h6 h5 ⟨by rw[e1],by rw[e4];rfl⟩
set_option maxHeartbeats 1000000 in
theorem XY(b so bm:Nat)(x:Int)(v:amn)(w:World)(c1:w.cell? ⟨b,so+1,none⟩=some (.map (some bm)))(hl:(aoD 68 (.map (some bm)) (.int .i64 x) false).run asz w=.ok v w):
 Calls asz 107 #[.pointer (some ⟨b,so,none⟩),.int .i64 x] w fun e w'=>e=.returned v∧w'=w:=by
 go_enter Try.func107,Try.ntmps107
 go_wp2
 go_ret
 exact⟨rfl,rfl⟩
theorem Mr:zeroOf asz 169=some (.pointer none):=by kernel_rfl
theorem Fl(x:Int):oG asz 3 (.int .i64 x)=true:=by
 have h:asz.underlying 3=some (.int .i64):=Try.underlying3
 unfold oG
 rw[h]
def u9(f:Option (Nat×amn)):amn:=match f with
 |some (_,v)=>v
 |none=>.pointer none
theorem Fm{objs:List ai}{sl:amn}{r1:List amn}{es:List amW}{ck:Nat}{x:Int}{f:Option (Nat×amn)}(h0:objs[0]?=some (.cells (sl:: .map (some 3)::r1) 70 false))(h3:objs[3]?=some (.map es ck))(hlen:objs.length≤262144)
 (hf:e7 (.int .i64 x) es 0=some f):aG asz 107 [.pointer (some ⟨0,0,none⟩),.int .i64 x] objs fun r o=>r=.ret (u9 f)∧o=objs:=by
 intro B w₀ ρ w args' gP hn ha hw
 obtain⟨p,l,el,hp,hl⟩:=ha.gq
 obtain⟨xi,l2,el2,hx,js⟩:=hl.gq
 have:=hx.jo
 subst this
 have:=js.kw
 subst this
 obtain⟨q,hq,rfl⟩:=hp.kx
 have m0:cq objs 0=some (.cells (sl:: .map (some 3)::r1) 70 false):=by rw[cA rfl];exact h0
 have m3:cq objs 3=some (.map es ck):=by rw[cA rfl];exact h3
 obtain⟨o',k1,k2,_⟩:=hw.live 0 _ q m0 hq rfl
 obtain⟨q3,ri⟩:=hw.named 3 _ m3 (by intro e;cases e)
 obtain⟨o3,k3,k4,_⟩:=hw.live 3 _ q3 m3 ri rfl
 cases k4 with
 |map _ cH _ k5 k6=>
 cases k2 with
 |cells _ _ bR _ a fr g1 g2 g3 g4 g5 g6=>
 obtain⟨v',g7,g8⟩:=g6 1 (.map (some 3)) rfl
 obtain⟨qm,Ms,rfl⟩:=g8.pE
 rw[ri]at Ms
 cases Ms
 have hc:w.cell? ⟨q.aJ,q.sh+0+1,none⟩=some (.map (some q3.aJ)):=by
  simp[World.cell?,k1,g7]
 have hu:asz.underlying 68=some (.map 3 169):=Try.underlying68
 obtain⟨d,jL,hd⟩:=wH (Fl x)
 obtain⟨r',k7,k8⟩:=um jL hd k5 k6 hf
 have jI:∃v',(aoD 68 (.map (some q3.aJ)) (.int .i64 x) false).run asz w=.ok v' w∧VR ρ (u9 f) v':=by
  rcases k8 with⟨rfl,rfl⟩|⟨j,v,v',e',rfl,rfl,hv,_,_,_⟩
  ·refine⟨.pointer none,?_,.bH _ rfl⟩
   unfold aoD
   rw[amp,Vm.run_underlying hu,amo]
   dsimp only
   rw[amp,Vm.run_getObj_map k3,amo]
   dsimp only
   rw[amp,am6,amo,amp,run_checkKey (Fl x),amo,amp,run_findKey jL k7,amo]
   dsimp only
   first|rw[amp,amp,mo Mr]|rw[amp,mo Mr]
   rfl
  ·refine⟨v',?_,hv⟩
   unfold aoD
   rw[amp,Vm.run_underlying hu,amo]
   dsimp only
   rw[amp,Vm.run_getObj_map k3,amo]
   dsimp only
   rw[amp,am6,amo,amp,run_checkKey (Fl x),amo,amp,run_findKey jL k7,amo]
   rfl
 obtain⟨v',h1,h2⟩:=jI
 have ea:args'= #[.pointer (some ⟨q.aJ,q.sh+0,none⟩),.int .i64 x]:=by
  rw[←Array.toArray_toList (xs:=args'),el,el2]
 rw[ea]
 refine(XY q.aJ (q.sh+0) q3.aJ x v' w hc h1).mono fun e w' he=>?_
 obtain⟨rfl,rfl⟩:=he
 exact⟨.ret (u9 f),objs,ρ,⟨rfl,rfl⟩,h2,gP,hw,hlen,fun _ _=>rfl⟩
end Go.Proofs.Ytnlkkgpcikkpoaa
