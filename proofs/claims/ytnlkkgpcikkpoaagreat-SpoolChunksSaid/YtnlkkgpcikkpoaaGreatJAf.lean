/- Part of the proof: Dkb, Dkj, Srp, Soa, Srt, Sru, Sod, Srv, Sob, Srw, Soc, Srx, Soe, Sry, Sof, Srz, Sog, Sr1, Soh, Sr2, Sr3, Sop, Sr6, Sr4, Sou, Sos, Sr5, Sr7, Spr, Sps, Spc, Spt, Dkp, Dkg, Dkc, Dkd, Dke. -/
import Derived.Test.YtnlkkgpcikkpoaaGreatJAe
import Derived.Sort.Defs
import Derived.KernelRfl
import Derived.Sort.LotC
import Derived.Sort.LotA
import Derived.Sort.LotD5
import Derived.Sort.LotD4
import Derived.Sort.LotD3
import Derived.Sort.AssemblyPlain
import Derived.Sort.Walk13a
import Derived.WalkKit
open BitVec renaming ofInt→aqw,toNat→arh
open Classical renaming propDecidable→apF
open Go renaming Code→apV,FuncId→apQ,MapEntry→apM,Value→ape
open Go.Addr renaming mk→asO
open Go.Fn renaming func→atA
open Go.Instr renaming lookup→ary
open Go.IntKind renaming i64→apr,u64→ap4,u8→apA,wrap→apc
open Go.MapEntry renaming mk→aqE
open Go.Proofs.Tryz renaming prog→apP,prog→av9
open Go.Result renaming andThen_ok→apf
open Go.Sem renaming run_bind→apg,run_pure→apY
open Go.Sort renaming bitsLen→avA,heapBuild→ave,heapPop→avz,insInner→avl,partEqLoop→au6,partLoop→avn,pdq→av7,siftDown→avm
open Go.Value renaming func→asu,int→apm,map→arD,oneCell'→aqg,pointer→aqo
open Int renaming fdiv→aqI,le_refl→aud,toNat→apd
open List renaming all→aph,all_eq_true→apR,append_nil→aqF,drop→aqV,findIdx?_eq_none_iff→atS,findIdx?_eq_some_iff_getElem→asT,getElem?_eq_getElem→apl,length→apb,length_cons→ap1,map→apS,map_append→aqa,map_cons→aqb,mem_append→apN,mem_append_left→aqH,mem_append_right→aql,mem_cons→apx,mem_cons_of_mem→apB,mem_cons_self→apC,mem_of_getElem?→apX,nodup_append→aqk,nodup_cons→aqB,not_mem_nil→ap2,take→apE
open Nat renaming ble→apG,blt→apy,lt_trans→avB,mul_one→arF,zero_le→ap7
open Option.some renaming injEq→api
open Prod.mk renaming injEq→apn
set_option linter.unusedVariables false
set_option linter.unusedSimpArgs false
set_option maxRecDepth 100000
namespace Go.Proofs.YtnlkkgpcikkpoaaGreat
open Go Vm Go.RowKit
def cI(sc:List (Int×Int))(c:Int):Int:=match sc.findIdx? (fun x=>x.1==c)with
 |some i=>i
 |none=> -1
theorem Yr{sc:List (Int×Int)}{c:Int}{j:Nat}(hj:j<sc.length)(h1:∀i,i<j→∀x,sc[i]?=some x→(x.1==c)=false)(h2:(sc[j].1==c)=true):cI sc c=j:=by
 unfold cI
 have:sc.findIdx? (fun x=>x.1==c)=some j:=by
  rw[asT]
  exact⟨hj,h2,fun i hi=>by rw[h1 i hi _ (apl (by omega))];simp⟩
 rw[this]
theorem Nt{sc:List (Int×Int)}{c:Int}(h1:∀i,i<sc.length→∀x,sc[i]?=some x→(x.1==c)=false):cI sc c= -1:=by
 unfold cI
 have:sc.findIdx? (fun x=>x.1==c)=none:=by
  rw[atS]
  intro x hx
  obtain⟨i,hi,rfl⟩:=List.getElem_of_mem hx
  exact h1 i hi _ (apl hi)
 rw[this]
theorem Nu(sc:List (Int×Int)):(aD sc).length=2*sc.length:=by
 unfold aD
 induction sc with
 |nil=>rfl
 |cons x l ih=>rw[aqb,List.flatten_cons,List.length_append,ih,ap1,ap1,ap1,List.length_nil];omega
theorem Nv(x:Int×Int)(l:List (Int×Int)):aD (x::l)=.int .i64 x.1:: .int .i64 x.2::aD l:=rfl
theorem Nw:∀(sc:List (Int×Int)) (i:Nat) (h:i<sc.length),(aD sc)[2*i]?=some (.int .i64 sc[i].1)∧(aD sc)[2*i+1]?=some (.int .i64 sc[i].2)
 | [],i,h=>by cases h
 |x::l,0,h=>⟨rfl,rfl⟩
 |x::l,i+1,h=>by
  obtain⟨a,b⟩:=Nw l i (by simpa using h)
  rw[Nv,show 2*(i+1)=2*i+1+1 by omega]
  exact⟨by simpa using a,by simpa using b⟩
theorem aW(sc:List (Int×Int)):(aD sc).all af=true:=by
 induction sc with
 |nil=>rfl
 |cons x l ih=>rw[Nv];simpa[af]using ih
theorem oQ{sc:List (Int×Int)}{j:Int}(h0:0≤j)(h:j<sc.length):cA apr (aD sc) (0+apd j*2)=true∧cA apr (aD sc) (0+apd j*2+1)=true∧
 av (aD sc) (0+apd j*2)=(sc[j.toNat]'(by omega)).1∧av (aD sc) (0+apd j*2+1)=(sc[j.toNat]'(by omega)).2∧apG (0+apd j*2+2) (apb (aD sc))=true:=by
 obtain⟨a,b⟩:=Nw sc j.toNat (by omega)
 rw[show 2*j.toNat=0+j.toNat*2 by omega]at a b
 refine⟨?_,?_,?_,?_,Nat.ble_eq_true_of_le (by rw[Nu];omega)⟩
 ·unfold cA;rw[a];rfl
 ·unfold cA;rw[b];rfl
 ·unfold av;rw[a]
 ·unfold av;rw[b]
structure ui(sc:List (Int×Int))(c j:Int):Prop where
 a:0≤j
 b:j≤sc.length
 c:∀i,i<j.toNat→∀x,sc[i]?=some x→(x.1==c)=false
theorem ui.next{sc:List (Int×Int)}{c j:Int}(h:ui sc c j)(hlt:j<sc.length)(hd:(av (aD sc) (0+apd j*2)==c)=false):ui sc c (j+1):=
 ⟨by have:=h.a;omega,by omega,fun i hi x hx=>by
  have ha:=h.a
  by_cases iI:i<j.toNat
  ·exact h.c i iI x hx
  ·have e:i=j.toNat:=by omega
   subst e
   rw[(oQ ha hlt).2.2.1]at hd
   rw[apl (by omega)]at hx
   cases hx
   exact hd⟩
theorem ui.found{sc:List (Int×Int)}{c j:Int}(h:ui sc c j)(hlt:j<sc.length)(hd:(av (aD sc) (0+apd j*2)==c)=true):cI sc c=j:=by
 have ha:=h.a
 rw[(oQ ha hlt).2.2.1]at hd
 rw[Yr (j:=j.toNat) (by omega) h.c hd]
 omega
theorem Nx(sc:List (Int×Int))(c:Int):(cI sc c= -1∧sc.find? (fun x=>x.1==c)=none)∨∃i,∃h:i<sc.length,cI sc c=(i:Int)∧sc.find? (fun x=>x.1==c)=some sc[i]:=by
 unfold cI
 cases h:sc.findIdx? (fun x=>x.1==c)with
 |none=>exact .inl ⟨rfl,by rw[List.find?_eq_none];rw[atS]at h;intro x hx;simpa using h x hx⟩
 |some i=>
  obtain⟨h1,h2,h3⟩:=asT.1 h
  refine .inr ⟨i,h1,rfl,?_⟩
  rw[List.find?_eq_some_iff_getElem]
  exact⟨h2,i,h1,rfl,fun k hk=>by simpa using h3 k hk⟩
def Bg(e:apM):Bool:=af e.key&&match e.val with
 | .pointer (some ⟨b,_,none⟩)=>apy b 6
 | .pointer (some ⟨_,_,some _⟩)=>true
 |_=>false
def b9(es:List apM):Bool:=es.all Bg
theorem b9.Ny{es:List apM}(h:b9 es=true){τ:Nat→Option Nat}(hτ:∀y,y<6→τ y=some y):(es.map (dW τ)).all af=true:=by
 rw[List.all_map,apR]
 intro e he
 have h:=apR.1 h e he
 unfold Bg at h
 rw[Bool.and_eq_true]at h
 have hk:qF τ e.key=true:=by
  have h1:=h.1
  unfold af at h1
  split at h1<;>first|(rename_i tC;rw[tC];rfl)|cases h1
 have hv:qF τ e.val=true:=by
  have h2:=h.2
  split at h2
  ·rename_i b o hb
   rw[hb]
   unfold qF
   dsimp only
   rw[hτ b (dQ.1 h2)]
   exact Nat.beq_refl b
  ·rename_i hb;rw[hb];rfl
  ·cases h2
 show af (dW τ e)=true
 unfold dW
 rw[hk,hv]
 rfl
theorem Ys{k n:Nat}(hk:6≤k)(y:Nat)(hy:y<6)(l:List Nat):([0,1,2,3,4,5]++l)[y]?=some y:=by
 rw[List.getElem?_append_left (by simpa using hy)]
 have:y=0∨y=1∨y=2∨y=3∨y=4∨y=5:=by omega
 rcases this with rfl|rfl|rfl|rfl|rfl|rfl<;>rfl
theorem Yt(y:Nat)(hy:y<6)(l:List Nat):eX ([0,1,2,3,4,5]++l) y=some y:=by
 have:y=0∨y=1∨y=2∨y=3∨y=4∨y=5:=by omega
 rcases this with rfl|rfl|rfl|rfl|rfl|rfl<;>rfl
theorem b9.idx{es:List apM}(h:b9 es=true)(l:List Nat):(bt ([0,1,2,3,4,5]++l) es).all af=true:=b9.Ny h fun y hy=>Yt y hy l
theorem b9.qO{es:List apM}(h:b9 es=true)(l:List Nat):(es.map (dW fun i=>([0,1,2,3,4,5]++l)[i]?)).all af=true:=b9.Ny h fun y hy=>Ys (k:=6) (n:=0) (Nat.le_refl _) y hy l
def dX:List Nat:=[0,1,2,3,4,5]
def kq:List Nat:=[0,1,2,3,4,5,6]
def fI(sc:List (Int×Int))(x0:List ape)(es:List apM)(ck nb:Nat)(f5:List ape)(dm dc dr:Int):List ag:=[.cells [.slice (some ⟨2,0,none⟩) sc.length sc.length,.map (some 3),.int .i64 dm,.int .i64 (dc),.int .i64 (dr)] 80 false,.cells x0 5 false,.cells (aD sc) 77 false,.map es ck,.cells [.slice (some ⟨5,0,none⟩) nb nb] 173 false,.cells f5 5 false]
def Yu(sc:List (Int×Int))(x0:List ape)(es:List apM)(ck nb:Nat)(f5:List ape)(dm dc dr:Int)(j:Int):aj:=⟨[(0,.slice (some ⟨2,0,none⟩) sc.length sc.length),(1,.func (.func 96) #[] #[.pointer (some ⟨6,0,none⟩)]),(7,.int .i64 sc.length),(8,.int .i64 j)],fI sc x0 es ck nb f5 dm dc dr++[.cells [.pointer (some ⟨0,0,none⟩)] 35 false]⟩
theorem Yv(sc:List (Int×Int))(x0:List ape)(es:List apM)(ck nb:Nat)(f5:List ape)(dm dc dr:Int)(hs:sc.length≤1000000)(h0:x0.all af=true)(h3:(bt kq es).all af=true)(h5:f5.all af=true):aE av9 95 [.slice (some ⟨2,0,none⟩) sc.length sc.length,.func (.func 96) #[] #[.pointer (some ⟨6,0,none⟩)]] (fI sc x0 es ck nb f5 dm dc dr++[.cells [.pointer (some ⟨0,0,none⟩)] 35 false])
 fun r o=>r=.ret (.int .i64 (cI sc dc))∧o=fI sc x0 es ck nb f5 dm dc dr++[.cells [.pointer (some ⟨0,0,none⟩)] 35 false]:=by
 refine aE.cT (n:=cn av9 95) (by kernel_rfl) ?_
 have hp:=aW sc
 apply Ye sc x0 es ck nb f5 dm dc dr<;>try assumption
 intros
 refine an.eU 2 0 (by kernel_rfl) ?_
 refine an.fS (Yu sc x0 es ck nb f5 dm dc dr) (fun j=>(sc.length-j).toNat) (ui sc dc) 0 (by kernel_rfl) ⟨aud 0,by omega,fun i hi=>by simp at hi⟩ ?_
 intro j hj
 have ha:=hj.a
 apply Yh sc x0 es ck nb f5 dm dc dr j hj.a<;>try assumption
 case n0=>intro g;exact(oQ ha (of_decide_eq_true g)).2.2.2.2
 case n1=>intro g;exact(oQ ha (of_decide_eq_true g)).1
 case n2=>intro g;exact(oQ ha (of_decide_eq_true g)).2.1
 case l7=>
  intro g g1
  have g:=of_decide_eq_true g
  with_reducible (repeat first|refine QL.ret ?_|refine QL.exit ?_|refine QB.ret ?_|refine QB.cp ?_|refine QB.normal ?_|refine QB.cy (by rfl) ?_)
  exact Yf sc x0 es ck nb f5 dm dc dr j h0 hp h3 h5 ⟨by rw[hj.found g g1],rfl⟩
 case l8=>
  intro g g1
  have g:=of_decide_eq_true g
  have hw:apc apr (j+1)=j+1:=nk (by omega) (by omega)
  exact QL.to (j+1) (hj.next g g1) (by omega) (by unfold No;rw[hw];rfl)
 case l9=>
  intro g
  have g:=of_decide_eq_false g
  with_reducible (repeat first|refine QL.ret ?_|refine QL.exit ?_|refine QB.ret ?_|refine QB.cp ?_|refine QB.normal ?_|refine QB.cy (by rfl) ?_)
  refine Yj sc x0 es ck nb f5 dm dc dr ?_ ?_ ?_ ?_ ?_<;>try assumption
  intros
  exact Yi sc x0 es ck nb f5 dm dc dr h0 hp h3 h5 ⟨by rw[Nt fun i hi=>hj.c i (by omega)],rfl⟩
def fE(sc:List (Int×Int))(x0:List ape)(es:List apM)(ck nb:Nat)(f5:List ape)(dm dc dr:Int):List ag:=[.cells [.slice (some ⟨2,0,none⟩) sc.length sc.length,.map (some 3),.int .i64 dm,.int .i64 (dc),.int .i64 (dr)] 80 false,.cells x0 5 false,.cells (aD sc) 77 false,.map es ck,.cells [] 173 false,.cells f5 5 false]
def Yw(sc:List (Int×Int))(x0:List ape)(es:List apM)(ck nb:Nat)(f5:List ape)(dm dc dr:Int)(j:Int):aj:=⟨[(0,.slice (some ⟨2,0,none⟩) sc.length sc.length),(1,.func (.func 96) #[] #[.pointer (some ⟨6,0,none⟩)]),(7,.int .i64 sc.length),(8,.int .i64 j)],fE sc x0 es ck nb f5 dm dc dr++[.cells [.pointer (some ⟨0,0,none⟩)] 35 false]⟩
theorem Yx(sc:List (Int×Int))(x0:List ape)(es:List apM)(ck nb:Nat)(f5:List ape)(dm dc dr:Int)(hs:sc.length≤1000000)(h0:x0.all af=true)(h3:(bt kq es).all af=true)(h5:f5.all af=true):aE av9 95 [.slice (some ⟨2,0,none⟩) sc.length sc.length,.func (.func 96) #[] #[.pointer (some ⟨6,0,none⟩)]] (fE sc x0 es ck nb f5 dm dc dr++[.cells [.pointer (some ⟨0,0,none⟩)] 35 false])
 fun r o=>r=.ret (.int .i64 (cI sc dc))∧o=fE sc x0 es ck nb f5 dm dc dr++[.cells [.pointer (some ⟨0,0,none⟩)] 35 false]:=by
 refine aE.cT (n:=cn av9 95) (by kernel_rfl) ?_
 have hp:=aW sc
 apply Yl sc x0 es ck nb f5 dm dc dr<;>try assumption
 intros
 refine an.eU 2 0 (by kernel_rfl) ?_
 refine an.fS (Yw sc x0 es ck nb f5 dm dc dr) (fun j=>(sc.length-j).toNat) (ui sc dc) 0 (by kernel_rfl) ⟨aud 0,by omega,fun i hi=>by simp at hi⟩ ?_
 intro j hj
 have ha:=hj.a
 apply Yo sc x0 es ck nb f5 dm dc dr j hj.a<;>try assumption
 case n0=>intro g;exact(oQ ha (of_decide_eq_true g)).2.2.2.2
 case n1=>intro g;exact(oQ ha (of_decide_eq_true g)).1
 case n2=>intro g;exact(oQ ha (of_decide_eq_true g)).2.1
 case l7=>
  intro g g1
  have g:=of_decide_eq_true g
  with_reducible (repeat first|refine QL.ret ?_|refine QL.exit ?_|refine QB.ret ?_|refine QB.cp ?_|refine QB.normal ?_|refine QB.cy (by rfl) ?_)
  exact Ym sc x0 es ck nb f5 dm dc dr j h0 hp h3 h5 ⟨by rw[hj.found g g1],rfl⟩
 case l8=>
  intro g g1
  have g:=of_decide_eq_true g
  have hw:apc apr (j+1)=j+1:=nk (by omega) (by omega)
  exact QL.to (j+1) (hj.next g g1) (by omega) (by unfold Nr;rw[hw];rfl)
 case l9=>
  intro g
  have g:=of_decide_eq_false g
  with_reducible (repeat first|refine QL.ret ?_|refine QL.exit ?_|refine QB.ret ?_|refine QB.cp ?_|refine QB.normal ?_|refine QB.cy (by rfl) ?_)
  refine Yq sc x0 es ck nb f5 dm dc dr ?_ ?_ ?_ ?_ ?_<;>try assumption
  intros
  exact Yp sc x0 es ck nb f5 dm dc dr h0 hp h3 h5 ⟨by rw[Nt fun i hi=>hj.c i (by omega)],rfl⟩
end Go.Proofs.YtnlkkgpcikkpoaaGreat
namespace Go.Proofs.YtnlkkgpcikkpoaaGreat
open Go Vm Go.RowKit
set_option maxHeartbeats 1000000
structure Left(d:ay)(eR:List apM)(L2:List (Nat×CO))(o':List ag)(K:List Nat)(d':ay):Prop where
 it:∃A R C eA eM eC F eF LA LM LC,d.files=A++(R++C)∧eR=eA++(eM++eC)∧L2=LA++(LM++LC)∧fv A eA LA∧fv C eC LC∧d'.bM=d.bM∧d'.files=A++(F++C)∧
  o'[0]?=some (.cells [.slice (some ⟨2,0,none⟩) d.bM.length d.bM.length,.map (some 3),.int .i64 d'.made,.int .i64 d'.calls,.int .i64 d'.raw] 80 false)∧
  o'[3]?=some (.map (bS eA++(eF++bS eC)) d'.made)∧sd o' K F eF
 row:o'[2]?=some (.cells (aD d.bM) 77 false)
 k2:K.contains 2=true
 k3:K.contains 3=true
 own:∀o∈o',o.ro=false
 bQ:o'.length≤262144
theorem vY{c:List ape}(h:c.all af=true):c.all fl=true:=by
 rw[apR]at h⊢
 intro v hv
 have:=h v hv
 unfold af at this
 split at this<;>first|rfl|cases this
theorem Bh{a b:Nat}{X Y:List Nat}(h:(a::b::(X++Y)).Nodup):a≠b∧a∉X∧a∉Y∧b∉X∧b∉Y∧∀x∈X,x∉Y:=by
 simp only[aqB,apx,apN,not_or]at h
 obtain⟨⟨h1,h2,h3⟩,⟨h4,h5⟩,h6⟩:=h
 exact⟨h1,h2,h3,h4,h5,fun x hx hy=>(aqk.1 h6).2.2 x hx x hy rfl⟩
theorem oS(sc:List (Int×Int)):(aD sc).length=sc.length*2:=by rw[Nu,Nat.mul_comm]
theorem aE.yv{f:apQ}{args:List ape}{d:ay}{x0:List ape}{Q:bx→List ag→Prop}(h:∀eR L2,fv d.files eR L2→aE av9 f args (fE d.bM [] (bS eR) d.made 0 [] d.made d.calls d.raw) fun v o'=>∃d' K,Left d eR L2 o' K d'∧Q v (closed d' K o')):aE av9 f args (.abs d::[]) Q:=by
 refine aE.vQ fun w r S L hG jd hL=>?_
 obtain⟨eO,v,m,es,L1,L2,kQ,jV,da⟩:=jd
 have uj:∀p∈L1,eL w p.1 p.2:=fun p hp=>hL.at_ p (by rw[da];simp[hp])
 obtain⟨qs,oT,lV,uk⟩:=vW kQ uj (oS _)
 have cX:=hL.fX
 rw[da]at cX
 simp only[aqb,aqa]at cX
 obtain⟨n1,n2,n3,n4,n5,n6⟩:=Bh cX
 refine⟨.cells [.slice (some ⟨2,0,none⟩) d.bM.length d.bM.length,.map (some 3),.int .i64 d.made,.int .i64 d.calls,.int .i64 d.raw] 80 false,[(⟨0,0,1,0⟩,.cells [] 5 false),(qs,.cells (aD d.bM) 77 false),(⟨m,0,0,0⟩,.map (bS es) d.made),(⟨0,0,1,0⟩,.cells [] 173 false),(⟨0,0,1,0⟩,.cells [] 5 false)],_,⟨?_,?_,?_,?_⟩,by simp,h es L2 jV,?_⟩
 ·intro p hp
  simp only[apx,ap2,or_false]at hp
  rcases hp with rfl|rfl|rfl|rfl|rfl|rfl<;>exact⟨rfl,by intro d' e;cases e⟩
 ·intro p hp el ro he n hn
  simp only[apx,ap2,or_false]at hp
  rcases hp with rfl|rfl|rfl|rfl|rfl|rfl
  ·cases he
  ·cases he;rw[qN]at hn;cases hn;rfl
  ·injection he with e1 e2 e3;subst e2;rw[pQ]at hn;cases hn;exact oT
  ·cases he
  ·cases he;rw[Bc]at hn;cases hn;rfl
  ·cases he;rw[qN]at hn;cases hn;rfl
 ·intro ρ ud hρ p hp hl
  have ul:ρ 2=some qs:=hρ 1 _ rfl
  have um:ρ 3=some ⟨m,0,0,0⟩:=hρ 2 _ rfl
  simp only[apx,ap2,or_false]at hp
  rcases hp with rfl|rfl|rfl|rfl|rfl|rfl
  ·have hc:eL w r.aI (.cells [v,.map (some m),.int .i64 d.made,.int .i64 d.calls,.int .i64 d.raw] 80 r.sh r.dy):=hL.at_ (r.aI,_) (by rw[da];exact apC)
   refine⟨by rw[da];simp,?_⟩
   exact hc.or (fun n hn=>by rw[yu]at hn;cases hn;exact eO) (.cons (uk ρ 2 ul) (.cons (.map 3 _ um) (.cons (.bG _ rfl) (.cons (.bG _ rfl) (.cons (.bG _ rfl) (LR.nil ρ))))))
  ·cases hl
  ·obtain⟨h1,h2⟩:=lV hl
   exact⟨by rw[da];simp only[aqb,aqa,apx,apN];exact .inr (.inr (.inl h1)),h2.or (fun n hn=>by rw[pQ]at hn;cases hn;exact oT) (LR.rC (vY (aW _)))⟩
  ·have hc:eL w m _:=hL.at_ (m,_) (by rw[da];exact apB _ apC)
   exact⟨by rw[da];simp,eL.Bb (q:=⟨m,0,0,0⟩) hc (dL.vV jV)⟩
  ·cases hl
  ·cases hl
 ·have s1:Live (.cells (aD d.bM) 77 false) qs=true→qs.aI∈L1.map (·.1):=fun hl=>(lV hl).1
  refine .cons (fun q hq=>?_) ?_
  ·simp only[apx,ap2,or_false]at hq
   rcases hq with rfl|rfl|rfl|rfl|rfl
   ·intro h1 h2;exact absurd h2 (by decide)
   ·exact fun h1 h2 e=>n2 (by rw[show r.aI=qs.aI from e];exact s1 h2)
   ·exact fun h1 h2 e=>n1 e
   ·intro h1 h2;exact absurd h2 (by decide)
   ·intro h1 h2;exact absurd h2 (by decide)
  refine .cons (fun q hq=>?_) ?_
  ·simp only[apx,ap2,or_false]at hq
   rcases hq with rfl|rfl|rfl|rfl
   ·intro h1 h2;exact absurd h1 (by decide)
   ·intro h1 h2;exact absurd h1 (by decide)
   ·intro h1 h2;exact absurd h2 (by decide)
   ·intro h1 h2;exact absurd h2 (by decide)
  refine .cons (fun q hq=>?_) ?_
  ·simp only[apx,ap2,or_false]at hq
   rcases hq with rfl|rfl|rfl
   ·exact fun h1 h2 e=>n4 (by rw[←show qs.aI=m from e];exact s1 h1)
   ·intro h1 h2;exact absurd h2 (by decide)
   ·intro h1 h2;exact absurd h2 (by decide)
  refine .cons (fun q hq=>?_) ?_
  ·simp only[apx,ap2,or_false]at hq
   rcases hq with rfl|rfl
   ·intro h1 h2;exact absurd h2 (by decide)
   ·intro h1 h2;exact absurd h2 (by decide)
  refine .cons (fun q hq=>?_) ?_
  ·simp only[apx,ap2,or_false]at hq
   rcases hq with rfl
   ·intro h1 h2;exact absurd h2 (by decide)
  refine .cons (fun q hq=>?_) ?_
  ·simp only[apx,ap2,or_false]at hq
  exact .nil
 ·rintro vr o' ⟨d',K,⟨⟨A,R,C,eA,eM,eC,F,eF,LA,LM,LC,c0,ce,cl,hA,hC,c1,c2,c3,c4,c5⟩,c6,c7,c8,c9,uo⟩,hQ⟩ B ρ w' hw h0 hρ hid
  rw[cl]at da n3 n5 n6
  simp only[aqa]at n3 n5 n6
  have jW:∀k,k∈LA.map (·.1)∨k∈LC.map (·.1)→k∈LA.map (·.1)++(LM.map (·.1)++LC.map (·.1)):=fun k hk=>by
   rcases hk with hk|hk
   ·exact aqH _ hk
   ·exact aql _ (aql _ hk)
  have oU:∀k,k∈LA.map (·.1)∨k∈LC.map (·.1)→∀q∈(r,.cells [.slice (some ⟨2,0,none⟩) d.bM.length d.bM.length,.map (some 3),.int .i64 d.made,.int .i64 d.calls,.int .i64 d.raw] 80 false)::([(⟨0,0,1,0⟩,.cells [] 5 false),(qs,.cells (aD d.bM) 77 false),(⟨m,0,0,0⟩,.map (bS es) d.made),(⟨0,0,1,0⟩,.cells [] 173 false),(⟨0,0,1,0⟩,.cells [] 5 false)]:List (bN×ag)),Live q.2 q.1=true→q.1.aI≠k:=by
   intro k hk q hq hl e
   have jW:=jW k hk
   simp only[apx,ap2,or_false]at hq
   rcases hq with rfl|rfl|rfl|rfl|rfl|rfl
   ·exact n3 (by rw[show r.aI=k from e];exact jW)
   ·cases hl
   ·exact n6 _ (lV hl).1 (by rw[show qs.aI=k from e];exact jW)
   ·exact n5 (by rw[show m=k from e];exact jW)
   ·cases hl
   ·cases hl
  have oV:∀k,k∈LA.map (·.1)∨k∈LC.map (·.1)→k∈L.map (·.1):=fun k hk=>by rw[da];simp only[aqb,aqa,apx,apN];exact hk.elim (fun hk=>.inr (.inr (.inr (.inl hk)))) (fun hk=>.inr (.inr (.inr (.inr (.inr hk)))))
  obtain⟨S',ca,hS⟩:=Be (C:=C) (made:=d'.made) (calls:=d'.calls) (raw:=d'.raw) hL eO da hA hC hw uo h0 (fun k hk=>hid k (oV k hk) (oU k hk)) c3 c6 (aW _) (oS _) c4 c5 c7 c8
  rw[←c1,←c2]at ca
  refine⟨d',S',K,ca,fun k hk=>?_,fun y o _ _ hy hr=>?_,hQ⟩
  ·rcases hS k hk with hk|⟨y,hy,o,q,a1,a2,a3,a4,a5⟩
   ·exact .inl ⟨oV k hk,oU k hk⟩
   ·exact .inr ⟨y,o,q,hy,a1,a2,a3,a4,a5⟩
  ·have:=c9 o (apX hy);rw[this]at hr;cases hr
theorem aE.Yy{f:apQ}{args:List ape}{d:ay}{x0:List ape}{Q:bx→List ag→Prop}(h:∀eR L2,fv d.files eR L2→aE av9 f args (fE d.bM x0 (bS eR) d.made 0 [] d.made d.calls d.raw) fun v o'=>∃d' K,Left d eR L2 o' K d'∧Q v (closed d' K o')):aE av9 f args (.abs d::[.cells x0 5 false]) Q:=by
 refine aE.vQ fun w r S L hG jd hL=>?_
 obtain⟨eO,v,m,es,L1,L2,kQ,jV,da⟩:=jd
 have uj:∀p∈L1,eL w p.1 p.2:=fun p hp=>hL.at_ p (by rw[da];simp[hp])
 obtain⟨qs,oT,lV,uk⟩:=vW kQ uj (oS _)
 have cX:=hL.fX
 rw[da]at cX
 simp only[aqb,aqa]at cX
 obtain⟨n1,n2,n3,n4,n5,n6⟩:=Bh cX
 refine⟨.cells [.slice (some ⟨2,0,none⟩) d.bM.length d.bM.length,.map (some 3),.int .i64 d.made,.int .i64 d.calls,.int .i64 d.raw] 80 false,[(qs,.cells (aD d.bM) 77 false),(⟨m,0,0,0⟩,.map (bS es) d.made),(⟨0,0,1,0⟩,.cells [] 173 false),(⟨0,0,1,0⟩,.cells [] 5 false)],_,⟨?_,?_,?_,?_⟩,by simp,h es L2 jV,?_⟩
 ·intro p hp
  simp only[apx,ap2,or_false]at hp
  rcases hp with rfl|rfl|rfl|rfl|rfl<;>exact⟨rfl,by intro d' e;cases e⟩
 ·intro p hp el ro he n hn
  simp only[apx,ap2,or_false]at hp
  rcases hp with rfl|rfl|rfl|rfl|rfl
  ·cases he
  ·injection he with e1 e2 e3;subst e2;rw[pQ]at hn;cases hn;exact oT
  ·cases he
  ·cases he;rw[Bc]at hn;cases hn;rfl
  ·cases he;rw[qN]at hn;cases hn;rfl
 ·intro ρ ud hρ p hp hl
  have ul:ρ 2=some qs:=hρ 0 _ rfl
  have um:ρ 3=some ⟨m,0,0,0⟩:=hρ 1 _ rfl
  simp only[apx,ap2,or_false]at hp
  rcases hp with rfl|rfl|rfl|rfl|rfl
  ·have hc:eL w r.aI (.cells [v,.map (some m),.int .i64 d.made,.int .i64 d.calls,.int .i64 d.raw] 80 r.sh r.dy):=hL.at_ (r.aI,_) (by rw[da];exact apC)
   refine⟨by rw[da];simp,?_⟩
   exact hc.or (fun n hn=>by rw[yu]at hn;cases hn;exact eO) (.cons (uk ρ 2 ul) (.cons (.map 3 _ um) (.cons (.bG _ rfl) (.cons (.bG _ rfl) (.cons (.bG _ rfl) (LR.nil ρ))))))
  ·obtain⟨h1,h2⟩:=lV hl
   exact⟨by rw[da];simp only[aqb,aqa,apx,apN];exact .inr (.inr (.inl h1)),h2.or (fun n hn=>by rw[pQ]at hn;cases hn;exact oT) (LR.rC (vY (aW _)))⟩
  ·have hc:eL w m _:=hL.at_ (m,_) (by rw[da];exact apB _ apC)
   exact⟨by rw[da];simp,eL.Bb (q:=⟨m,0,0,0⟩) hc (dL.vV jV)⟩
  ·cases hl
  ·cases hl
 ·have s1:Live (.cells (aD d.bM) 77 false) qs=true→qs.aI∈L1.map (·.1):=fun hl=>(lV hl).1
  refine .cons (fun q hq=>?_) ?_
  ·simp only[apx,ap2,or_false]at hq
   rcases hq with rfl|rfl|rfl|rfl
   ·exact fun h1 h2 e=>n2 (by rw[show r.aI=qs.aI from e];exact s1 h2)
   ·exact fun h1 h2 e=>n1 e
   ·intro h1 h2;exact absurd h2 (by decide)
   ·intro h1 h2;exact absurd h2 (by decide)
  refine .cons (fun q hq=>?_) ?_
  ·simp only[apx,ap2,or_false]at hq
   rcases hq with rfl|rfl|rfl
   ·exact fun h1 h2 e=>n4 (by rw[←show qs.aI=m from e];exact s1 h1)
   ·intro h1 h2;exact absurd h2 (by decide)
   ·intro h1 h2;exact absurd h2 (by decide)
  refine .cons (fun q hq=>?_) ?_
  ·simp only[apx,ap2,or_false]at hq
   rcases hq with rfl|rfl
   ·intro h1 h2;exact absurd h2 (by decide)
   ·intro h1 h2;exact absurd h2 (by decide)
  refine .cons (fun q hq=>?_) ?_
  ·simp only[apx,ap2,or_false]at hq
   rcases hq with rfl
   ·intro h1 h2;exact absurd h2 (by decide)
  refine .cons (fun q hq=>?_) ?_
  ·simp only[apx,ap2,or_false]at hq
  exact .nil
 ·rintro vr o' ⟨d',K,⟨⟨A,R,C,eA,eM,eC,F,eF,LA,LM,LC,c0,ce,cl,hA,hC,c1,c2,c3,c4,c5⟩,c6,c7,c8,c9,uo⟩,hQ⟩ B ρ w' hw h0 hρ hid
  rw[cl]at da n3 n5 n6
  simp only[aqa]at n3 n5 n6
  have jW:∀k,k∈LA.map (·.1)∨k∈LC.map (·.1)→k∈LA.map (·.1)++(LM.map (·.1)++LC.map (·.1)):=fun k hk=>by
   rcases hk with hk|hk
   ·exact aqH _ hk
   ·exact aql _ (aql _ hk)
  have oU:∀k,k∈LA.map (·.1)∨k∈LC.map (·.1)→∀q∈(r,.cells [.slice (some ⟨2,0,none⟩) d.bM.length d.bM.length,.map (some 3),.int .i64 d.made,.int .i64 d.calls,.int .i64 d.raw] 80 false)::([(qs,.cells (aD d.bM) 77 false),(⟨m,0,0,0⟩,.map (bS es) d.made),(⟨0,0,1,0⟩,.cells [] 173 false),(⟨0,0,1,0⟩,.cells [] 5 false)]:List (bN×ag)),Live q.2 q.1=true→q.1.aI≠k:=by
   intro k hk q hq hl e
   have jW:=jW k hk
   simp only[apx,ap2,or_false]at hq
   rcases hq with rfl|rfl|rfl|rfl|rfl
   ·exact n3 (by rw[show r.aI=k from e];exact jW)
   ·exact n6 _ (lV hl).1 (by rw[show qs.aI=k from e];exact jW)
   ·exact n5 (by rw[show m=k from e];exact jW)
   ·cases hl
   ·cases hl
  have oV:∀k,k∈LA.map (·.1)∨k∈LC.map (·.1)→k∈L.map (·.1):=fun k hk=>by rw[da];simp only[aqb,aqa,apx,apN];exact hk.elim (fun hk=>.inr (.inr (.inr (.inl hk)))) (fun hk=>.inr (.inr (.inr (.inr (.inr hk)))))
  obtain⟨S',ca,hS⟩:=Be (C:=C) (made:=d'.made) (calls:=d'.calls) (raw:=d'.raw) hL eO da hA hC hw uo h0 (fun k hk=>hid k (oV k hk) (oU k hk)) c3 c6 (aW _) (oS _) c4 c5 c7 c8
  rw[←c1,←c2]at ca
  refine⟨d',S',K,ca,fun k hk=>?_,fun y o _ _ hy hr=>?_,hQ⟩
  ·rcases hS k hk with hk|⟨y,hy,o,q,a1,a2,a3,a4,a5⟩
   ·exact .inl ⟨oV k hk,oU k hk⟩
   ·exact .inr ⟨y,o,q,hy,a1,a2,a3,a4,a5⟩
  ·have:=c9 o (apX hy);rw[this]at hr;cases hr
theorem aE.Yz{f:apQ}{args:List ape}{d:ay}{x0:List ape}{A C:List (Nat×ByteArray)}{p:Nat×ByteArray}(hd:d.files=A++([p]++C)){Q:bx→List ag→Prop}(h:∀eA eC kf sf LA LF LC,fv A eA LA→fv C eC LC→fileAt p kf sf LF→1≤p.1→aE av9 f args (fI d.bM [] (bS eA++([aqE (apm .i64 p.1) (aqo (some ⟨4,0,none⟩)) (p.1-1)]++bS eC)) d.made p.2.size (ai p.2) d.made d.calls d.raw) fun v o'=>∃d' K F eF,d'.bM=d.bM∧d'.files=A++(F++C)∧o'[0]?=some (.cells [.slice (some ⟨2,0,none⟩) d.bM.length d.bM.length,.map (some 3),.int .i64 d'.made,.int .i64 d'.calls,.int .i64 d'.raw] 80 false)∧o'[3]?=some (.map (bS eA++(eF++bS eC)) d'.made)∧sd o' K F eF∧o'[2]?=some (.cells (aD d.bM) 77 false)∧K.contains 2=true∧K.contains 3=true∧(∀o∈o',o.ro=false)∧o'.length≤262144∧Q v (closed d' K o')):aE av9 f args (.abs d::[]) Q:=by
 refine aE.vQ fun w r S L hG jd hL=>?_
 obtain⟨eO,v,m,es,L1,L2,kQ,jV,da⟩:=jd
 rw[hd]at jV
 obtain⟨eA,e1,LA,L3,rfl,rfl,hA,jV⟩:=vU jV
 obtain⟨eM,eC,LM,LC,rfl,rfl,hM,hC⟩:=vU jV
 obtain⟨kf,sf,LF,rfl,iY,Gv,jF⟩:∃kf sf LF,eM=[{key:=.int .i64 p.1,val:=.pointer (some ⟨kf,sf,none⟩),born:=p.1-1}]∧LM=LF∧fileAt p kf sf LF∧1≤p.1:=by
  cases hM with
  |cons _ kf sf _ _ L L' h1 h2 hp=>cases h2;exact⟨kf,sf,L,rfl,by rw[aqF],h1,hp⟩
 subst iY
 obtain⟨vf,nm,Lr,yw,iY⟩:=Gv
 have Gw:∀p∈Lr,eL w p.1 p.2:=fun p hp=>hL.at_ p (by rw[da,iY];simp[hp])
 obtain⟨qr,oM,uq,Gx⟩:=vW yw Gw (by rw[Bd,nj,arF])
 have jf:eL w kf (.cells [vf] 173 sf nm):=hL.at_ (kf,_) (by rw[da,iY];simp)
 have uj:∀p∈L1,eL w p.1 p.2:=fun p hp=>hL.at_ p (by rw[da];simp[hp])
 obtain⟨qs,oT,lV,uk⟩:=vW kQ uj (oS _)
 have cX:=hL.fX
 rw[da]at cX
 simp only[aqb,aqa]at cX
 obtain⟨n1,n2,n3,n4,n5,n6⟩:=Bh cX
 have Gy:kf∉Lr.map (·.1):=by
  have:=(aqk.1 ((aqB.1 (aqB.1 cX).2).2)).2.1
  have:=(aqk.1 (aqk.1 this).2.1).1
  rw[iY]at this
  exact(aqB.1 this).1
 have lW:∀k,k=kf∨k∈Lr.map (·.1)→k∈LA.map (·.1)++(LM.map (·.1)++LC.map (·.1)):=fun k hk=>by
  rw[iY]
  rcases hk with rfl|hk
  ·simp
  ·simp only[aqb,apN,apx];exact .inr (.inl (.inr hk))
 refine⟨.cells [.slice (some ⟨2,0,none⟩) d.bM.length d.bM.length,.map (some 3),.int .i64 d.made,.int .i64 d.calls,.int .i64 d.raw] 80 false,[(⟨0,0,1,0⟩,.cells [] 5 false),(qs,.cells (aD d.bM) 77 false),(⟨m,0,0,0⟩,.map (bS eA++([aqE (apm .i64 p.1) (aqo (some ⟨4,0,none⟩)) (p.1-1)]++bS eC)) d.made),(⟨kf,sf,1,nm⟩,.cells [.slice (some ⟨5,0,none⟩) p.2.size p.2.size] 173 false),(qr,.cells (ai p.2) 5 false)],_,⟨?_,?_,?_,?_⟩,by simp,h eA eC kf sf LA LM LC hA hC ⟨vf,nm,Lr,yw,iY⟩ jF,?_⟩
 ·intro p hp
  simp only[apx,ap2,or_false]at hp
  rcases hp with rfl|rfl|rfl|rfl|rfl|rfl<;>exact⟨rfl,by intro d' e;cases e⟩
 ·intro p hp el ro he n hn
  simp only[apx,ap2,or_false]at hp
  rcases hp with rfl|rfl|rfl|rfl|rfl|rfl
  ·cases he
  ·cases he;rw[qN]at hn;cases hn;rfl
  ·injection he with e1 e2 e3;subst e2;rw[pQ]at hn;cases hn;exact oT
  ·cases he
  ·cases he
  ·injection he with e1 e2 e3;subst e2;rw[qN]at hn;cases hn;exact oM
 ·intro ρ ud hρ p hp hl
  have ul:ρ 2=some qs:=hρ 1 _ rfl
  have um:ρ 3=some ⟨m,0,0,0⟩:=hρ 2 _ rfl
  have Gz:ρ 4=some ⟨kf,sf,1,nm⟩:=hρ 3 _ rfl
  have GA:ρ 5=some qr:=hρ 4 _ rfl
  simp only[apx,ap2,or_false]at hp
  rcases hp with rfl|rfl|rfl|rfl|rfl|rfl
  ·have hc:eL w r.aI (.cells [v,.map (some m),.int .i64 d.made,.int .i64 d.calls,.int .i64 d.raw] 80 r.sh r.dy):=hL.at_ (r.aI,_) (by rw[da];exact apC)
   refine⟨by rw[da];simp,?_⟩
   exact hc.or (fun n hn=>by rw[yu]at hn;cases hn;exact eO) (.cons (uk ρ 2 ul) (.cons (.map 3 _ um) (.cons (.bG _ rfl) (.cons (.bG _ rfl) (.cons (.bG _ rfl) (LR.nil ρ))))))
  ·cases hl
  ·obtain⟨h1,h2⟩:=lV hl
   exact⟨by rw[da];simp only[aqb,aqa,apx,apN];exact .inr (.inr (.inl h1)),h2.or (fun n hn=>by rw[pQ]at hn;cases hn;exact oT) (LR.rC (vY (aW _)))⟩
  ·have hc:eL w m _:=hL.at_ (m,_) (by rw[da];exact apB _ apC)
   exact⟨by rw[da];simp,eL.Bb (q:=⟨m,0,0,0⟩) hc (dL.mw (dL.vV hA) (dL.mw (.cons ⟨.bG _ rfl,.ptr 4 0 _ Gz,rfl⟩ .nil) (dL.vV hC)))⟩
  ·exact⟨by rw[da,iY];simp,eL.or (q:=⟨kf,sf,1,nm⟩) jf (fun n hn=>by rw[Bc]at hn;cases hn;rfl) (.cons (Gx ρ 5 GA) (LR.nil ρ))⟩
  ·obtain⟨h1,h2⟩:=uq hl
   rw[Bd]at h2
   exact⟨by rw[da,iY];simp only[aqb,aqa,apx,apN];exact .inr (.inr (.inr (.inr (.inl (.inr h1))))),h2.or (fun n hn=>by rw[qN]at hn;cases hn;exact oM) (LR.rC (vY (aH _)))⟩
 ·have s1:Live (.cells (aD d.bM) 77 false) qs=true→qs.aI∈L1.map (·.1):=fun hl=>(lV hl).1
  have s2:Live (.cells (ai p.2) 5 false) qr=true→qr.aI∈Lr.map (·.1):=fun hl=>(uq hl).1
  refine .cons (fun q hq=>?_) ?_
  ·simp only[apx,ap2,or_false]at hq
   rcases hq with rfl|rfl|rfl|rfl|rfl
   ·intro h1 h2;exact absurd h2 (by decide)
   ·exact fun h1 h2 e=>n2 (by rw[show r.aI=qs.aI from e];exact s1 h2)
   ·exact fun h1 h2 e=>n1 e
   ·exact fun h1 h2 e=>n3 (by rw[show r.aI=kf from e];exact lW _ (.inl rfl))
   ·exact fun h1 h2 e=>n3 (by rw[show r.aI=qr.aI from e];exact lW _ (.inr (s2 h2)))
  refine .cons (fun q hq=>?_) ?_
  ·simp only[apx,ap2,or_false]at hq
   rcases hq with rfl|rfl|rfl|rfl
   ·intro h1 h2;exact absurd h1 (by decide)
   ·intro h1 h2;exact absurd h1 (by decide)
   ·intro h1 h2;exact absurd h1 (by decide)
   ·intro h1 h2;exact absurd h1 (by decide)
  refine .cons (fun q hq=>?_) ?_
  ·simp only[apx,ap2,or_false]at hq
   rcases hq with rfl|rfl|rfl
   ·exact fun h1 h2 e=>n4 (by rw[←show qs.aI=m from e];exact s1 h1)
   ·exact fun h1 h2 e=>n6 _ (s1 h1) (by rw[show qs.aI=kf from e];exact lW _ (.inl rfl))
   ·exact fun h1 h2 e=>n6 _ (s1 h1) (by rw[show qs.aI=qr.aI from e];exact lW _ (.inr (s2 h2)))
  refine .cons (fun q hq=>?_) ?_
  ·simp only[apx,ap2,or_false]at hq
   rcases hq with rfl|rfl
   ·exact fun h1 h2 e=>n5 (by rw[show m=kf from e];exact lW _ (.inl rfl))
   ·exact fun h1 h2 e=>n5 (by rw[show m=qr.aI from e];exact lW _ (.inr (s2 h2)))
  refine .cons (fun q hq=>?_) ?_
  ·simp only[apx,ap2,or_false]at hq
   rcases hq with rfl
   ·exact fun h1 h2 e=>Gy (by rw[show kf=qr.aI from e];exact s2 h2)
  refine .cons (fun q hq=>?_) ?_
  ·simp only[apx,ap2,or_false]at hq
  exact .nil
 ·rintro vr o' ⟨d',K,F,eF,c1,c2,c3,c4,c5,c6,c7,c8,c9,uo,hQ⟩ B ρ w' hw h0 hρ hid
  have oU:∀k,k∈LA.map (·.1)∨k∈LC.map (·.1)→∀q∈(r,.cells [.slice (some ⟨2,0,none⟩) d.bM.length d.bM.length,.map (some 3),.int .i64 d.made,.int .i64 d.calls,.int .i64 d.raw] 80 false)::([(⟨0,0,1,0⟩,.cells [] 5 false),(qs,.cells (aD d.bM) 77 false),(⟨m,0,0,0⟩,.map (bS eA++([aqE (apm .i64 p.1) (aqo (some ⟨4,0,none⟩)) (p.1-1)]++bS eC)) d.made),(⟨kf,sf,1,nm⟩,.cells [.slice (some ⟨5,0,none⟩) p.2.size p.2.size] 173 false),(qr,.cells (ai p.2) 5 false)]:List (bN×ag)),Live q.2 q.1=true→q.1.aI≠k:=by
   intro k hk q hq hl e
   have yx:=(aqk.1 ((aqB.1 (aqB.1 cX).2).2)).2.1
   have nF:∀x,x∈LM.map (·.1)→x≠k:=fun x hx ex=>by
    subst ex
    rcases hk with hk|hk
    ·exact(aqk.1 yx).2.2 _ hk _ (aqH _ hx) rfl
    ·exact(aqk.1 (aqk.1 yx).2.1).2.2 _ hx _ hk rfl
   have jW:k∈LA.map (·.1)++(LM.map (·.1)++LC.map (·.1)):=by
    rcases hk with hk|hk
    ·exact aqH _ hk
    ·exact aql _ (aql _ hk)
   simp only[apx,ap2,or_false]at hq
   rcases hq with rfl|rfl|rfl|rfl|rfl|rfl
   ·exact n3 (by rw[show r.aI=k from e];exact jW)
   ·cases hl
   ·exact n6 _ (lV hl).1 (by rw[show qs.aI=k from e];exact jW)
   ·exact n5 (by rw[show m=k from e];exact jW)
   ·exact nF kf (by rw[iY];simp) e
   ·exact nF _ (by rw[iY];exact apB _ (uq hl).1) e
  have oV:∀k,k∈LA.map (·.1)∨k∈LC.map (·.1)→k∈L.map (·.1):=fun k hk=>by rw[da];simp only[aqb,aqa,apx,apN];exact hk.elim (fun hk=>.inr (.inr (.inr (.inl hk)))) (fun hk=>.inr (.inr (.inr (.inr (.inr hk)))))
  obtain⟨S',ca,hS⟩:=Be (C:=C) (made:=d'.made) (calls:=d'.calls) (raw:=d'.raw) hL eO da hA hC hw uo h0 (fun k hk=>hid k (oV k hk) (oU k hk)) c3 c6 (aW _) (oS _) c4 c5 c7 c8
  rw[←c1,←c2]at ca
  refine⟨d',S',K,ca,fun k hk=>?_,fun y o _ _ hy hr=>?_,hQ⟩
  ·rcases hS k hk with hk|⟨y,hy,o,q,a1,a2,a3,a4,a5⟩
   ·exact .inl ⟨oV k hk,oU k hk⟩
   ·exact .inr ⟨y,o,q,hy,a1,a2,a3,a4,a5⟩
  ·have:=c9 o (apX hy);rw[this]at hr;cases hr
theorem aE.YA{f:apQ}{args:List ape}{d:ay}{x0:List ape}{A C:List (Nat×ByteArray)}{p:Nat×ByteArray}(hd:d.files=A++([p]++C)){Q:bx→List ag→Prop}(h:∀eA eC kf sf LA LF LC,fv A eA LA→fv C eC LC→fileAt p kf sf LF→1≤p.1→aE av9 f args (fI d.bM x0 (bS eA++([aqE (apm .i64 p.1) (aqo (some ⟨4,0,none⟩)) (p.1-1)]++bS eC)) d.made p.2.size (ai p.2) d.made d.calls d.raw) fun v o'=>∃d' K F eF,d'.bM=d.bM∧d'.files=A++(F++C)∧o'[0]?=some (.cells [.slice (some ⟨2,0,none⟩) d.bM.length d.bM.length,.map (some 3),.int .i64 d'.made,.int .i64 d'.calls,.int .i64 d'.raw] 80 false)∧o'[3]?=some (.map (bS eA++(eF++bS eC)) d'.made)∧sd o' K F eF∧o'[2]?=some (.cells (aD d.bM) 77 false)∧K.contains 2=true∧K.contains 3=true∧(∀o∈o',o.ro=false)∧o'.length≤262144∧Q v (closed d' K o')):aE av9 f args (.abs d::[.cells x0 5 false]) Q:=by
 refine aE.vQ fun w r S L hG jd hL=>?_
 obtain⟨eO,v,m,es,L1,L2,kQ,jV,da⟩:=jd
 rw[hd]at jV
 obtain⟨eA,e1,LA,L3,rfl,rfl,hA,jV⟩:=vU jV
 obtain⟨eM,eC,LM,LC,rfl,rfl,hM,hC⟩:=vU jV
 obtain⟨kf,sf,LF,rfl,iY,Gv,jF⟩:∃kf sf LF,eM=[{key:=.int .i64 p.1,val:=.pointer (some ⟨kf,sf,none⟩),born:=p.1-1}]∧LM=LF∧fileAt p kf sf LF∧1≤p.1:=by
  cases hM with
  |cons _ kf sf _ _ L L' h1 h2 hp=>cases h2;exact⟨kf,sf,L,rfl,by rw[aqF],h1,hp⟩
 subst iY
 obtain⟨vf,nm,Lr,yw,iY⟩:=Gv
 have Gw:∀p∈Lr,eL w p.1 p.2:=fun p hp=>hL.at_ p (by rw[da,iY];simp[hp])
 obtain⟨qr,oM,uq,Gx⟩:=vW yw Gw (by rw[Bd,nj,arF])
 have jf:eL w kf (.cells [vf] 173 sf nm):=hL.at_ (kf,_) (by rw[da,iY];simp)
 have uj:∀p∈L1,eL w p.1 p.2:=fun p hp=>hL.at_ p (by rw[da];simp[hp])
 obtain⟨qs,oT,lV,uk⟩:=vW kQ uj (oS _)
 have cX:=hL.fX
 rw[da]at cX
 simp only[aqb,aqa]at cX
 obtain⟨n1,n2,n3,n4,n5,n6⟩:=Bh cX
 have Gy:kf∉Lr.map (·.1):=by
  have:=(aqk.1 ((aqB.1 (aqB.1 cX).2).2)).2.1
  have:=(aqk.1 (aqk.1 this).2.1).1
  rw[iY]at this
  exact(aqB.1 this).1
 have lW:∀k,k=kf∨k∈Lr.map (·.1)→k∈LA.map (·.1)++(LM.map (·.1)++LC.map (·.1)):=fun k hk=>by
  rw[iY]
  rcases hk with rfl|hk
  ·simp
  ·simp only[aqb,apN,apx];exact .inr (.inl (.inr hk))
 refine⟨.cells [.slice (some ⟨2,0,none⟩) d.bM.length d.bM.length,.map (some 3),.int .i64 d.made,.int .i64 d.calls,.int .i64 d.raw] 80 false,[(qs,.cells (aD d.bM) 77 false),(⟨m,0,0,0⟩,.map (bS eA++([aqE (apm .i64 p.1) (aqo (some ⟨4,0,none⟩)) (p.1-1)]++bS eC)) d.made),(⟨kf,sf,1,nm⟩,.cells [.slice (some ⟨5,0,none⟩) p.2.size p.2.size] 173 false),(qr,.cells (ai p.2) 5 false)],_,⟨?_,?_,?_,?_⟩,by simp,h eA eC kf sf LA LM LC hA hC ⟨vf,nm,Lr,yw,iY⟩ jF,?_⟩
 ·intro p hp
  simp only[apx,ap2,or_false]at hp
  rcases hp with rfl|rfl|rfl|rfl|rfl<;>exact⟨rfl,by intro d' e;cases e⟩
 ·intro p hp el ro he n hn
  simp only[apx,ap2,or_false]at hp
  rcases hp with rfl|rfl|rfl|rfl|rfl
  ·cases he
  ·injection he with e1 e2 e3;subst e2;rw[pQ]at hn;cases hn;exact oT
  ·cases he
  ·cases he
  ·injection he with e1 e2 e3;subst e2;rw[qN]at hn;cases hn;exact oM
 ·intro ρ ud hρ p hp hl
  have ul:ρ 2=some qs:=hρ 0 _ rfl
  have um:ρ 3=some ⟨m,0,0,0⟩:=hρ 1 _ rfl
  have Gz:ρ 4=some ⟨kf,sf,1,nm⟩:=hρ 2 _ rfl
  have GA:ρ 5=some qr:=hρ 3 _ rfl
  simp only[apx,ap2,or_false]at hp
  rcases hp with rfl|rfl|rfl|rfl|rfl
  ·have hc:eL w r.aI (.cells [v,.map (some m),.int .i64 d.made,.int .i64 d.calls,.int .i64 d.raw] 80 r.sh r.dy):=hL.at_ (r.aI,_) (by rw[da];exact apC)
   refine⟨by rw[da];simp,?_⟩
   exact hc.or (fun n hn=>by rw[yu]at hn;cases hn;exact eO) (.cons (uk ρ 2 ul) (.cons (.map 3 _ um) (.cons (.bG _ rfl) (.cons (.bG _ rfl) (.cons (.bG _ rfl) (LR.nil ρ))))))
  ·obtain⟨h1,h2⟩:=lV hl
   exact⟨by rw[da];simp only[aqb,aqa,apx,apN];exact .inr (.inr (.inl h1)),h2.or (fun n hn=>by rw[pQ]at hn;cases hn;exact oT) (LR.rC (vY (aW _)))⟩
  ·have hc:eL w m _:=hL.at_ (m,_) (by rw[da];exact apB _ apC)
   exact⟨by rw[da];simp,eL.Bb (q:=⟨m,0,0,0⟩) hc (dL.mw (dL.vV hA) (dL.mw (.cons ⟨.bG _ rfl,.ptr 4 0 _ Gz,rfl⟩ .nil) (dL.vV hC)))⟩
  ·exact⟨by rw[da,iY];simp,eL.or (q:=⟨kf,sf,1,nm⟩) jf (fun n hn=>by rw[Bc]at hn;cases hn;rfl) (.cons (Gx ρ 5 GA) (LR.nil ρ))⟩
  ·obtain⟨h1,h2⟩:=uq hl
   rw[Bd]at h2
   exact⟨by rw[da,iY];simp only[aqb,aqa,apx,apN];exact .inr (.inr (.inr (.inr (.inl (.inr h1))))),h2.or (fun n hn=>by rw[qN]at hn;cases hn;exact oM) (LR.rC (vY (aH _)))⟩
 ·have s1:Live (.cells (aD d.bM) 77 false) qs=true→qs.aI∈L1.map (·.1):=fun hl=>(lV hl).1
  have s2:Live (.cells (ai p.2) 5 false) qr=true→qr.aI∈Lr.map (·.1):=fun hl=>(uq hl).1
  refine .cons (fun q hq=>?_) ?_
  ·simp only[apx,ap2,or_false]at hq
   rcases hq with rfl|rfl|rfl|rfl
   ·exact fun h1 h2 e=>n2 (by rw[show r.aI=qs.aI from e];exact s1 h2)
   ·exact fun h1 h2 e=>n1 e
   ·exact fun h1 h2 e=>n3 (by rw[show r.aI=kf from e];exact lW _ (.inl rfl))
   ·exact fun h1 h2 e=>n3 (by rw[show r.aI=qr.aI from e];exact lW _ (.inr (s2 h2)))
  refine .cons (fun q hq=>?_) ?_
  ·simp only[apx,ap2,or_false]at hq
   rcases hq with rfl|rfl|rfl
   ·exact fun h1 h2 e=>n4 (by rw[←show qs.aI=m from e];exact s1 h1)
   ·exact fun h1 h2 e=>n6 _ (s1 h1) (by rw[show qs.aI=kf from e];exact lW _ (.inl rfl))
   ·exact fun h1 h2 e=>n6 _ (s1 h1) (by rw[show qs.aI=qr.aI from e];exact lW _ (.inr (s2 h2)))
  refine .cons (fun q hq=>?_) ?_
  ·simp only[apx,ap2,or_false]at hq
   rcases hq with rfl|rfl
   ·exact fun h1 h2 e=>n5 (by rw[show m=kf from e];exact lW _ (.inl rfl))
   ·exact fun h1 h2 e=>n5 (by rw[show m=qr.aI from e];exact lW _ (.inr (s2 h2)))
  refine .cons (fun q hq=>?_) ?_
  ·simp only[apx,ap2,or_false]at hq
   rcases hq with rfl
   ·exact fun h1 h2 e=>Gy (by rw[show kf=qr.aI from e];exact s2 h2)
  refine .cons (fun q hq=>?_) ?_
  ·simp only[apx,ap2,or_false]at hq
  exact .nil
 ·rintro vr o' ⟨d',K,F,eF,c1,c2,c3,c4,c5,c6,c7,c8,c9,uo,hQ⟩ B ρ w' hw h0 hρ hid
  have oU:∀k,k∈LA.map (·.1)∨k∈LC.map (·.1)→∀q∈(r,.cells [.slice (some ⟨2,0,none⟩) d.bM.length d.bM.length,.map (some 3),.int .i64 d.made,.int .i64 d.calls,.int .i64 d.raw] 80 false)::([(qs,.cells (aD d.bM) 77 false),(⟨m,0,0,0⟩,.map (bS eA++([aqE (apm .i64 p.1) (aqo (some ⟨4,0,none⟩)) (p.1-1)]++bS eC)) d.made),(⟨kf,sf,1,nm⟩,.cells [.slice (some ⟨5,0,none⟩) p.2.size p.2.size] 173 false),(qr,.cells (ai p.2) 5 false)]:List (bN×ag)),Live q.2 q.1=true→q.1.aI≠k:=by
   intro k hk q hq hl e
   have yx:=(aqk.1 ((aqB.1 (aqB.1 cX).2).2)).2.1
   have nF:∀x,x∈LM.map (·.1)→x≠k:=fun x hx ex=>by
    subst ex
    rcases hk with hk|hk
    ·exact(aqk.1 yx).2.2 _ hk _ (aqH _ hx) rfl
    ·exact(aqk.1 (aqk.1 yx).2.1).2.2 _ hx _ hk rfl
   have jW:k∈LA.map (·.1)++(LM.map (·.1)++LC.map (·.1)):=by
    rcases hk with hk|hk
    ·exact aqH _ hk
    ·exact aql _ (aql _ hk)
   simp only[apx,ap2,or_false]at hq
   rcases hq with rfl|rfl|rfl|rfl|rfl
   ·exact n3 (by rw[show r.aI=k from e];exact jW)
   ·exact n6 _ (lV hl).1 (by rw[show qs.aI=k from e];exact jW)
   ·exact n5 (by rw[show m=k from e];exact jW)
   ·exact nF kf (by rw[iY];simp) e
   ·exact nF _ (by rw[iY];exact apB _ (uq hl).1) e
  have oV:∀k,k∈LA.map (·.1)∨k∈LC.map (·.1)→k∈L.map (·.1):=fun k hk=>by rw[da];simp only[aqb,aqa,apx,apN];exact hk.elim (fun hk=>.inr (.inr (.inr (.inl hk)))) (fun hk=>.inr (.inr (.inr (.inr (.inr hk)))))
  obtain⟨S',ca,hS⟩:=Be (C:=C) (made:=d'.made) (calls:=d'.calls) (raw:=d'.raw) hL eO da hA hC hw uo h0 (fun k hk=>hid k (oV k hk) (oU k hk)) c3 c6 (aW _) (oS _) c4 c5 c7 c8
  rw[←c1,←c2]at ca
  refine⟨d',S',K,ca,fun k hk=>?_,fun y o _ _ hy hr=>?_,hQ⟩
  ·rcases hS k hk with hk|⟨y,hy,o,q,a1,a2,a3,a4,a5⟩
   ·exact .inl ⟨oV k hk,oU k hk⟩
   ·exact .inr ⟨y,o,q,hy,a1,a2,a3,a4,a5⟩
  ·have:=c9 o (apX hy);rw[this]at hr;cases hr
end Go.Proofs.YtnlkkgpcikkpoaaGreat
namespace Go.Proofs.YtnlkkgpcikkpoaaGreat
open Go Vm Go.RowKit
def jX(x y:UInt8):Bool:=decide (x<y)
abbrev ir(d:Array UInt8):ByteArray:=⟨d⟩
theorem Nz(d:Array UInt8):(ir d).size=d.size:=rfl
theorem vZ{d:Array UInt8}{i:Nat}(h:i<d.size):av (ai (ir d)) i=(d[i]!.toNat:Int):=by
 rw[MP (b:=ir d) h,getElem!_pos d i h];rfl
theorem Bi{d:Array UInt8}{p:Nat}(h:p<d.size):cA apA (ai (ir d)) p=true:=MQ h
abbrev yy(n:Nat):ape:=.slice (some ⟨0,0,none⟩) n n
abbrev iA(n:Nat):ape:=.int .i64 (n:Int)
theorem YB{x:Int}(h0: -1000000≤x)(h1:x≤1000000):apc apr x=x:=nk (by omega) (by omega)
open Tree renaming aN→mN,dj→mF,eT→mL
theorem qP{x:Nat}:0+apd (x:Int)*1=x:=by simp
theorem GB{x:Nat}(h:x≤100000):apm .i64 (apc apr ((x:Int)+1))=iA (x+1):=by rw[YB (by omega) (by omega)];rfl
structure an6(d:Array UInt8)(n a z:Nat)(s:Array UInt8×Nat):Prop where
 h1:s.1.size=n
 h2:a+1≤s.2
 h3:s.2≤100000
 h4:Sort.insOuter jX a z s.2 s.1=Sort.insertionSort jX d a z
structure an7(d:Array UInt8)(n a i:Nat)(s:Array UInt8×Nat):Prop where
 h1:s.1.size=n
 h2:s.2≤i
 h3:avl jX a s.2 s.1=avl jX a i d
structure an8(d:Array UInt8)(n a z:Nat)(s:Array UInt8×Nat×Int):Prop where
 h1:s.1.size=n
 h2: -1≤s.2.2
 h3:s.2.2<n
 h5:s.2.1≤n
 h4:Sort.reverseLoop s.2.1 s.2.2.toNat s.1=Sort.reverseRange d a z
structure an9(d:Array UInt8)(n hi fs lo:Nat)(s:Array UInt8×Nat):Prop where
 h1:s.1.size=n
 h2:s.2≤n
 h3:avm jX hi fs s.2 s.1=avm jX hi fs lo d
def sj(l:List ape):Array UInt8:=(l.map fun v=>match v with| .int _ x=>UInt8.ofNat x.toNat|_=>0).toArray
@[simp] theorem NA(d:Array UInt8):sj (ai (ir d))=d:=by
 unfold sj ai ir
 simp[Function.comp_def]
noncomputable def pS(l:List ape)(P:Prop):Bool:=@decide ((∃d:Array UInt8,l=ai (ir d))∧P) (apF _)
theorem GC{l:List ape}{P:Prop}:pS l P=true↔(∃d:Array UInt8,l=ai (ir d))∧P:=by unfold pS;exact @decide_eq_true_iff _ (apF _)
theorem YC{d:Array UInt8}{P:Prop}(h:P):pS (ai (ir d)) P=true:=GC.2 ⟨⟨d,rfl⟩,h⟩
open Tree renaming aN→mN,dj→mF,eT→mL
structure aoa(d:Array UInt8)(n a hi:Nat)(s:Array UInt8×Int):Prop where
 h1:s.1.size=n
 h2: -1≤s.2
 h3:s.2≤n
 h4:ave jX hi a (s.2+1).toNat s.1=ave jX hi a ((hi-1)/2+1) d
structure aob(d:Array UInt8)(n a hi:Nat)(s:Array UInt8×Int):Prop where
 h1:s.1.size=n
 h2: -1≤s.2
 h3:s.2<hi
 h4:avz jX a (s.2+1).toNat s.1=avz jX a hi d
open Tree renaming aN→mN,dj→mF,eT→mL
structure aoc(d:Array UInt8)(n a i0 j0:Nat)(s:Array UInt8×Nat×Nat):Prop where
 h1:s.1.size=n
 h2:1≤s.2.1
 h3:s.2.1≤n
 h4:s.2.2<n
 h5:avn jX a s.2.1 s.2.2 s.1=avn jX a i0 j0 d
structure aod(d:Array UInt8)(n a i0 j0:Nat)(s:Array UInt8×Nat×Nat):Prop where
 h1:s.1.size=n
 h2:1≤s.2.1
 h3:s.2.1≤n
 h4:s.2.2<n
 h5:au6 jX a s.2.1 s.2.2 s.1=au6 jX a i0 j0 d
open Tree renaming aN→mN,dj→mF,eT→mL
end Go.Proofs.YtnlkkgpcikkpoaaGreat
namespace Go.Proofs.YtnlkkgpcikkpoaaGreat.Vm
open Go.RowKit
end Go.Proofs.YtnlkkgpcikkpoaaGreat.Vm
namespace Go.Proofs.YtnlkkgpcikkpoaaGreat
open Go Vm Go.RowKit
structure aoe(d:Array UInt8)(n a z:Nat)(s:Array UInt8×Nat×Nat):Prop where
 h1:s.1.size=n
 h2:a+1≤s.2.1
 h3:s.2.1≤z
 h4:s.2.2≤5
 h5:Sort.partialIns jX a z (5-s.2.2) s.2.1 s.1=Sort.partialInsertionSort jX d a z
noncomputable section
noncomputable def YD:List apV:=aY (dz av9 153)
noncomputable def YE:List apV:=aY (dz av9 130)
open Tree renaming aN→mN,dj→mF,eT→mL,fz→mQ,dB→mR,fH→mE
def NB:Nat→Bool→Bool→Tree→Tree
 |0,_,_,t=>t
 |n+1,d,b,t=>.cD d b (NB n d b t)
theorem YF{R:bd→aj→Prop}{c v:Bool}{t:Tree}(n:Nat)(h1:c=v)(h2:t.ok R):(NB n c v t).ok R:=by
 induction n with
 |zero=>exact h2
 |succ n ih=>exact⟨h1,ih⟩
abbrev YG:=fun b (n:Nat) (a z s:Int)=>(⟨[(8,aa z),(9,aa a)],[ab (ai b) 5,ab [.int .i64 (apc .i64 (s+1))] 3]⟩:aj)
abbrev YH:=fun b (n:Nat) (a z s:Int)=>(⟨[(8,aa a),(9,aa z)],[ab (ai b) 5,ab [aa s] 3]⟩:aj)
abbrev YI:=fun b (n:Nat) (a z s:Int)=>(⟨[(0,ah 0 n),(1,aa a),(2,aa z),(3,ao 1)],[ab (ai b) 5,ab [aa s] 3]⟩:aj)
theorem o2(b:ByteArray)(n:Nat)(a z s:Int)(hn:n≤b.size)(h0:0≤a)(h1:a<n)(h2:0≤z)(h3:z<n)(h4:apc .i64 (s+1)=s+1){Q:aQ}(n0:(cA apA (ai b) (0+apd z*1))=true)(n1:(cA apA (ai b) (0+apd a*1))=true)(aR:aph (ai b) af=true)(l3:(decide (av (ai b) (0+apd z*1)<av (ai b) (0+apd a*1)))=true→Q .ret (YG b n a z s))(l4:(decide (av (ai b) (0+apd z*1)<av (ai b) (0+apd a*1)))=false→Q .ret (YH b n a z s)):an av9 28 2 YD (YI b n a z s) Q:=
 aS bo 1000 (aA [0,1,1,0,1,0,1,1,0,1,4,0,0,0] (.fork 4 (.leaf [8,9] [0,1] [0]) (.leaf [8,9] [0,1] [0]))) (fun u=>by kernel_rfl) (mN (decide_eq_true (by omega):(decide (0≤z))=true) (mN (show(apy (apd z) n)=true by simp at hn h0 h1 h2 h3 h4⊢ <;>omega) (mN n0 (mN (decide_eq_true (by omega):(decide (0≤a))=true) (mN (show(apy (apd a) n)=true by simp at hn h0 h1 h2 h3 h4⊢ <;>omega) (mN n1 (YF 4 (show(av (ai b) (0+apd z*1) != av (ai b) (0+apd z*1))=false by simp) (mF (c:=decide (av (ai b) (0+apd z*1)<av (ai b) (0+apd a*1))) (fun h0=>(mN (aH b) (mR (l3 h0)))) (fun h0=>(mN (aH b) (mR (l4 h0))))))))))))
abbrev YJ(x:Int):aj:=⟨[(2,.int .u64 (apc ap4 (↑(arh (aqw 64 (apc ap4 (↑(arh (aqw 64 (apc ap4 (↑(arh (aqw 64 x^^^aqw 64 (apc ap4 (x*8192)))):Int))^^^aqw 64 (aqI (apc ap4 (↑(arh (aqw 64 x^^^aqw 64 (apc ap4 (x*8192)))):Int)) 128))):Int))^^^aqw 64 (apc ap4 (apc ap4 (↑(arh (aqw 64 (apc ap4 (↑(arh (aqw 64 x^^^aqw 64 (apc ap4 (x*8192)))):Int))^^^aqw 64 (aqI (apc ap4 (↑(arh (aqw 64 x^^^aqw 64 (apc ap4 (x*8192)))):Int)) 128))):Int)*131072)))):Int)))],[ab ([.int .u64 (apc ap4 (↑(arh (aqw 64 (apc ap4 (↑(arh (aqw 64 (apc ap4 (↑(arh (aqw 64 x^^^aqw 64 (apc ap4 (x*8192)))):Int))^^^aqw 64 (aqI (apc ap4 (↑(arh (aqw 64 x^^^aqw 64 (apc ap4 (x*8192)))):Int)) 128))):Int))^^^aqw 64 (apc ap4 (apc ap4 (↑(arh (aqw 64 (apc ap4 (↑(arh (aqw 64 x^^^aqw 64 (apc ap4 (x*8192)))):Int))^^^aqw 64 (aqI (apc ap4 (↑(arh (aqw 64 x^^^aqw 64 (apc ap4 (x*8192)))):Int)) 128))):Int)*131072)))):Int))]) 194]⟩
abbrev YK(x:Int):aj:=⟨[(0,ao 0)],[ab [.int .u64 x] 194]⟩
theorem xs(x:Int){Q:aQ}(l0:Q .ret (YJ x)):an av9 33 1 YE (YK x) Q:=
 aS bo 1000 (.leaf [2] [0] []) (fun u=>by kernel_rfl) (mR l0)
end
open Tree renaming aN→mN,dj→mF,eT→mL
open Tree renaming aN→mN,dj→mF,eT→mL
def GD(a l m:Nat):Nat→Nat→UInt64×Array UInt8→UInt64×Array UInt8
 |0,_,st=>st
 |k+1,i,st=>GD a l m k (i+1) (Sort.breakStep a l m st i)
structure aof(d:Array UInt8)(n a l i0:Nat)(s:(UInt64×Array UInt8)×Nat):Prop where
 h1:s.1.2.size=n
 h2:i0≤s.2
 h3:s.2≤i0+3
 h4:GD a l (2^avA l) (i0+3-s.2) s.2 s.1=GD a l (2^avA l) 3 i0 (UInt64.ofNat l,d)
open Tree renaming aN→mN,dj→mF,eT→mL
open Tree renaming aN→mN,dj→mF,eT→mL
noncomputable def sk(d:Array UInt8):Bool:=@decide (d.toList.Nodup) (apF _)
theorem NC{d:Array UInt8}:sk d=true↔d.toList.Nodup:=by unfold sk;exact @decide_eq_true_iff _ (apF _)
theorem ND{d:Array UInt8}:d.toList.Nodup↔∀i j,i<j→j<d.size→d[i]! ≠d[j]! :=by
 unfold List.Nodup
 rw[List.pairwise_iff_getElem]
 constructor
 ·intro h i j iI hj
  have:=h i j (by simpa using avB iI hj) (by simpa using hj) iI
  rw[getElem!_pos d i (avB iI hj),getElem!_pos d j hj]
  simpa using this
 ·intro h i j hi hj iI
  have fj:i<d.size:=by simpa using hi
  have kH:j<d.size:=by simpa using hj
  have:=h i j iI kH
  rw[getElem!_pos d i fj,getElem!_pos d j kH]at this
  simpa using this
structure YL where
 d:Array UInt8
 a:Nat
 z:Nat
 q:Nat
 x:Bool
 y:Bool
structure aog(d:Array UInt8)(n a z q N:Nat)(s:YL):Prop where
 h1:s.d.size=n
 h2:s.z≤n
 h3:s.a≤s.z
 h4:s.q≤100
 h5:s.z-s.a≤N
 h6:Go.Sort.Below jX s.a s.z s.d
 h7:av7 jX s.d s.a s.z s.q s.x s.y=av7 jX d a z q true true
noncomputable section
theorem YM{l:List ape}(h:l.all af=true):∀n,(e8 l n).all af=true
 |0=>rfl
 |n+1=>iq h (YM h n)
noncomputable def Bj:List apV:=aY (dz av9 83)
noncomputable def Bk:List apV:=aY (dz av9 84)
open Tree renaming aN→mN,dj→mF,eT→mL,fz→mQ,dB→mR,fH→mE
noncomputable abbrev Bl:List apV:=(aY (inner (aY (inner (Bk.drop 2)))))
noncomputable abbrev GF:List apV:=(aY (inner (Bl.drop 2)))
noncomputable abbrev YN:List apV:=(aY (inner (aY (inner (Bj.drop 2)))))
noncomputable abbrev YO:List apV:=(aY (inner (aY (inner (GF.drop 1)))))
abbrev iM:=fun b (ro:Bool)=>([.cells (ai b) 5 ro]:List ag)
abbrev YP:=fun b (n:Nat) (v:Int) (ro:Bool)=>(⟨[(0,ah 0 n),(1,.int .u8 v)],iM b ro⟩:aj)
noncomputable abbrev NE(b:ByteArray)(n:Nat)(ro:Bool):aj:=⟨[],iM b ro⟩
abbrev YQ:=fun b (n:Nat) (v:Int) (ro:Bool)=>(⟨[(0,ah 0 n),(1,.int .u8 v),(5,aa 0)],iM b ro⟩:aj)
theorem YR(b:ByteArray)(n:Nat)(v:Int)(ro:Bool)(hn:n≤b.size){Q:aQ}(l1:an av9 18 1 (Bj.drop 2) (YQ b n v ro) Q):an av9 18 1 Bj (YP b n v ro) Q:=
 aS bo 2 (.leaf [0,1,5] [0] [0]) (fun u=>by kernel_rfl) (mN (aH b) (mQ l1))
noncomputable abbrev NF(b:ByteArray)(n:Nat)(j:Int)(v:Int)(ro:Bool):aj:=⟨[(4,.bool true)],iM b ro⟩
theorem YS(b)(n:Nat)(j v:Int)(ro:Bool){Q:bg}(hq:Q (.ret (.bool true)) (iM b ro)):aF av9 83 18 1 Q .ret (NF b n j v ro):=aF.ret (vs:=[.bool true]) (l:=[]) (bs:=[0]) (pl:=[0]) (q:=[ai b]) (fun u=>by kernel_rfl) (by kernel_rfl) (aC (aH b) bc) hq
abbrev NG:=fun b (n:Nat) (j v:Int) (ro:Bool)=>(⟨[(0,ah 0 n),(1,.int .u8 v),(5,.int .i64 (apc .i64 (j+1)))],iM b ro⟩:aj)
noncomputable abbrev YT(b:ByteArray)(n:Nat)(j:Int)(v:Int)(ro:Bool):aj:=⟨[],iM b ro⟩
abbrev YU:=fun b (n:Nat) (j v:Int) (ro:Bool)=>(⟨[(0,ah 0 n),(1,.int .u8 v),(5,aa j)],iM b ro⟩:aj)
theorem YV(b:ByteArray)(n:Nat)(j v:Int)(ro:Bool)(hn:n≤b.size)(h0:0≤j){Q:aQ}(n0:(decide (j<(↑n:Int)))=true→(cA apA (ai b) (0+apd j*1))=true)(l2:(decide (j<(↑n:Int)))=true→(av (ai b) (0+apd j*1)==v)=true→Q .ret (NF b n j v ro))(l3:(decide (j<(↑n:Int)))=true→(av (ai b) (0+apd j*1)==v)=false→Q .normal (NG b n j v ro))(l4:(decide (j<(↑n:Int)))=false→Q (.exit 0) (YT b n j v ro)):an av9 18 1 YN (YU b n j v ro) Q:=
 aS bo 1000 (.fork 1 (aA [0,1,1,0,1] (.fork 0 (.leaf [4] [0] [0]) (.leaf [0,1,5] [0] [0]))) (.leaf [] [0] [0])) (fun u=>by kernel_rfl) (mF (c:=decide (j<(↑n:Int))) (fun h0=>(mN (decide_eq_true (by omega):(decide (0≤j))=true) (mN (show(apy (apd j) n)=true by simp at hn h0 h0⊢ <;>omega) (mN (n0 h0) (mF (c:=av (ai b) (0+apd j*1)==v) (fun h1=>(mN (aH b) (mR (l2 h0 h1)))) (fun h1=>(mN (aH b) (mQ (an.done (by kernel_rfl) (l3 h0 h1)))))))))) (fun h0=>(mN (aH b) (mE 0 (l4 h0)))))
noncomputable abbrev NH(b:ByteArray)(n:Nat)(ro:Bool):aj:=⟨[(4,.bool false)],iM b ro⟩
theorem YW(b)(n:Nat)(ro:Bool){Q:bg}(hq:Q (.ret (.bool false)) (iM b ro)):aF av9 83 18 1 Q .ret (NH b n ro):=aF.ret (vs:=[.bool false]) (l:=[]) (bs:=[0]) (pl:=[0]) (q:=[ai b]) (fun u=>by kernel_rfl) (by kernel_rfl) (aC (aH b) bc) hq
theorem YX(b:ByteArray)(n:Nat)(ro:Bool)(hn:n≤b.size){Q:aQ}(l1:Q .ret (NH b n ro)):an av9 18 1 (Bj.drop 3) (NE b n ro) Q:=
 aS bo 1000 (.leaf [4] [0] [0]) (fun u=>by kernel_rfl) (mN (aH b) (mR l1))
abbrev YY:=fun b (n:Nat) (ro:Bool)=>(⟨[(0,ah 0 n),(3,aa 0)],iM b ro⟩:aj)
abbrev YZ:=fun b (n:Nat) (ro:Bool)=>(⟨[(0,ah 0 n)],iM b ro⟩:aj)
theorem Y0(b:ByteArray)(n:Nat)(ro:Bool)(hn:n≤b.size){Q:aQ}(l1:an av9 25 1 (Bk.drop 2) (YY b n ro) Q):an av9 25 1 Bk (YZ b n ro) Q:=
 aS bo 2 (.leaf [0,3] [0] [0]) (fun u=>by kernel_rfl) (mN (aH b) (mQ l1))
abbrev Y1:=fun b (n:Nat) (i:Int) (ro:Bool)=>(⟨[(0,ah 0 n),(3,aa i)],iM b ro⟩:aj)
noncomputable abbrev Y2(b:ByteArray)(n:Nat)(i:Int)(ro:Bool):aj:=⟨[],iM b ro⟩
abbrev GG:=fun b (n:Nat) (i:Int) (ro:Bool)=>(⟨[(0,ah 0 n),(3,aa i)],iM b ro⟩:aj)
theorem Y3(b:ByteArray)(n:Nat)(i:Int)(ro:Bool)(hn:n≤b.size){Q:aQ}(l1:(decide (i<(↑n:Int)))=true→an av9 25 1 (Bl.drop 2) (Y1 b n i ro) Q)(l2:(decide (i<(↑n:Int)))=false→Q (.exit 0) (Y2 b n i ro)):an av9 25 1 Bl (GG b n i ro) Q:=
 aS bo 2 (.fork 1 (.leaf [0,3] [0] [0]) (.leaf [] [0] [0])) (fun u=>by kernel_rfl) (mF (c:=decide (i<(↑n:Int))) (fun h0=>(mN (aH b) (mQ (l1 h0)))) (fun h0=>(mN (aH b) (mE 0 (l2 h0)))))
abbrev Y4:=fun b (n:Nat) (i:Int) (ro:Bool)=>(⟨[(0,ah 0 n),(3,aa i),(4,aa 0)],iM b ro⟩:aj)
theorem Y5(b:ByteArray)(n:Nat)(i:Int)(ro:Bool)(hn:n≤b.size){Q:aQ}(l1:an av9 25 1 (GF.drop 1) (Y4 b n i ro) Q):an av9 25 1 GF (GG b n i ro) Q:=
 aS bo 1 (.leaf [0,3,4] [0] [0]) (fun u=>by kernel_rfl) (mN (aH b) (mQ l1))
noncomputable abbrev NI(b:ByteArray)(n:Nat)(i k:Int)(ro:Bool):aj:=⟨[(2,.bool false)],iM b ro⟩
theorem Y6(b)(n:Nat)(i k:Int)(ro:Bool){Q:bg}(hq:Q (.ret (.bool false)) (iM b ro)):aF av9 84 25 1 Q .ret (NI b n i k ro):=aF.ret (vs:=[.bool false]) (l:=[]) (bs:=[0]) (pl:=[0]) (q:=[ai b]) (fun u=>by kernel_rfl) (by kernel_rfl) (aC (aH b) bc) hq
abbrev NJ:=fun b (n:Nat) (i k:Int) (ro:Bool)=>(⟨[(0,ah 0 n),(3,aa i),(4,.int .i64 (apc .i64 (k+1)))],iM b ro⟩:aj)
abbrev Y7:=fun b (n:Nat) (i k:Int) (ro:Bool)=>(⟨[(0,ah 0 n),(3,aa i)],iM b ro⟩:aj)
abbrev Y8:=fun b (n:Nat) (i k:Int) (ro:Bool)=>(⟨[(0,ah 0 n),(3,aa i),(4,aa k)],iM b ro⟩:aj)
theorem Y9(b:ByteArray)(n:Nat)(i k:Int)(ro:Bool)(hn:n≤b.size)(h0:0≤k)(h1:0≤i)(h2:i<n){Q:aQ}(n0:(decide (k<i))=true→(cA apA (ai b) (0+apd k*1))=true)(n1:(decide (k<i))=true→(cA apA (ai b) (0+apd i*1))=true)(l3:(decide (k<i))=true→(av (ai b) (0+apd k*1)==av (ai b) (0+apd i*1))=true→Q .ret (NI b n i k ro))(l4:(decide (k<i))=true→(av (ai b) (0+apd k*1)==av (ai b) (0+apd i*1))=false→Q .normal (NJ b n i k ro))(l5:(decide (k<i))=false→Q (.exit 2) (Y7 b n i k ro)):an av9 25 1 YO (Y8 b n i k ro) Q:=
 aS bo 1000 (.fork 0 (aA [0,1,1,0,1,0,1,1,0,1] (.fork 0 (.leaf [2] [0] [0]) (.leaf [0,3,4] [0] [0]))) (.leaf [0,3] [0] [0])) (fun u=>by kernel_rfl) (mF (c:=decide (k<i)) (fun h0=>(mN (decide_eq_true (by omega):(decide (0≤k))=true) (mN (show(apy (apd k) n)=true by simp at hn h0 h1 h2 h0⊢ <;>omega) (mN (n0 h0) (mN (decide_eq_true (by omega):(decide (0≤i))=true) (mN (show(apy (apd i) n)=true by simp at hn h0 h1 h2 h0⊢ <;>omega) (mN (n1 h0) (mF (c:=av (ai b) (0+apd k*1)==av (ai b) (0+apd i*1)) (fun h1=>(mN (aH b) (mR (l3 h0 h1)))) (fun h1=>(mN (aH b) (mQ (an.done (by kernel_rfl) (l4 h0 h1))))))))))))) (fun h0=>(mN (aH b) (mE 2 (l5 h0)))))
abbrev NK:=fun b (n:Nat) (i:Int) (ro:Bool)=>(⟨[(0,ah 0 n),(3,.int .i64 (apc .i64 (i+1)))],iM b ro⟩:aj)
theorem Za(b:ByteArray)(n:Nat)(i:Int)(ro:Bool)(hn:n≤b.size){Q:aQ}(l1:Q .normal (NK b n i ro)):an av9 25 1 (Bl.drop 3) (GG b n i ro) Q:=
 aS bo 1000 (.leaf [0,3] [0] [0]) (fun u=>by kernel_rfl) (mN (aH b) (mQ (an.done (by kernel_rfl) l1)))
noncomputable abbrev NL(b:ByteArray)(n:Nat)(ro:Bool):aj:=⟨[(2,.bool true)],iM b ro⟩
theorem Zb(b)(n:Nat)(ro:Bool){Q:bg}(hq:Q (.ret (.bool true)) (iM b ro)):aF av9 84 25 1 Q .ret (NL b n ro):=aF.ret (vs:=[.bool true]) (l:=[]) (bs:=[0]) (pl:=[0]) (q:=[ai b]) (fun u=>by kernel_rfl) (by kernel_rfl) (aC (aH b) bc) hq
theorem Zc(b:ByteArray)(n:Nat)(ro:Bool)(hn:n≤b.size){Q:aQ}(l1:Q .ret (NL b n ro)):an av9 25 1 (Bk.drop 3) (NE b n ro) Q:=
 aS bo 1000 (.leaf [2] [0] [0]) (fun u=>by kernel_rfl) (mN (aH b) (mR l1))
end
noncomputable def sq(d:Array UInt8)(v:Int):Bool:=@decide (∃j,j<d.size∧(d[j]!.toNat:Int)=v) (apF _)
theorem NM{d:Array UInt8}{v:Int}:sq d v=true↔∃j,j<d.size∧(d[j]!.toNat:Int)=v:=by unfold sq;exact @decide_eq_true_iff _ (apF _)
theorem Zd{d:Array UInt8}{v:Int}(h:∀j,j<d.size→(d[j]!.toNat:Int)≠v):sq d v=false:=by
 cases g:sq d v with
 |false=>rfl
 |true=>obtain⟨j,h1,h2⟩:=NM.1 g;exact absurd h2 (h j h1)
def Bm(k0:Nat)(d:Array UInt8)(x k:Nat):Nat×Array UInt8:=
 if k0+x<d.size then(if d[k0+x]! ≠d[k0+x-1]!then Bm k0 (d.setIfInBounds k d[k0+x]!) (x+1) (k+1)else Bm k0 d (x+1) k)else(k,d)
termination_by d.size-(k0+x)
decreasing_by all_goals first|(simp only[Array.size_setIfInBounds];omega)|omega
abbrev ur(d:Array UInt8)(ro:Bool):ag:=.cells (ai (ir d)) 5 ro
theorem Ze(d:Array UInt8)(n:Nat)(v:Int)(hd:d.size=n)(hn:n≤10000)(ro:Bool):
 aE av9 83 [yy n,.int .u8 v] [ur d ro] fun r o=>r=.ret (.bool (sq d v))∧o=[ur d ro]:=by
 have cf:n≤(ir d).size:=by rw[Nz];omega
 refine aE.cT (n:=cn av9 83) (by kernel_rfl) ?_
 apply YR (ir d) n v ro cf
 ·
  refine an.eU 2 0 (by kernel_rfl) ?_
  refine an.fS (fun j:Nat=>⟨[(0,yy n),(1,.int .u8 v),(5,iA j)],[ur d ro]⟩) (fun j=>n-j) (fun j=>j≤n∧∀i,i<j→(d[i]!.toNat:Int)≠v) 0 (by kernel_rfl) ⟨ap7 _,fun i h=>by omega⟩ ?_
  rintro j ⟨h1,h2⟩
  apply YV (ir d) n (j:Nat) v ro cf (by omega)
  case n0=>intro g;have g:=of_decide_eq_true g;rw[qP];exact Bi (by omega)
  case l2=>
   intro g g2
   have g:=of_decide_eq_true g
   rw[qP,vZ (by omega)]at g2
   with_reducible (repeat first|refine QL.ret ?_|refine QL.exit ?_|refine QB.ret ?_|refine QB.cp ?_|refine QB.normal ?_|refine QB.cy (by rfl) ?_)
   refine YS (ir d) n (j:Nat) v ro ?_
   rw[NM.2 ⟨j,by omega,by simpa using g2⟩]
   exact⟨rfl,rfl⟩
  case l3=>
   intro g g2
   have g:=of_decide_eq_true g
   rw[qP,vZ (by omega)]at g2
   with_reducible (repeat first|refine QL.ret ?_|refine QL.exit ?_|refine QB.ret ?_|refine QB.cp ?_|refine QB.normal ?_|refine QB.cy (by rfl) ?_)
   refine QL.to (j+1) ⟨by omega,fun i hi=>?_⟩ (by omega) (by unfold NG;rw[GB (by omega)])
   by_cases e:i=j
   ·subst e;simpa using g2
   ·exact h2 i (by omega)
  case l4=>
   intro g
   have g:=of_decide_eq_false g
   with_reducible (repeat first|refine QL.ret ?_|refine QL.exit ?_|refine QB.ret ?_|refine QB.cp ?_|refine QB.normal ?_|refine QB.cy (by rfl) ?_)
   apply YX (ir d) n ro cf
   ·
    with_reducible (repeat first|refine QL.ret ?_|refine QL.exit ?_|refine QB.ret ?_|refine QB.cp ?_|refine QB.normal ?_|refine QB.cy (by rfl) ?_)
    refine YW (ir d) n ro ?_
    rw[Zd fun i hi=>h2 i (by omega)]
    exact⟨rfl,rfl⟩
theorem Zf{d:Array UInt8}{i j:Nat}(h:i<j)(hj:j<d.size)(e:d[i]! =d[j]!):sk d=false:=by
 cases g:sk d with
 |false=>rfl
 |true=>exact absurd e (ND.1 (NC.1 g) i j h hj)
theorem Zg(d:Array UInt8)(n:Nat)(hd:d.size=n)(hn:n≤10000)(ro:Bool):
 aE av9 84 [yy n] [ur d ro] fun r o=>r=.ret (.bool (sk d))∧o=[ur d ro]:=by
 have cf:n≤(ir d).size:=by rw[Nz];omega
 refine aE.cT (n:=cn av9 84) (by kernel_rfl) ?_
 apply Y0 (ir d) n ro cf
 ·
  refine an.eU 2 0 (by kernel_rfl) ?_
  refine an.fS (fun j:Nat=>⟨[(0,yy n),(3,iA j)],[ur d ro]⟩) (fun j=>n-j) (fun j=>j≤n∧∀p q,p<q→q<j→d[p]! ≠d[q]!) 0 (by kernel_rfl) ⟨ap7 _,fun p q h h2=>by omega⟩ ?_
  rintro i ⟨h1,h2⟩
  apply Y3 (ir d) n (i:Nat) ro cf
  case l2=>
   intro g
   have g:=of_decide_eq_false g
   with_reducible (repeat first|refine QL.ret ?_|refine QL.exit ?_|refine QB.ret ?_|refine QB.cp ?_|refine QB.normal ?_|refine QB.cy (by rfl) ?_)
   apply Zc (ir d) n ro cf
   ·
    with_reducible (repeat first|refine QL.ret ?_|refine QL.exit ?_|refine QB.ret ?_|refine QB.cp ?_|refine QB.normal ?_|refine QB.cy (by rfl) ?_)
    refine Zb (ir d) n ro ?_
    rw[NC.2 (ND.2 fun p q Zh hq=>h2 p q Zh (by omega))]
    exact⟨rfl,rfl⟩
  case l1=>
   intro g
   have g:=of_decide_eq_true g
   refine an.eU 2 1 (by kernel_rfl) ?_
   apply Y5 (ir d) n (i:Nat) ro cf
   ·
    refine an.eU 1 2 (by kernel_rfl) ?_
    refine an.fS (fun k:Nat=>⟨[(0,yy n),(3,iA i),(4,iA k)],[ur d ro]⟩) (fun k=>i-k) (fun k=>k≤i∧∀p,p<k→d[p]! ≠d[i]!) 0 (by kernel_rfl) ⟨ap7 _,fun p h=>by omega⟩ ?_
    rintro k ⟨h3,h4⟩
    apply Y9 (ir d) n (i:Nat) (k:Nat) ro cf (by omega) (by omega) (by omega)
    case n0=>intro g;have g:=of_decide_eq_true g;rw[qP];exact Bi (by omega)
    case n1=>intro g;have g:=of_decide_eq_true g;rw[qP];exact Bi (by omega)
    case l3=>
     intro g g2
     have g:=of_decide_eq_true g
     rw[qP,qP,vZ (by omega),vZ (by omega)]at g2
     have g3:=beq_iff_eq.1 g2
     have g2:d[k]! =d[i]! :=UInt8.toNat_inj.1 (by omega)
     with_reducible (repeat first|refine QL.ret ?_|refine QL.exit ?_|refine QB.ret ?_|refine QB.cp ?_|refine QB.normal ?_|refine QB.cy (by rfl) ?_)
     refine Y6 (ir d) n (i:Nat) (k:Nat) ro ?_
     rw[Zf (show k<i by omega) (by omega) g2]
     exact⟨rfl,rfl⟩
    case l4=>
     intro g g2
     have g:=of_decide_eq_true g
     rw[qP,qP,vZ (by omega),vZ (by omega)]at g2
     with_reducible (repeat first|refine QL.ret ?_|refine QL.exit ?_|refine QB.ret ?_|refine QB.cp ?_|refine QB.normal ?_|refine QB.cy (by rfl) ?_)
     refine QL.to (k+1) ⟨by omega,fun p hp=>?_⟩ (by omega) (by unfold NJ;rw[GB (by omega)])
     by_cases e:p=k
     ·subst e;intro e;rw[e]at g2;simp at g2
     ·exact h4 p (by omega)
    case l5=>
     intro g
     have g:=of_decide_eq_false g
     with_reducible (repeat first|refine QL.ret ?_|refine QL.exit ?_|refine QB.ret ?_|refine QB.cp ?_|refine QB.normal ?_|refine QB.cy (by rfl) ?_)
     refine an.done (by kernel_rfl) ?_
     with_reducible (repeat first|refine QL.ret ?_|refine QL.exit ?_|refine QB.ret ?_|refine QB.cp ?_|refine QB.normal ?_|refine QB.cy (by rfl) ?_)
     apply Za (ir d) n (i:Nat) ro cf
     ·
      refine QL.to (i+1) ⟨by omega,fun p q hp hq=>?_⟩ (by omega) (by unfold NK;rw[GB (by omega)])
      by_cases e:q=i
      ·subst e;exact h4 p (by omega)
      ·exact h2 p q hp (by omega)
structure aoh(n k0:Nat)(d:Array UInt8)(s:Array UInt8×Nat×Nat):Prop where
 h1:s.1.size=n
 h2:1≤s.2.1
 h3:s.2.1≤n-k0
 h4:s.2.2+1≤k0+s.2.1
 h5:Bm k0 s.1 s.2.1 s.2.2=Bm k0 d 1 k0
noncomputable def GH(a:List ape)(o:List ag):Option (Bool×bx×List ag):=match a,o with
 | [.slice (some ⟨0,0,none⟩) n m,.int .u8 v],[.cells l el ro]=>some (pS l (m=n∧el=5∧l.length=n∧n≤10000),.ret (.bool (sq (sj l) v)),[.cells l el ro])
 |_,_=>none
theorem Zi:bp av9 83 (Sum.of GH):=bp.of fun a o r o' hg=>by
 unfold GH at hg
 split at hg
 ·rename_i n m v l el ro
  simp only[api,apn,GC]at hg
  obtain⟨⟨⟨d,rfl⟩,rfl,rfl,hl,hn⟩,rfl,rfl⟩:=hg
  have hd:d.size=m:=by rw[←hl,nj];rfl
  rw[NA]
  exact Ze d m v hd hn ro
 ·cases hg
noncomputable def GI(a:List ape)(o:List ag):Option (Bool×bx×List ag):=match a,o with
 | [.slice (some ⟨0,0,none⟩) n m],[.cells l el ro]=>some (pS l (m=n∧el=5∧l.length=n∧n≤10000),.ret (.bool (sk (sj l))),[.cells l el ro])
 |_,_=>none
theorem Zj:bp av9 84 (Sum.of GI):=bp.of fun a o r o' hg=>by
 unfold GI at hg
 split at hg
 ·rename_i n m l el ro
  simp only[api,apn,GC]at hg
  obtain⟨⟨⟨d,rfl⟩,rfl,rfl,hl,hn⟩,rfl,rfl⟩:=hg
  have hd:d.size=m:=by rw[←hl,nj];rfl
  rw[NA]
  exact Zg d m hd hn ro
 ·cases hg
noncomputable section
noncomputable def Zk:List apV:=aY (dz av9 105)
end
def NN:ape:=.agg #[.int .i64 (0),.int .i64 (0),.int .i64 (0),.int .i64 (0),.int .i64 (0),.int .i64 (0),.int .i64 (0),.int .i64 (0),.int .i64 (15),.int .i64 (0),.int .i64 (0),.int .i64 (1),.int .i64 (0),.int .i64 (0),.int .i64 (0),.int .i64 (15),.int .i64 (0),.int .i64 (1),.int .i64 (0),.int .i64 (0),.int .i64 (0),.int .i64 (0),.int .i64 (1000000000),.int .i64 (0),.int .i64 (1),.int .i64 (1),.int .i64 (64),.int .i64 (0),.int .i64 (0),.int .i64 (9223372036854775807),.int .i64 (0),.int .i64 (1),.int .i64 (1),.int .i64 (64),.int .i64 (64),.int .i64 (0),.int .i64 (1),.int .i64 (1),.int .i64 (1),.int .i64 (1),.int .i64 (64),.int .i64 (0),.int .i64 (0),.int .i64 (0),.int .i64 (2),.int .i64 (1),.int .i64 (1),.int .i64 (0),.int .i64 (0),.int .i64 (1),.int .i64 (65535),.int .i64 (3),.int .i64 (1),.int .i64 (1),.int .i64 (64),.int .i64 (0),.int .i64 (0),.int .i64 (1),.int .i64 (0),.int .i64 (1),.int .i64 (1),.int .i64 (128),.int .i64 (0),.int .i64 (0),.int .i64 (0),.int .i64 (0),.int .i64 (1),.int .i64 (1),.int .i64 (0),.int .i64 (0),.int .i64 (0),.int .i64 (1000000000),.int .i64 (0),.int .i64 (1),.int .i64 (1),.int .i64 (64),.int .i64 (0),.int .i64 (0),.int .i64 (1),.int .i64 (0),.int .i64 (1),.int .i64 (1),.int .i64 (320),.int .i64 (0),.int .i64 (1),.int .i64 (4),.int .i64 (0),.int .i64 (-1),.int .i64 (1),.int .i64 (0),.int .i64 (0),.int .i64 (1),.int .i64 (4),.int .i64 (3),.int .i64 (-1),.int .i64 (1),.int .i64 (0),.int .i64 (96),.int .i64 (1),.int .i64 (9223372036854775807),.int .i64 (3),.int .i64 (2),.int .i64 (1),.int .i64 (192),.int .i64 (128),.int .i64 (1),.int .i64 (4),.int .i64 (0),.int .i64 (1),.int .i64 (-1),.int .i64 (0),.int .i64 (0),.int .i64 (1),.int .i64 (4),.int .i64 (0),.int .i64 (1),.int .i64 (-1),.int .i64 (64),.int .i64 (0)]
def GJ(a:List ape)(o:List ag):Option (Bool×bx×List ag):=match a,o with
 | [],[]=>some (true,.ret NN,[])
 |_,_=>none
noncomputable section
noncomputable def Bn:List apV:=aY (dz av9 103)
open Tree renaming aN→mN,dj→mF,eT→mL
end
theorem aE.NO{P:Program}{f:apQ}{args:List ape}{objs:List ag}{Q Q':bx→List ag→Prop}(el:TypeId){s:Nat}(hz:bR P el=some s)(hk:objs.length<262144)(h:aE P f args objs Q)
 (hq:∀r o,Q r o→objs.length≤o.length∧o.length<262144∧(Q' r o∨(r=.ret (.slice none 0 0)∧Q' (.ret (.slice (some ⟨o.length,0,none⟩) 0 0)) (o++[.cells [] el false])))):aE P f args objs Q':=by
 intro B w₀ ρ w args' h1 h2 h3 h4
 refine(h B w₀ ρ w args' h1 h2 h3 h4).mono ?_
 rintro e w' ⟨r,o,ρ',a,b,c,d,e1,e2⟩
 obtain⟨hl,jP,hq⟩:=hq r o a
 rcases hq with hq|⟨rfl,hq⟩
 ·exact⟨r,o,ρ',hq,b,c,d,e1,e2⟩
 ·obtain⟨ρ1,f1,f2,f3,r',f4⟩:=d.MU hz jP
  refine⟨_,_,ρ1,hq,?_,fun r=>?_,f2,by simp;omega,fun x hx=>by rw[f3 x (by omega),e2 x hx]⟩
  ·cases e with
   |returned v=>have hv:VR ρ' (.slice none 0 0) v:=b;cases hv with
    |bG _ _=>exact VR.eh _ _
   |panicked ch=>cases b
   |outgrown=>cases b
  ·obtain⟨y,g1,g2⟩:=c r
   exact⟨y,g1,f1 _ _ g2⟩
noncomputable section
open Tree renaming aN→mN,dj→mF,eT→mL,fz→mQ,dB→mR,fH→mE
noncomputable abbrev NP:List apV:=(Bn.drop 2)
abbrev NQ:=fun c (o n m:Nat)=>(⟨[(2,ah 1 (0+n))],[ab (ai c) 5,ab ([]++apE (n*1) (aqV o (ai c))) 5]⟩:aj)
theorem Zl(c)(o n m:Nat){Q:bg}(aR:aph (ai c) af=true)(hq:Q (.ret (ah 1 (0+n))) [ab (ai c) 5,ab ([]++apE (n*1) (aqV o (ai c))) 5]):aF av9 103 8 1 Q .ret (NQ c o n m):=aF.ret (vs:=[ah 1 (0+n)]) (l:=[]) (bs:=[0,1]) (pl:=[0,1]) (q:=[ai c,[]++apE (n*1) (aqV o (ai c))]) (fun u=>by kernel_rfl) (by kernel_rfl) (aC aR (aC (by simp) bc)) hq
abbrev us:=fun c=>([ab (ai c) 5]:List ag)
abbrev Zm:=fun c (o n m:Nat)=>(⟨[(0,dx 0 o n m)],us c⟩:aj)
theorem Zn(c:ByteArray)(o n m:Nat)(h1:0<m)(h2:n≤m)(h3:o+m=c.size)(h4:c.size≤1000000){Q:aQ}(n0:(aph (apE (n*1) (aqV o (ai c))) aqg)=true)(aR:aph (ai c) af=true)(l2:Q .ret (NQ c o n m)):an av9 8 1 Bn (Zm c o n m) Q:=
 aS bo 1000 (aA [0,1,2,1,1,1,1] (.leaf [2] [0,2] [0,2])) (fun u=>by kernel_rfl) (mN (show(apy 0 m)=true by simp at h1 h2 h3 h4⊢ <;>omega) (mN (show(apG (o+n*1) (apb (ai c)))=true by simp at h1 h2 h3 h4⊢ <;>omega) (mN (show(apG (0+n) 1000000)=true by simp at h1 h2 h3 h4⊢ <;>omega) (mN n0 (mN (show(Nat.beq (apb (apE (n*1) (aqV o (ai c)))) (n*1))=true by simp at h1 h2 h3 h4⊢ <;>omega) (mN (aH c) (mN (show(aph ([]++apE (n*1) (aqV o (ai c))) af)=true by simp) (mR l2))))))))
abbrev Zo:=fun c (o:Nat)=>(⟨[(0,dx 0 o 0 0)],us c⟩:aj)
abbrev Zp:=fun c (o:Nat)=>(⟨[(0,dx 0 o 0 0)],us c⟩:aj)
theorem Zq(c)(o:Nat){Q:aQ}(l1:an av9 8 1 (Bn.drop 1) (Zo c o) Q):an av9 8 1 Bn (Zp c o) Q:=
 aS bo 1 (.leaf [0] [0] [0]) (fun u=>by kernel_rfl) (mN (aH c) (mQ l1))
abbrev NR:=fun c (o:Nat)=>(⟨[(2,b8)],us c⟩:aj)
theorem Zr(c)(o:Nat){Q:bg}(hq:Q (.ret (b8)) (us c)):aF av9 103 8 1 Q .ret (NR c o):=aF.ret (vs:=[b8]) (l:=[]) (bs:=[0]) (pl:=[0]) (q:=[ai c]) (fun u=>by kernel_rfl) (by kernel_rfl) (aC (aH c) bc) hq
abbrev Zs:=fun c (o:Nat)=>(⟨[(0,dx 0 o 0 0),(4,.bool true)],us c⟩:aj)
theorem Zt(c)(o:Nat){Q:aQ}(aR:aph (ai c) af=true)(l1:Q .ret (NR c o)):an av9 8 1 NP (Zs c o) Q:=
 aS bo 1000 (.leaf [2] [0] [0]) (fun u=>by kernel_rfl) (mN (aH c) (mR l1))
abbrev NS:=fun c (o n:Nat)=>(⟨[(2,ah 1 (0+n))],[ab (ai c) 5,ab ([]++apE (n*1) (aqV o (ai c))) 5]⟩:aj)
theorem Zu(c)(o n:Nat){Q:bg}(aR:aph (ai c) af=true)(hq:Q (.ret (ah 1 (0+n))) [ab (ai c) 5,ab ([]++apE (n*1) (aqV o (ai c))) 5]):aF av9 103 8 1 Q .ret (NS c o n):=aF.ret (vs:=[ah 1 (0+n)]) (l:=[]) (bs:=[0,1]) (pl:=[0,1]) (q:=[ai c,[]++apE (n*1) (aqV o (ai c))]) (fun u=>by kernel_rfl) (by kernel_rfl) (aC aR (aC (by simp) bc)) hq
abbrev Zv:=fun c (o n:Nat)=>(⟨[(0,dx 0 o n n),(4,.bool false)],us c⟩:aj)
theorem Zw(c:ByteArray)(o n:Nat)(h1:o+n≤c.size)(h2:c.size≤1000000){Q:aQ}(n0:(aph (apE (n*1) (aqV o (ai c))) aqg)=true)(aR:aph (ai c) af=true)(l2:Q .ret (NS c o n)):an av9 8 1 NP (Zv c o n) Q:=
 aS bo 1000 (aA [2,1,1,1,1] (.leaf [2] [0,2] [0,2])) (fun u=>by kernel_rfl) (mN (show(apG (o+n*1) (apb (ai c)))=true by simp at h1 h2⊢ <;>omega) (mN (show(apG (0+n) 1000000)=true by simp at h1 h2⊢ <;>omega) (mN n0 (mN (show(Nat.beq (apb (apE (n*1) (aqV o (ai c)))) (n*1))=true by simp at h1 h2⊢ <;>omega) (mN (aH c) (mN (show(aph ([]++apE (n*1) (aqV o (ai c))) af)=true by simp) (mR l2)))))))
end
theorem Zx(c:ByteArray)(o:Nat)(ho:o≤c.size)(hc:c.size≤1000000):aE av9 103 [.slice (some ⟨0,o,none⟩) 0 0] [.cells (ai c) 5 false] fun r o'=>r=.ret (.slice (some ⟨1,0,none⟩) 0 0)∧o'=[.cells (ai c) 5 false,.cells [] 5 false]:=by
 refine aE.NO (Q:=fun r o=>(r=.ret (.slice (some ⟨1,0,none⟩) 0 0)∧o=[.cells (ai c) 5 false,.cells [] 5 false])∨(r=.ret (.slice none 0 0)∧o=[.cells (ai c) 5 false])) 5 (s:=1) (by kernel_rfl) (by simp) ?_ ?_
 ·refine aE.cT (n:=cn av9 103) (by kernel_rfl) ?_
  apply Zq c o
  refine an.MX ⟨0,3,4,22⟩ 5 ⟨0,o,none⟩ (by kernel_rfl) (by kernel_rfl) (by rfl) (by rfl) ?_
  intro b
  cases b with
  |true=>exact Zt c o (by simp) (Zr c o (.inr ⟨rfl,rfl⟩))
  |false=>exact Zw c o 0 ho hc (by rfl) (by simp) (Zu c o 0 (by simp) (.inl ⟨rfl,by simp⟩))
 ·rintro r o (⟨rfl,rfl⟩|⟨rfl,rfl⟩)
  ·exact⟨by simp,by simp,.inl ⟨rfl,rfl⟩⟩
  ·exact⟨by simp,by simp,.inr ⟨rfl,rfl,rfl⟩⟩
theorem Zy(c:ByteArray)(o n m:Nat)(h1:n≤m)(h2:o+m=c.size)(hc:c.size≤1000000):aE av9 103 [.slice (some ⟨0,o,none⟩) n m] [.cells (ai c) 5 false] fun r o'=>r=.ret (.slice (some ⟨1,0,none⟩) n n)∧o'=[.cells (ai c) 5 false,.cells (((ai c).drop o).take n) 5 false]:=by
 by_cases h0:m=0
 ·subst h0
  have:n=0:=by omega
  subst this
  refine(Zx c o (by omega) hc).mono ?_
  rintro r o' ⟨rfl,rfl⟩
  exact⟨rfl,by rw[List.take_zero]⟩
 ·refine aE.cT (n:=cn av9 103) (by kernel_rfl) ?_
  apply Zn c o n m (by omega) h1 h2 hc
  case n0=>exact tX (oL (A5 (aH _) _) _)
  case aR=>simp
  case l2=>exact Zl c o n m (by simp) ⟨by rw[Nat.zero_add],by rw[List.nil_append,arF]⟩
noncomputable def Bo(l:List ape)(o n m:Nat)(el:TypeId)(ro:Bool):Bool:=@decide (∃c:ByteArray,l=ai c∧n≤m∧o+m=c.size∧c.size≤1000000∧el=5∧ro=false) (apF _)
noncomputable def GK(a:List ape)(o:List ag):Option (Bool×bx×List ag):=match a,o with
 | [.slice (some ⟨0,p,none⟩) n m],[.cells l el ro]=>some (Bo l p n m el ro,.ret (.slice (some ⟨1,0,none⟩) n n),[.cells l el ro,.cells ((l.drop p).take n) el false])
 |_,_=>none
theorem Zz:bp av9 103 (Sum.of GK):=bp.of fun a o r o' hg=>by
 unfold GK at hg
 split at hg
 ·rename_i p n m l el ro
  simp only[api,apn]at hg
  obtain⟨h1,rfl,rfl⟩:=hg
  obtain⟨c,rfl,h2,h3,h4,rfl,rfl⟩:=@of_decide_eq_true _ (apF _) h1
  exact Zy c p n m h2 h3 h4
 ·cases hg
theorem ZA{c:ByteArray}{o n m:Nat}(h1:n≤m)(h2:o+m=c.size)(h3:c.size≤1000000):Bo (ai c) o n m 5 false=true:=by
 unfold Bo
 exact(@decide_eq_true_iff _ (apF _)).2 ⟨c,rfl,h1,h2,h3,rfl,rfl⟩
theorem ZB(c:ByteArray)(a b:Nat):ai (c.extract a b)=((ai c).drop a).take (b-a):=by
 unfold ai
 rw[ByteArray.data_extract,Array.toList_extract,List.extract_eq_take_drop,List.map_take,List.map_drop]
theorem NT(a b:ByteArray):ai (a++b)=ai a++ai b:=by
 unfold ai
 rw[ByteArray.data_append,Array.toList_append,aqa]
noncomputable section
def ZC(sc:List (Int×Int))(x0:List ape)(es:List apM)(ck nb:Nat)(f5:List ape)(dm dc dr:Int):List (apQ×Sum):=[(95,Sum.one (fun _ _=>some kq) [ah 2 sc.length,.func (.func 96) #[] #[ao 6]] (fI sc x0 es ck nb f5 dm dc dr++[ab [ao 0] 35]) (.ret (aa (cI sc dc))) (fI sc x0 es ck nb f5 dm dc dr++[ab [ao 0] 35]))]
theorem ZD(sc:List (Int×Int))(x0:List ape)(es:List apM)(ck nb:Nat)(f5:List ape)(dm dc dr:Int)(hs:(apb sc)≤1000000)(h0:x0.all af=true)(h3:(bt kq es).all af=true)(h5:f5.all af=true):dw av9 (dM av9 (dN (ZC sc x0 es ck nb f5 dm dc dr)) 50 40):=
 dR du mixed (ed (.cons (bp.one (Yv sc x0 es ck nb f5 dm dc dr hs h0 h3 h5)) .nil)) 50 40
def ZE(sc:List (Int×Int))(x0:List ape)(es:List apM)(ck nb:Nat)(f5:List ape)(dm dc dr:Int):List (apQ×Sum):=[(95,Sum.one (fun _ _=>some kq) [ah 2 sc.length,.func (.func 96) #[] #[ao 6]] (fE sc x0 es ck nb f5 dm dc dr++[ab [ao 0] 35]) (.ret (aa (cI sc dc))) (fE sc x0 es ck nb f5 dm dc dr++[ab [ao 0] 35]))]
theorem ZF(sc:List (Int×Int))(x0:List ape)(es:List apM)(ck nb:Nat)(f5:List ape)(dm dc dr:Int)(hs:(apb sc)≤1000000)(h0:x0.all af=true)(h3:(bt kq es).all af=true)(h5:f5.all af=true):dw av9 (dM av9 (dN (ZE sc x0 es ck nb f5 dm dc dr)) 50 40):=
 dR du mixed (ed (.cons (bp.one (Yx sc x0 es ck nb f5 dm dc dr hs h0 h3 h5)) .nil)) 50 40
noncomputable def NU:List apV:=aY (dz av9 69)
abbrev NV:=fun(sc:List (Int×Int)) x0 es (ck nb:Nat) f5 (dm dc dr:Int)=>(⟨[(2,aa 0)],[ab ([ah 2 (apb sc),.map (some 3),aa dm,.int .i64 (apc apr (dc+1)),aa dr]) 80,ab x0 5,ab (aD sc) 77,.map es ck,ab [ah 5 nb] 173,ab f5 5]⟩:aj)
theorem ZG(sc:List (Int×Int))(x0 es)(ck nb:Nat)(f5)(dm dc dr:Int){Q:bg}(aR:aph x0 af=true)(cq:aph (bt [0,1,2,3,4,5] es) af=true)(br:aph f5 af=true)(hq:Q (.ret (aa 0)) [ab ([ah 2 (apb sc),.map (some 3),aa dm,.int .i64 (apc apr (dc+1)),aa dr]) 80,ab x0 5,ab (aD sc) 77,.map es ck,ab [ah 5 nb] 173,ab f5 5]):aF apP 69 30 6 Q .ret (NV sc x0 es ck nb f5 dm dc dr):=aF.ret (vs:=[aa 0]) (l:=[]) (bs:=[0,1,2,3,4,5]) (pl:=[1,2,3,5]) (q:=[x0,aD sc,bt [0,1,2,3,4,5] es,f5]) (fun u=>by kernel_rfl) (by kernel_rfl) (aC aR (aC (aW sc) (aC cq (aC br bc)))) hq
abbrev NW:=fun(sc:List (Int×Int)) x0 es (ck nb:Nat) f5 (dm dc dr:Int)=>(⟨[(2,aa 25)],[ab ([ah 2 (apb sc),.map (some 3),aa dm,.int .i64 (apc apr (dc+1)),aa (av (aD sc) (0+apd (cI sc dc)*2+1))]) 80,ab x0 5,ab (aD sc) 77,.map es ck,ab [ah 5 nb] 173,ab f5 5]⟩:aj)
theorem ZH(sc:List (Int×Int))(x0 es)(ck nb:Nat)(f5)(dm dc dr:Int){Q:bg}(aR:aph x0 af=true)(cq:aph (bt [0,1,2,3,4,5] es) af=true)(br:aph f5 af=true)(hq:Q (.ret (aa 25)) [ab ([ah 2 (apb sc),.map (some 3),aa dm,.int .i64 (apc apr (dc+1)),aa (av (aD sc) (0+apd (cI sc dc)*2+1))]) 80,ab x0 5,ab (aD sc) 77,.map es ck,ab [ah 5 nb] 173,ab f5 5]):aF apP 69 30 6 Q .ret (NW sc x0 es ck nb f5 dm dc dr):=aF.ret (vs:=[aa 25]) (l:=[]) (bs:=[0,1,2,3,4,5]) (pl:=[1,2,3,5]) (q:=[x0,aD sc,bt [0,1,2,3,4,5] es,f5]) (fun u=>by kernel_rfl) (by kernel_rfl) (aC aR (aC (aW sc) (aC cq (aC br bc)))) hq
theorem ZI(sc:List (Int×Int))(x0:List ape)(es:List apM)(ck nb:Nat)(f5:List ape)(dm dc dr:Int)(hs:(apb sc)≤1000000)(h0:x0.all af=true)(h3:(bt kq es).all af=true)(h4:(es.map (dW fun i=>(kq++ff 7 0)[i]?)).all af=true)(hp:(aD sc).all af=true)(h6:(bt dX es).all af=true)(h5:f5.all af=true){Q:aQ}(n0:(eD [ah 2 (apb sc),asu (atA 96) #[] #[aqo (some (asO (0+1+1+1+1+1+1) 0 none))]] [ah 2 (apb sc),asu (atA 96) #[] #[ao 6]] [ab [ah 2 (apb sc),arD (some (0+1+1+1)),aa dm,aa dc,aa dr] 80,ab x0 5,ab (aD sc) 77,ag.map es ck,ab [ah 5 nb] 173,ab f5 5,ab [ao 0] 35] (fI sc x0 es ck nb f5 dm dc dr++[ab [ao 0] 35]))=true)(aR:aph x0 af=true)(be:aph (aD sc) af=true)(bB:aph (bt [0,1,2,3,4,5] es) af=true)(br:aph f5 af=true)(l5:(decide (cI sc dc<0))=true→Q .ret (NV sc x0 es ck nb f5 dm dc dr))(n6:(decide (cI sc dc<0))=false→(apy (apd (cI sc dc)) (apb sc))=true)(n7:(decide (cI sc dc<0))=false→(cA apr (aD sc) (0+apd (cI sc dc)*2+1))=true)(l8:(decide (cI sc dc<0))=false→Q .ret (NW sc x0 es ck nb f5 dm dc dr)):an apP 30 6 NU ⟨[(0,ao 0)],[ab [ah 2 (apb sc),.map (some 3),aa dm,aa dc,aa dr] 80,ab x0 5,ab (aD sc) 77,.map es ck,ab [ah 5 nb] 173,ab f5 5]⟩ Q:=
 aS (ZD sc x0 es ck nb f5 dm dc dr hs h0 h3 h5) 1000 (aA [7,1,1,1,1,1,1,1,1] (.fork 3 (.leaf [2] [0,1,2,3,4,5] [1,2,3,5]) (aA [6,1,1,0,1] (.leaf [2] [0,1,2,3,4,5] [1,2,3,5])))) (fun u=>by kernel_rfl) (Tree.aN (show(aph x0 af)=true by assumption) (Tree.aN (aW sc) (Tree.aN (show(aph (apS (dW (eX kq)) es) af)=true by assumption) (Tree.aN (show(aph f5 af)=true by assumption) (Tree.aN (n0:(eD [ah 2 (apb sc),asu (atA 96) #[] #[aqo (some (asO (0+1+1+1+1+1+1) 0 none))]] [ah 2 (apb sc),asu (atA 96) #[] #[ao 6]] [ab [ah 2 (apb sc),arD (some (0+1+1+1)),aa dm,aa dc,aa dr] 80,ab x0 5,ab (aD sc) 77,ag.map es ck,ab [ah 5 nb] 173,ab f5 5,ab [ao 0] 35] (fI sc x0 es ck nb f5 dm dc dr++[ab [ao 0] 35]))=true) (Tree.aN (show(aph x0 af)=true by assumption) (Tree.aN (aW sc) (Tree.aN (show(aph (apS (dW fun i=>(kq++ff 7 (apb (fI sc x0 es ck nb f5 dm dc dr++[ab [ao 0] 35])-7))[i]?) es) af)=true by assumption) (Tree.aN (show(aph f5 af)=true by assumption) (Tree.dj (c:=decide (cI sc dc<0)) (fun h0=>(Tree.aN aR (Tree.aN (aW sc) (Tree.aN bB (Tree.aN br (Tree.dB (l5 h0))))))) (fun h0=>(Tree.aN (show(decide (0≤cI sc dc))=true by simp at hs h0 h3 h4 hp h6 h5 h0⊢ <;>omega) (Tree.aN (n6 h0) (Tree.aN (n7 h0) (Tree.aN aR (Tree.aN (aW sc) (Tree.aN bB (Tree.aN br (Tree.dB (l8 h0))))))))))))))))))))
abbrev NX:=fun(sc:List (Int×Int)) x0 es (ck nb:Nat) f5 (dm dc dr:Int)=>(⟨[(2,aa 0)],[ab ([ah 2 (apb sc),.map (some 3),aa dm,.int .i64 (apc apr (dc+1)),aa dr]) 80,ab x0 5,ab (aD sc) 77,.map es ck,ab [] 173,ab f5 5]⟩:aj)
theorem ZJ(sc:List (Int×Int))(x0 es)(ck nb:Nat)(f5)(dm dc dr:Int){Q:bg}(aR:aph x0 af=true)(cq:aph (bt [0,1,2,3,4,5] es) af=true)(br:aph f5 af=true)(hq:Q (.ret (aa 0)) [ab ([ah 2 (apb sc),.map (some 3),aa dm,.int .i64 (apc apr (dc+1)),aa dr]) 80,ab x0 5,ab (aD sc) 77,.map es ck,ab [] 173,ab f5 5]):aF apP 69 30 6 Q .ret (NX sc x0 es ck nb f5 dm dc dr):=aF.ret (vs:=[aa 0]) (l:=[]) (bs:=[0,1,2,3,4,5]) (pl:=[1,2,3,5]) (q:=[x0,aD sc,bt [0,1,2,3,4,5] es,f5]) (fun u=>by kernel_rfl) (by kernel_rfl) (aC aR (aC (aW sc) (aC cq (aC br bc)))) hq
abbrev NY:=fun(sc:List (Int×Int)) x0 es (ck nb:Nat) f5 (dm dc dr:Int)=>(⟨[(2,aa 25)],[ab ([ah 2 (apb sc),.map (some 3),aa dm,.int .i64 (apc apr (dc+1)),aa (av (aD sc) (0+apd (cI sc dc)*2+1))]) 80,ab x0 5,ab (aD sc) 77,.map es ck,ab [] 173,ab f5 5]⟩:aj)
theorem ZK(sc:List (Int×Int))(x0 es)(ck nb:Nat)(f5)(dm dc dr:Int){Q:bg}(aR:aph x0 af=true)(cq:aph (bt [0,1,2,3,4,5] es) af=true)(br:aph f5 af=true)(hq:Q (.ret (aa 25)) [ab ([ah 2 (apb sc),.map (some 3),aa dm,.int .i64 (apc apr (dc+1)),aa (av (aD sc) (0+apd (cI sc dc)*2+1))]) 80,ab x0 5,ab (aD sc) 77,.map es ck,ab [] 173,ab f5 5]):aF apP 69 30 6 Q .ret (NY sc x0 es ck nb f5 dm dc dr):=aF.ret (vs:=[aa 25]) (l:=[]) (bs:=[0,1,2,3,4,5]) (pl:=[1,2,3,5]) (q:=[x0,aD sc,bt [0,1,2,3,4,5] es,f5]) (fun u=>by kernel_rfl) (by kernel_rfl) (aC aR (aC (aW sc) (aC cq (aC br bc)))) hq
theorem ZL(sc:List (Int×Int))(x0:List ape)(es:List apM)(ck nb:Nat)(f5:List ape)(dm dc dr:Int)(hs:(apb sc)≤1000000)(h0:x0.all af=true)(h3:(bt kq es).all af=true)(h4:(es.map (dW fun i=>(kq++ff 7 0)[i]?)).all af=true)(hp:(aD sc).all af=true)(h6:(bt dX es).all af=true)(h5:f5.all af=true){Q:aQ}(n0:(eD [ah 2 (apb sc),asu (atA 96) #[] #[aqo (some (asO (0+1+1+1+1+1+1) 0 none))]] [ah 2 (apb sc),asu (atA 96) #[] #[ao 6]] [ab [ah 2 (apb sc),arD (some (0+1+1+1)),aa dm,aa dc,aa dr] 80,ab x0 5,ab (aD sc) 77,ag.map es ck,ab [] 173,ab f5 5,ab [ao 0] 35] (fE sc x0 es ck nb f5 dm dc dr++[ab [ao 0] 35]))=true)(aR:aph x0 af=true)(be:aph (aD sc) af=true)(bB:aph (bt [0,1,2,3,4,5] es) af=true)(br:aph f5 af=true)(l5:(decide (cI sc dc<0))=true→Q .ret (NX sc x0 es ck nb f5 dm dc dr))(n6:(decide (cI sc dc<0))=false→(apy (apd (cI sc dc)) (apb sc))=true)(n7:(decide (cI sc dc<0))=false→(cA apr (aD sc) (0+apd (cI sc dc)*2+1))=true)(l8:(decide (cI sc dc<0))=false→Q .ret (NY sc x0 es ck nb f5 dm dc dr)):an apP 30 6 NU ⟨[(0,ao 0)],[ab [ah 2 (apb sc),.map (some 3),aa dm,aa dc,aa dr] 80,ab x0 5,ab (aD sc) 77,.map es ck,ab [] 173,ab f5 5]⟩ Q:=
 aS (ZF sc x0 es ck nb f5 dm dc dr hs h0 h3 h5) 1000 (aA [7,1,1,1,1,1,1,1,1] (.fork 3 (.leaf [2] [0,1,2,3,4,5] [1,2,3,5]) (aA [6,1,1,0,1] (.leaf [2] [0,1,2,3,4,5] [1,2,3,5])))) (fun u=>by kernel_rfl) (Tree.aN (show(aph x0 af)=true by assumption) (Tree.aN (aW sc) (Tree.aN (show(aph (apS (dW (eX kq)) es) af)=true by assumption) (Tree.aN (show(aph f5 af)=true by assumption) (Tree.aN (n0:(eD [ah 2 (apb sc),asu (atA 96) #[] #[aqo (some (asO (0+1+1+1+1+1+1) 0 none))]] [ah 2 (apb sc),asu (atA 96) #[] #[ao 6]] [ab [ah 2 (apb sc),arD (some (0+1+1+1)),aa dm,aa dc,aa dr] 80,ab x0 5,ab (aD sc) 77,ag.map es ck,ab [] 173,ab f5 5,ab [ao 0] 35] (fE sc x0 es ck nb f5 dm dc dr++[ab [ao 0] 35]))=true) (Tree.aN (show(aph x0 af)=true by assumption) (Tree.aN (aW sc) (Tree.aN (show(aph (apS (dW fun i=>(kq++ff 7 (apb (fE sc x0 es ck nb f5 dm dc dr++[ab [ao 0] 35])-7))[i]?) es) af)=true by assumption) (Tree.aN (show(aph f5 af)=true by assumption) (Tree.dj (c:=decide (cI sc dc<0)) (fun h0=>(Tree.aN aR (Tree.aN (aW sc) (Tree.aN bB (Tree.aN br (Tree.dB (l5 h0))))))) (fun h0=>(Tree.aN (show(decide (0≤cI sc dc))=true by simp at hs h0 h3 h4 hp h6 h5 h0⊢ <;>omega) (Tree.aN (n6 h0) (Tree.aN (n7 h0) (Tree.aN aR (Tree.aN (aW sc) (Tree.aN bB (Tree.aN br (Tree.dB (l8 h0))))))))))))))))))))
end
def cE(sc:List (Int×Int))(c:Int):Int:=match sc.find? fun x=>x.1==c with
 |none=>0
 |some _=>25
def cR(sc:List (Int×Int))(c r:Int):Int:=match sc.find? fun x=>x.1==c with
 |none=>r
 |some p=>p.2
theorem NZ{sc:List (Int×Int)}{c:Int}(h:cI sc c<0)(r:Int):cE sc c=0∧cR sc c r=r:=by
 rcases Nx sc c with⟨_,h2⟩|⟨i,hi,h1,_⟩
 ·unfold cE cR;rw[h2];exact⟨rfl,rfl⟩
 ·omega
theorem v7{sc:List (Int×Int)}{c:Int}(h:¬cI sc c<0)(r:Int):cE sc c=25∧0≤cI sc c∧cI sc c<sc.length∧cR sc c r=av (aD sc) (0+apd (cI sc c)*2+1):=by
 rcases Nx sc c with⟨h1,_⟩|⟨i,hi,h1,h2⟩
 ·omega
 ·rw[h1]at h⊢
  have:=(oQ (sc:=sc) (j:=i) (by omega) (by omega)).2.2.2.1
  refine⟨by unfold cE;rw[h2],by omega,by omega,?_⟩
  rw[this]
  unfold cR
  rw[h2]
  rfl
theorem N0(sc:List (Int×Int))(x0:List ape)(es:List apM)(ck nb:Nat)(f5:List ape)(dm dc dr:Int)(hs:sc.length≤1000000)(h0:x0.all af=true)(he:b9 es=true)(h5:f5.all af=true):
 aE av9 69 [.pointer (some ⟨0,0,none⟩)] (fI sc x0 es ck nb f5 dm dc dr) fun r o=>r=.ret (.int .i64 (cE sc dc))∧o=fI sc x0 es ck nb f5 dm (apc .i64 (dc+1)) (cR sc dc dr):=by
 have h3:(bt kq es).all af=true:=b9.idx he [6]
 have h6:(bt dX es).all af=true:=b9.idx he []
 have h4:(es.map (dW fun i=>(kq++ff 7 0)[i]?)).all af=true:=b9.qO he [6]
 have hp:=aW sc
 refine aE.cT (n:=cn av9 69) (by kernel_rfl) ?_
 apply ZI sc x0 es ck nb f5 dm dc dr hs h0 h3 h4 hp h6 h5<;>try assumption
 case n0=>exact fo rfl rfl
 case l5=>
  intro g
  obtain⟨e1,e2⟩:=NZ (of_decide_eq_true g) dr
  exact ZG sc x0 es ck nb f5 dm dc dr h0 h6 h5 ⟨by rw[e1],by rw[e2];rfl⟩
 case n6=>intro g;obtain⟨e1,e2,e3,e4⟩:=v7 (of_decide_eq_false g) dr;exact dQ.2 (by omega)
 case n7=>intro g;obtain⟨e1,e2,e3,e4⟩:=v7 (of_decide_eq_false g) dr;exact(oQ e2 e3).2.1
 case l8=>
  intro g
  obtain⟨e1,e2,e3,e4⟩:=v7 (of_decide_eq_false g) dr
  exact ZH sc x0 es ck nb f5 dm dc dr h0 h6 h5 ⟨by rw[e1],by rw[e4];rfl⟩
theorem N1(sc:List (Int×Int))(x0:List ape)(es:List apM)(ck nb:Nat)(f5:List ape)(dm dc dr:Int)(hs:sc.length≤1000000)(h0:x0.all af=true)(he:b9 es=true)(h5:f5.all af=true):
 aE av9 69 [.pointer (some ⟨0,0,none⟩)] (fE sc x0 es ck nb f5 dm dc dr) fun r o=>r=.ret (.int .i64 (cE sc dc))∧o=fE sc x0 es ck nb f5 dm (apc .i64 (dc+1)) (cR sc dc dr):=by
 have h3:(bt kq es).all af=true:=b9.idx he [6]
 have h6:(bt dX es).all af=true:=b9.idx he []
 have h4:(es.map (dW fun i=>(kq++ff 7 0)[i]?)).all af=true:=b9.qO he [6]
 have hp:=aW sc
 refine aE.cT (n:=cn av9 69) (by kernel_rfl) ?_
 apply ZL sc x0 es ck nb f5 dm dc dr hs h0 h3 h4 hp h6 h5<;>try assumption
 case n0=>exact fo rfl rfl
 case l5=>
  intro g
  obtain⟨e1,e2⟩:=NZ (of_decide_eq_true g) dr
  exact ZJ sc x0 es ck nb f5 dm dc dr h0 h6 h5 ⟨by rw[e1],by rw[e2];rfl⟩
 case n6=>intro g;obtain⟨e1,e2,e3,e4⟩:=v7 (of_decide_eq_false g) dr;exact dQ.2 (by omega)
 case n7=>intro g;obtain⟨e1,e2,e3,e4⟩:=v7 (of_decide_eq_false g) dr;exact(oQ e2 e3).2.1
 case l8=>
  intro g
  obtain⟨e1,e2,e3,e4⟩:=v7 (of_decide_eq_false g) dr
  exact ZK sc x0 es ck nb f5 dm dc dr h0 h6 h5 ⟨by rw[e1],by rw[e4];rfl⟩
set_option maxHeartbeats 1000000 in
theorem ZM(b so bm:Nat)(x:Int)(v:ape)(w:World)(c1:w.cell? ⟨b,so+1,none⟩=some (.map (some bm)))(hl:(ary 78 (.map (some bm)) (.int .i64 x) false).run av9 w=.ok v w):
 Calls av9 68 #[.pointer (some ⟨b,so,none⟩),.int .i64 x] w fun e w'=>e=.returned v∧w'=w:=by
 go_enter Tryz.func68,Tryz.ntmps68
 go_wp2
 go_ret
 exact⟨rfl,rfl⟩
theorem N2:zeroOf av9 99=some (.pointer none):=by kernel_rfl
theorem GL(x:Int):pf av9 3 (.int .i64 x)=true:=by
 have h:av9.underlying 3=some (.int .i64):=Tryz.underlying3
 unfold pf
 rw[h]
def v8(f:Option (Nat×ape)):ape:=match f with
 |some (_,v)=>v
 |none=>.pointer none
theorem GM{objs:List ag}{sl:ape}{r1:List ape}{es:List apM}{ck:Nat}{x:Int}{f:Option (Nat×ape)}(h0:objs[0]?=some (.cells (sl:: .map (some 3)::r1) 80 false))(h3:objs[3]?=some (.map es ck))(hlen:objs.length≤262144)
 (hf:fh (.int .i64 x) es 0=some f):aE av9 68 [.pointer (some ⟨0,0,none⟩),.int .i64 x] objs fun r o=>r=.ret (v8 f)∧o=objs:=by
 intro B w₀ ρ w args' gK hn ha hw
 obtain⟨p,l,el,hp,hl⟩:=ha.gI
 obtain⟨xi,l2,el2,hx,jP⟩:=hl.gI
 have:=hx.jL
 subst this
 have:=jP.kD
 subst this
 obtain⟨q,hq,rfl⟩:=hp.kE
 have m0:cm objs 0=some (.cells (sl:: .map (some 3)::r1) 80 false):=by rw[cx rfl];exact h0
 have m3:cm objs 3=some (.map es ck):=by rw[cx rfl];exact h3
 obtain⟨o',k1,k2,_⟩:=hw.live 0 _ q m0 hq rfl
 obtain⟨q3,se⟩:=hw.named 3 _ m3 (by intro e;cases e)
 obtain⟨o3,k3,k4,_⟩:=hw.live 3 _ q3 m3 se rfl
 cases k4 with
 |map _ cN _ k5 k6=>
 cases k2 with
 |cells _ _ bU _ a fr g1 g2 g3 g4 g5 g6=>
 obtain⟨v',g7,g8⟩:=g6 1 (.map (some 3)) rfl
 obtain⟨qm,N3,rfl⟩:=g8.qg
 rw[se]at N3
 cases N3
 have hc:w.cell? ⟨q.aI,q.sh+0+1,none⟩=some (.map (some q3.aI)):=by
  simp[World.cell?,k1,g7]
 have hu:av9.underlying 78=some (.map 3 99):=Tryz.underlying78
 obtain⟨d,kh,hd⟩:=xJ (GL x)
 obtain⟨r',k7,k8⟩:=vi kh hd k5 k6 hf
 have ka:∃v',(ary 78 (.map (some q3.aI)) (.int .i64 x) false).run av9 w=.ok v' w∧VR ρ (v8 f) v':=by
  rcases k8 with⟨rfl,rfl⟩|⟨j,v,v',e',rfl,rfl,hv,_,_,_⟩
  ·refine⟨.pointer none,?_,.bG _ rfl⟩
   unfold ary
   rw[apg,Vm.run_underlying hu,apf]
   dsimp only
   rw[apg,Vm.run_getObj_map k3,apf]
   dsimp only
   rw[apg,apY,apf,apg,run_checkKey (GL x),apf,apg,run_findKey kh k7,apf]
   dsimp only
   first|rw[apg,apg,m6 N2]|rw[apg,m6 N2]
   rfl
  ·refine⟨v',?_,hv⟩
   unfold ary
   rw[apg,Vm.run_underlying hu,apf]
   dsimp only
   rw[apg,Vm.run_getObj_map k3,apf]
   dsimp only
   rw[apg,apY,apf,apg,run_checkKey (GL x),apf,apg,run_findKey kh k7,apf]
   rfl
 obtain⟨v',h1,h2⟩:=ka
 have ea:args'= #[.pointer (some ⟨q.aI,q.sh+0,none⟩),.int .i64 x]:=by
  rw[←Array.toArray_toList (xs:=args'),el,el2]
 rw[ea]
 refine(ZM q.aI (q.sh+0) q3.aI x v' w hc h1).mono fun e w' he=>?_
 obtain⟨rfl,rfl⟩:=he
 exact⟨.ret (v8 f),objs,ρ,⟨rfl,rfl⟩,h2,gK,hw,hlen,fun _ _=>rfl⟩
end Go.Proofs.YtnlkkgpcikkpoaaGreat
