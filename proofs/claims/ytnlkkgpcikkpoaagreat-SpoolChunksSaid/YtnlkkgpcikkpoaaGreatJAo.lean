/- Part of the proof: Ztl, Sva, SvI, SvP, Shut. -/
import Derived.Test.YtnlkkgpcikkpoaaGreatJAn
import Derived.Test.YtnlkkgpcikkpoaaGreatJAe
import Derived.ProofKit
import Derived.ChangeArms
import Derived.SizedLaws
import Derived.Deep.Slices
import Derived.DataReads
import Derived.Test.YtnlkkgpcikkpoaaGreatChecked
import Derived.Test.YtnlkkgpcikkpoaaGreatJAl
import Derived.Test.YtnlkkgpcikkpoaaGreatRows
import Derived.WalkKit
import Derived.OpenShut
import Derived.ShutString
import Derived.ChangeOld
import Derived.Below
import Derived.Deep.Fields
import Derived.ChangeSame
open Array renaming getElem?_eq_some_iff→aqe,length_toList→aro
open Bool renaming and_eq_true→apt
open ByteArray renaming beq→avq
open Go renaming DataW→ato,Field→asI,MemPlace→atC,Program→apu,TypeId→apq,Value→ape,World→aps
open Go.Addr renaming add→avs
open Go.DataW renaming TrodAll→auA,trod→asP,weights→asX,weightsAll→ase,weightsEach→aso
open Go.IntKind renaming i64→apr
open Go.Proofs.Tryz renaming prog→av9,underlying3→aqY
open Go.Value renaming int→apm
open Go.World renaming cells?_some→auS
open List renaming drop_drop→aqu,drop_of_length_le→aqU,flatten_cons→asQ,getD_eq_getElem?_getD→aqX,getElem?_append_left→ap5,getElem?_append_right→apZ,getElem?_eq_getElem→apl,getElem?_eq_none→aqr,getElem?_eq_some_iff→app,getElem?_of_mem→aqG,length_append→apv,length_cons→ap1,length_take→ap8,map_cons→aqb,mem_append_left→aqH,mem_append_right→aql,mem_cons→apx,mem_cons_of_mem→apB,mem_cons_self→apC,mem_map→aq0,mem_range→auk,range→arO,take_append_drop→aqv
open List.cons renaming injEq→au9
open Nat renaming beq→apw,eq_of_beq_eq_true→apz,le_trans→arG,mul_le_mul_right→ar2,mul_one→arF,succ_mul→atd,zero_mul→ate
open Option renaming map_some→aqA
open Option.some renaming injEq→api
open UInt8 renaming ofNat→ar6
set_option linter.unusedVariables false
set_option linter.unusedSimpArgs false
set_option maxRecDepth 100000
namespace Go.Proofs.YtnlkkgpcikkpoaaGreat
open Go Vm Go.RowKit
abbrev TV(K N:Int)(A B:ByteArray)(l:List ba)(sc:List (Int×Int))(C D:List Int):List ape:=[.agg #[.int .i64 K,.int .i64 N,.slice (some ⟨0,0,none⟩) A.size A.size,.slice (some ⟨1,0,none⟩) B.size B.size],.slice (some ⟨2,0,none⟩) l.length l.length,.slice (some ⟨3,0,none⟩) sc.length sc.length,.slice (some ⟨4,0,none⟩) C.length C.length,.slice (some ⟨5,0,none⟩) D.length D.length]
abbrev sZ(A B:ByteArray)(l:List ba)(sc:List (Int×Int))(C D:List Int):List ag:=[.cells (ai A) 5 true,.cells (ai B) 5 true,dv l,.cells (aD sc) 77 true,.cells (aq C) 3 true,.cells (aq D) 3 true]
def ta:List ape→List Int:=List.map fun v=>match v with| .int _ z=>z|_=>0
theorem bytes_beq(a:ByteArray):(a==a)=true:=by show avq a a=true;unfold avq;simp
theorem w6(C:List Int):ta (aq C)=C:=by
 unfold ta aq
 rw[List.map_map]
 exact(List.map_congr_left fun x _=>rfl).trans (List.map_id C)
theorem amN{n:Nat}(hn:n=cn av9 5)(A B:ByteArray)(s:ba)(sc:List (Int×Int))(C D:List Int)(f:Bool)(hs:s.bytes.size≤4500)(iE:sc.length≤100)(hC:C.length≤3000)(hD:D.length≤3000):
 an av9 n 6 (sX.drop 8) ⟨[(1,.slice (some ⟨2,0,none⟩) 1 1),(3,.slice (some ⟨4,0,none⟩) C.length C.length),(4,.slice (some ⟨5,0,none⟩) D.length D.length),(11,.pointer (some ⟨6,0,none⟩)),(12,.pointer (some ⟨7,0,none⟩)),(13,.pointer (some ⟨8,0,none⟩)),(15,.pointer (some ⟨9,0,none⟩))],
  sZ A B [s] sc C D++[.abs (kV sc),.abs (kV sc),.cells (aJ (sP f) 6 10 11 12) 89 false,.cells (aJ (sP f) 7 13 14 15) 89 false,.cells (ap []) 9 false,.cells (aq []) 3 false,.cells (ak []) 114 false,.cells (ap []) 9 false,.cells (aq []) 3 false,.cells (ak []) 114 false]⟩
  (aF av9 5 n 6 fun r o=>r=.ret (.bool true)∧o=sZ A B [s] sc C D):=by
 have hx:=SZ f (sc:=sc) (by omega)
 have jT:=SU (sQ f sc) s C hx rfl hs hC
 have kp:=SU (sQ f sc) s D hx rfl hs hD
 have nc:=amM f sc s C (by omega) (by omega) mP
 have al:=(Tn (sQ f sc) s C hx rfl hs).trans (Tn (sQ f sc) s D hx rfl hs).symm
 have pp:=aW sc
 obtain⟨DR,TW⟩:∃DR:List Int→DS,∀C,DR C=ef s C mP 0 (kU (sQ f sc)):=⟨_,fun _=>rfl⟩
 rw[←TW C]at jT nc al
 rw[←TW D]at kp al
 have fm:=nc.cF
 have hlen:(DR C).x.d.files.length≤1000000:=by
  have:=C0 64 ((DR C).x.d.files.map (·.1)) fm.fX fun x hx=>by
   obtain⟨p,hp,e⟩:=aq0.1 hx
   have:=fm.keys p hp
   have:=fm.made
   omega
  rw[List.length_map]at this
  omega
 subst hn
 apply amJ A B s sc C D (sP f) (fun v=>(DR (ta v)).x.S) (fun v=>(DR (ta v)).x.L) (fun v=>(DR (ta v)).x.R) (fun v=>(DR (ta v)).x.H) (DR C).x.d (DR C).o (DR C).nd (DR C).er (fun v=>(DR (ta v)).hd) (fun v=>(DR (ta v)).t) pp
 case n0=>rw[w6];exact CP jT
 case n1=>rw[w6,al.o,al.nd,al.er,al.d];exact CP kp
 case n2=>intro _;exact pT.2 fm
 case n3=>intro _ _;exact CP amx
 case n11=>intro _ _;rw[←JP];exact CP (amy _ (by rw[JP];exact hlen))
 case l9=>intro _ _ _;exact amE A B s sc C D _ _ _ _ _ _ _ _ _ _ _ ⟨rfl,rfl⟩
 case j4=>intro _ _ h;rw[w6,w6,al.raw]at h;simp at h
 case jY=>intro _ _ _;exact amG A B s sc C D _ _ _ _ _ _ _ _ _ _ _ ⟨rfl,rfl⟩
 case nt=>intro _ _ h;rw[w6,w6,al.raw]at h;simp at h
 case CD=>intro h;rw[bytes_beq,bytes_beq]at h;simp at h
theorem amO(pn:Int)(A B:ByteArray)(s:ba)(sc:List (Int×Int))(C D:List Int)(hv:gW A B [s] sc C D=false)
 (zl:aE av9 31 (C4 11 pn A B) (sW A B) fun r o=>r=.ret (.int .i64 0)∧o=sW A B)(hp:A.size=0∧B.size=0∧0≤pn∧pn≤1):
 aE av9 5 (TV 11 pn A B [s] sc C D) (sZ A B [s] sc C D) fun r o=>r=.ret (.bool true)∧o=sZ A B [s] sc C D:=by
 have TX:=S6 hv
 have hL:=TX.one
 have hs:s.bytes.size≤4500:=hL.each s (by simp)
 have iE:=hL.SX
 have zk:=alH pn A B hL.az hL.bz hp.1 hp.2.1 hp.2.2.1 hp.2.2.2
 have pA:=al3 sc true (by omega)
 have pp:=aW sc
 refine aE.cT (n:=cn av9 5) (by kernel_rfl) ?_
 apply amk pn A B sc C D s pp zk zl pA hv
 case n0=>exact fo rfl rfl
 case n1=>exact fo rfl rfl
 case n2=>exact fo rfl rfl
 case aR=>simp
 case be=>simp
 case bB=>exact pp
 case br=>simp
 case jG=>simp
 case l8=>
  have h:=amN rfl A B s sc C D (pn==1) hs iE hL.zi TX.zi
  refine an.lp 8 71 9 (s:=1) (by kernel_rfl) rfl rfl (by rfl) rfl ?_
  refine an.lp 8 73 3 (s:=1) (by kernel_rfl) rfl rfl (by rfl) rfl ?_
  refine an.lp (d':=⟨[(1,.slice (some ⟨2,0,none⟩) 1 1),(3,.slice (some ⟨4,0,none⟩) C.length C.length),(4,.slice (some ⟨5,0,none⟩) D.length D.length),(11,.pointer (some ⟨6,0,none⟩)),(12,.pointer (some ⟨7,0,none⟩)),(13,.pointer (some ⟨8,0,none⟩)),(15,.pointer (some ⟨9,0,none⟩))],sZ A B [s] sc C D++[.abs (kV sc),.abs (kV sc),.cells (aJ (sP (pn==1)) 6 10 11 12) 89 false,.cells (HR (sP (pn==1)) 7 (.slice none 0 0) (.slice none 0 0) (.slice none 0 0)) 89 false,.cells (ap []) 9 false,.cells (aq []) 3 false,.cells (ak []) 114 false]⟩) 8 74 114 (s:=4) (by kernel_rfl) rfl rfl (by rfl) rfl ?_
  refine an.lp 9 71 9 (s:=1) (by kernel_rfl) rfl rfl (by rfl) rfl ?_
  refine an.lp 9 73 3 (s:=1) (by kernel_rfl) rfl rfl (by rfl) rfl ?_
  refine an.lp (d':=⟨[(1,.slice (some ⟨2,0,none⟩) 1 1),(3,.slice (some ⟨4,0,none⟩) C.length C.length),(4,.slice (some ⟨5,0,none⟩) D.length D.length),(11,.pointer (some ⟨6,0,none⟩)),(12,.pointer (some ⟨7,0,none⟩)),(13,.pointer (some ⟨8,0,none⟩)),(15,.pointer (some ⟨9,0,none⟩))],sZ A B [s] sc C D++[.abs (kV sc),.abs (kV sc),.cells (aJ (sP (pn==1)) 6 10 11 12) 89 false,.cells (aJ (sP (pn==1)) 7 13 14 15) 89 false,.cells (ap []) 9 false,.cells (aq []) 3 false,.cells (ak []) 114 false,.cells (ap []) 9 false,.cells (aq []) 3 false,.cells (ak []) 114 false]⟩) 9 74 114 (s:=4) (by kernel_rfl) rfl rfl (by rfl) rfl ?_
  exact h
theorem amP(A B:ByteArray)(K N:Int)(l:List ba)(sc:List (Int×Int))(C D:List Int):
 aE av9 5 (TV K N A B l sc C D) (sZ A B l sc C D) fun r o=>r=.ret (.bool true)∧o=sZ A B l sc C D:=by
 have pp:=aW sc
 cases hv:gW A B l sc C D with
 |true=>
  refine aE.cT (n:=cn av9 5) (by kernel_rfl) ?_
  apply ama K N A B l sc C D pp hv
  case n0=>exact fo rfl rfl
  case aR=>simp
  case be=>simp
  case bB=>exact pp
  case br=>simp
  case jG=>simp
  case l6=>exact al9 K N A B l sc C D ⟨rfl,rfl⟩
 |false=>
  have hL:=(S6 hv).one
  obtain⟨e,kx,he⟩:=alG K N A B hL.az hL.bz
  by_cases h0:e=0
  ·by_cases hK:K=11
   ·subst h0 hK
    by_cases h1:l.length=1
    ·obtain⟨s,rfl⟩:∃s,l=[s]:=List.length_eq_one_iff.1 h1
     exact amO N A B s sc C D hv kx (he rfl rfl)
    ·refine aE.cT (n:=cn av9 5) (by kernel_rfl) ?_
     apply ami N A B l sc C D 0 pp kx hv h1
     case n0=>exact fo rfl rfl
     case n1=>exact fo rfl rfl
     case aR=>simp
     case be=>simp
     case bB=>exact pp
     case br=>simp
     case jG=>simp
     case l7=>intro _;exact amg N A B l sc C D 0 ⟨rfl,rfl⟩
     case l8=>intro _;exact amh N A B l sc C D 0 ⟨rfl,rfl⟩
   ·refine aE.cT (n:=cn av9 5) (by kernel_rfl) ?_
    apply amf K N A B l sc C D e pp kx hv hK
    case n0=>exact fo rfl rfl
    case n1=>exact fo rfl rfl
    case aR=>simp
    case be=>simp
    case bB=>exact pp
    case br=>simp
    case jG=>simp
    case l7=>intro _;exact amd K N A B l sc C D e ⟨rfl,rfl⟩
    case l8=>intro _;exact ame K N A B l sc C D e ⟨rfl,rfl⟩
  ·refine aE.cT (n:=cn av9 5) (by kernel_rfl) ?_
   apply amc K N A B l sc C D e pp kx hv h0
   case n0=>exact fo rfl rfl
   case n1=>exact fo rfl rfl
   case aR=>simp
   case be=>simp
   case bB=>exact pp
   case br=>simp
   case jG=>simp
   case l7=>exact amb K N A B l sc C D e ⟨rfl,rfl⟩
end Go.Proofs.YtnlkkgpcikkpoaaGreat
namespace Go.Proofs.YtnlkkgpcikkpoaaGreat.Vm
open Go.RowKit Go.Deep
section
variable {P:apu}
def w7(P:apu):List asI→Nat→Nat→Bool
 | [],off,mm=>apw off mm
 |f::l,off,mm=>apw f.offset off&&w7 P l (off+P.cellsOf f.type) mm
def w8(P:apu):Nat→apq→Bool
 |0,_=>false
 |d+1,t=>match P.underlying t with
  |some .bool|some (.int _)|some .string=>true
  |some (.slice e)=>w8 P d e&&Nat.blt 0 (P.cellsOf e)
  |some (.struct fs)=>w7 P fs.toList 0 (P.cellsOf t)&&fs.toList.all fun f=>w8 P d f.type
  |some (.array n e)=>w8 P d e&&apw (n*P.cellsOf e) (P.cellsOf t)
  |_=>false
def qb(P:apu)(e:apq):Bool:=match P.underlying e with
 |some .bool|some (.int _)|some .string=>apw (P.cellsOf e) 1
 |_=>false
def Mt(P:apu):Nat→apq→List SV→Prop
 |0,_,_=>False
 |d+1,t,svs=>match P.underlying t with
  |some .bool=>∃b,svs=[.val (.bool b)]
  |some (.int k)=>∃n,svs=[.val (.int k n)]∧k.min≤n∧n≤k.max
  |some .string=>∃s:ByteArray,svs=[.val (.string s)]∧s.size≤reachBytes
  |some (.slice e)=>match qb P e with
   |true=>∃c:List ape,svs=[.cells c.length c e]∧c.length*P.bytesOf e≤reachBytes∧∀v∈c,Mt P d e [.val v]
   |false=>∃(n:Nat) (row:Nat→List SV),svs=[.rows n (P.cellsOf e) row]∧n*P.bytesOf e≤reachBytes∧∀i,i<n→Mt P d e (row i)
  |some (.struct fs)=>∃parts:List (List SV),svs=parts.flatten∧dL (fun(f:asI) p=>Mt P d f.type p) fs.toList parts
  |some (.array n e)=>∃parts:List (List SV),svs=parts.flatten∧parts.length=n∧∀p∈parts,Mt P d e p
  |_=>False
variable {H:Type} {enc:apq×ape→H} {w:aps} {B:Nat→Prop}
theorem gz.append{a b:List SV}{a' b':List ape}(h:gz P w B a a')(h':gz P w B b b'):gz P w B (a++b) (a'++b'):=by
 refine⟨by simp[h.len,h'.len],fun i s v hs hv=>?_⟩
 by_cases hi:i<a.length
 ·rw[ap5 hi]at hs
  rw[ap5 (by rw[←h.len];exact hi)]at hv
  exact h.at_ i s v hs hv
 ·rw[apZ (by omega)]at hs
  rw[apZ (by rw[←h.len];omega),←h.len]at hv
  exact h'.at_ _ s v hs hv
theorem gz.nil:gz P w B [] []:=⟨rfl,fun i s v h=>by simp at h⟩
theorem gz.one{s:SV}{v:ape}(h:SR P w B s v):gz P w B [s] [v]:=⟨rfl,fun i s' v' h1 h2=>by
 cases i with
 |zero=>simp at h1 h2;subst h1 h2;exact h
 |succ i=>simp at h1⟩
theorem TY(b off j:Nat):(⟨b,off,none⟩:Addr).add j=⟨b,off+j,none⟩:=by
 unfold avs
 by_cases h:j=0
 ·rw[if_pos h,h];rfl
 ·rw[if_neg h]
theorem TZ{b o:Nat}{v:ape}(h:w.cell? ⟨b,o,none⟩=some v):∃c el fr,w.heap[b]?=some (.cells c el fr)∧c[o]?=some v:=by
 unfold World.cell? at h
 dsimp only at h
 split at h
 ·rename_i c el fr hb
  exact⟨c,el,fr,hb,by simpa using h⟩
 ·cases h
theorem T0{α β:Type}{f:α→Option β}{a:α}{l:List α}{r:List β}(h:(a::l).mapM f=some r):∃b r',f a=some b∧l.mapM f=some r'∧r=b::r':=by
 simp only[List.mapM_cons,Option.bind_eq_bind,Option.bind_eq_some_iff,Option.pure_def,api]at h
 obtain⟨b,h1,r',h2,h3⟩:=h
 exact⟨b,r',h1,h2,h3.symm⟩
theorem tb(hB:∀b,b<w.heap.size→B b):∀(d:Nat) (t:apq) (gP:Nat) (cs:List ape) (x:ato H×List atC),w8 P d t=true→
 asP enc P w 0 (fun _=>true) true gP t cs=some x→(∀n∈x.1.weights P t,n≤reachBytes)→∃svs,gz P w B svs cs∧Mt P d t svs
 |0,t,gP,cs,x,hp,h,hw=>by cases hp
 |d+1,t,gP,cs,x,hp,h,hw=>by
  unfold w8 at hp
  unfold Mt
  split at hp
  ·rename_i ht
   obtain⟨b,rfl,rfl⟩:=DataW.trod_bool ht h
   exact⟨_,.one (.val _ rfl),b,rfl⟩
  ·rename_i k ht
   obtain⟨n,rfl,rfl,sH⟩:=DataW.trod_int ht h
   simp only[Lit.wf,apt,decide_eq_true_eq]at sH
   exact⟨_,.one (.val _ rfl),n,rfl,sH⟩
  ·rename_i ht
   obtain⟨s,rfl,rfl,hs⟩:=DataW.trod_string ht h
   refine⟨_,.one (.val _ rfl),s,rfl,?_⟩
   have:=hw s.data.toList.length (by unfold asX;simp)
   simpa using this
  ·rename_i e ht
   simp only[apt]at hp
   obtain⟨wB,hc⟩:=hp
   have hc:=dQ.1 hc
   rcases open_slice ht h with⟨rfl,rfl⟩|⟨a,len,cap,m,n,D,Pl,rfl,_,xW,aoH,hm,rfl,hi⟩
   ·cases ho:qb P e with
    |true=>exact⟨_,.one (.nil e none),[],rfl,by simp,by simp⟩
    |false=>exact⟨_,.one (.nE (P.cellsOf e) (fun _=>[]) none),0,fun _=>[],rfl,by simp,by simp⟩
   ·have hm:m=cap:=by simpa using hm
    subst hm
    have H5:∀i,i<m→∀q∈(D i).weights P e,q≤reachBytes:=fun i gO q hq=>by
     refine hw q ?_
     unfold asX
     rw[ht]
     refine apB _ ?_
     have mem:∀{ds:List (ato H)} {d:ato H},d∈ds→q∈d.weights P e→q∈ase P e ds:=by
      intro ds
      induction ds with
      |nil=>intro d hd;cases hd
      |cons d0 ds ih=>
       intro d hd hq
       unfold ase
       rcases apx.1 hd with rfl|hd
       ·exact aqH _ hq
       ·exact aql _ (ih hd hq)
     by_cases hl:i<len
     ·exact aqH _ (mem (aq0.2 ⟨i,auk.2 hl,rfl⟩) hq)
     ·exact aql _ (mem (aq0.2 ⟨i-len,auk.2 (by omega),by congr 1;omega⟩) hq)
    have CY:len*P.bytesOf e≤reachBytes:=by
     have:=hw ((len+(m-len))*P.bytesOf e) (by unfold asX;rw[ht];simp)
     exact arG (ar2 _ (by omega)) this
    by_cases vJ:m=0
    ·obtain rfl:len=0:=by omega
     subst vJ
     cases ho:qb P e with
     |true=>exact⟨_,.one (.nil e (some a)),[],rfl,by simp,by simp⟩
     |false=>exact⟨_,.one (.nE (P.cellsOf e) (fun _=>[]) (some a)),0,fun _=>[],rfl,by simp,by simp⟩
    ·-- the block
     have pt:∀i,i<m→∀k,k<P.cellsOf e→∃v,w.cell? ((a.add (i*P.cellsOf e)).add k)=some v:=fun i gO k hk=>by
      obtain⟨iC,h1,_⟩:=hi i gO
      obtain⟨_,h2,h3⟩:=auS h1
      rw[h3 k hk]
      exact⟨_,apl (by omega)⟩
     obtain⟨b,off,spot⟩:=a
     have amQ:spot=none:=by
      obtain⟨v,hv⟩:=pt 0 (by omega) 0 hc
      have:=World.cell?_spot hv
      rw[ate]at this
      unfold avs at this
      rw[if_pos rfl,if_pos rfl]at this
      exact this
     subst amQ
     have Kd:∀i k,(((⟨b,off,none⟩:Addr).add (i*P.cellsOf e)).add k)=⟨b,off+i*P.cellsOf e+k,none⟩:=fun i k=>by rw[TY,TY]
     obtain⟨c',bU,fr,wU,-⟩:∃c el fr,w.heap[b]?=some (.cells c el fr)∧True:=by
      obtain⟨v,hv⟩:=pt 0 (by omega) 0 hc
      rw[Kd]at hv
      obtain⟨c,el,fr,h1,_⟩:=TZ hv
      exact⟨c,el,fr,h1,trivial⟩
     have ca:∀i,i<m→∀k,k<P.cellsOf e→∃v,w.cell? ⟨b,off+i*P.cellsOf e+k,none⟩=some v∧c'[off+i*P.cellsOf e+k]?=some v:=fun i gO k hk=>by
      obtain⟨v,hv⟩:=pt i gO k hk
      rw[Kd]at hv
      obtain⟨c,el,aoI,h1,h2⟩:=TZ hv
      rw[wU]at h1
      cases h1
      exact⟨v,hv,h2⟩
     have uP:off+m*P.cellsOf e≤c'.size:=by
      obtain⟨v,_,hv⟩:=ca (m-1) (by omega) (P.cellsOf e-1) (by omega)
      have:=(aqe.1 hv).1
      have e1:(m-1)*P.cellsOf e+P.cellsOf e=m*P.cellsOf e:=by
       conv=>rhs;rw[show m=(m-1)+1 by omega,atd]
      omega
     have T1:b<w.heap.size:=(aqe.1 wU).1
     have cf:∀s,bR P e=some s→s=P.cellsOf e:=fun s hs=>by
      unfold bR at hs
      unfold Program.cellsOf
      rw[hs];rfl
     have kQ:∀i,i<m→∃svs iC,gz P w B svs iC∧Mt P d e svs∧iC.length=P.cellsOf e∧∀k v,iC[k]?=some v→c'[off+i*P.cellsOf e+k]?=some v:=fun i gO=>by
      obtain⟨iC,h1,h2⟩:=hi i gO
      obtain⟨_,h3,h4⟩:=auS h1
      obtain⟨svs,h5,h6⟩:=tb hB d e n iC _ wB h2 (H5 i gO)
      refine⟨svs,iC,h5,h6,h3,fun k v hv=>?_⟩
      have hk:k<P.cellsOf e:=by rw[←h3];exact(app.1 hv).1
      obtain⟨u,vg,tx⟩:=ca i gO k hk
      rw[←Kd,h4 k hk,hv]at vg
      cases vg
      exact tx
     cases ho:qb P e with
     |true=>
      have h1:P.cellsOf e=1:=by
       unfold qb at ho
       split at ho<;>first|exact apz ho|cases ho
      have key:∀i,i<m→∃v,af v=true∧Mt P d e [.val v]∧c'[off+i]?=some v:=fun i gO=>by
       obtain⟨svs,iC,g1,g2,g3,g4⟩:=kQ i gO
       rw[h1]at g3 g4
       obtain⟨v,rfl⟩:∃v,iC=[v]:=by
        match iC,g3 with
        | [v],_=>exact⟨v,rfl⟩
       have hv:=g4 0 v rfl
       rw[arF,Nat.add_zero]at hv
       have hl:=g1.len
       obtain⟨s,rfl⟩:∃s,svs=[s]:=by
        match svs,hl with
        | [s],_=>exact⟨s,rfl⟩
       have hs:=g1.at_ 0 s v rfl rfl
       have Ke:=g2
       cases d with
       |zero=>cases wB
       |succ d=>
        unfold Mt at g2
        unfold qb at ho
        split at ho
        ·rename_i ny
         rw[ny]at g2
         obtain⟨b',e1⟩:=g2
         cases e1
         cases hs
         exact⟨_,rfl,Ke,hv⟩
        ·rename_i ny
         rw[ny]at g2
         obtain⟨b',e1,_⟩:=g2
         cases e1
         cases hs
         exact⟨_,rfl,Ke,hv⟩
        ·rename_i ny
         rw[ny]at g2
         obtain⟨b',e1,_⟩:=g2
         cases e1
         cases hs
         exact⟨_,rfl,Ke,hv⟩
        ·cases ho
      let c:List ape:=(arO len).map fun i=>if hi:i<m then(key i hi).choose else undef
      have eN:c.length=len:=by simp[c]
      have T2:∀i v,c[i]?=some v→∃hi:i<m,v=(key i hi).choose:=fun i v hv=>by
       have qt:i<len:=by rw[←eN];exact(app.1 hv).1
       have gO:i<m:=by omega
       refine⟨gO,?_⟩
       simp only[c,List.getElem?_map,List.getElem?_range qt,aqA,api]at hv
       rw[dif_pos gO]at hv
       exact hv.symm
      refine⟨[.cells c.length c e],.one ?_,c,rfl,by rw[eN];exact CY,fun v hv=>?_⟩
      ·have:SR P w B (.cells len c e) (.slice (some ⟨b,off,none⟩) len m):=.cells len c e b off m c' bU fr (hB b T1) wU (fun i v hv=>by
        obtain⟨gO,rfl⟩:=T2 i v hv
        obtain⟨k1,k2,k3⟩:=(key i gO).choose_spec
        exact⟨k1,k3⟩) (by rw[eN];rw[h1]at uP;omega) xW (fun s hs=>by rw[cf s hs];exact uP)
       rw[eN]
       exact this
      ·obtain⟨i,hi⟩:=aqG hv
       obtain⟨gO,rfl⟩:=T2 i v hi
       exact(key i gO).choose_spec.2.1
     |false=>
      let row:Nat→List SV:=fun i=>if hi:i<m then(kQ i hi).choose else[]
      have hr:∀i (hi:i<m),row i=(kQ i hi).choose:=fun i hi=>by simp[row,hi]
      have tV:∀i,i<m→∃iC,gz P w B (row i) iC∧Mt P d e (row i)∧iC.length=P.cellsOf e∧∀k v,iC[k]?=some v→c'[off+i*P.cellsOf e+k]?=some v:=fun i hi=>by
       rw[hr i hi];exact(kQ i hi).choose_spec
      let u:Nat→Nat→ape:=fun i k=>(c'[off+i*P.cellsOf e+k]?).getD undef
      refine⟨[.rows len (P.cellsOf e) row],.one (.rows len (P.cellsOf e) row b off m c' bU fr (hB b T1) wU (arG (Nat.add_le_add_left (ar2 _ xW) _) uP) xW uP (fun i hi=>?_) u (fun i k hi hk=>?_) fun i k sv hi hk=>?_),len,row,rfl,CY,fun i hi=>?_⟩
      ·obtain⟨iC,g1,g2,g3,g4⟩:=tV i (by omega)
       rw[g1.len,g3]
      ·obtain⟨v,_,hv⟩:=ca i (by omega) k hk
       show _=some ((c'[off+i*P.cellsOf e+k]?).getD undef)
       rw[hv];rfl
      ·obtain⟨iC,g1,g2,g3,g4⟩:=tV i (by omega)
       have xN:k<iC.length:=by rw[←g1.len];exact(app.1 hk).1
       have hv:=g4 k _ (apl xN)
       have:u i k=iC[k]:=by show(c'[off+i*P.cellsOf e+k]?).getD undef=_;rw[hv];rfl
       rw[this]
       exact g1.at_ k sv _ hk (apl xN)
      ·obtain⟨iC,g1,g2,g3,g4⟩:=tV i (by omega)
       exact g2
  ·rename_i fs ht
   simp only[apt]at hp
   obtain⟨amR,kJ⟩:=hp
   cases gP with
   |zero=>cases h
   |succ gP=>
    unfold asP at h
    simp only[ht]at h
    split at h
    ·rename_i hlen
     cases pk:(fs.toList.mapM fun f=>asP enc P w 0 (fun _=>true) true gP f.type ((cs.drop f.offset).take (P.cellsOf f.type)))with
     |none=>rw[pk]at h;cases h
     |some xs=>
      rw[pk]at h
      simp only[aqA,api]at h
      subst h
      have gZ:∀n∈aso P (fs.toList.map (·.type)) (xs.map (·.1)),n≤reachBytes:=fun n hn=>hw n (by unfold asX;rw[ht];exact hn)
      have key:∀(l:List asI) (off:Nat) (xs:List (ato H×List atC)),w7 P l off (P.cellsOf t)=true→(l.all fun f=>w8 P d f.type)=true→
       (l.mapM fun f=>asP enc P w 0 (fun _=>true) true gP f.type ((cs.drop f.offset).take (P.cellsOf f.type)))=some xs→
       (∀n∈aso P (l.map (·.type)) (xs.map (·.1)),n≤reachBytes)→off≤cs.length→
       ∃parts:List (List SV),gz P w B parts.flatten (cs.drop off)∧dL (fun(f:asI) p=>Mt P d f.type p) l parts:=by
       intro l
       induction l with
       |nil=>
        intro off xs ra _ _ _ amS
        have:=apz ra
        refine⟨[],?_,.nil⟩
        rw[aqU (by omega)]
        exact .nil
       |cons f l ih=>
        intro off xs ra pv hm qX amS
        simp only[w7,apt]at ra
        simp only[List.all_cons,apt]at pv
        obtain⟨x0,jO,nI,je,rfl⟩:=T0 hm
        have e0:=apz ra.1
        rw[e0]at nI
        have amT:off+P.cellsOf f.type≤cs.length:=by
         have:∀(l:List asI) (o mm:Nat),w7 P l o mm=true→o≤mm:=by
          intro l
          induction l with
          |nil=>intro o mm h;exact Nat.le_of_eq (apz h)
          |cons f l ih=>intro o mm h;simp only[w7,apt]at h;have:=ih _ _ h.2;omega
         have:=this _ _ _ ra.2
         omega
        obtain⟨svs,s1,s2⟩:=tb hB d f.type gP _ _ pv.1 nI (fun n hn=>qX n (by
         simp only[aqb,aso]
         exact aqH _ hn))
        obtain⟨parts,p1,p2⟩:=ih (off+P.cellsOf f.type) jO ra.2 pv.2 je (fun n hn=>qX n (by
         simp only[aqb,aso]
         exact aql _ hn)) amT
        refine⟨svs::parts,?_,.cons s2 p2⟩
        have e1:cs.drop off=(cs.drop off).take (P.cellsOf f.type)++cs.drop (off+P.cellsOf f.type):=by
         rw[←aqu,aqv]
        rw[asQ,e1]
        exact s1.append p1
      obtain⟨parts,p1,p2⟩:=key fs.toList 0 xs amR kJ pk gZ (Nat.zero_le _)
      exact⟨parts.flatten,by simpa using p1,parts,rfl,p2⟩
    ·cases h
  ·rename_i n e ht
   simp only[apt]at hp
   obtain⟨wB,hc⟩:=hp
   have hc:=apz hc
   cases gP with
   |zero=>cases h
   |succ gP=>
    unfold asP at h
    simp only[ht]at h
    split at h
    ·rename_i hlen
     cases pk:((arO n).mapM fun i=>asP enc P w 0 (fun _=>true) true gP e ((cs.drop (i*P.cellsOf e)).take (P.cellsOf e)))with
     |none=>rw[pk]at h;cases h
     |some xs=>
      rw[pk]at h
      simp only[aqA,api]at h
      subst h
      have gZ:∀q∈ase P e (xs.map (·.1)),q≤reachBytes:=fun q hq=>hw q (by unfold asX;rw[ht];exact hq)
      have key:∀(k o:Nat) (xs:List (ato H×List atC)),o+k=n→
       ((List.range' o k).mapM fun i=>asP enc P w 0 (fun _=>true) true gP e ((cs.drop (i*P.cellsOf e)).take (P.cellsOf e)))=some xs→
       (∀q∈ase P e (xs.map (·.1)),q≤reachBytes)→
       ∃parts:List (List SV),gz P w B parts.flatten (cs.drop (o*P.cellsOf e))∧parts.length=k∧∀p∈parts,Mt P d e p:=by
       intro k
       induction k with
       |zero=>
        intro o xs ho _ _
        refine⟨[],?_,rfl,fun p hp=>by cases hp⟩
        have ho:o=n:=by omega
        rw[aqU (by rw[hlen,←hc,ho];omega)]
        exact .nil
       |succ k ih=>
        intro o xs ho hm qX
        rw[List.range'_succ]at hm
        obtain⟨x0,jO,nI,je,rfl⟩:=T0 hm
        obtain⟨svs,s1,s2⟩:=tb hB d e gP _ _ wB nI (fun q hq=>qX q (by
         simp only[aqb,ase]
         exact aqH _ hq))
        obtain⟨parts,p1,p2,p3⟩:=ih (o+1) jO (by omega) je (fun q hq=>qX q (by
         simp only[aqb,ase]
         exact aql _ hq))
        refine⟨svs::parts,?_,by simp[p2],fun p hp=>?_⟩
        ·have e1:cs.drop (o*P.cellsOf e)=(cs.drop (o*P.cellsOf e)).take (P.cellsOf e)++cs.drop ((o+1)*P.cellsOf e):=by
          rw[atd,←aqu,aqv]
         rw[asQ,e1]
         exact s1.append p1
        ·rcases apx.1 hp with rfl|hp
         ·exact s2
         ·exact p3 p hp
      obtain⟨parts,p1,p2,p3⟩:=key n 0 xs (by omega) (by rw[←List.range_eq_range'];exact pk) gZ
      exact⟨parts.flatten,by simpa using p1,parts,rfl,p2,p3⟩
    ·cases h
  ·cases hp
termination_by d=>d
theorem aE.amU{f:FuncId}{svs:List SV}{im:List ape}{Q:bx→List ag→Prop}(h:aE P f im (gH svs) Q)(iL:Nat.ble (kY svs) 262144=true){w:aps}{args':Array ape}{T3:List ape}
 (hv:∀ρ,LR ρ (mo svs 0) T3→LR ρ im args'.toList)
 (hs:gz P w (fun k=>k<w.heap.size) svs T3)(Kf:Env (fun k=>k<w.heap.size) w:=by exact fun _ _=>trivial):Calls P f args' w fun e w'=>∃r o ρ',Q r o∧CR ρ' r e∧Below w.heap.size w w':=by
 have iL:=Nat.le_of_ble_eq_true iL
 obtain⟨ρ,_,h1,h2⟩:=xE (k:=0) (g:=fun _=>none) hs (WR.start (P:=P) w Kf) (fun _ _=>rfl)
 have h2:=hv _ h2
 let ρ2:Ren:=fun x=>match small x with
  |true=>ρ x
  |false=>some (vy (x-262144))
 have eo:∀x,small x=true→ρ2 x=ρ x:=fun x h=>by show(match small x with|true=>_|false=>_)=_;rw[h]
 have lg:∀x,small x=false→ρ2 x=some (vy (x-262144)):=fun x h=>by show(match small x with|true=>_|false=>_)=_;rw[h]
 have gK:Full ρ2:=fun q=>by
  obtain⟨n,h⟩:=Mo q
  exact⟨n+262144,AM n,by rw[lg _ (AM n)];simp[h]⟩
 have hlen:=rF svs
 have Kg:∀x,iV (fun _=>none) 0 (gH svs) x=(gH svs)[x]? :=by
  have key:∀(l:List ag) (g:Nat→Option ag) (k x:Nat),iV g k l x=if k≤x∧x<k+l.length then l[x-k]?else g x:=by
   intro l
   induction l with
   |nil=>intro g k x;rw[if_neg (by simp only[List.length_nil];omega)];rfl
   |cons o l ih=>
    intro g k x
    show iV (cJ g k o) (k+1) l x=_
    rw[ih]
    simp only[ap1]
    by_cases hx:x=k
    ·subst hx;rw[if_neg (by omega),e9,if_pos (by omega),Nat.sub_self];rfl
    ·rw[dV _ hx]
     by_cases h2:k≤x∧x<k+(l.length+1)
     ·rw[if_pos (by omega),if_pos h2,show x-k=x-(k+1)+1 by omega];rfl
     ·rw[if_neg (by omega),if_neg h2]
  intro x
  rw[key]
  by_cases hx:x<(gH svs).length
  ·rw[if_pos (by omega)];simp
  ·rw[if_neg (by omega),aqr (by omega)]
 have T4:∀x,(gH svs)[x]? ≠none→small x=true:=fun x hx=>by
  have:x<(gH svs).length:=by
   by_cases h:x<(gH svs).length
   ·exact h
   ·exact absurd (aqr (by omega)) hx
  exact gX.2 (by have:(2:Nat)^18=262144:=rfl;omega)
 have hle:∀x r,ρ x=some r→ρ2 x=some r:=fun x r hx=>by
  cases hs:small x with
  |true=>rw[eo x hs,hx]
  |false=>
   have:iV (fun _=>none) 0 (gH svs) x=none:=by
    rw[Kg]
    cases hq:(gH svs)[x]?with
    |none=>rfl
    |some o=>have:=T4 x (by rw[hq];exact fun e=>by cases e);rw[hs]at this;cases this
   rw[h1.fresh x this]at hx
   cases hx
 have dG:WR P (fun k=>k<w.heap.size) w ρ2 (cm (gH svs)) w:=by
  have ib:∀x o,cm (gH svs) x=some o→o≠ .dead→iV (fun _=>none) 0 (gH svs) x=some o∧ρ2 x=ρ x:=fun x o hx bk=>by
   cases hs:small x with
   |true=>rw[cx hs]at hx;exact⟨by rw[Kg];exact hx,eo x hs⟩
   |false=>rw[il hs]at hx;cases hx;exact absurd rfl bk
  exact
   {below:=h1.below,env:=h1.env,size:=h1.size
    live:=by
     intro x o r hx hr hl
     obtain⟨a,b⟩:=ib x o hx (by rintro rfl;cases hl)
     obtain⟨o',c1,c2,c3⟩:=h1.live x o r a (b▸hr) hl
     exact⟨o',c1,c2.mono hle,c3⟩
    inj:=by
     intro x y ox oy rx ry hx hy kN ct kO di hd he
     obtain⟨a,b⟩:=ib x ox hx (by rintro rfl;cases kO)
     obtain⟨a',b'⟩:=ib y oy hy (by rintro rfl;cases di)
     exact h1.inj x y ox oy rx ry a a' (b▸kN) (b'▸ct) kO di hd he
    fresh:=by
     intro x hx
     cases hs:small x with
     |true=>rw[cx hs]at hx;rw[eo x hs];exact h1.fresh x (by rw[Kg];exact hx)
     |false=>rw[il hs]at hx;cases hx
    rows:=by
     intro x n size row hx
     obtain⟨a,b⟩:=ib x _ hx (by intro e;cases e)
     obtain⟨r,c1,c2⟩:=h1.rows x n size row a
     exact⟨r,by rw[b];exact c1,c2⟩
    nil:=by
     intro x el ro r hx hr
     obtain⟨a,b⟩:=ib x _ hx (by intro e;cases e)
     exact h1.nil x el ro r a (b▸hr)
    named:=by
     intro x o hx bk
     obtain⟨a,b⟩:=ib x o hx bk
     rw[b]
     exact h1.named x o a bk
    abs:=h1.abs.next (fun x d hx=>ib x _ hx (by intro e;cases e)) (fun k _ a b=>⟨rfl,a,fun y o r hy hr hl=>by
     obtain⟨p,q⟩:=ib y o hy (by rintro rfl;cases hl)
     exact b y o r p (q▸hr) hl⟩) (Nat.le_refl _)}
 have gj:∀o∈gH svs,o≠ .dead:=by
  have:∀l:List SV,∀o∈gH l,o≠ .dead:=by
   intro l
   induction l with
   |nil=>intro o ho;cases ho
   |cons s l ih=>
    intro o ho
    cases s with
    |val v=>exact ih o ho
    |cells n c el=>
     rcases apx.1 ho with rfl|ho
     ·intro e;cases e
     ·exact ih o ho
    |rows n s r=>
     rcases apx.1 ho with rfl|ho
     ·intro e;cases e
     ·exact ih o ho
  exact this svs
 have AQ:∀x,x<(gH svs).length→∃r,ρ2 x=some r:=fun x hx=>by
  have hg:=apl hx
  have hs:=T4 x (by rw[hg];exact fun e=>by cases e)
  exact dG.named x _ (by rw[cx hs];exact hg) (gj _ (List.getElem_mem hx))
 refine(h _ w ρ2 w args' gK AQ ⟨h2.len,fun i v v' a b=>(h2.at_ i v v' a b).mono hle⟩ dG).mono fun e w' he=>?_
 obtain⟨r,o,ρ',q1,q2,_,q4,_⟩:=he
 exact⟨r,o,ρ',q1,q2,q4.below.below⟩
end
end Go.Proofs.YtnlkkgpcikkpoaaGreat.Vm
namespace Go.Proofs.YtnlkkgpcikkpoaaGreat.Vm
open Go.RowKit
section
variable {P:apu} {w:aps} {B:Nat→Prop}
theorem amV{d:Nat}{t:apq}{svs:List SV}(ht:P.underlying t=some .bool)(h:Mt P (d+1) t svs):∃b,svs=[.val (.bool b)]:=by
 unfold Mt at h;rw[ht]at h;exact h
theorem rh{d:Nat}{t:apq}{k:IntKind}{svs:List SV}(ht:P.underlying t=some (.int k))(h:Mt P (d+1) t svs):∃n,svs=[.val (.int k n)]∧k.min≤n∧n≤k.max:=by
 unfold Mt at h;rw[ht]at h;exact h
theorem C9{d:Nat}{t:apq}{fs:Array asI}{svs:List SV}(ht:P.underlying t=some (.struct fs))(h:Mt P (d+1) t svs):
 ∃parts:List (List SV),svs=parts.flatten∧dL (fun(f:asI) p=>Mt P d f.type p) fs.toList parts:=by
 unfold Mt at h;rw[ht]at h;exact h
theorem T5{d:Nat}{t e:apq}{svs:List SV}(ht:P.underlying t=some (.slice e))(ho:qb P e=true)(h:Mt P (d+1) t svs):
 ∃c:List ape,svs=[.cells c.length c e]∧c.length*P.bytesOf e≤reachBytes∧∀v∈c,Mt P d e [.val v]:=by
 unfold Mt at h;rw[ht]at h;dsimp only at h;rw[ho]at h;exact h
theorem T6{d:Nat}{t e:apq}{svs:List SV}(ht:P.underlying t=some (.slice e))(ho:qb P e=false)(h:Mt P (d+1) t svs):
 ∃(n:Nat) (row:Nat→List SV),svs=[.rows n (P.cellsOf e) row]∧n*P.bytesOf e≤reachBytes∧∀i,i<n→Mt P d e (row i):=by
 unfold Mt at h;rw[ht]at h;dsimp only at h;rw[ho]at h;exact h
theorem Da{α β:Type}{R:α→β→Prop}{l:List β}(h:dL R [] l):l=[]:=by cases h;rfl
theorem od{α β:Type}{R:α→β→Prop}{a:α}{qS:List α}{l:List β}(h:dL R (a::qS) l):∃b bs,l=b::bs∧R a b∧dL R qS bs:=by
 cases h with
 |cons h t=>exact⟨_,_,rfl,h,t⟩
theorem Kh{d:Nat}{t e:apq}{svs:List SV}(ht:P.underlying t=some (.slice e))(he:P.underlying e=some (.int .u8))(ho:qb P e=true)(hb:P.bytesOf e=1)(h:Mt P (d+2) t svs):
 ∃b:ByteArray,svs=[.cells b.size (ai b) e]∧b.size≤reachBytes:=by
 obtain⟨c,rfl,h1,h2⟩:=T5 ht ho h
 rw[hb,arF]at h1
 have key:∀c:List ape,(∀v∈c,Mt P (d+1) e [.val v])→∃l:List UInt8,c=l.map fun x=>apm .u8 (x.toNat:Int):=by
  intro c
  induction c with
  |nil=>intro _;exact⟨[],rfl⟩
  |cons v c ih=>
   intro hv
   obtain⟨l,rfl⟩:=ih fun v fY=>hv v (apB _ fY)
   obtain⟨n,e1,pK,kn⟩:=rh he (hv v apC)
   simp only[au9,SV.val.injEq,and_true]at e1
   subst e1
   have h0:(0:Int)≤n:=pK
   have aoJ:n≤(255:Int):=kn
   refine⟨ar6 n.toNat::l,?_⟩
   simp only[aqb]
   congr 2
   have:(ar6 n.toNat).toNat=n.toNat:=by
    rw[UInt8.toNat_ofNat']
    exact Nat.mod_eq_of_lt (by omega)
   rw[this]
   omega
 obtain⟨l,rfl⟩:=key c h2
 refine⟨⟨l.toArray⟩,?_,?_⟩
 ·have:ai ⟨l.toArray⟩=l.map fun x=>apm .u8 (x.toNat:Int):=by unfold ai;simp
  rw[this]
  congr 1
  congr 1
  show _=(l.toArray).size
  simp
 ·have:(⟨l.toArray⟩:ByteArray).size=l.length:=by show(l.toArray).size=_;simp
  rw[this];simpa using h1
theorem amW{d:Nat}{t e:apq}{svs:List SV}(ht:P.underlying t=some (.slice e))(he:P.underlying e=some (.int .i64))(ho:qb P e=true)(h:Mt P (d+2) t svs):
 ∃l:List Int,svs=[.cells l.length (aq l) e]∧l.length*P.bytesOf e≤reachBytes∧∀x∈l,apr.min≤x∧x≤apr.max:=by
 obtain⟨c,rfl,h1,h2⟩:=T5 ht ho h
 have key:∀c:List ape,(∀v∈c,Mt P (d+1) e [.val v])→∃l:List Int,c=aq l∧∀x∈l,apr.min≤x∧x≤apr.max:=by
  intro c
  induction c with
  |nil=>intro _;exact⟨[],rfl,fun s hs=>by cases hs⟩
  |cons v c ih=>
   intro hv
   obtain⟨l,rfl,hl⟩:=ih fun v fY=>hv v (apB _ fY)
   obtain⟨n,e1,h0,h1⟩:=rh he (hv v apC)
   simp only[au9,SV.val.injEq,and_true]at e1
   subst e1
   exact⟨n::l,rfl,fun x hx=>by rcases apx.1 hx with rfl|hx;exact⟨h0,h1⟩;exact hl x hx⟩
 obtain⟨l,rfl,hl⟩:=key c h2
 exact⟨l,by rw[A4],by rw[A4]at h1;exact h1,hl⟩
theorem SR.amX{n size:Nat}{row Db:Nat→List SV}{v:ape}(h:SR P w B (.rows n size row) v)(he:∀i,i<n→row i=Db i):SR P w B (.rows n size Db) v:=by
 cases h with
 |nE size row a=>exact .nE size Db a
 |rows _ _ _ b off cap c' bU fr hB hJ hl hn gY hlen u hu hr=>
  exact .rows n size Db b off cap c' bU fr hB hJ hl hn gY (fun i hi=>by rw[←he i hi];exact hlen i hi) u hu fun i k sv hi hk=>hr i k sv hi (by rw[he i hi];exact hk)
theorem T7{α:Type}{n size:Nat}{row:Nat→List SV}{v:ape}(mk:α→List SV)(d0:α)(ok:α→Prop)(hs:SR P w B (.rows n size row) v)(h:∀i,i<n→∃x,row i=mk x∧ok x):
 ∃l:List α,l.length=n∧(∀x∈l,ok x)∧SR P w B (.rows l.length size fun i=>mk (l.getD i d0)) v:=by
 let l:List α:=(arO n).map fun i=>if hi:i<n then(h i hi).choose else d0
 have hl:l.length=n:=by simp[l]
 have hg:∀i (hi:i<n),l[i]?=some (h i hi).choose:=fun i hi=>by simp[l,hi]
 refine⟨l,hl,fun x hx=>?_,?_⟩
 ·obtain⟨i,hi⟩:=aqG hx
  have fk:i<n:=by rw[←hl];exact(app.1 hi).1
  rw[hg i fk]at hi
  cases hi
  exact(h i fk).choose_spec.2
 ·rw[hl]
  refine hs.amX fun i hi=>?_
  rw[aqX,hg i hi]
  exact(h i hi).choose_spec.1
end
end Go.Proofs.YtnlkkgpcikkpoaaGreat.Vm
namespace Go.Proofs.YtnlkkgpcikkpoaaGreat
open Go Vm Go.RowKit
theorem T8{w:aps}{B:Nat→Prop}{v:ape}{svs:List SV}(h:Mt av9 10 25 svs)(hs:gz av9 w B svs [v]):
 ∃l:List Int,(∀x∈l,apr.min≤x∧x≤apr.max)∧SR av9 w B (.cells l.length (aq l) 3) v:=by
 obtain⟨l,rfl,_,h2⟩:=amW (d:=8) Tryz.underlying25 aqY (by kernel_rfl) h
 exact⟨l,h2,hs.at_ 0 _ _ rfl rfl⟩
end Go.Proofs.YtnlkkgpcikkpoaaGreat
namespace Go.Proofs.YtnlkkgpcikkpoaaGreat.Vm
open Go.RowKit
section
variable {P:apu}
theorem aE.amY{f:FuncId}{svs:List SV}{o:List ag}(k:Nat)(h:aE P f (.agg ((mo svs 0).take k).toArray::(mo svs 0).drop k) (gH svs) fun r o'=>r=.ret (.bool true)∧o'=o)(iL:Nat.ble (kY svs) 262144=true){w:aps}{fields:Array ape}{rest:List ape}
 (hk:fields.size=k)(hs:gz P w (fun k=>k<w.heap.size) svs (fields.toList++rest))(Kf:Env (fun k=>k<w.heap.size) w:=by exact fun _ _=>trivial):Calls P f (.agg fields::rest).toArray w fun e w'=>e=.returned (.bool true)∧Below w.heap.size w w':=by
 refine(aE.amU h iL (args':=(.agg fields::rest).toArray) (fun ρ hl=>?_) hs Kf).mono fun e w' he=>?_
 ·have hlen:=hl.len
  rw[apv,aro (xs:=fields),hk]at hlen
  refine⟨by simp only[ap1,List.length_drop];omega,fun i v v' a b=>?_⟩
  cases i with
  |zero=>
   cases a;cases b
   refine .agg _ _ (by rw[ap8,aro (xs:=fields)];omega) fun i v v' a b=>?_
   have a:((mo svs 0).take k)[i]?=some v:=a
   have b:fields.toList[i]?=some v':=b
   have hi:i<k:=by
    have:=(app.1 a).1
    rw[ap8]at this
    omega
   refine hl.at_ i v v' ?_ ?_
   ·rw[List.getElem?_take,if_pos hi]at a
    exact a
   ·rw[ap5 (by rw[aro (xs:=fields)];omega)]
    exact b
  |succ i=>
   refine hl.at_ (k+i) v v' ?_ ?_
   ·have a:((mo svs 0).drop k)[i]?=some v:=a
    rw[List.getElem?_drop]at a
    exact a
   ·have b:rest[i]?=some v':=b
    rw[apZ (by rw[aro (xs:=fields)];omega),aro (xs:=fields),hk]
    rw[show k+i-k=i by omega]
    exact b
 ·obtain⟨r,o,ρ',⟨rfl,_⟩,h2,h3⟩:=he
  cases e with
  |returned v'=>
   have:v'=.bool true:=VR.u0 h2
   exact⟨by rw[this],h3⟩
  |panicked chain=>cases h2
  |outgrown=>cases h2
end
end Go.Proofs.YtnlkkgpcikkpoaaGreat.Vm
namespace Go.Proofs.YtnlkkgpcikkpoaaGreat
open Go Vm Go.RowKit
theorem amZ{w:aps}{B:Nat→Prop}{v:ape}{svs:List SV}(h:Mt av9 10 31 svs)(hs:gz av9 w B svs [v]):
 ∃l:List ba,SR av9 w B (.rows l.length 5 fun i=>zb (l[i]?.getD dD)) v:=by
 obtain⟨n,row,rfl,_,hr⟩:=T6 Tryz.underlying31 (by kernel_rfl) h
 have h0:=hs.at_ 0 _ _ rfl rfl
 have e5:av9.cellsOf 30=5:=by kernel_rfl
 rw[e5]at h0
 obtain⟨l,h1,h2,h3⟩:=T7 zb dD (fun _=>True) h0 fun i hi=>by
  obtain⟨parts,e1,h1⟩:=C9 Tryz.underlying30 (hr i hi)
  obtain⟨p0,q0,rfl,a0,h1⟩:=od h1
  obtain⟨p1,q1,rfl,a1,h1⟩:=od h1
  obtain⟨p2,q2,rfl,a2,h1⟩:=od h1
  obtain rfl:=Da h1
  obtain⟨b,rfl,hb⟩:=Kh Tryz.underlying22 Tryz.underlying5 (by kernel_rfl) (by kernel_rfl) a0
  obtain⟨d,rfl⟩:=amV Tryz.underlying4 a1
  obtain⟨aoK,rfl,k1⟩:=C9 Tryz.underlying28 a2
  obtain⟨r0,t0,rfl,b0,k1⟩:=od k1
  obtain⟨r1,t1,rfl,b1,k1⟩:=od k1
  obtain⟨r2,t2,rfl,b2,k1⟩:=od k1
  obtain rfl:=Da k1
  obtain⟨c,rfl,_⟩:=rh Tryz.underlying26 b0
  obtain⟨s,rfl,_⟩:=rh aqY b1
  obtain⟨i',rfl,_⟩:=rh aqY b2
  exact⟨⟨b,d,c,s,i'⟩,e1.trans rfl,trivial⟩
 exact⟨l,h3⟩
theorem T9:∀(l:List (Int×Int)) (i k:Nat),k<2→∀v,(aD l)[i*2+k]?=some v→∃p,l[i]?=some p∧[apm .i64 p.1,apm .i64 p.2][k]?=some v
 | [],i,k,hk,v,h=>by cases h
 |p::l,0,k,hk,v,h=>by
  refine⟨p,rfl,?_⟩
  rw[show aD (p::l)=[apm .i64 p.1,apm .i64 p.2]++aD l from rfl,ate,Nat.zero_add,ap5 (by simpa using hk)]at h
  exact h
 |p::l,i+1,k,hk,v,h=>by
  rw[show aD (p::l)=[apm .i64 p.1,apm .i64 p.2]++aD l from rfl,apZ (by simp;omega)]at h
  have:=T9 l i k hk v (by rw[←h];congr 1;simp;omega)
  exact this
theorem am0(l:List (Int×Int)):(aD l).length=l.length*2:=by
 induction l with
 |nil=>rfl
 |cons p l ih=>rw[show aD (p::l)=[apm .i64 p.1,apm .i64 p.2]++aD l from rfl,apv,ih];simp;omega
theorem am1{w:aps}{B:Nat→Prop}{v:ape}{svs:List SV}(h:Mt av9 10 52 svs)(hs:gz av9 w B svs [v]):
 ∃l:List (Int×Int),SR av9 w B (.cells l.length (aD l) 77) v:=by
 obtain⟨n,row,rfl,_,hr⟩:=T6 Tryz.underlying52 (by kernel_rfl) h
 have h0:=hs.at_ 0 _ _ rfl rfl
 have e5:av9.cellsOf 77=2:=by kernel_rfl
 have es:bR av9 77=some 2:=by kernel_rfl
 rw[e5]at h0
 obtain⟨l,h1,h2,h3⟩:=T7 (fun p:Int×Int=>[.val (.int .i64 p.1),.val (.int .i64 p.2)]) (0,0) (fun _=>True) h0 fun i hi=>by
  obtain⟨parts,e1,h1⟩:=C9 Tryz.underlying77 (hr i hi)
  obtain⟨p0,q0,rfl,a0,h1⟩:=od h1
  obtain⟨p1,q1,rfl,a1,h1⟩:=od h1
  obtain rfl:=Da h1
  obtain⟨c,rfl,_⟩:=rh aqY a0
  obtain⟨s,rfl,_⟩:=rh aqY a1
  exact⟨(c,s),e1.trans rfl,trivial⟩
 clear h1 h2 h0 hr hs h
 refine⟨l,?_⟩
 generalize hn:l.length=m at h3
 cases h3 with
 |nE size row a=>
  obtain rfl:=List.eq_nil_of_length_eq_zero hn
  exact .nil _ _
 |rows n size row b off cap c' bU fr hB hb hl hc gY hlen u hu hr=>
  refine .cells _ _ _ b off cap c' bU fr hB hb (fun i v hi=>?_) (by rw[am0,hn];exact hl) hc (fun s hs=>by rw[es]at hs;cases hs;exact gY)
  have e:i=i/2*2+i%2:=by omega
  rw[e]at hi
  obtain⟨p,hp,hv⟩:=T9 l (i/2) (i%2) (by omega) v hi
  have gO:i/2<m:=by rw[←hn];exact(app.1 hp).1
  have kQ:([SV.val (.int .i64 p.1),.val (.int .i64 p.2)]:List SV)[i%2]?=some (.val v):=by
   rcases Nat.mod_two_eq_zero_or_one i with h|h<;>rw[h]at hv⊢ <;>cases hv<;>rfl
  have hq:l.getD (i/2) (0,0)=p:=by rw[aqX,hp];rfl
  have hx:=hr (i/2) (i%2) (.val v) gO (by dsimp only;rw[hq];exact kQ)
  have hy:=hu (i/2) (i%2) gO (by omega)
  cases hx with
  |val _ iE=>exact⟨iE,by rw[←hy];congr 1;omega⟩
end Go.Proofs.YtnlkkgpcikkpoaaGreat
namespace Go.Proofs.YtnlkkgpcikkpoaaGreat
open Go.ChangeShapes Go.WideShapes Go.ChangeAt Go.RowKit Go.Deep
theorem own:ownKnob av9.godebug=none:=by kernel_rfl
theorem laidOut:laidOutB av9=true:=by kernel_rfl
section
variable {H:Type} {enc:apq×ape→H} {P:apu} {w:aps} {base:Nat} {spare:Nat→Bool} {held:Bool}
theorem Ua(hl:laidOutB P=true){W W':aps}(hb:Below W.heap.size W W'):∀{ts:List apq} {vs:List ape} {ds:List (ato H)} {p:List atC},
 (∀t∈ts,P.readableRec t=true∧t<P.types.size)→auA enc P W 0 (fun _=>true) true ts vs ds p→(∀x∈p,x.block<W.heap.size)→
 auA enc P W' 0 (fun b=>decide (b<W.heap.size)) true ts vs ds p
 | [],[],[],p,_,h,_=>h
 |t::ts,v::vs,d::ds,p,ht,h,hlt=>by
  obtain⟨p1,q1,h1,h2,rfl⟩:=h
  exact⟨p1,q1,Below.trod hl (ht t (by simp)).1 (ht t (by simp)).2 h1 hb (fun x hx=>hlt x (by simp[hx])),
   Ua hl hb (fun t' h'=>ht t' (by simp[h'])) h2 (fun x hx=>hlt x (by simp[hx])),rfl⟩
 | [],_::_,_,_,_,h,_=>h.elim
 | [],[],_::_,_,_,h,_=>h.elim
 |_::_,[],_,_,_,h,_=>h.elim
 |_::_,_::_,[],_,_,h,_=>h.elim
end
end Go.Proofs.YtnlkkgpcikkpoaaGreat
