/- Part of the proof: Zso, Zsp, Sva, SvI, SvP, Shut. -/
import Derived.Test.YtnlkkgpcikkpoaaGreatJAi
import Derived.Test.YtnlkkgpcikkpoaaGreatJAd
import Derived.ProofKit
import Derived.ChangeArms
import Derived.SizedLaws
import Derived.Deep.Slices
import Derived.DataReads
import Derived.Test.YtnlkkgpcikkpoaaGreatChecked
import Derived.Test.YtnlkkgpcikkpoaaGreatJAh
import Derived.Test.YtnlkkgpcikkpoaaGreatRows
import Derived.WalkKit
import Derived.OpenShut
import Derived.ShutString
import Derived.ChangeOld
import Derived.Below
import Derived.Deep.Fields
import Derived.ChangeSame
open Array renaming getElem?_eq_some_iff→apQ,length_toList→aqZ
open Bool renaming and_eq_true→ao3
open ByteArray renaming size→aoT
open Go renaming DataW→asW,Field→ar1,MemPlace→ata,Program→ao7,TypeId→ao1,Value→aoP,World→ao4
open Go.Addr renaming add→auW
open Go.DataW renaming TrodAll→at3,trod→asr,weights→asx,weightsAll→arO,weightsEach→arZ
open Go.IntKind renaming i64→ao2,wrap→aoN
open Go.Proofs.Tryz renaming prog→aoL,underlying3→aqs
open Go.Value renaming int→aoW
open Go.World renaming cells?_some→auk
open Int renaming tmod→aqj,toNat→aoO
open List renaming drop_drop→ap2,drop_of_length_le→aqq,flatten_cons→ass,getD_eq_getElem?_getD→aqB,getElem?_append_left→apH,getElem?_append_right→apz,getElem?_eq_getElem→aoV,getElem?_eq_none→ap3,getElem?_eq_some_iff→ao0,getElem?_of_mem→aqg,isEmpty_iff→aqJ,length_append→ao5,length_cons→apC,length_take→apI,map_cons→apM,mem_append_left→aqh,mem_append_right→apW,mem_cons→ao8,mem_cons_of_mem→apc,mem_cons_self→ape,mem_map→aqv,mem_range→atN,range→arm,take→apd,take_append_drop→ap6
open List.cons renaming injEq→auE
open Nat renaming beq→ao6,eq_of_beq_eq_true→apa,le_trans→arp,mul_le_mul_right→arD,mul_one→arh,sub_zero→ara,succ_mul→asM,zero_add→aqr,zero_mul→asN
open Option renaming getD→apg,map_some→aqc
open Option.some renaming injEq→aoU
open UInt8 renaming ofNat→arH
set_option linter.unusedVariables false
set_option linter.unusedSimpArgs false
set_option maxRecDepth 100000
namespace Go.Proofs.YtnlkkgpcikkpoaaGreat
open Go Vm Go.RowKit
abbrev TJ(K N:Int)(A B:ByteArray)(l:List aK)(sc:List (Int×Int))(C:List Int)(a:Int):List aoP:=[.agg #[.int .i64 K,.int .i64 N,.slice (some ⟨0,0,none⟩) A.size A.size,.slice (some ⟨1,0,none⟩) B.size B.size],.slice (some ⟨2,0,none⟩) l.length l.length,.slice (some ⟨3,0,none⟩) sc.length sc.length,.slice (some ⟨4,0,none⟩) C.length C.length,.int .i64 a]
abbrev sV(A B:ByteArray)(l:List aK)(sc:List (Int×Int))(C:List Int):List ak:=[.cells (af A) 5 true,.cells (af B) 5 true,gL l,.cells (aG sc) 77 true,.cells (ap C) 3 true]
abbrev CL(A B:ByteArray)(l:List aK)(sc:List (Int×Int))(C:List Int)(r:bO)(o:List ak):Prop:=r=.ret (.bool true)∧o=sV A B l sc C
theorem amn{n:Nat}(hn:n=cp aoL 6)(A B:ByteArray)(s:aK)(sc:List (Int×Int))(C:List Int)(S:ad)(L:List ByteArray)(R:List Int)(H:List aq)(d:au)(hd:ca d)(hc:S.closed=false)(m:Int)(hm:m=d.files.length):
 an aoL n 5 (nE.drop 13) ⟨[(12,.pointer (some ⟨5,0,none⟩)),(13,.pointer (some ⟨6,0,none⟩)),(15,.int .i64 d.calls),(16,.int .i64 m)],sV A B [s] sc C++[.abs d,.cells (aM S 5 7 8 9) 89 false,.cells (ao L) 9 false,.cells (ap R) 3 false,.cells (aj H) 114 false]⟩
  (aJ aoL 6 n 5 (CL A B [s] sc C)):=by
 subst hn
 have pp:=bb sc
 have pH:=a7 H
 have kW:=akC S L R H d hd hc
 obtain⟨k1,k2,k3,k4⟩:=akz hd
 rw[←hm]at k2
 generalize kp (fU d) (0,d)=r at*
 obtain⟨e,d2⟩:=r
 dsimp only at*
 have TK:(au.calls d2 != aoN .i64 (au.calls d+m))=false:=by rw[k2];simp
 have rest:an aoL (cp aoL 6) 5 (re.drop 3) (CK A B s sc C S L R H d (kT S) d2 e m) (aJ aoL 6 (cp aoL 6) 5 (CL A B [s] sc C)):=by
  refine an.Pd 3 (c:=120) (by kernel_rfl) (by rfl) (by rfl) (by kernel_rfl) ?_
  rw[ap2]
  apply amm A B s sc C (kT S) L R H d2 m d.calls pp pH (akB (kT S) L R H d2 rfl) rfl rfl
  case n0=>exact e8 rfl rfl
  case aX=>simp
  case bh=>simp
  case bD=>exact pp
  case bx=>simp
  case l5=>intro _;exact amk A B s sc C (kT S) L R H d2 m d.calls ⟨rfl,rfl⟩
  case l6=>intro h;rw[k2]at h;simp at h
 apply ami A B s sc C S L R H d (kT S) d2 e m pp pH kW rfl
 case n0=>exact e8 rfl rfl
 case n1=>exact nl.2 k1
 case aX=>simp
 case bh=>simp
 case bD=>exact pp
 case bx=>simp
 case lj=>simp
 case Ie=>simp
 case amj=>exact pH
 case l9=>intro _ h;rw[TK]at h;cases h
 case jU=>
  intro h0 _ h
  rw[k4.2 (aqJ.1 h0)]at h
  exact absurd h (by decide)
 case gJ=>intro _ _ _;exact rest
 case jS=>intro _ h;rw[TK]at h;cases h
 case lr=>
  intro h0 _ h
  have bu:d2.files≠[]:=fun x=>by rw[x]at h0;cases h0
  have he:e≠0:=fun x=>bu (k4.1 x)
  have hl:((d2.files.length:Int)==0)=false:=by
   cases hf:d2.files with
   |nil=>exact absurd hf bu
   |cons a b=>simp;omega
  rw[hl,show(e==0)=false by simpa using he]at h
  exact absurd h (by decide)
 case uE=>
  intro _ _ _ h
  have he:e=25:=k3.resolve_left (by simpa using h)
  have:JW A B s sc C S L R H d (kT S) d2 e m=CK A B s sc C S L R H d (kT S) d2 e m:=by
   unfold JW CK
   rw[he]
   rfl
  rw[this]
  exact rest
 case Co=>
  intro h0 _ _ h
  have he:e=0:=by simpa using h
  rw[k4.1 he]at h0
  cases h0
theorem amo{n:Nat}(hn:n=cp aoL 6)(A B:ByteArray)(s t:aK)(sc:List (Int×Int))(C:List Int)(f:Bool)(ht:t.bytes=s.bytes.extract 0 t.bytes.size)(hle:t.bytes.size≤s.bytes.size)(hs:s.bytes.size≤4500)(iy:sc.length≤100)(hC:C.length≤3000):
 an aoL n 5 (nE.drop 10) ⟨[(3,.slice (some ⟨4,0,none⟩) C.length C.length),(11,.slice (some ⟨5,0,none⟩) 1 1),(12,.pointer (some ⟨6,0,none⟩)),(13,.pointer (some ⟨7,0,none⟩))],
  sV A B [s] sc C++[.cells (kq t s.bytes 8) 30 false,.abs (mS sc),.cells (aM (sP f) 6 9 10 11) 89 false,.cells (af s.bytes) 5 false,.cells (ao []) 9 false,.cells (ap []) 3 false,.cells (aj []) 114 false]⟩
  (aJ aoL 6 n 5 (CL A B [s] sc C)):=by
 have hx:=SF f (sc:=sc) (by omega)
 have nr:=ak4 (zb f sc) t s.bytes C hx rfl (by omega) ht hle hs hC
 have m9:=aj2 f sc t C (by omega) (by omega) p9
 generalize jF t C p9 0 (od (zb f sc))=g at nr m9
 obtain⟨⟨S,L,R,H,d⟩,o,nd,er,hd,k,w⟩:=g
 obtain⟨fJ,eh⟩:=m9
 dsimp only at fJ eh
 have pp:=bb sc
 have pH:=a7 H
 have hu:=amn hn A B s sc C S L R H d fJ eh
 subst hn
 apply amc A B s sc C t s.bytes f S L R H d o nd er hd k pp pH nr
 case n1=>exact nl.2 fJ
 all_goals first|(intro h;rw[ap2];exact hu _ (by rw[aqJ.1 h];rfl))|(intro h;rw[ap2];exact hu _ rfl)|exact pp|exact pH|(simp;done)
theorem amp(pn:Int)(A B:ByteArray)(s:aK)(sc:List (Int×Int))(C:List Int)(av:Int)(hv:gS A B [s] sc C=false)
 (wR:aI aoL 31 (CH 11 pn A B) (sU A B) fun r o=>r=.ret (.int .i64 0)∧o=sU A B)(hp:A.size=0∧B.size=0∧0≤pn∧pn≤1):
 aI aoL 6 (TJ 11 pn A B [s] sc C av) (sV A B [s] sc C) fun r o=>r=.ret (.bool true)∧o=sV A B [s] sc C:=by
 have hL:=SD hv
 have hs:s.bytes.size≤4500:=hL.each s (by simp)
 have iy:=hL.SB
 have wQ:=alr pn A B hL.az hL.bz hp.1 hp.2.1 hp.2.2.1 hp.2.2.2
 have oJ:=alN sc true (by omega)
 have pp:=bb sc
 have hw:aoN .i64 (((0+aoT (aK.bytes (apg [s][0]? dM)):Nat):Int)+1)=(s.bytes.size:Int)+1:=by
  show aoN .i64 (((0+s.bytes.size:Nat):Int)+1)=_
  rw[aqr]
  exact bL (by omega) (by omega)
 have rV:0≤aqj (if 0>av then 0 else av) ((s.bytes.size:Int)+1)∧aqj (if 0>av then 0 else av) ((s.bytes.size:Int)+1)<(s.bytes.size:Int)+1:=by
  refine⟨Int.tmod_nonneg _ (by split<;>omega),Int.tmod_lt_of_pos _ (by omega)⟩
 have hb:([]:List aoP)++apd (aoT (aK.bytes (apg [s][0]? dM))*1) (af (aK.bytes (apg [s][0]? dM)))=af s.bytes:=by
  show apd (s.bytes.size*1) (af s.bytes)=_
  rw[List.take_of_length_le (by rw[mH];omega)]
 have hz:0+aoT (aK.bytes (apg [s][0]? dM))-0=s.bytes.size:=aqr _
 have body:∀(b:Bool) (d:ai),d=⟨[(3,.slice (some ⟨4,0,none⟩) C.length C.length),(11,.slice (some ⟨5,0,none⟩) 1 1),(12,.pointer (some ⟨6,0,none⟩)),(13,.pointer (some ⟨7,0,none⟩))],
       sV A B [s] sc C++[.cells (kq ⟨s.bytes.extract 0 (aoO (aqj (if 0>av then 0 else av) ((s.bytes.size:Int)+1))),b,s.code,s.ir,s.id⟩ s.bytes 8) 30 false,.abs (mS sc),.cells (Hz (sP (pn==1)) 6 (.slice none 0 0) (.slice none 0 0) (.slice none 0 0)) 89 false,.cells (af s.bytes) 5 false]⟩→
  an aoL (cp aoL 6) 5 (nE.drop 10) d (aJ aoL 6 (cp aoL 6) 5 (CL A B [s] sc C)):=by
  intro b d hd
  subst hd
  have cd:=extract_size s.bytes 0 (aoO (aqj (if 0>av then 0 else av) ((s.bytes.size:Int)+1))) (by omega)
  rw[ara]at cd
  have h:=amo rfl A B s ⟨s.bytes.extract 0 (aoO (aqj (if 0>av then 0 else av) ((s.bytes.size:Int)+1))),b,s.code,s.ir,s.id⟩ sc C (pn==1) (by dsimp only;rw[cd]) (by dsimp only;omega) hs iy hL.SC
  refine an.nh 7 71 9 (s:=1) (by kernel_rfl) rfl rfl (by rfl) rfl ?_
  refine an.nh 7 73 3 (s:=1) (by kernel_rfl) rfl rfl (by rfl) rfl ?_
  refine an.nh 7 74 114 (s:=4) (by kernel_rfl) rfl rfl (by rfl) rfl ?_
  exact h
 refine aI.cY (n:=cp aoL 6) (by kernel_rfl) ?_
 apply al3 pn A B sc C av s pp wQ wR oJ hv hs
 case n0=>exact e8 rfl rfl
 case n1=>exact e8 rfl rfl
 case n2=>exact rX (aB (aH _) _)
 case n3=>rw[hw];simp;omega
 case n4=>rw[hw];exact decide_eq_true rV.1
 case n5=>rw[hw];exact Nat.ble_eq_true_of_le (by show _≤0+s.bytes.size;omega)
 case n6=>intro _;exact e8 rfl rfl
 case n12=>intro _;exact e8 rfl rfl
 case aX=>simp
 case bh=>simp
 case bD=>exact pp
 case bx=>simp
 case gJ=>
  intro _
  refine body (aqj av 3==0) _ ?_
  unfold TG kq
  rw[hb,hz,hw,ara,extract_size _ _ _ (by omega)]
  rfl
 case lr=>
  intro _
  refine body false _ ?_
  unfold TH kq
  rw[hb,hz,hw,ara,extract_size _ _ _ (by omega)]
  rfl
theorem amq(A B:ByteArray)(K N:Int)(l:List aK)(sc:List (Int×Int))(C:List Int)(a:Int):
 aI aoL 6 (TJ K N A B l sc C a) (sV A B l sc C) fun r o=>r=.ret (.bool true)∧o=sV A B l sc C:=by
 have pp:=bb sc
 cases hv:gS A B l sc C with
 |true=>
  refine aI.cY (n:=cp aoL 6) (by kernel_rfl) ?_
  apply alU K N A B l sc C a pp hv
  case n0=>exact e8 rfl rfl
  case aX=>simp
  case bh=>simp
  case bD=>exact pp
  case bx=>simp
  case l5=>exact alT K N A B l sc C a ⟨rfl,rfl⟩
 |false=>
  have hL:=SD hv
  obtain⟨e,ko,he⟩:=alq K N A B hL.az hL.bz
  by_cases h0:e=0
  ·by_cases hK:K=11
   ·subst h0 hK
    by_cases h1:l.length=1
    ·obtain⟨s,rfl⟩:∃s,l=[s]:=List.length_eq_one_iff.1 h1
     exact amp N A B s sc C a hv ko (he rfl rfl)
    ·refine aI.cY (n:=cp aoL 6) (by kernel_rfl) ?_
     apply al2 N A B l sc C a 0 pp ko hv h1
     case n0=>exact e8 rfl rfl
     case n1=>exact e8 rfl rfl
     case aX=>simp
     case bh=>simp
     case bD=>exact pp
     case bx=>simp
     case l6=>intro _;exact al0 N A B l sc C a 0 ⟨rfl,rfl⟩
     case l7=>intro _;exact al1 N A B l sc C a 0 ⟨rfl,rfl⟩
   ·refine aI.cY (n:=cp aoL 6) (by kernel_rfl) ?_
    apply alZ K N A B l sc C a e pp ko hv hK
    case n0=>exact e8 rfl rfl
    case n1=>exact e8 rfl rfl
    case aX=>simp
    case bh=>simp
    case bD=>exact pp
    case bx=>simp
    case l6=>intro _;exact alX K N A B l sc C a e ⟨rfl,rfl⟩
    case l7=>intro _;exact alY K N A B l sc C a e ⟨rfl,rfl⟩
  ·refine aI.cY (n:=cp aoL 6) (by kernel_rfl) ?_
   apply alW K N A B l sc C a e pp ko hv h0
   case n0=>exact e8 rfl rfl
   case n1=>exact e8 rfl rfl
   case aX=>simp
   case bh=>simp
   case bD=>exact pp
   case bx=>simp
   case l6=>exact alV K N A B l sc C a e ⟨rfl,rfl⟩
end Go.Proofs.YtnlkkgpcikkpoaaGreat
namespace Go.Proofs.YtnlkkgpcikkpoaaGreat.Vm
open Go.RowKit Go.Deep
section
variable {P:ao7}
def wT(P:ao7):List ar1→Nat→Nat→Bool
 | [],off,nu=>ao6 off nu
 |f::l,off,nu=>ao6 f.offset off&&wT P l (off+P.cellsOf f.type) nu
def wU(P:ao7):Nat→ao1→Bool
 |0,_=>false
 |d+1,t=>match P.underlying t with
  |some .bool|some (.int _)|some .string=>true
  |some (.slice e)=>wU P d e&&Nat.blt 0 (P.cellsOf e)
  |some (.struct fs)=>wT P fs.toList 0 (P.cellsOf t)&&fs.toList.all fun f=>wU P d f.type
  |some (.array n e)=>wU P d e&&ao6 (n*P.cellsOf e) (P.cellsOf t)
  |_=>false
def qc(P:ao7)(e:ao1):Bool:=match P.underlying e with
 |some .bool|some (.int _)|some .string=>ao6 (P.cellsOf e) 1
 |_=>false
def Mt(P:ao7):Nat→ao1→List SV→Prop
 |0,_,_=>False
 |d+1,t,svs=>match P.underlying t with
  |some .bool=>∃b,svs=[.val (.bool b)]
  |some (.int k)=>∃n,svs=[.val (.int k n)]∧k.min≤n∧n≤k.max
  |some .string=>∃s:ByteArray,svs=[.val (.string s)]∧s.size≤reachBytes
  |some (.slice e)=>match qc P e with
   |true=>∃c:List aoP,svs=[.cells c.length c e]∧c.length*P.bytesOf e≤reachBytes∧∀v∈c,Mt P d e [.val v]
   |false=>∃(n:Nat) (row:Nat→List SV),svs=[.rows n (P.cellsOf e) row]∧n*P.bytesOf e≤reachBytes∧∀i,i<n→Mt P d e (row i)
  |some (.struct fs)=>∃parts:List (List SV),svs=parts.flatten∧dQ (fun(f:ar1) p=>Mt P d f.type p) fs.toList parts
  |some (.array n e)=>∃parts:List (List SV),svs=parts.flatten∧parts.length=n∧∀p∈parts,Mt P d e p
  |_=>False
variable {H:Type} {enc:ao1×aoP→H} {w:ao4} {B:Nat→Prop}
theorem gv.append{a b:List SV}{a' b':List aoP}(h:gv P w B a a')(h':gv P w B b b'):gv P w B (a++b) (a'++b'):=by
 refine⟨by simp[h.len,h'.len],fun i s v hs hv=>?_⟩
 by_cases hi:i<a.length
 ·rw[apH hi]at hs
  rw[apH (by rw[←h.len];exact hi)]at hv
  exact h.at_ i s v hs hv
 ·rw[apz (by omega)]at hs
  rw[apz (by rw[←h.len];omega),←h.len]at hv
  exact h'.at_ _ s v hs hv
theorem gv.nil:gv P w B [] []:=⟨rfl,fun i s v h=>by simp at h⟩
theorem gv.one{s:SV}{v:aoP}(h:SR P w B s v):gv P w B [s] [v]:=⟨rfl,fun i s' v' h1 h2=>by
 cases i with
 |zero=>simp at h1 h2;subst h1 h2;exact h
 |succ i=>simp at h1⟩
theorem TL(b off j:Nat):(⟨b,off,none⟩:Addr).add j=⟨b,off+j,none⟩:=by
 unfold auW
 by_cases h:j=0
 ·rw[if_pos h,h];rfl
 ·rw[if_neg h]
theorem TM{b o:Nat}{v:aoP}(h:w.cell? ⟨b,o,none⟩=some v):∃c el fr,w.heap[b]?=some (.cells c el fr)∧c[o]?=some v:=by
 unfold World.cell? at h
 dsimp only at h
 split at h
 ·rename_i c el fr hb
  exact⟨c,el,fr,hb,by simpa using h⟩
 ·cases h
theorem TN{α β:Type}{f:α→Option β}{a:α}{l:List α}{r:List β}(h:(a::l).mapM f=some r):∃b r',f a=some b∧l.mapM f=some r'∧r=b::r':=by
 simp only[List.mapM_cons,Option.bind_eq_bind,Option.bind_eq_some_iff,Option.pure_def,aoU]at h
 obtain⟨b,h1,r',h2,h3⟩:=h
 exact⟨b,r',h1,h2,h3.symm⟩
theorem sW(hB:∀b,b<w.heap.size→B b):∀(d:Nat) (t:ao1) (gO:Nat) (cs:List aoP) (x:asW H×List ata),wU P d t=true→
 asr enc P w 0 (fun _=>true) true gO t cs=some x→(∀n∈x.1.weights P t,n≤reachBytes)→∃svs,gv P w B svs cs∧Mt P d t svs
 |0,t,gO,cs,x,hp,h,hw=>by cases hp
 |d+1,t,gO,cs,x,hp,h,hw=>by
  unfold wU at hp
  unfold Mt
  split at hp
  ·rename_i ht
   obtain⟨b,rfl,rfl⟩:=DataW.trod_bool ht h
   exact⟨_,.one (.val _ rfl),b,rfl⟩
  ·rename_i k ht
   obtain⟨n,rfl,rfl,sF⟩:=DataW.trod_int ht h
   simp only[Lit.wf,ao3,decide_eq_true_eq]at sF
   exact⟨_,.one (.val _ rfl),n,rfl,sF⟩
  ·rename_i ht
   obtain⟨s,rfl,rfl,hs⟩:=DataW.trod_string ht h
   refine⟨_,.one (.val _ rfl),s,rfl,?_⟩
   have:=hw s.data.toList.length (by unfold asx;simp)
   simpa using this
  ·rename_i e ht
   simp only[ao3]at hp
   obtain⟨wo,hc⟩:=hp
   have hc:=dV.1 hc
   rcases open_slice ht h with⟨rfl,rfl⟩|⟨a,len,cap,m,n,D,Pl,rfl,_,xO,aog,hm,rfl,hi⟩
   ·cases ho:qc P e with
    |true=>exact⟨_,.one (.nil e none),[],rfl,by simp,by simp⟩
    |false=>exact⟨_,.one (.nI (P.cellsOf e) (fun _=>[]) none),0,fun _=>[],rfl,by simp,by simp⟩
   ·have hm:m=cap:=by simpa using hm
    subst hm
    have HM:∀i,i<m→∀q∈(D i).weights P e,q≤reachBytes:=fun i gN q hq=>by
     refine hw q ?_
     unfold asx
     rw[ht]
     refine apc _ ?_
     have mem:∀{ds:List (asW H)} {d:asW H},d∈ds→q∈d.weights P e→q∈arO P e ds:=by
      intro ds
      induction ds with
      |nil=>intro d hd;cases hd
      |cons d0 ds ih=>
       intro d hd hq
       unfold arO
       rcases ao8.1 hd with rfl|hd
       ·exact aqh _ hq
       ·exact apW _ (ih hd hq)
     by_cases hl:i<len
     ·exact aqh _ (mem (aqv.2 ⟨i,atN.2 hl,rfl⟩) hq)
     ·exact apW _ (mem (aqv.2 ⟨i-len,atN.2 (by omega),by congr 1;omega⟩) hq)
    have Cz:len*P.bytesOf e≤reachBytes:=by
     have:=hw ((len+(m-len))*P.bytesOf e) (by unfold asx;rw[ht];simp)
     exact arp (arD _ (by omega)) this
    by_cases rV:m=0
    ·obtain rfl:len=0:=by omega
     subst rV
     cases ho:qc P e with
     |true=>exact⟨_,.one (.nil e (some a)),[],rfl,by simp,by simp⟩
     |false=>exact⟨_,.one (.nI (P.cellsOf e) (fun _=>[]) (some a)),0,fun _=>[],rfl,by simp,by simp⟩
    ·-- the block
     have pt:∀i,i<m→∀k,k<P.cellsOf e→∃v,w.cell? ((a.add (i*P.cellsOf e)).add k)=some v:=fun i gN k hk=>by
      obtain⟨ix,h1,_⟩:=hi i gN
      obtain⟨_,h2,h3⟩:=auk h1
      rw[h3 k hk]
      exact⟨_,aoV (by omega)⟩
     obtain⟨b,off,spot⟩:=a
     have amr:spot=none:=by
      obtain⟨v,hv⟩:=pt 0 (by omega) 0 hc
      have:=World.cell?_spot hv
      rw[asN]at this
      unfold auW at this
      rw[if_pos rfl,if_pos rfl]at this
      exact this
     subst amr
     have JY:∀i k,(((⟨b,off,none⟩:Addr).add (i*P.cellsOf e)).add k)=⟨b,off+i*P.cellsOf e+k,none⟩:=fun i k=>by rw[TL,TL]
     obtain⟨c',b8,fr,wD,-⟩:∃c el fr,w.heap[b]?=some (.cells c el fr)∧True:=by
      obtain⟨v,hv⟩:=pt 0 (by omega) 0 hc
      rw[JY]at hv
      obtain⟨c,el,fr,h1,_⟩:=TM hv
      exact⟨c,el,fr,h1,trivial⟩
     have cn:∀i,i<m→∀k,k<P.cellsOf e→∃v,w.cell? ⟨b,off+i*P.cellsOf e+k,none⟩=some v∧c'[off+i*P.cellsOf e+k]?=some v:=fun i gN k hk=>by
      obtain⟨v,hv⟩:=pt i gN k hk
      rw[JY]at hv
      obtain⟨c,el,aoh,h1,h2⟩:=TM hv
      rw[wD]at h1
      cases h1
      exact⟨v,hv,h2⟩
     have uL:off+m*P.cellsOf e≤c'.size:=by
      obtain⟨v,_,hv⟩:=cn (m-1) (by omega) (P.cellsOf e-1) (by omega)
      have:=(apQ.1 hv).1
      have e1:(m-1)*P.cellsOf e+P.cellsOf e=m*P.cellsOf e:=by
       conv=>rhs;rw[show m=(m-1)+1 by omega,asM]
      omega
     have CD:b<w.heap.size:=(apQ.1 wD).1
     have cd:∀s,b7 P e=some s→s=P.cellsOf e:=fun s hs=>by
      unfold b7 at hs
      unfold Program.cellsOf
      rw[hs];rfl
     have kP:∀i,i<m→∃svs ix,gv P w B svs ix∧Mt P d e svs∧ix.length=P.cellsOf e∧∀k v,ix[k]?=some v→c'[off+i*P.cellsOf e+k]?=some v:=fun i gN=>by
      obtain⟨ix,h1,h2⟩:=hi i gN
      obtain⟨_,h3,h4⟩:=auk h1
      obtain⟨svs,h5,h6⟩:=sW hB d e n ix _ wo h2 (HM i gN)
      refine⟨svs,ix,h5,h6,h3,fun k v hv=>?_⟩
      have hk:k<P.cellsOf e:=by rw[←h3];exact(ao0.1 hv).1
      obtain⟨u,vb,tl⟩:=cn i gN k hk
      rw[←JY,h4 k hk,hv]at vb
      cases vb
      exact tl
     cases ho:qc P e with
     |true=>
      have h1:P.cellsOf e=1:=by
       unfold qc at ho
       split at ho<;>first|exact apa ho|cases ho
      have key:∀i,i<m→∃v,ag v=true∧Mt P d e [.val v]∧c'[off+i]?=some v:=fun i gN=>by
       obtain⟨svs,ix,g1,g2,g3,g4⟩:=kP i gN
       rw[h1]at g3 g4
       obtain⟨v,rfl⟩:∃v,ix=[v]:=by
        match ix,g3 with
        | [v],_=>exact⟨v,rfl⟩
       have hv:=g4 0 v rfl
       rw[arh,Nat.add_zero]at hv
       have hl:=g1.len
       obtain⟨s,rfl⟩:∃s,svs=[s]:=by
        match svs,hl with
        | [s],_=>exact⟨s,rfl⟩
       have hs:=g1.at_ 0 s v rfl rfl
       have JZ:=g2
       cases d with
       |zero=>cases wo
       |succ d=>
        unfold Mt at g2
        unfold qc at ho
        split at ho
        ·rename_i qb
         rw[qb]at g2
         obtain⟨b',e1⟩:=g2
         cases e1
         cases hs
         exact⟨_,rfl,JZ,hv⟩
        ·rename_i qb
         rw[qb]at g2
         obtain⟨b',e1,_⟩:=g2
         cases e1
         cases hs
         exact⟨_,rfl,JZ,hv⟩
        ·rename_i qb
         rw[qb]at g2
         obtain⟨b',e1,_⟩:=g2
         cases e1
         cases hs
         exact⟨_,rfl,JZ,hv⟩
        ·cases ho
      let c:List aoP:=(arm len).map fun i=>if hi:i<m then(key i hi).choose else undef
      have eh:c.length=len:=by simp[c]
      have TP:∀i v,c[i]?=some v→∃hi:i<m,v=(key i hi).choose:=fun i v hv=>by
       have qu:i<len:=by rw[←eh];exact(ao0.1 hv).1
       have gN:i<m:=by omega
       refine⟨gN,?_⟩
       simp only[c,List.getElem?_map,List.getElem?_range qu,aqc,aoU]at hv
       rw[dif_pos gN]at hv
       exact hv.symm
      refine⟨[.cells c.length c e],.one ?_,c,rfl,by rw[eh];exact Cz,fun v hv=>?_⟩
      ·have:SR P w B (.cells len c e) (.slice (some ⟨b,off,none⟩) len m):=.cells len c e b off m c' b8 fr (hB b CD) wD (fun i v hv=>by
        obtain⟨gN,rfl⟩:=TP i v hv
        obtain⟨k1,k2,k3⟩:=(key i gN).choose_spec
        exact⟨k1,k3⟩) (by rw[eh];rw[h1]at uL;omega) xO (fun s hs=>by rw[cd s hs];exact uL)
       rw[eh]
       exact this
      ·obtain⟨i,hi⟩:=aqg hv
       obtain⟨gN,rfl⟩:=TP i v hi
       exact(key i gN).choose_spec.2.1
     |false=>
      let row:Nat→List SV:=fun i=>if hi:i<m then(kP i hi).choose else[]
      have hr:∀i (hi:i<m),row i=(kP i hi).choose:=fun i hi=>by simp[row,hi]
      have tN:∀i,i<m→∃ix,gv P w B (row i) ix∧Mt P d e (row i)∧ix.length=P.cellsOf e∧∀k v,ix[k]?=some v→c'[off+i*P.cellsOf e+k]?=some v:=fun i hi=>by
       rw[hr i hi];exact(kP i hi).choose_spec
      let u:Nat→Nat→aoP:=fun i k=>(c'[off+i*P.cellsOf e+k]?).getD undef
      refine⟨[.rows len (P.cellsOf e) row],.one (.rows len (P.cellsOf e) row b off m c' b8 fr (hB b CD) wD (arp (Nat.add_le_add_left (arD _ xO) _) uL) xO uL (fun i hi=>?_) u (fun i k hi hk=>?_) fun i k sv hi hk=>?_),len,row,rfl,Cz,fun i hi=>?_⟩
      ·obtain⟨ix,g1,g2,g3,g4⟩:=tN i (by omega)
       rw[g1.len,g3]
      ·obtain⟨v,_,hv⟩:=cn i (by omega) k hk
       show _=some ((c'[off+i*P.cellsOf e+k]?).getD undef)
       rw[hv];rfl
      ·obtain⟨ix,g1,g2,g3,g4⟩:=tN i (by omega)
       have xG:k<ix.length:=by rw[←g1.len];exact(ao0.1 hk).1
       have hv:=g4 k _ (aoV xG)
       have:u i k=ix[k]:=by show(c'[off+i*P.cellsOf e+k]?).getD undef=_;rw[hv];rfl
       rw[this]
       exact g1.at_ k sv _ hk (aoV xG)
      ·obtain⟨ix,g1,g2,g3,g4⟩:=tN i (by omega)
       exact g2
  ·rename_i fs ht
   simp only[ao3]at hp
   obtain⟨ams,kE⟩:=hp
   cases gO with
   |zero=>cases h
   |succ gO=>
    unfold asr at h
    simp only[ht]at h
    split at h
    ·rename_i hlen
     cases pk:(fs.toList.mapM fun f=>asr enc P w 0 (fun _=>true) true gO f.type ((cs.drop f.offset).take (P.cellsOf f.type)))with
     |none=>rw[pk]at h;cases h
     |some xs=>
      rw[pk]at h
      simp only[aqc,aoU]at h
      subst h
      have gV:∀n∈arZ P (fs.toList.map (·.type)) (xs.map (·.1)),n≤reachBytes:=fun n hn=>hw n (by unfold asx;rw[ht];exact hn)
      have key:∀(l:List ar1) (off:Nat) (xs:List (asW H×List ata)),wT P l off (P.cellsOf t)=true→(l.all fun f=>wU P d f.type)=true→
       (l.mapM fun f=>asr enc P w 0 (fun _=>true) true gO f.type ((cs.drop f.offset).take (P.cellsOf f.type)))=some xs→
       (∀n∈arZ P (l.map (·.type)) (xs.map (·.1)),n≤reachBytes)→off≤cs.length→
       ∃parts:List (List SV),gv P w B parts.flatten (cs.drop off)∧dQ (fun(f:ar1) p=>Mt P d f.type p) l parts:=by
       intro l
       induction l with
       |nil=>
        intro off xs sQ _ _ _ amt
        have:=apa sQ
        refine⟨[],?_,.nil⟩
        rw[aqq (by omega)]
        exact .nil
       |cons f l ih=>
        intro off xs sQ pv hm qY amt
        simp only[wT,ao3]at sQ
        simp only[List.all_cons,ao3]at pv
        obtain⟨x0,jJ,nL,iX,rfl⟩:=TN hm
        have e0:=apa sQ.1
        rw[e0]at nL
        have amu:off+P.cellsOf f.type≤cs.length:=by
         have:∀(l:List ar1) (o nu:Nat),wT P l o nu=true→o≤nu:=by
          intro l
          induction l with
          |nil=>intro o nu h;exact Nat.le_of_eq (apa h)
          |cons f l ih=>intro o nu h;simp only[wT,ao3]at h;have:=ih _ _ h.2;omega
         have:=this _ _ _ sQ.2
         omega
        obtain⟨svs,s1,s2⟩:=sW hB d f.type gO _ _ pv.1 nL (fun n hn=>qY n (by
         simp only[apM,arZ]
         exact aqh _ hn))
        obtain⟨parts,p1,p2⟩:=ih (off+P.cellsOf f.type) jJ sQ.2 pv.2 iX (fun n hn=>qY n (by
         simp only[apM,arZ]
         exact apW _ hn)) amu
        refine⟨svs::parts,?_,.cons s2 p2⟩
        have e1:cs.drop off=(cs.drop off).take (P.cellsOf f.type)++cs.drop (off+P.cellsOf f.type):=by
         rw[←ap2,ap6]
        rw[ass,e1]
        exact s1.append p1
      obtain⟨parts,p1,p2⟩:=key fs.toList 0 xs ams kE pk gV (Nat.zero_le _)
      exact⟨parts.flatten,by simpa using p1,parts,rfl,p2⟩
    ·cases h
  ·rename_i n e ht
   simp only[ao3]at hp
   obtain⟨wo,hc⟩:=hp
   have hc:=apa hc
   cases gO with
   |zero=>cases h
   |succ gO=>
    unfold asr at h
    simp only[ht]at h
    split at h
    ·rename_i hlen
     cases pk:((arm n).mapM fun i=>asr enc P w 0 (fun _=>true) true gO e ((cs.drop (i*P.cellsOf e)).take (P.cellsOf e)))with
     |none=>rw[pk]at h;cases h
     |some xs=>
      rw[pk]at h
      simp only[aqc,aoU]at h
      subst h
      have gV:∀q∈arO P e (xs.map (·.1)),q≤reachBytes:=fun q hq=>hw q (by unfold asx;rw[ht];exact hq)
      have key:∀(k o:Nat) (xs:List (asW H×List ata)),o+k=n→
       ((List.range' o k).mapM fun i=>asr enc P w 0 (fun _=>true) true gO e ((cs.drop (i*P.cellsOf e)).take (P.cellsOf e)))=some xs→
       (∀q∈arO P e (xs.map (·.1)),q≤reachBytes)→
       ∃parts:List (List SV),gv P w B parts.flatten (cs.drop (o*P.cellsOf e))∧parts.length=k∧∀p∈parts,Mt P d e p:=by
       intro k
       induction k with
       |zero=>
        intro o xs ho _ _
        refine⟨[],?_,rfl,fun p hp=>by cases hp⟩
        have ho:o=n:=by omega
        rw[aqq (by rw[hlen,←hc,ho];omega)]
        exact .nil
       |succ k ih=>
        intro o xs ho hm qY
        rw[List.range'_succ]at hm
        obtain⟨x0,jJ,nL,iX,rfl⟩:=TN hm
        obtain⟨svs,s1,s2⟩:=sW hB d e gO _ _ wo nL (fun q hq=>qY q (by
         simp only[apM,arO]
         exact aqh _ hq))
        obtain⟨parts,p1,p2,p3⟩:=ih (o+1) jJ (by omega) iX (fun q hq=>qY q (by
         simp only[apM,arO]
         exact apW _ hq))
        refine⟨svs::parts,?_,by simp[p2],fun p hp=>?_⟩
        ·have e1:cs.drop (o*P.cellsOf e)=(cs.drop (o*P.cellsOf e)).take (P.cellsOf e)++cs.drop ((o+1)*P.cellsOf e):=by
          rw[asM,←ap2,ap6]
         rw[ass,e1]
         exact s1.append p1
        ·rcases ao8.1 hp with rfl|hp
         ·exact s2
         ·exact p3 p hp
      obtain⟨parts,p1,p2,p3⟩:=key n 0 xs (by omega) (by rw[←List.range_eq_range'];exact pk) gV
      exact⟨parts.flatten,by simpa using p1,parts,rfl,p2,p3⟩
    ·cases h
  ·cases hp
termination_by d=>d
theorem aI.amv{f:FuncId}{svs:List SV}{ig:List aoP}{Q:bO→List ak→Prop}(h:aI P f ig (gF svs) Q)(jb:Nat.ble (kV svs) 262144=true){w:ao4}{args':Array aoP}{TQ:List aoP}
 (hv:∀ρ,LR ρ (ml svs 0) TQ→LR ρ ig args'.toList)
 (hs:gv P w (fun k=>k<w.heap.size) svs TQ)(J0:Env (fun k=>k<w.heap.size) w:=by exact fun _ _=>trivial):Calls P f args' w fun e w'=>∃r o ρ',Q r o∧CR ρ' r e∧Below w.heap.size w w':=by
 have jb:=Nat.le_of_ble_eq_true jb
 obtain⟨ρ,_,h1,h2⟩:=xx (k:=0) (g:=fun _=>none) hs (WR.start (P:=P) w J0) (fun _ _=>rfl)
 have h2:=hv _ h2
 let ρ2:Ren:=fun x=>match small x with
  |true=>ρ x
  |false=>some (vp (x-262144))
 have eE:∀x,small x=true→ρ2 x=ρ x:=fun x h=>by show(match small x with|true=>_|false=>_)=_;rw[h]
 have la:∀x,small x=false→ρ2 x=some (vp (x-262144)):=fun x h=>by show(match small x with|true=>_|false=>_)=_;rw[h]
 have gI:Full ρ2:=fun q=>by
  obtain⟨n,h⟩:=Mb q
  exact⟨n+262144,AC n,by rw[la _ (AC n)];simp[h]⟩
 have hlen:=rC svs
 have J1:∀x,iP (fun _=>none) 0 (gF svs) x=(gF svs)[x]? :=by
  have key:∀(l:List ak) (g:Nat→Option ak) (k x:Nat),iP g k l x=if k≤x∧x<k+l.length then l[x-k]?else g x:=by
   intro l
   induction l with
   |nil=>intro g k x;rw[if_neg (by simp only[List.length_nil];omega)];rfl
   |cons o l ih=>
    intro g k x
    show iP (cT g k o) (k+1) l x=_
    rw[ih]
    simp only[apC]
    by_cases hx:x=k
    ·subst hx;rw[if_neg (by omega),fh,if_pos (by omega),Nat.sub_self];rfl
    ·rw[ec _ hx]
     by_cases h2:k≤x∧x<k+(l.length+1)
     ·rw[if_pos (by omega),if_pos h2,show x-k=x-(k+1)+1 by omega];rfl
     ·rw[if_neg (by omega),if_neg h2]
  intro x
  rw[key]
  by_cases hx:x<(gF svs).length
  ·rw[if_pos (by omega)];simp
  ·rw[if_neg (by omega),ap3 (by omega)]
 have TR:∀x,(gF svs)[x]? ≠none→small x=true:=fun x hx=>by
  have:x<(gF svs).length:=by
   by_cases h:x<(gF svs).length
   ·exact h
   ·exact absurd (ap3 (by omega)) hx
  exact gT.2 (by have:(2:Nat)^18=262144:=rfl;omega)
 have hle:∀x r,ρ x=some r→ρ2 x=some r:=fun x r hx=>by
  cases hs:small x with
  |true=>rw[eE x hs,hx]
  |false=>
   have:iP (fun _=>none) 0 (gF svs) x=none:=by
    rw[J1]
    cases hq:(gF svs)[x]?with
    |none=>rfl
    |some o=>have:=TR x (by rw[hq];exact fun e=>by cases e);rw[hs]at this;cases this
   rw[h1.fresh x this]at hx
   cases hx
 have dK:WR P (fun k=>k<w.heap.size) w ρ2 (cw (gF svs)) w:=by
  have g9:∀x o,cw (gF svs) x=some o→o≠ .dead→iP (fun _=>none) 0 (gF svs) x=some o∧ρ2 x=ρ x:=fun x o hx bu=>by
   cases hs:small x with
   |true=>rw[cD hs]at hx;exact⟨by rw[J1];exact hx,eE x hs⟩
   |false=>rw[ie hs]at hx;cases hx;exact absurd rfl bu
  exact
   {below:=h1.below,env:=h1.env,size:=h1.size
    live:=by
     intro x o r hx hr hl
     obtain⟨a,b⟩:=g9 x o hx (by rintro rfl;cases hl)
     obtain⟨o',c1,c2,c3⟩:=h1.live x o r a (b▸hr) hl
     exact⟨o',c1,c2.mono hle,c3⟩
    inj:=by
     intro x y ox oy rx ry hx hy kK cA kL dj hd he
     obtain⟨a,b⟩:=g9 x ox hx (by rintro rfl;cases kL)
     obtain⟨a',b'⟩:=g9 y oy hy (by rintro rfl;cases dj)
     exact h1.inj x y ox oy rx ry a a' (b▸kK) (b'▸cA) kL dj hd he
    fresh:=by
     intro x hx
     cases hs:small x with
     |true=>rw[cD hs]at hx;rw[eE x hs];exact h1.fresh x (by rw[J1];exact hx)
     |false=>rw[ie hs]at hx;cases hx
    rows:=by
     intro x n size row hx
     obtain⟨a,b⟩:=g9 x _ hx (by intro e;cases e)
     obtain⟨r,c1,c2⟩:=h1.rows x n size row a
     exact⟨r,by rw[b];exact c1,c2⟩
    nil:=by
     intro x el ro r hx hr
     obtain⟨a,b⟩:=g9 x _ hx (by intro e;cases e)
     exact h1.nil x el ro r a (b▸hr)
    named:=by
     intro x o hx bu
     obtain⟨a,b⟩:=g9 x o hx bu
     rw[b]
     exact h1.named x o a bu
    abs:=h1.abs.next (fun x d hx=>g9 x _ hx (by intro e;cases e)) (fun k _ a b=>⟨rfl,a,fun y o r hy hr hl=>by
     obtain⟨p,q⟩:=g9 y o hy (by rintro rfl;cases hl)
     exact b y o r p (q▸hr) hl⟩) (Nat.le_refl _)}
 have gh:∀o∈gF svs,o≠ .dead:=by
  have:∀l:List SV,∀o∈gF l,o≠ .dead:=by
   intro l
   induction l with
   |nil=>intro o ho;cases ho
   |cons s l ih=>
    intro o ho
    cases s with
    |val v=>exact ih o ho
    |cells n c el=>
     rcases ao8.1 ho with rfl|ho
     ·intro e;cases e
     ·exact ih o ho
    |rows n s r=>
     rcases ao8.1 ho with rfl|ho
     ·intro e;cases e
     ·exact ih o ho
  exact this svs
 have AG:∀x,x<(gF svs).length→∃r,ρ2 x=some r:=fun x hx=>by
  have hg:=aoV hx
  have hs:=TR x (by rw[hg];exact fun e=>by cases e)
  exact dK.named x _ (by rw[cD hs];exact hg) (gh _ (List.getElem_mem hx))
 refine(h _ w ρ2 w args' gI AG ⟨h2.len,fun i v v' a b=>(h2.at_ i v v' a b).mono hle⟩ dK).mono fun e w' he=>?_
 obtain⟨r,o,ρ',q1,q2,_,q4,_⟩:=he
 exact⟨r,o,ρ',q1,q2,q4.below.below⟩
end
end Go.Proofs.YtnlkkgpcikkpoaaGreat.Vm
namespace Go.Proofs.YtnlkkgpcikkpoaaGreat.Vm
open Go.RowKit
section
variable {P:ao7} {w:ao4} {B:Nat→Prop}
theorem amw{d:Nat}{t:ao1}{svs:List SV}(ht:P.underlying t=some .bool)(h:Mt P (d+1) t svs):∃b,svs=[.val (.bool b)]:=by
 unfold Mt at h;rw[ht]at h;exact h
theorem qd{d:Nat}{t:ao1}{k:IntKind}{svs:List SV}(ht:P.underlying t=some (.int k))(h:Mt P (d+1) t svs):∃n,svs=[.val (.int k n)]∧k.min≤n∧n≤k.max:=by
 unfold Mt at h;rw[ht]at h;exact h
theorem CM{d:Nat}{t:ao1}{fs:Array ar1}{svs:List SV}(ht:P.underlying t=some (.struct fs))(h:Mt P (d+1) t svs):
 ∃parts:List (List SV),svs=parts.flatten∧dQ (fun(f:ar1) p=>Mt P d f.type p) fs.toList parts:=by
 unfold Mt at h;rw[ht]at h;exact h
theorem TS{d:Nat}{t e:ao1}{svs:List SV}(ht:P.underlying t=some (.slice e))(ho:qc P e=true)(h:Mt P (d+1) t svs):
 ∃c:List aoP,svs=[.cells c.length c e]∧c.length*P.bytesOf e≤reachBytes∧∀v∈c,Mt P d e [.val v]:=by
 unfold Mt at h;rw[ht]at h;dsimp only at h;rw[ho]at h;exact h
theorem TT{d:Nat}{t e:ao1}{svs:List SV}(ht:P.underlying t=some (.slice e))(ho:qc P e=false)(h:Mt P (d+1) t svs):
 ∃(n:Nat) (row:Nat→List SV),svs=[.rows n (P.cellsOf e) row]∧n*P.bytesOf e≤reachBytes∧∀i,i<n→Mt P d e (row i):=by
 unfold Mt at h;rw[ht]at h;dsimp only at h;rw[ho]at h;exact h
theorem CN{α β:Type}{R:α→β→Prop}{l:List β}(h:dQ R [] l):l=[]:=by cases h;rfl
theorem oe{α β:Type}{R:α→β→Prop}{a:α}{qT:List α}{l:List β}(h:dQ R (a::qT) l):∃b bs,l=b::bs∧R a b∧dQ R qT bs:=by
 cases h with
 |cons h t=>exact⟨_,_,rfl,h,t⟩
theorem J2{d:Nat}{t e:ao1}{svs:List SV}(ht:P.underlying t=some (.slice e))(he:P.underlying e=some (.int .u8))(ho:qc P e=true)(hb:P.bytesOf e=1)(h:Mt P (d+2) t svs):
 ∃b:ByteArray,svs=[.cells b.size (af b) e]∧b.size≤reachBytes:=by
 obtain⟨c,rfl,h1,h2⟩:=TS ht ho h
 rw[hb,arh]at h1
 have key:∀c:List aoP,(∀v∈c,Mt P (d+1) e [.val v])→∃l:List UInt8,c=l.map fun x=>aoW .u8 (x.toNat:Int):=by
  intro c
  induction c with
  |nil=>intro _;exact⟨[],rfl⟩
  |cons v c ih=>
   intro hv
   obtain⟨l,rfl⟩:=ih fun v fV=>hv v (apc _ fV)
   obtain⟨n,e1,pJ,kJ⟩:=qd he (hv v ape)
   simp only[auE,SV.val.injEq,and_true]at e1
   subst e1
   have h0:(0:Int)≤n:=pJ
   have aoi:n≤(255:Int):=kJ
   refine⟨arH n.toNat::l,?_⟩
   simp only[apM]
   congr 2
   have:(arH n.toNat).toNat=n.toNat:=by
    rw[UInt8.toNat_ofNat']
    exact Nat.mod_eq_of_lt (by omega)
   rw[this]
   omega
 obtain⟨l,rfl⟩:=key c h2
 refine⟨⟨l.toArray⟩,?_,?_⟩
 ·have:af ⟨l.toArray⟩=l.map fun x=>aoW .u8 (x.toNat:Int):=by unfold af;simp
  rw[this]
  congr 1
  congr 1
  show _=(l.toArray).size
  simp
 ·have:(⟨l.toArray⟩:ByteArray).size=l.length:=by show(l.toArray).size=_;simp
  rw[this];simpa using h1
theorem amx{d:Nat}{t e:ao1}{svs:List SV}(ht:P.underlying t=some (.slice e))(he:P.underlying e=some (.int .i64))(ho:qc P e=true)(h:Mt P (d+2) t svs):
 ∃l:List Int,svs=[.cells l.length (ap l) e]∧l.length*P.bytesOf e≤reachBytes∧∀x∈l,ao2.min≤x∧x≤ao2.max:=by
 obtain⟨c,rfl,h1,h2⟩:=TS ht ho h
 have key:∀c:List aoP,(∀v∈c,Mt P (d+1) e [.val v])→∃l:List Int,c=ap l∧∀x∈l,ao2.min≤x∧x≤ao2.max:=by
  intro c
  induction c with
  |nil=>intro _;exact⟨[],rfl,fun s hs=>by cases hs⟩
  |cons v c ih=>
   intro hv
   obtain⟨l,rfl,hl⟩:=ih fun v fV=>hv v (apc _ fV)
   obtain⟨n,e1,h0,h1⟩:=qd he (hv v ape)
   simp only[auE,SV.val.injEq,and_true]at e1
   subst e1
   exact⟨n::l,rfl,fun x hx=>by rcases ao8.1 hx with rfl|hx;exact⟨h0,h1⟩;exact hl x hx⟩
 obtain⟨l,rfl,hl⟩:=key c h2
 exact⟨l,by rw[AV],by rw[AV]at h1;exact h1,hl⟩
theorem SR.amy{n size:Nat}{row CP:Nat→List SV}{v:aoP}(h:SR P w B (.rows n size row) v)(he:∀i,i<n→row i=CP i):SR P w B (.rows n size CP) v:=by
 cases h with
 |nI size row a=>exact .nI size CP a
 |rows _ _ _ b off cap c' b8 fr hB gY hl hn gU hlen u hu hr=>
  exact .rows n size CP b off cap c' b8 fr hB gY hl hn gU (fun i hi=>by rw[←he i hi];exact hlen i hi) u hu fun i k sv hi hk=>hr i k sv hi (by rw[he i hi];exact hk)
theorem TU{α:Type}{n size:Nat}{row:Nat→List SV}{v:aoP}(mk:α→List SV)(d0:α)(ok:α→Prop)(hs:SR P w B (.rows n size row) v)(h:∀i,i<n→∃x,row i=mk x∧ok x):
 ∃l:List α,l.length=n∧(∀x∈l,ok x)∧SR P w B (.rows l.length size fun i=>mk (l.getD i d0)) v:=by
 let l:List α:=(arm n).map fun i=>if hi:i<n then(h i hi).choose else d0
 have hl:l.length=n:=by simp[l]
 have hg:∀i (hi:i<n),l[i]?=some (h i hi).choose:=fun i hi=>by simp[l,hi]
 refine⟨l,hl,fun x hx=>?_,?_⟩
 ·obtain⟨i,hi⟩:=aqg hx
  have fq:i<n:=by rw[←hl];exact(ao0.1 hi).1
  rw[hg i fq]at hi
  cases hi
  exact(h i fq).choose_spec.2
 ·rw[hl]
  refine hs.amy fun i hi=>?_
  rw[aqB,hg i hi]
  exact(h i hi).choose_spec.1
end
end Go.Proofs.YtnlkkgpcikkpoaaGreat.Vm
namespace Go.Proofs.YtnlkkgpcikkpoaaGreat
open Go Vm Go.RowKit
theorem amz{w:ao4}{B:Nat→Prop}{v:aoP}{svs:List SV}(h:Mt aoL 10 25 svs)(hs:gv aoL w B svs [v]):
 ∃l:List Int,(∀x∈l,ao2.min≤x∧x≤ao2.max)∧SR aoL w B (.cells l.length (ap l) 3) v:=by
 obtain⟨l,rfl,_,h2⟩:=amx (d:=8) Tryz.underlying25 aqs (by kernel_rfl) h
 exact⟨l,h2,hs.at_ 0 _ _ rfl rfl⟩
end Go.Proofs.YtnlkkgpcikkpoaaGreat
namespace Go.Proofs.YtnlkkgpcikkpoaaGreat.Vm
open Go.RowKit
section
variable {P:ao7}
theorem aI.amA{f:FuncId}{svs:List SV}{o:List ak}(k:Nat)(h:aI P f (.agg ((ml svs 0).take k).toArray::(ml svs 0).drop k) (gF svs) fun r o'=>r=.ret (.bool true)∧o'=o)(jb:Nat.ble (kV svs) 262144=true){w:ao4}{fields:Array aoP}{rest:List aoP}
 (hk:fields.size=k)(hs:gv P w (fun k=>k<w.heap.size) svs (fields.toList++rest))(J0:Env (fun k=>k<w.heap.size) w:=by exact fun _ _=>trivial):Calls P f (.agg fields::rest).toArray w fun e w'=>e=.returned (.bool true)∧Below w.heap.size w w':=by
 refine(aI.amv h jb (args':=(.agg fields::rest).toArray) (fun ρ hl=>?_) hs J0).mono fun e w' he=>?_
 ·have hlen:=hl.len
  rw[ao5,aqZ (xs:=fields),hk]at hlen
  refine⟨by simp only[apC,List.length_drop];omega,fun i v v' a b=>?_⟩
  cases i with
  |zero=>
   cases a;cases b
   refine .agg _ _ (by rw[apI,aqZ (xs:=fields)];omega) fun i v v' a b=>?_
   have a:((ml svs 0).take k)[i]?=some v:=a
   have b:fields.toList[i]?=some v':=b
   have hi:i<k:=by
    have:=(ao0.1 a).1
    rw[apI]at this
    omega
   refine hl.at_ i v v' ?_ ?_
   ·rw[List.getElem?_take,if_pos hi]at a
    exact a
   ·rw[apH (by rw[aqZ (xs:=fields)];omega)]
    exact b
  |succ i=>
   refine hl.at_ (k+i) v v' ?_ ?_
   ·have a:((ml svs 0).drop k)[i]?=some v:=a
    rw[List.getElem?_drop]at a
    exact a
   ·have b:rest[i]?=some v':=b
    rw[apz (by rw[aqZ (xs:=fields)];omega),aqZ (xs:=fields),hk]
    rw[show k+i-k=i by omega]
    exact b
 ·obtain⟨r,o,ρ',⟨rfl,_⟩,h2,h3⟩:=he
  cases e with
  |returned v'=>
   have:v'=.bool true:=VR.uW h2
   exact⟨by rw[this],h3⟩
  |panicked chain=>cases h2
  |outgrown=>cases h2
end
end Go.Proofs.YtnlkkgpcikkpoaaGreat.Vm
namespace Go.Proofs.YtnlkkgpcikkpoaaGreat
open Go Vm Go.RowKit
theorem amB{w:ao4}{B:Nat→Prop}{v:aoP}{svs:List SV}(h:Mt aoL 10 31 svs)(hs:gv aoL w B svs [v]):
 ∃l:List aK,SR aoL w B (.rows l.length 5 fun i=>y4 (l[i]?.getD dM)) v:=by
 obtain⟨n,row,rfl,_,hr⟩:=TT Tryz.underlying31 (by kernel_rfl) h
 have h0:=hs.at_ 0 _ _ rfl rfl
 have e5:aoL.cellsOf 30=5:=by kernel_rfl
 rw[e5]at h0
 obtain⟨l,h1,h2,h3⟩:=TU y4 dM (fun _=>True) h0 fun i hi=>by
  obtain⟨parts,e1,h1⟩:=CM Tryz.underlying30 (hr i hi)
  obtain⟨p0,q0,rfl,a0,h1⟩:=oe h1
  obtain⟨p1,q1,rfl,a1,h1⟩:=oe h1
  obtain⟨p2,q2,rfl,a2,h1⟩:=oe h1
  obtain rfl:=CN h1
  obtain⟨b,rfl,hb⟩:=J2 Tryz.underlying22 Tryz.underlying5 (by kernel_rfl) (by kernel_rfl) a0
  obtain⟨d,rfl⟩:=amw Tryz.underlying4 a1
  obtain⟨aoj,rfl,k1⟩:=CM Tryz.underlying28 a2
  obtain⟨r0,t0,rfl,b0,k1⟩:=oe k1
  obtain⟨r1,t1,rfl,b1,k1⟩:=oe k1
  obtain⟨r2,t2,rfl,b2,k1⟩:=oe k1
  obtain rfl:=CN k1
  obtain⟨c,rfl,_⟩:=qd Tryz.underlying26 b0
  obtain⟨s,rfl,_⟩:=qd aqs b1
  obtain⟨i',rfl,_⟩:=qd aqs b2
  exact⟨⟨b,d,c,s,i'⟩,e1.trans rfl,trivial⟩
 exact⟨l,h3⟩
theorem TV:∀(l:List (Int×Int)) (i k:Nat),k<2→∀v,(aG l)[i*2+k]?=some v→∃p,l[i]?=some p∧[aoW .i64 p.1,aoW .i64 p.2][k]?=some v
 | [],i,k,hk,v,h=>by cases h
 |p::l,0,k,hk,v,h=>by
  refine⟨p,rfl,?_⟩
  rw[show aG (p::l)=[aoW .i64 p.1,aoW .i64 p.2]++aG l from rfl,asN,aqr,apH (by simpa using hk)]at h
  exact h
 |p::l,i+1,k,hk,v,h=>by
  rw[show aG (p::l)=[aoW .i64 p.1,aoW .i64 p.2]++aG l from rfl,apz (by simp;omega)]at h
  have:=TV l i k hk v (by rw[←h];congr 1;simp;omega)
  exact this
theorem amC(l:List (Int×Int)):(aG l).length=l.length*2:=by
 induction l with
 |nil=>rfl
 |cons p l ih=>rw[show aG (p::l)=[aoW .i64 p.1,aoW .i64 p.2]++aG l from rfl,ao5,ih];simp;omega
theorem amD{w:ao4}{B:Nat→Prop}{v:aoP}{svs:List SV}(h:Mt aoL 10 52 svs)(hs:gv aoL w B svs [v]):
 ∃l:List (Int×Int),SR aoL w B (.cells l.length (aG l) 77) v:=by
 obtain⟨n,row,rfl,_,hr⟩:=TT Tryz.underlying52 (by kernel_rfl) h
 have h0:=hs.at_ 0 _ _ rfl rfl
 have e5:aoL.cellsOf 77=2:=by kernel_rfl
 have es:b7 aoL 77=some 2:=by kernel_rfl
 rw[e5]at h0
 obtain⟨l,h1,h2,h3⟩:=TU (fun p:Int×Int=>[.val (.int .i64 p.1),.val (.int .i64 p.2)]) (0,0) (fun _=>True) h0 fun i hi=>by
  obtain⟨parts,e1,h1⟩:=CM Tryz.underlying77 (hr i hi)
  obtain⟨p0,q0,rfl,a0,h1⟩:=oe h1
  obtain⟨p1,q1,rfl,a1,h1⟩:=oe h1
  obtain rfl:=CN h1
  obtain⟨c,rfl,_⟩:=qd aqs a0
  obtain⟨s,rfl,_⟩:=qd aqs a1
  exact⟨(c,s),e1.trans rfl,trivial⟩
 clear h1 h2 h0 hr hs h
 refine⟨l,?_⟩
 generalize hn:l.length=m at h3
 cases h3 with
 |nI size row a=>
  obtain rfl:=List.eq_nil_of_length_eq_zero hn
  exact .nil _ _
 |rows n size row b off cap c' b8 fr hB hb hl hc gU hlen u hu hr=>
  refine .cells _ _ _ b off cap c' b8 fr hB hb (fun i v hi=>?_) (by rw[amC,hn];exact hl) hc (fun s hs=>by rw[es]at hs;cases hs;exact gU)
  have e:i=i/2*2+i%2:=by omega
  rw[e]at hi
  obtain⟨p,hp,hv⟩:=TV l (i/2) (i%2) (by omega) v hi
  have gN:i/2<m:=by rw[←hn];exact(ao0.1 hp).1
  have kP:([SV.val (.int .i64 p.1),.val (.int .i64 p.2)]:List SV)[i%2]?=some (.val v):=by
   rcases Nat.mod_two_eq_zero_or_one i with h|h<;>rw[h]at hv⊢ <;>cases hv<;>rfl
  have hq:l.getD (i/2) (0,0)=p:=by rw[aqB,hp];rfl
  have hx:=hr (i/2) (i%2) (.val v) gN (by dsimp only;rw[hq];exact kP)
  have hy:=hu (i/2) (i%2) gN (by omega)
  cases hx with
  |val _ iy=>exact⟨iy,by rw[←hy];congr 1;omega⟩
end Go.Proofs.YtnlkkgpcikkpoaaGreat
namespace Go.Proofs.YtnlkkgpcikkpoaaGreat
open Go.ChangeShapes Go.WideShapes Go.ChangeAt Go.RowKit Go.Deep
theorem own:ownKnob aoL.godebug=none:=by kernel_rfl
theorem laidOut:laidOutB aoL=true:=by kernel_rfl
section
variable {H:Type} {enc:ao1×aoP→H} {P:ao7} {w:ao4} {base:Nat} {spare:Nat→Bool} {held:Bool}
theorem TW(hl:laidOutB P=true){W W':ao4}(hb:Below W.heap.size W W'):∀{ts:List ao1} {vs:List aoP} {ds:List (asW H)} {p:List ata},
 (∀t∈ts,P.readableRec t=true∧t<P.types.size)→at3 enc P W 0 (fun _=>true) true ts vs ds p→(∀x∈p,x.block<W.heap.size)→
 at3 enc P W' 0 (fun b=>decide (b<W.heap.size)) true ts vs ds p
 | [],[],[],p,_,h,_=>h
 |t::ts,v::vs,d::ds,p,ht,h,hlt=>by
  obtain⟨p1,q1,h1,h2,rfl⟩:=h
  exact⟨p1,q1,Below.trod hl (ht t (by simp)).1 (ht t (by simp)).2 h1 hb (fun x hx=>hlt x (by simp[hx])),
   TW hl hb (fun t' h'=>ht t' (by simp[h'])) h2 (fun x hx=>hlt x (by simp[hx])),rfl⟩
 | [],_::_,_,_,_,h,_=>h.elim
 | [],[],_::_,_,_,h,_=>h.elim
 |_::_,[],_,_,_,h,_=>h.elim
 |_::_,_::_,[],_,_,h,_=>h.elim
end
end Go.Proofs.YtnlkkgpcikkpoaaGreat
