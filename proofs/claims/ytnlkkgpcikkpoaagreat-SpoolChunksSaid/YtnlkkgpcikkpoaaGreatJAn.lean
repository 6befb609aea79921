/- Part of the proof: Lvp, Liv, Liw, Lru, Lck, Lct, Spw, Dks, Dkt, Dku, Dkv, Zth, Zti, Ztj, Ztk, Zrf. -/
import Derived.Shelf.SlIterI.Nil
import Derived.Shelf.SortM.Plain
import Derived.Shelf.SortM.SortNone
import Derived.Test.YtnlkkgpcikkpoaaGreatProg
import Derived.Test.YtnlkkgpcikkpoaaGreatChecked
import Derived.WalkKit
import Derived.Test.YtnlkkgpcikkpoaaGreatJAg
import Derived.Test.YtnlkkgpcikkpoaaGreatJAf
import Derived.KernelRfl
import Derived.Test.YtnlkkgpcikkpoaaGreatJAe
import Derived.Test.YtnlkkgpcikkpoaaGreatJAm
open Array renaming getElem?_eq_some_iff→aqe
open ByteArray renaming empty→apj,size→apk
open Classical renaming propDecidable→apF
open Go renaming Code→apV,DataW→ato,FuncId→apQ,Value→ape,callsIn_wide→atg
open Go.DataW renaming insert→at3
open Go.Fence renaming wide→are
open Go.IntKind renaming i64→apr,wrap→apc
open Go.Maps renaming size→auN
open Go.Proofs.SlLaysM renaming n5→av0
open Go.Proofs.SlLaysZI renaming n6→avW,n7→avV
open Go.Proofs.Tryz renaming func61→avR,func62→avP,isAgg0→auW,isAgg25→auM,isAgg3→aug,isAgg4→avQ,isAgg97→avF,prog→apP,prog→as6,prog→av9,sizeOf0→auL,sizeOf25→auz,sizeOf3→at1,sizeOf4→avE,sizeOf97→avp,underlying0→at0,underlying25→ar1,underlying3→aqY,underlying4→as4,underlying97→auR,zeroValue0→aub,zeroValue25→at2,zeroValue3→atn,zeroValue4→au8,zeroValue97→auY
open Go.Shelf renaming Ren→auK
open Go.Value renaming agg→aq9,bool→aqj,iface→avT,int→apm,string→apJ
open Go.WideElems renaming rd→avH,rg→asH
open Go.WideShapes renaming sorted_perm→avS
open Int renaming toNat→apd
open List renaming all→aph,eq_nil_of_length_eq_zero→aqf,getElem?_eq_none→aqr,isEmpty→asr,length→apb,length_map→arj,map_map→arT,mem_cons_self→apC,mem_map→aq0,mem_map_of_mem→arn,nil_append→aqO,pairwise_map→asR,take→apE,toArray→ap9
open List.Nodup renaming not_mem_erase→avG
open Nat renaming blt→apy,le_refl→apI,le_trans→arG,zero_add→aqR,zero_le→ap7
open Option.some renaming injEq→api
open Prod.mk renaming injEq→apn
set_option linter.unusedVariables false
set_option linter.unusedSimpArgs false
set_option maxRecDepth 100000
namespace Go.Proofs
open Go.Shelf
def Tryz.Tp:auK:=⟨fun|7=>37|10=>62|n=>n,fun|23=>78|26=>3|3=>99|28=>97|0=>0|27=>96|33=>124|4=>4|n=>n,fun|n=>n⟩
theorem Tryz.Tq:avV av9 Tryz.Tp:={
 mixed:=by kernel_rfl
 f7:=⟨Tryz.f37.name,by decide,Tryz.func37.trans (congrArg some (by kernel_rfl))⟩
 f10:=⟨Tryz.f62.name,by decide,avP.trans (congrArg some (by kernel_rfl))⟩
 t0:=at0
 a0:=auW
 z0:=auL
 v0:=aub
 t4:=as4
 a4:=avQ
 z4:=avE
 v4:=au8
 t23:=Tryz.underlying78
 a23:=Tryz.isAgg78
 z23:=Tryz.sizeOf78
 v23:=Tryz.zeroValue78
 t26:=aqY
 a26:=aug
 z26:=at1
 v26:=atn
 t27:=Tryz.underlying96
 a27:=Tryz.isAgg96
 z27:=Tryz.sizeOf96
 v27:=Tryz.zeroValue96
 t28:=auR
 a28:=avF
 z28:=avp
 v28:=auY
 t33:=Tryz.underlying124
 a33:=Tryz.isAgg124
 z33:=Tryz.sizeOf124
 v33:=Tryz.zeroValue124}
def Tryz.Ts:auK:=⟨fun|6=>36|8=>60|9=>61|11=>87|13=>89|12=>88|23=>116|24=>117|14=>107|15=>108|16=>109|17=>110|18=>111|19=>112|20=>113|21=>114|22=>115|25=>128|26=>129|27=>130|28=>131|29=>132|30=>133|31=>138|n=>n,fun|26=>3|28=>97|24=>25|0=>0|3=>3|37=>153|48=>187|50=>189|4=>4|40=>179|39=>178|45=>184|5=>5|9=>9|51=>194|55=>198|57=>201|58=>202|33=>124|n=>n,fun|n=>n⟩
theorem Tryz.ak5:avW av9 Tryz.Ts:={
 mixed:=by kernel_rfl
 f6:=⟨Tryz.f36.name,by decide,Tryz.func36.trans (congrArg some (by kernel_rfl))⟩
 f8:=⟨Tryz.f60.name,by decide,Tryz.func60.trans (congrArg some (by kernel_rfl))⟩
 f11:=⟨Tryz.f87.name,by decide,Tryz.func87.trans (congrArg some (by kernel_rfl))⟩
 t0:=at0
 a0:=auW
 z0:=auL
 v0:=aub
 t24:=ar1
 a24:=auM
 z24:=auz
 v24:=at2
 t26:=aqY
 a26:=aug
 z26:=at1
 v26:=atn
 t28:=auR
 a28:=avF
 z28:=avp
 v28:=auY
 i26:=by kernel_rfl}
def Tryz.ak6:auK:=⟨fun|5=>61|8=>89|7=>88|19=>116|20=>117|10=>107|11=>108|12=>109|13=>110|14=>111|15=>112|16=>113|17=>114|18=>115|30=>128|31=>129|32=>130|33=>131|34=>132|35=>133|40=>138|n=>n,fun|23=>25|25=>3|3=>3|32=>153|22=>25|0=>0|44=>187|46=>189|4=>4|36=>179|35=>178|41=>184|5=>5|9=>9|53=>194|57=>198|63=>201|64=>202|n=>n,fun|n=>n⟩
theorem Tryz.Tt:av0 av9 Tryz.ak6:={
 mixed:=by kernel_rfl
 f5:=⟨Tryz.f61.name,by decide,avR.trans (congrArg some (by kernel_rfl))⟩
 f7:=⟨Tryz.f88.name,by decide,Tryz.func88.trans (congrArg some (by kernel_rfl))⟩
 f8:=Tryz.func89.trans (congrArg some (by kernel_rfl))
 f10:=⟨Tryz.f107.name,by decide,Tryz.func107.trans (congrArg some (by kernel_rfl))⟩
 f11:=⟨Tryz.f108.name,by decide,Tryz.func108.trans (congrArg some (by kernel_rfl))⟩
 f12:=⟨Tryz.f109.name,by decide,Tryz.func109.trans (congrArg some (by kernel_rfl))⟩
 f13:=⟨Tryz.f110.name,by decide,Tryz.func110.trans (congrArg some (by kernel_rfl))⟩
 f14:=⟨Tryz.f111.name,by decide,Tryz.func111.trans (congrArg some (by kernel_rfl))⟩
 f15:=⟨Tryz.f112.name,by decide,Tryz.func112.trans (congrArg some (by kernel_rfl))⟩
 f16:=⟨Tryz.f113.name,by decide,Tryz.func113.trans (congrArg some (by kernel_rfl))⟩
 f17:=⟨Tryz.f114.name,by decide,Tryz.func114.trans (congrArg some (by kernel_rfl))⟩
 f18:=⟨Tryz.f115.name,by decide,Tryz.func115.trans (congrArg some (by kernel_rfl))⟩
 f19:=Tryz.func116.trans (congrArg some (by kernel_rfl))
 f20:=Tryz.func117.trans (congrArg some (by kernel_rfl))
 f30:=⟨Tryz.f128.name,by decide,Tryz.func128.trans (congrArg some (by kernel_rfl))⟩
 f31:=Tryz.func129.trans (congrArg some (by kernel_rfl))
 f32:=Tryz.func130.trans (congrArg some (by kernel_rfl))
 f33:=⟨Tryz.f131.name,by decide,Tryz.func131.trans (congrArg some (by kernel_rfl))⟩
 f34:=⟨Tryz.f132.name,by decide,Tryz.func132.trans (congrArg some (by kernel_rfl))⟩
 f35:=⟨Tryz.f133.name,by decide,Tryz.func133.trans (congrArg some (by kernel_rfl))⟩
 f40:=⟨Tryz.f138.name,by decide,Tryz.func138.trans (congrArg some (by kernel_rfl))⟩
 t0:=at0
 a0:=auW
 z0:=auL
 v0:=aub
 t3:=aqY
 a3:=aug
 z3:=at1
 v3:=atn
 t4:=as4
 a4:=avQ
 z4:=avE
 v4:=au8
 t5:=Tryz.underlying5
 a5:=Tryz.isAgg5
 z5:=Tryz.sizeOf5
 v5:=Tryz.zeroValue5
 t9:=Tryz.underlying9
 a9:=Tryz.isAgg9
 z9:=Tryz.sizeOf9
 v9:=Tryz.zeroValue9
 t22:=ar1
 a22:=auM
 z22:=auz
 v22:=at2
 t23:=ar1
 a23:=auM
 z23:=auz
 v23:=at2
 t25:=aqY
 a25:=aug
 z25:=at1
 v25:=atn
 t32:=Tryz.underlying153
 a32:=Tryz.isAgg153
 z32:=Tryz.sizeOf153
 v32:=Tryz.zeroValue153
 t35:=Tryz.underlying178
 a35:=Tryz.isAgg178
 z35:=Tryz.sizeOf178
 v35:=Tryz.zeroValue178
 t36:=Tryz.underlying179
 a36:=Tryz.isAgg179
 z36:=Tryz.sizeOf179
 v36:=Tryz.zeroValue179
 t41:=Tryz.underlying184
 a41:=Tryz.isAgg184
 z41:=Tryz.sizeOf184
 v41:=Tryz.zeroValue184
 t44:=Tryz.underlying187
 a44:=Tryz.isAgg187
 z44:=Tryz.sizeOf187
 v44:=Tryz.zeroValue187
 t46:=Tryz.underlying189
 a46:=Tryz.isAgg189
 z46:=Tryz.sizeOf189
 v46:=Tryz.zeroValue189
 t53:=Tryz.underlying194
 a53:=Tryz.isAgg194
 z53:=Tryz.sizeOf194
 v53:=Tryz.zeroValue194
 t57:=Tryz.underlying198
 a57:=Tryz.isAgg198
 z57:=Tryz.sizeOf198
 v57:=Tryz.zeroValue198
 t63:=Tryz.underlying201
 a63:=Tryz.isAgg201
 z63:=Tryz.sizeOf201
 v63:=Tryz.zeroValue201
 t64:=Tryz.underlying202
 a64:=Tryz.isAgg202
 z64:=Tryz.sizeOf202
 v64:=Tryz.zeroValue202}
end Go.Proofs
namespace Go.Proofs.YtnlkkgpcikkpoaaGreat
open Go.RowKit Go.Maps Go.Sort Go.Shelf
theorem ak7(m:Nat):AnyZI.SortsIn av9 Tryz.Ts are m:=
 ⟨fun aI off cap ss W hH wU cf=>atg.2 (AnyM.slices_Sort_int Tryz.Tt aI off cap ss W hH wU cf),
  fun p cap W=>atg.2 (AnyM.slices_Sort_int_none Tryz.Tt p cap W)⟩
set_option maxHeartbeats 1000000 in
theorem ak8{H:Type}(pb sh b nn:Nat)(D0:ato H)(R:ape→Option (ato H×List MemPlace))(w:World)(pt:w.cell? ⟨pb,sh+1,none⟩=some (.map (some b)))(CX:w.ownsMap av9 3 R b nn D0)(Ea:auN D0≤maxLen)(CY:auN D0*8≤140737488355328):
 Calls av9 15 #[.pointer (some ⟨pb,sh,none⟩)] w fun e w'=>∃(v:ape) (ss:List Int),e=.returned v∧ss.Perm (intKeys D0)∧
  w'.ownsRow w.heap.size 3 1 v ss.length ((ss.mergeSort (fun x y=>decide (x≤y))).map encZ)∧(v=.slice none 0 0↔ss=[])∧Below w.heap.size w w':=by
 refine(atg (n:=6)).1 ?_
 have lO:=CX.lt
 have ak9:SeqGives are 2 av9 62 #[.pointer (some ⟨w.heap.size,0,none⟩)] encZ (fun ss=>ss.Perm (intKeys D0)) (auN D0) (w.alloc (.cells #[.map (some b)] 78)):=
  AnyZI.keys_gives (ρ:=Tryz.Tp) {Tryz.Tq with} are _ trivial rfl (by omega) w.heap.size b nn D0 _ (by simp) (by simp) (by
   obtain⟨es,clock,hb,Ft,hs,hD⟩:=CX
   exact⟨es,clock,(Below.heap_alloc _ _ b lO).trans hb,Ft,hs,hD⟩)
 have cK:∀mb W,CallsIn are 5 av9 37 #[.map mb] W fun e w'=>e=.returned (.func (.func 62) #[] #[.pointer (some ⟨W.heap.size,0,none⟩)])∧w'=W.alloc (.cells #[.map mb] 78):=fun mb W=>AnyZI.keys_in Tryz.Tq are 5 trivial rfl mb W
 have cS:=AnyZI.sorted_in Tryz.ak5 are 5 trivial trivial trivial trivial rfl (by omega) (ak7 _) (enters_of avR (by kernel_rfl) rfl) 62 #[.pointer (some ⟨w.heap.size,0,none⟩)] trivial (enters_of avP (by kernel_rfl) rfl) _ _ Ea CY _ ak9
 change CallsIn _ _ av9 36 _ _ _ at cS
 have aoF:are.fn 37:=trivial
 have aoG:are.fn 36:=trivial
 refine callsIn_of_wp Tryz.func15 rfl trivial ?_ rfl
 simp only[Tryz.ntmps15,List.size_toArray,List.length_cons,List.length_nil,Nat.reduceAdd,Nat.reduceSub,Array.replicate_succ,Array.replicate_zero,List.push_toArray,List.append_toArray,aqO,List.cons_append]
 gi_wp2_with (first
  |(gi_at_call 37;refine(cK _ _).mono ?_;rintro e w' ⟨rfl,rfl⟩)
  |(gi_at_call 36;refine cS.mono ?_;rintro e w' ⟨v,ss,rfl,hS,kQ,qj,hb⟩))
 go_ret
 exact⟨v,ss,rfl,hS,ownsRow_base_a kQ (by simp),qj,((Below.refl _ w).alloc (apI _) _).trans (hb.mono (by simp))⟩
end Go.Proofs.YtnlkkgpcikkpoaaGreat
namespace Go.Proofs.YtnlkkgpcikkpoaaGreat
open Go Vm Go.RowKit Go.Maps Go.ChangeMaps Go.MapKept
def mT(d:ay):List Int:=(d.files.map fun p=>(p.1:Int)).mergeSort fun x y=>decide (x≤y)
theorem JP(d:ay):(mT d).length=d.files.length:=by unfold mT;rw[List.length_mergeSort,arj]
def CZ(d:ay):bx×List ag:=if d.files=[]then(.ret (.slice none 0 0),[.abs d])else(.ret (.slice (some ⟨1,0,none⟩) d.files.length d.files.length),[.abs d,.cells (aq (mT d)) 3 false])
def rc:ape→Option (ato Unit×List MemPlace):=fun _=>some (.lit (.bool true),[])
theorem Tu{l:List (Nat×ByteArray)}{es:List MapEntry}{L:List (Nat×CO)}(h:fv l es L):es.map (·.key)=l.map (fun p=>apm .i64 p.1)∧es.map (·.born)=l.map (fun p=>p.1-1)∧∀p∈l,1≤p.1:=by
 induction h with
 |nil=>exact⟨rfl,rfl,fun p hp=>by cases hp⟩
 |cons p k sh l es L L' hf ht hp ih=>
  refine⟨by simp[ih.1],by simp[ih.2.1],fun q hq=>?_⟩
  rcases List.mem_cons.1 hq with rfl|hq
  ·exact hp
  ·exact ih.2.2 q hq
theorem ala{l:List (Nat×ByteArray)}{es:List MapEntry}{L:List (Nat×CO)}{made:Nat}(h:fv l es L)(hk:∀p∈l,p.1≤made)(hn:(l.map (·.1)).Nodup):Stamped es.toArray made:=by
 obtain⟨h1,h2,h3⟩:=Tu h
 refine⟨fun x hx=>?_,?_,?_⟩
 ·have:x.born∈l.map (fun p=>p.1-1):=by rw[←h2];exact arn hx
  obtain⟨p,hp,e⟩:=aq0.1 this
  have:=hk p hp
  have:=h3 p hp
  omega
 ·show(es.map (·.born)).Nodup
  rw[h2]
  refine asR.2 ?_
  have:=asR.1 hn
  exact this.imp_of_mem fun{p q} hp hq bk e=>bk (by have:=h3 p hp;have:=h3 q hq;omega)
 ·show(es.map (·.key)).Nodup
  rw[h1]
  refine asR.2 ((asR.1 hn).imp fun{p q} bk e=>bk ?_)
  injection e with _ e
  omega
theorem C0:∀(N:Nat) (l:List Nat),l.Nodup→(∀x∈l,x≤N)→l.length≤N+1
 |0,l,hn,h=>by
  match l,hn,h with
  | [],_,_=>exact ap7 _
  | [a],_,_=>exact apI _
  |a::b::r,hn,h=>
   have h1:=h a (by simp)
   have h2:=h b (by simp)
   have:a≠b:=fun e=>(List.nodup_cons.1 hn).1 (by rw[e];simp)
   omega
 |N+1,l,hn,h=>by
  by_cases hm:N+1∈l
  ·have:=C0 N (l.erase (N+1)) (hn.erase _) fun x hx=>by
    have h1:=h x (List.mem_of_mem_erase hx)
    have h2:x≠N+1:=fun e=>(avG hn) (e▸hx)
    omega
   rw[List.length_erase_of_mem hm]at this
   omega
  ·have:=C0 N l hn fun x hx=>by
    have h1:=h x hx
    have h2:x≠N+1:=fun e=>hm (e▸hx)
    omega
   omega
theorem Vm.alb{O:List ag}{o:ag}(hl:O.length<262144):cJ (cm O) O.length o=cm (O++[o]):=by
 have tZ:small O.length=true:=gX.2 (by have:(2:Nat)^18=262144:=rfl;omega)
 funext x
 by_cases hx:x=O.length
 ·subst hx
  rw[e9,cx tZ]
  simp
 ·rw[dV _ hx]
  cases hs:small x with
  |false=>rw[il hs,il hs]
  |true=>
   rw[cx hs,cx hs]
   by_cases hl:x<O.length
   ·rw[List.getElem?_append_left hl]
   ·rw[aqr (by omega),aqr (by simp;omega)]
theorem Vm.alc{O:List ag}(hl:O.length<262144):cm O O.length=none:=by
 rw[cx (gX.2 (by have:(2:Nat)^18=262144:=rfl;omega))];simp
theorem Vm.ald{ρ:Vm.Ren}(h:Full ρ){x:Nat}(hx:small x=true)(r:Vm.bN):Full (ρ.put x r):=fun q=>by
 obtain⟨y,h1,h2⟩:=h q
 refine⟨y,h1,?_⟩
 rw[Ren.qi _ _ (by rintro rfl;rw[hx]at h1;cases h1)]
 exact h2
theorem Vm.WR.under{P:Program}{B:Nat→Prop}{w₀ w w':World}{ρ:Vm.Ren}{g:Nat→Option ag}(h:WR P B w₀ ρ g w)(hb:Below w.heap.size w w'):WR P B w₀ ρ g w' where
 env:=h.env
 below:=h.below.trans ⟨hb.os,hb.tape,hb.output,hb.size,fun k hk=>hb.block k (h.size k hk)⟩
 size:=fun k hk=>Nat.lt_of_lt_of_le (h.size k hk) hb.size
 live:=fun x o r hx hr hl=>by
  obtain⟨o',h1,h2⟩:=h.live x o r hx hr hl
  exact⟨o',(hb.block _ (aqe.1 h1).1).trans h1,h2⟩
 inj:=h.inj
 fresh:=h.fresh
 rows:=h.rows
 nil:=h.nil
 named:=h.named
 abs:=h.abs.next (fun x d hx=>⟨hx,rfl⟩) (fun k k1 a b=>⟨hb.block k k1,a,b⟩) hb.size
theorem Vm.WR.ale{B:Nat→Prop}{w₀ w w':World}{ρ:Vm.Ren}{O:List ag}(h:WR av9 B w₀ ρ (cm O) w)(hl:O.length<262144)(hb:Below w.heap.size w w'){g n:Nat}{wV:Array ape}{ss:List Int}(hg:w.heap.size≤g)(hc:w'.heap[g]?=some (.cells wV 3 (0,0)))(hn:wV.toList.take n=aq ss)(hs:ss.length=n)(cf:n≤wV.size):
 WR av9 B w₀ (ρ.put O.length ⟨g,0,1,wV.size⟩) (cm (O++[.cells (aq ss) 3 false])) w':=by
 rw[←alb hl]
 refine h.put (alc hl) (fun y hy=>.inl (dV _ hy)) (e9 _ _ _) ⟨hb.os,hb.tape,hb.output,hb.size,fun k hk=>hb.block k (h.size k hk)⟩ hb.size (fun y oy ry _ _ h1 h2 h3=>?_) (fun _=>⟨_,hc,?_,fun _ hB=>?_⟩) (fun _ y oy ry _ _ h1 h2 h3 _ e'=>?_) (fun k hk _ _=>⟨hb.block k hk,fun _ e=>?_⟩) (fun d e=>by cases e) (fun m sz row e'=>by cases e') (fun el ro e' k hk=>?_)
 ·obtain⟨o',q1,_,_⟩:=h.live y oy ry h1 h2 h3
  exact hb.block _ (aqe.1 q1).1
 ·refine .cells _ 3 3 false _ _ rfl (by dsimp only;rw[A4];omega) (fun _=>rfl) (fun n hn=>by rw[show bR av9 3=some 1 by kernel_rfl]at hn;cases hn;rfl) (fun _=>.inl rfl) fun i v hv=>?_
  refine⟨v,?_,?_⟩
  ·dsimp only
   rw[aqR]
   rw[←hn,List.getElem?_take]at hv
   split at hv
   ·simpa using hv
   ·cases hv
  ·refine .bG _ ?_
   exact List.all_eq_true.1 (aG ss) v (List.mem_of_getElem? hv)
 ·have:=h.size _ hB
  dsimp only at this
  omega
 ·obtain⟨o',q1,_,_⟩:=h.live y oy ry h1 h2 h3
  have:=(aqe.1 q1).1
  rw[e']at this
  dsimp only at this
  omega
 ·dsimp only at e
  omega
 ·simp only[ag.cells.injEq]at e'
  rw[←e'.2.1,show bR av9 3=some 1 by kernel_rfl]at hk
  cases hk
  rfl
theorem alf(d:ay)(hd:cj d):aE av9 15 [.pointer (some ⟨0,0,none⟩)] [.abs d] fun r o=>r=(CZ d).1∧o=(CZ d).2:=by
 intro B w₀ ρ w args' gK AQ ia hw
 obtain⟨v1,l1,e1,h1,t1⟩:=ia.gI
 have e2:=t1.kD
 obtain⟨q,hq,hv⟩:=VR.kE h1
 have ea:args'= #[v1]:=by rw[←Array.toArray_toList (xs:=args'),e1,e2]
 subst ea hv
 obtain⟨F,a1,a2,a3⟩:=hw.abs
 obtain⟨r,S,hr,⟨L,jd,hL⟩,hS⟩:=a1 0 d rfl
 rw[hq]at hr
 cases hr
 obtain⟨eO,v,m,es,L1,L2,kQ,jV,da⟩:=jd
 have c0:eL w q.aI (.cells [v,.map (some m),.int .i64 d.made,.int .i64 d.calls,.int .i64 d.raw] 80 q.sh q.dy):=hL.at_ (q.aI,_) (by rw[da];exact apC)
 have c1:eL w m (.map es d.made):=hL.at_ (m,_) (by rw[da];exact List.mem_cons_of_mem _ apC)
 obtain⟨c',fr,b1,b2,b3,b4,b5⟩:=c0
 have pt:w.cell? ⟨q.aI,q.sh+0+1,none⟩=some (.map (some m)):=by
  unfold World.cell?
  simp only[b1]
  exact b5 1 _ rfl
 obtain⟨f1,f2,f3⟩:=Tu jV
 have Tv:es.length=d.files.length:=aar jV
 have iL:d.files.length≤65:=by
  have:=C0 64 (d.files.map (·.1)) hd.fX fun x hx=>by
   obtain⟨p,hp,rfl⟩:=aq0.1 hx
   exact arG (hd.keys p hp) hd.made
  rwa[arj]at this
 have rI:∀x∈es,∃p∈d.files,x.key=apm .i64 p.1:=fun x hx=>by
  have:x.key∈d.files.map (fun p=>apm .i64 p.1):=by rw[←f1];exact arn hx
  obtain⟨p,hp,e⟩:=aq0.1 this
  exact⟨p,hp,e.symm⟩
 have gd:∀x∈es,∃p∈d.files,x.key=apm .i64 p.1∧avH av9 3 rc x=some (.int .i64 p.1,.lit (.bool true)):=fun x hx=>by
  obtain⟨p,hp,e⟩:=rI x hx
  refine⟨p,hp,e,?_⟩
  have CE:=arG (hd.keys p hp) hd.made
  have sH:(Lit.int .i64 (p.1:Int)).wf=true:=by
   have a:apr.min= -9223372036854775808:=by decide
   have b:apr.max=9223372036854775807:=by decide
   show(decide (apr.min≤(p.1:Int))&&decide ((p.1:Int)≤apr.max))=true
   rw[a,b,Bool.and_eq_true]
   exact⟨decide_eq_true (by omega),decide_eq_true (by omega)⟩
  unfold avH keyOf mapKey
  rw[e,aqY]
  simp[sH,rc]
 have CX:w.ownsMap av9 3 rc m es.toArray.size (.map ((es.toArray.toList.map (asH av9 3 rc)).foldr at3 [])):=by
  refine⟨es.toArray,d.made,c1,⟨?_,ala jV hd.keys hd.fX,?_⟩,apI _,rfl⟩
  ·have:es.toArray.size=d.files.length:=by simpa using Tv
   unfold maxLen
   omega
  ·intro x hx
   obtain⟨p,_,_,h⟩:=gd x (by simpa using hx)
   exact⟨_,h⟩
 have uP:auN (.map ((es.toArray.toList.map (asH av9 3 rc)).foldr at3 []):ato Unit)=d.files.length:=by
  show(List.foldr at3 [] _).length=_
  rw[length_sorted,arj]
  simpa using Tv
 have alg:(intKeys (.map ((es.toArray.toList.map (asH av9 3 rc)).foldr at3 []):ato Unit)).Perm (d.files.map fun p=>(p.1:Int)):=by
  refine((avS _).map _).trans ?_
  rw[arT]
  have:es.toArray.toList.map ((fun p=>Go.intOf p.1)∘asH av9 3 rc)=d.files.map fun p=>(p.1:Int):=by
   have e3:d.files.map (fun p=>(p.1:Int))=(es.map (·.key)).map (fun v=>match v with| .int _ x=>x|_=>0):=by
    rw[f1,arT];rfl
   rw[e3,arT]
   show es.map _=_
   refine List.map_congr_left fun x hx=>?_
   obtain⟨p,_,k1,k2⟩:=gd x hx
   show Go.intOf (asH av9 3 rc x).1=_
   unfold asH
   rw[k2]
   simp only[Function.comp,k1]
   rfl
  rw[this]
 refine(ak8 q.aI (q.sh+0) m _ _ rc w pt CX (by rw[uP];unfold maxLen;omega) (by rw[uP];omega)).mono ?_
 rintro e w' ⟨v2,ss,rfl,alh,ali,alj,hb⟩
 have Tw:=alh.trans alg
 have hlen:=Tw.length_eq
 rw[arj]at hlen
 have alk:ss.mergeSort (fun x y=>decide (x≤y))=mT d:=mergeSort_of_perm_i Tw
 unfold CZ
 by_cases h0:d.files=[]
 ·have:ss=[]:=aqf (by rw[hlen,h0];rfl)
  have alm:=alj.2 this
  subst alm
  rw[if_pos h0]
  exact⟨_,_,ρ,⟨rfl,rfl⟩,VR.bG _ rfl,gK,hw.under hb,by simp,fun _ _=>rfl⟩
 ·rw[if_neg h0]
  have bk:ss≠[]:=fun e=>h0 (aqf (by rw[←hlen,e];rfl))
  obtain⟨r1,⟨r2,r3⟩|⟨g,cap,wV,rfl,r3,r4,r5,r6,r7,r8⟩⟩:=ali
  ·exact absurd (aqf r3) bk
  rw[alk]at r8
  have dG:=hw.ale (ss:=mT d) (n:=ss.length) (by simp) hb r3 r4 (by rw[←Nat.mul_one ss.length,r8];rfl) (by rw[JP,hlen]) (by omega)
  refine⟨_,_,_,⟨rfl,rfl⟩,?_,ald gK (by rfl) _,dG,by simp,fun x hx=>?_⟩
  ·rw[hlen]
   have:=VR.sl (ρ:=ρ.put 1 ⟨g,0,1,wV.size⟩) 1 0 d.files.length d.files.length cap _ (Ren.kG _ _ _) (.inr ⟨by omega,by dsimp only;omega⟩)
   show VR _ _ _
   simpa using this
  ·have hx:x<1:=hx
   exact Ren.qi _ _ (by show x≠1;omega)
noncomputable def JQ:Sum:=⟨lP av9,fun a o=>match a,o with
 | [.pointer (some ⟨0,0,none⟩)],[.abs d]=>.rS (nQ d) (.ask d.files.isEmpty fun b=>match b with
  |true=>.done (.ret (.slice none 0 0),[.abs d])
  |false=>.done (.ret (.slice (some ⟨1,0,none⟩) d.files.length d.files.length),[.abs d,.cells (aq (mT d)) 3 false]))
 |_,_=>.fail⟩
theorem aln:bp av9 15 JQ:=by
 intro a o r o' hg
 unfold JQ at hg
 dsimp only at hg
 split at hg
 ·rename_i d
  obtain⟨h1,hg⟩:=QT.tT hg
  have hg:(match d.files.isEmpty with|true=>_|false=>_:QT (bx×List ag)).run=some (r,o'):=hg
  refine(alf d (pT.1 h1)).mono fun r1 o1 h=>?_
  obtain⟨rfl,rfl⟩:=h
  unfold CZ
  cases hk:d.files.isEmpty with
  |true=>
   rw[hk]at hg
   cases hg
   rw[if_pos (List.isEmpty_iff.1 hk)]
   exact⟨rfl,rfl⟩
  |false=>
   rw[hk]at hg
   cases hg
   rw[if_neg (fun e=>by rw[e]at hk;cases hk)]
   exact⟨rfl,rfl⟩
 ·cases hg
end Go.Proofs.YtnlkkgpcikkpoaaGreat
namespace Go.Proofs.YtnlkkgpcikkpoaaGreat
open Go Vm Go.RowKit
noncomputable section
abbrev Tx:aj:=⟨[(0,ao 0)],[ab ([aa 0,aa 0,aa 0,aa 0,aa 0,aa 0,aa 0,aa 0,aa 15,aa 0,aa 0,aa 1,aa 0,aa 0,aa 0,aa 15,aa 0,aa 1,aa 0,aa 0,aa 0,aa 0,aa 1000000000,aa 0,aa 1,aa 1,aa 64,aa 0,aa 0,aa 9223372036854775807,aa 0,aa 1,aa 1,aa 64,aa 64,aa 0,aa 1,aa 1,aa 1,aa 1,aa 64,aa 0,aa 0,aa 0,aa 2,aa 1,aa 1,aa 0,aa 0,aa 1,aa 65535,aa 3,aa 1,aa 1,aa 64,aa 0,aa 0,aa 1,aa 0,aa 1,aa 1,aa 128,aa 0,aa 0,aa 0,aa 0,aa 1,aa 1,aa 0,aa 0,aa 0,aa 1000000000,aa 0,aa 1,aa 1,aa 64,aa 0,aa 0,aa 1,aa 0,aa 1,aa 1,aa 320,aa 0,aa 1,aa 4,aa 0,aa (-1),aa 1,aa 0,aa 0,aa 1,aa 4,aa 3,aa (-1),aa 1,aa 0,aa 96,aa 1,aa 9223372036854775807,aa 3,aa 2,aa 1,aa 192,aa 128,aa 1,aa 4,aa 0,aa 1,aa (-1),aa 0,aa 0,aa 1,aa 4,aa 0,aa 1,aa (-1),aa 64,aa 0]) 175]⟩
theorem alo{Q:bg}(hq:Q (.ret (.agg (ap9 [aa 0,aa 0,aa 0,aa 0,aa 0,aa 0,aa 0,aa 0,aa 15,aa 0,aa 0,aa 1,aa 0,aa 0,aa 0,aa 15,aa 0,aa 1,aa 0,aa 0,aa 0,aa 0,aa 1000000000,aa 0,aa 1,aa 1,aa 64,aa 0,aa 0,aa 9223372036854775807,aa 0,aa 1,aa 1,aa 64,aa 64,aa 0,aa 1,aa 1,aa 1,aa 1,aa 64,aa 0,aa 0,aa 0,aa 2,aa 1,aa 1,aa 0,aa 0,aa 1,aa 65535,aa 3,aa 1,aa 1,aa 64,aa 0,aa 0,aa 1,aa 0,aa 1,aa 1,aa 128,aa 0,aa 0,aa 0,aa 0,aa 1,aa 1,aa 0,aa 0,aa 0,aa 1000000000,aa 0,aa 1,aa 1,aa 64,aa 0,aa 0,aa 1,aa 0,aa 1,aa 1,aa 320,aa 0,aa 1,aa 4,aa 0,aa (-1),aa 1,aa 0,aa 0,aa 1,aa 4,aa 3,aa (-1),aa 1,aa 0,aa 96,aa 1,aa 9223372036854775807,aa 3,aa 2,aa 1,aa 192,aa 128,aa 1,aa 4,aa 0,aa 1,aa (-1),aa 0,aa 0,aa 1,aa 4,aa 0,aa 1,aa (-1),aa 64,aa 0]))) []):aF apP 105 18 0 Q .ret (Tx):=aF.ret (vs:=[.agg (ap9 [aa 0,aa 0,aa 0,aa 0,aa 0,aa 0,aa 0,aa 0,aa 15,aa 0,aa 0,aa 1,aa 0,aa 0,aa 0,aa 15,aa 0,aa 1,aa 0,aa 0,aa 0,aa 0,aa 1000000000,aa 0,aa 1,aa 1,aa 64,aa 0,aa 0,aa 9223372036854775807,aa 0,aa 1,aa 1,aa 64,aa 64,aa 0,aa 1,aa 1,aa 1,aa 1,aa 64,aa 0,aa 0,aa 0,aa 2,aa 1,aa 1,aa 0,aa 0,aa 1,aa 65535,aa 3,aa 1,aa 1,aa 64,aa 0,aa 0,aa 1,aa 0,aa 1,aa 1,aa 128,aa 0,aa 0,aa 0,aa 0,aa 1,aa 1,aa 0,aa 0,aa 0,aa 1000000000,aa 0,aa 1,aa 1,aa 64,aa 0,aa 0,aa 1,aa 0,aa 1,aa 1,aa 320,aa 0,aa 1,aa 4,aa 0,aa (-1),aa 1,aa 0,aa 0,aa 1,aa 4,aa 3,aa (-1),aa 1,aa 0,aa 96,aa 1,aa 9223372036854775807,aa 3,aa 2,aa 1,aa 192,aa 128,aa 1,aa 4,aa 0,aa 1,aa (-1),aa 0,aa 0,aa 1,aa 4,aa 0,aa 1,aa (-1),aa 64,aa 0])]) (l:=[0]) (bs:=[]) (pl:=[]) (q:=[]) (fun u=>by kernel_rfl) (by kernel_rfl) bc hq
theorem rv{Q:aQ}(l0:Q .ret (Tx)):an apP 18 0 Zk ⟨[],[]⟩ Q:=
 aS bo 1000 (.leaf [0] [0] []) (fun u=>by kernel_rfl) (Tree.dB (l0))
end
end Go.Proofs.YtnlkkgpcikkpoaaGreat
namespace Go.Proofs.YtnlkkgpcikkpoaaGreat
open Go Vm Go.RowKit
set_option maxHeartbeats 8000000
noncomputable section
def RT(P:Program)(n k:Nat)(l:List apV)(Q:bd→aj→Prop)(x:bd)(d:aj):Prop:=match x with
 | .normal=>an P n k l d Q
 |x=>Q x d
theorem an.alp{P:Program}(hP:iG P=true)(fw:P.follows .mixedOrders=true){cO:fD}(hc:dw P cO){lf n k m:Nat}{l:List apV}{d:aj}{s:ST}{T:Tree}
 (h:∀u,(tS P cO lf (l.take m) (eH n u d.sl) (ld d.objs)).sym (vM n k) s=some T){Q:Int→bd→aj→Prop}(hT:∃e,T.ok (RT P n k (l.drop m) (Q e))):∃e,an P n k l d (Q e):=by
 obtain⟨e,he⟩:=hT
 exact⟨e,an.tree hP fw hc h (Tree.A7 (fun x d h=>by cases x<;>exact h) he)⟩
theorem ae{R:Int→bd→aj→Prop}{c v:Bool}{t:Tree}(h1:c=v)(h2:∃e,t.ok (R e)):∃e,(Tree.cD c v t).ok (R e):=by
 obtain⟨e,he⟩:=h2
 exact⟨e,h1,he⟩
theorem bj{R:Int→bd→aj→Prop}{c:Bool}{a b:Tree}(h1:c=true→∃e,a.ok (R e))(h2:c=false→∃e,b.ok (R e)):∃e,(Tree.fork c a b).ok (R e):=by
 cases c with
 |true=>obtain⟨e,he⟩:=h1 rfl;exact⟨e,fun _=>he,fun h=>by cases h⟩
 |false=>obtain⟨e,he⟩:=h2 rfl;exact⟨e,(fun h=>by cases h),fun _=>he⟩
theorem C1{R:Int→bd→aj→Prop}(A B:ByteArray)(e:Int){d:aj}(h:R e .ret d):∃e,(Tree.cD (aph (ai A) af) true (.cD (aph (ai B) af) true (.leaf .ret d))).ok (R e):=⟨e,aH A,aH B,h⟩
theorem wW{A:ByteArray}(h:((A.size:Int)==1)=true):cA .u8 (ai A) 0=true:=by
 have h:(A.size:Int)=1:=by simpa using h
 exact Bi (d:=A.data) (p:=0) (by show 0<A.size;omega)
theorem wX{A:ByteArray}(h:((A.size:Int)==1)=true):apy 0 A.size=true:=by
 have h:(A.size:Int)=1:=by simpa using h
 exact Nat.ble_eq_true_of_le (by omega)
theorem bb{K:Int}(a b:Int)(h:(K==a)=true)(jA:(a==b)=false:=by decide):(K==b)=false:=by
 have h:K=a:=by simpa using h
 rw[h];exact jA
theorem C2{A:ByteArray}{P:Prop}(h:P):pS (ai A) P=true:=YC (d:=A.data) h
noncomputable def alq:List (apQ×Sum):=[(83,Sum.of GH),(84,Sum.of GI)]
theorem Ty:dw av9 (dM av9 (dN alq) 50 40):=dR du mixed (ed (.cons Zi (.cons Zj .nil))) 50 40
theorem alr:aE av9 105 [] [] fun r o=>r=.ret NN∧o=[]:=by
 refine aE.cT (n:=cn av9 105) (by kernel_rfl) ?_
 apply rv
 refine alo ?_
 exact⟨rfl,rfl⟩
theorem als:bp av9 105 (Sum.of GJ):=bp.of fun a o r o' hg=>by
 unfold GJ at hg
 split at hg
 ·simp only[api,apn,true_and]at hg
  obtain⟨rfl,rfl⟩:=hg
  exact alr
 ·cases hg
noncomputable def alt:List (apQ×Sum):=[(105,Sum.of GJ)]
theorem alu:dw av9 (dM av9 (dN alt) 50 40):=dR du mixed (ed (.cons als .nil)) 50 40
noncomputable def wY:List apV:=aY (dz av9 31)
noncomputable def alv:List apV:=aY (dz av9 59)
abbrev sU:=fun A B=>([.cells (ai A) 5 true,.cells (ai B) 5 true]:List ag)
abbrev Tz:=fun(K N:Int) A B=>(⟨[(2,aa 10)],sU A B⟩:aj)
theorem alw(K N:Int)(A B){Q:bg}(hq:Q (.ret (aa 10)) (Tz K N A B).objs):aF apP 31 17 2 Q .ret (Tz K N A B):=aF.ret (vs:=[aa 10]) (l:=[]) (bs:=[0,1]) (pl:=[0,1]) (q:=[ai A,ai B]) (fun u=>by kernel_rfl) (by kernel_rfl) (aC (aH A) (aC (aH B) bc)) hq
abbrev TA:=fun(K N:Int) A B=>(⟨[(2,aa 11)],sU A B⟩:aj)
theorem alx(K N:Int)(A B){Q:bg}(hq:Q (.ret (aa 11)) (TA K N A B).objs):aF apP 31 17 2 Q .ret (TA K N A B):=aF.ret (vs:=[aa 11]) (l:=[]) (bs:=[0,1]) (pl:=[0,1]) (q:=[ai A,ai B]) (fun u=>by kernel_rfl) (by kernel_rfl) (aC (aH A) (aC (aH B) bc)) hq
abbrev TB:=fun(K N:Int) A B=>(⟨[(2,aa 0)],sU A B⟩:aj)
theorem aly(K N:Int)(A B){Q:bg}(hq:Q (.ret (aa 0)) (TB K N A B).objs):aF apP 31 17 2 Q .ret (TB K N A B):=aF.ret (vs:=[aa 0]) (l:=[]) (bs:=[0,1]) (pl:=[0,1]) (q:=[ai A,ai B]) (fun u=>by kernel_rfl) (by kernel_rfl) (aC (aH A) (aC (aH B) bc)) hq
abbrev TC:=fun(K N:Int) A B=>(⟨[(2,aa 12)],sU A B⟩:aj)
theorem alz(K N:Int)(A B){Q:bg}(hq:Q (.ret (aa 12)) (TC K N A B).objs):aF apP 31 17 2 Q .ret (TC K N A B):=aF.ret (vs:=[aa 12]) (l:=[]) (bs:=[0,1]) (pl:=[0,1]) (q:=[ai A,ai B]) (fun u=>by kernel_rfl) (by kernel_rfl) (aC (aH A) (aC (aH B) bc)) hq
theorem alA(K N:Int)(A B:ByteArray)(hA:A.size≤1000)(hB:B.size≤1000)(hK:¬K=11):∃e,an apP 17 2 wY ⟨[(0,.agg #[aa K,aa N,ah 0 A.size,ah 1 B.size])],[.cells (ai A) 5 true,.cells (ai B) 5 true]⟩ ((fun e=>aF apP 31 17 2 (fun r o=>r=.ret (aa e)∧o=[.cells (ai A) 5 true,.cells (ai B) 5 true])) e):=by
 have q0:=C1 (R:=fun e=>RT apP 17 2 (wY.drop 1000) ((fun e=>aF apP 31 17 2 (fun r o=>r=.ret (.int .i64 e)∧o=[.cells (ai A) 5 true,.cells (ai B) 5 true])) e)) A B 10 (alw K N A B ⟨rfl,rfl⟩)
 have q2:=C1 (R:=fun e=>RT apP 17 2 (wY.drop 1000) ((fun e=>aF apP 31 17 2 (fun r o=>r=.ret (.int .i64 e)∧o=[.cells (ai A) 5 true,.cells (ai B) 5 true])) e)) A B 11 (alx K N A B ⟨rfl,rfl⟩)
 have q3:=C1 (R:=fun e=>RT apP 17 2 (wY.drop 1000) ((fun e=>aF apP 31 17 2 (fun r o=>r=.ret (.int .i64 e)∧o=[.cells (ai A) 5 true,.cells (ai B) 5 true])) e)) A B 0 (aly K N A B ⟨rfl,rfl⟩)
 have sV:=C1 (R:=fun e=>RT apP 17 2 (wY.drop 1000) ((fun e=>aF apP 31 17 2 (fun r o=>r=.ret (.int .i64 e)∧o=[.cells (ai A) 5 true,.cells (ai B) 5 true])) e)) A B 12 (alz K N A B ⟨rfl,rfl⟩)
 exact an.alp du mixed Ty (lf:=50) (m:=1000) (s:=(.fork 1 (aA [1,1,1] (.leaf [2] [0,1] [0,1])) (aA [0,2,0] (.fork 0 (.leaf [2] [0,1] [0,1]) (.fork 4 (aA [1,3,3,1] (.fork 1 (aA [1] (.fork 0 (aA [1,3] (.fork 1 (aA [1,1,1,1] (.fork 0 (.leaf [2] [0,1] [0,1]) (aA [6,0,2,0,0,0,0,0,4,0,0,0,0,0,0,0,0,0] (.leaf [2] [0,1] [0,1])))) (aA [0,0,0,1] (.leaf [2] [0,1] [0,1])))) (aA [0,0,0] (.leaf [2] [0,1] [0,1])))) (.fork 0 (.fork 0 (aA [1,3] (.fork 1 (aA [1,1,1,1] (.fork 0 (.leaf [2] [0,1] [0,1]) (aA [6,0,2,0,0,0,0,0,4,0,0,0,0,0,0,0,0,0] (.leaf [2] [0,1] [0,1])))) (aA [0,0,0,1] (.leaf [2] [0,1] [0,1])))) (aA [0,0,0] (.leaf [2] [0,1] [0,1]))) (.fork 0 (aA [1] (.fork 0 (aA [1,3] (.fork 1 (aA [1,1,1,1] (.fork 0 (.leaf [2] [0,1] [0,1]) (aA [6,0,2,0,0,0,0,0,5,1] (.leaf [2] [0,1] [0,1])))) (aA [0,0,0,1] (.leaf [2] [0,1] [0,1])))) (aA [0,0,0] (.leaf [2] [0,1] [0,1])))) (.fork 0 (.fork 0 (aA [1,3] (.fork 1 (aA [1,1,1,1] (.fork 0 (.leaf [2] [0,1] [0,1]) (aA [6,0,2,0,0,0,0,0,4,0,0,1,1] (.leaf [2] [0,1] [0,1])))) (aA [0,0,0,1] (.leaf [2] [0,1] [0,1])))) (aA [0,0,0] (.leaf [2] [0,1] [0,1]))) (.fork 0 (.fork 0 (aA [1,3,1] (.fork 0 (.leaf [2] [0,1] [0,1]) (aA [7,1,1,1] (.fork 5 (.leaf [2] [0,1] [0,1]) (aA [2,0,0,0,0,1] (.fork 1 (.leaf [2] [0,1] [0,1]) (.leaf [2] [0,1] [0,1]))))))) (aA [0,0,0] (.leaf [2] [0,1] [0,1]))) (.fork 0 (.fork 2 (aA [1,3] (.fork 1 (aA [1,1,1,1] (.fork 0 (aA [1,3,3] (.fork 1 (aA [1,1,1,1] (.fork 0 (aA [1,3,3,1,1,1] (.fork 0 (.leaf [2] [0,1] [0,1]) (aA [6,0,2,0,0,0,0,0,4,1,1] (.leaf [2] [0,1] [0,1])))) (aA [0,0,0,0] (.leaf [2] [0,1] [0,1])))) (aA [0,0,0,1] (.leaf [2] [0,1] [0,1])))) (aA [0,0,0,0] (.leaf [2] [0,1] [0,1])))) (aA [0,0,0,1] (.leaf [2] [0,1] [0,1])))) (aA [0,0,0] (.leaf [2] [0,1] [0,1]))) (.fork 0 (.fork 1 (aA [1,3,3] (.fork 1 (aA [1,1,1,1] (.fork 0 (aA [1,3,3,1,1] (.fork 0 (aA [1,3,3,1,3,3,1] (.fork 0 (.leaf [2] [0,1] [0,1]) (aA [6,0,2,0,0,0,0,0,4,0,0,0,0,0,0,0,0,0] (.leaf [2] [0,1] [0,1])))) (aA [0,0,0,0,0,0,0] (.leaf [2] [0,1] [0,1])))) (aA [0,0,0] (.leaf [2] [0,1] [0,1])))) (aA [0,0,0,1] (.leaf [2] [0,1] [0,1])))) (aA [0,0,0,0] (.leaf [2] [0,1] [0,1]))) (.fork 0 (.fork 2 (aA [1,3] (.fork 2 (aA [1,0,3,1,0,1,1,1,1] (.fork 0 (aA [1,3] (.fork 1 (aA [1,1,1,1] (.fork 0 (.leaf [2] [0,1] [0,1]) (aA [6,0,2,0,0,0,0,0,4,0,1,1] (.leaf [2] [0,1] [0,1])))) (aA [0,0,0,1] (.leaf [2] [0,1] [0,1])))) (aA [0,0,0] (.leaf [2] [0,1] [0,1])))) (aA [0,0,0,0,1] (.leaf [2] [0,1] [0,1])))) (aA [0,0,0] (.leaf [2] [0,1] [0,1]))) (.fork 0 (aA [1] (.fork 0 (aA [1,3] (.fork 1 (aA [1,1,1,1] (.fork 0 (.leaf [2] [0,1] [0,1]) (aA [6,0,2,0,0,0,0,0,4,0,0,0,0,0,1] (.leaf [2] [0,1] [0,1])))) (aA [0,0,0,1] (.leaf [2] [0,1] [0,1])))) (aA [0,0,0] (.leaf [2] [0,1] [0,1])))) (aA [0] (.fork 0 (.fork 0 (aA [1,3,1] (.fork 0 (.leaf [2] [0,1] [0,1]) (aA [6,0,2,0,0,0,0,0,4,0,0,0,0,0,0,0,0,0] (.leaf [2] [0,1] [0,1])))) (aA [0,0,0] (.leaf [2] [0,1] [0,1]))) (.fork 0 (aA [1] (.fork 0 (aA [1,3] (.fork 1 (aA [1,1,1,1] (.fork 0 (.leaf [2] [0,1] [0,1]) (aA [6,0,2,0,0,0,0,0,4,0,0,0,0,0,0,0,0,0] (.leaf [2] [0,1] [0,1])))) (aA [0,0,0,1] (.leaf [2] [0,1] [0,1])))) (aA [0,0,0] (.leaf [2] [0,1] [0,1])))) (.fork 0 (aA [1] (.fork 0 (aA [1,3] (.fork 1 (aA [1,1,1,1] (.fork 0 (.leaf [2] [0,1] [0,1]) (aA [6,0,2,0,0,0,0,0,4,0,0,0,0,0,0,0,0,0] (.leaf [2] [0,1] [0,1])))) (aA [0,0,0,1] (.leaf [2] [0,1] [0,1])))) (aA [0,0,0] (.leaf [2] [0,1] [0,1])))) (.fork 0 (.fork 0 (aA [1,3] (.fork 1 (aA [1,1,1,1] (.fork 0 (.leaf [2] [0,1] [0,1]) (aA [6,0,2,0,0,0,0,0,4,0,0,0,1] (.leaf [2] [0,1] [0,1])))) (aA [0,0,0,1] (.leaf [2] [0,1] [0,1])))) (aA [0,0,0] (.leaf [2] [0,1] [0,1]))) (.fork 0 (.fork 2 (aA [1,3] (.fork 2 (aA [1,0,3,1,0,1,1,1,1] (.fork 0 (aA [1,3] (.fork 1 (aA [1,1,1,1] (.fork 0 (.leaf [2] [0,1] [0,1]) (aA [6,0,2,0,0,0,0,0,4,0,0,0,0,0,0,0,1] (.fork 1 (.leaf [2] [0,1] [0,1]) (.leaf [2] [0,1] [0,1]))))) (aA [0,0,0,1] (.leaf [2] [0,1] [0,1])))) (aA [0,0,0] (.leaf [2] [0,1] [0,1])))) (aA [0,0,0,0,1] (.leaf [2] [0,1] [0,1])))) (aA [0,0,0] (.leaf [2] [0,1] [0,1]))) (aA [1] (.fork 2 (aA [1,3] (.fork 2 (aA [1,0,3,1,0,1,1,1,1] (.fork 0 (aA [1,3,1] (.fork 0 (.leaf [2] [0,1] [0,1]) (aA [6,0,2,0,1,1,3,1] (.fork 0 (.leaf [2] [0,1] [0,1]) (aA [2,0,0,0,0,0,0,0,0,1] (.fork 1 (.leaf [2] [0,1] [0,1]) (.leaf [2] [0,1] [0,1]))))))) (aA [0,0,0] (.leaf [2] [0,1] [0,1])))) (aA [0,0,0,0,1] (.leaf [2] [0,1] [0,1])))) (aA [0,0,0] (.leaf [2] [0,1] [0,1])))))))))))))))))))) (aA [0,0,0,0] (.fork 1 (aA [1] (.leaf [2] [0,1] [0,1])) (.fork 0 (.leaf [2] [0,1] [0,1]) (.fork 0 (aA [1] (.leaf [2] [0,1] [0,1])) (.fork 0 (.leaf [2] [0,1] [0,1]) (.fork 0 (.leaf [2] [0,1] [0,1]) (.fork 0 (.fork 2 (aA [1,3] (.fork 1 (aA [1,1,1,1] (.fork 0 (aA [1,3,3] (.fork 1 (aA [1,1,1,1] (.fork 0 (aA [1,3,3,1,1,1] (.fork 0 (.leaf [2] [0,1] [0,1]) (aA [6,0,2,0,0,0,0,0,4,1,1] (.leaf [2] [0,1] [0,1])))) (aA [0,0,0,0] (.leaf [2] [0,1] [0,1])))) (aA [0,0,0,1] (.leaf [2] [0,1] [0,1])))) (aA [0,0,0,0] (.leaf [2] [0,1] [0,1])))) (aA [0,0,0,1] (.leaf [2] [0,1] [0,1])))) (aA [0,0,0] (.leaf [2] [0,1] [0,1]))) (.fork 0 (.fork 1 (aA [1,3,3] (.fork 1 (aA [1,1,1,1] (.fork 0 (aA [1,3,3,1,1] (.fork 0 (aA [1,3,3,1,3,3,1] (.fork 0 (.leaf [2] [0,1] [0,1]) (aA [6,0,2,0,0,0,0,0,4,0,0,0,0,0,0,0,0,0] (.leaf [2] [0,1] [0,1])))) (aA [0,0,0,0,0,0,0] (.leaf [2] [0,1] [0,1])))) (aA [0,0,0] (.leaf [2] [0,1] [0,1])))) (aA [0,0,0,1] (.leaf [2] [0,1] [0,1])))) (aA [0,0,0,0] (.leaf [2] [0,1] [0,1]))) (.fork 0 (.fork 2 (aA [1,3] (.fork 2 (aA [1,0,3,1,0,1,1,1,1] (.fork 0 (aA [1,3] (.fork 1 (aA [1,1,1,1] (.fork 0 (.leaf [2] [0,1] [0,1]) (aA [6,0,2,0,0,0,0,0,4,0,1,1] (.leaf [2] [0,1] [0,1])))) (aA [0,0,0,1] (.leaf [2] [0,1] [0,1])))) (aA [0,0,0] (.leaf [2] [0,1] [0,1])))) (aA [0,0,0,0,1] (.leaf [2] [0,1] [0,1])))) (aA [0,0,0] (.leaf [2] [0,1] [0,1]))) (.fork 0 (aA [1] (.leaf [2] [0,1] [0,1])) (aA [0] (.fork 0 (.leaf [2] [0,1] [0,1]) (.fork 0 (aA [1] (.leaf [2] [0,1] [0,1])) (.fork 0 (aA [1] (.leaf [2] [0,1] [0,1])) (.fork 0 (.leaf [2] [0,1] [0,1]) (.fork 0 (.fork 2 (aA [1,3] (.fork 2 (aA [1,0,3,1,0,1,1,1,1] (.fork 0 (aA [1,3] (.fork 1 (aA [1,1,1,1] (.fork 0 (.leaf [2] [0,1] [0,1]) (aA [6,0,2,0,0,0,0,0,4,0,0,0,0,0,0,0,1] (.fork 1 (.leaf [2] [0,1] [0,1]) (.leaf [2] [0,1] [0,1]))))) (aA [0,0,0,1] (.leaf [2] [0,1] [0,1])))) (aA [0,0,0] (.leaf [2] [0,1] [0,1])))) (aA [0,0,0,0,1] (.leaf [2] [0,1] [0,1])))) (aA [0,0,0] (.leaf [2] [0,1] [0,1]))) (aA [1] (.fork 2 (aA [1,3] (.fork 2 (aA [1,0,3,1,0,1,1,1,1] (.fork 0 (aA [1,3,1] (.fork 0 (.leaf [2] [0,1] [0,1]) (aA [6,0,2,0,1,1,3,1] (.fork 0 (.leaf [2] [0,1] [0,1]) (aA [2,0,0,0,0,0,0,0,0,1] (.fork 1 (.leaf [2] [0,1] [0,1]) (.leaf [2] [0,1] [0,1]))))))) (aA [0,0,0] (.leaf [2] [0,1] [0,1])))) (aA [0,0,0,0,1] (.leaf [2] [0,1] [0,1])))) (aA [0,0,0] (.leaf [2] [0,1] [0,1]))))))))))))))))))))))))) (fun u=>by kernel_rfl) (bj (c:=decide (K<1)) (fun h0=>(ae h0 (ae h0 (ae h0 q0)))) (fun h0=>(ae h0 (ae h0 (ae h0 (bj (c:=decide (K>16)) (fun h1=>q0) (fun h1=>(bj (c:=(↑(apk A):Int)==0) (fun h2=>(ae h2 (ae h2 (ae h2 (ae h2 (bj (c:=K==1) (fun h3=>(ae h3 (bj (c:=(↑(apk B):Int)==0) (fun h4=>(ae h4 (ae h4 (bj (c:=decide (N ≥ 0)) (fun h5=>(ae h5 (ae h5 (ae h5 (ae h4 (bj (c:= !decide (N≤15)) (fun h6=>q2) (fun h6=>(ae (bb 1 4 h3) (ae (bb 1 4 h3) (ae (bb 1 4 h3) (ae (bb 1 4 h3) (ae (bb 1 14 h3) (ae (bb 1 14 h3) (ae (bb 1 14 h3) (ae (bb 1 14 h3) (ae (bb 1 3 h3) (ae (bb 1 5 h3) (ae (bb 1 7 h3) (ae (bb 1 10 h3) (ae (bb 1 16 h3) (ae (bb 1 4 h3) (ae (bb 1 8 h3) (ae (bb 1 11 h3) (ae (bb 1 13 h3) (ae (bb 1 14 h3) q3))))))))))))))))))))))))) (fun h5=>(ae h5 (ae h5 (ae h5 (ae h4 q2))))))))) (fun h4=>(ae h4 (ae h4 (ae h4 q2))))))) (fun h3=>(bj (c:=K==2) (fun h4=>(bj (c:=(↑(apk B):Int)==0) (fun h5=>(ae h5 (ae h5 (bj (c:=decide (N ≥ 0)) (fun h6=>(ae h6 (ae h6 (ae h6 (ae h5 (bj (c:= !decide (N≤15)) (fun h7=>q2) (fun h7=>(ae (bb 2 4 h4) (ae (bb 2 4 h4) (ae (bb 2 4 h4) (ae (bb 2 4 h4) (ae (bb 2 14 h4) (ae (bb 2 14 h4) (ae (bb 2 14 h4) (ae (bb 2 14 h4) (ae (bb 2 3 h4) (ae (bb 2 5 h4) (ae (bb 2 7 h4) (ae (bb 2 10 h4) (ae (bb 2 16 h4) (ae (bb 2 4 h4) (ae (bb 2 8 h4) (ae (bb 2 11 h4) (ae (bb 2 13 h4) (ae (bb 2 14 h4) q3))))))))))))))))))))))))) (fun h6=>(ae h6 (ae h6 (ae h6 (ae h5 q2))))))))) (fun h5=>(ae h5 (ae h5 (ae h5 q2)))))) (fun h4=>(bj (c:=K==3) (fun h5=>(ae h5 (bj (c:=(↑(apk B):Int)==0) (fun h6=>(ae h6 (ae h6 (bj (c:=decide (N ≥ 0)) (fun h7=>(ae h7 (ae h7 (ae h7 (ae h6 (bj (c:= !decide (N≤1000000000)) (fun h8=>q2) (fun h8=>(ae (bb 3 4 h5) (ae (bb 3 4 h5) (ae (bb 3 4 h5) (ae (bb 3 4 h5) (ae (bb 3 14 h5) (ae (bb 3 14 h5) (ae (bb 3 14 h5) (ae (bb 3 14 h5) (ae h5 (ae h5 q3))))))))))))))))) (fun h7=>(ae h7 (ae h7 (ae h7 (ae h6 q2))))))))) (fun h6=>(ae h6 (ae h6 (ae h6 q2))))))) (fun h5=>(bj (c:=K==10) (fun h6=>(bj (c:=(↑(apk B):Int)==0) (fun h7=>(ae h7 (ae h7 (bj (c:=decide (N ≥ 0)) (fun h8=>(ae h8 (ae h8 (ae h8 (ae h7 (bj (c:= !decide (N≤1000000000)) (fun h9=>q2) (fun h9=>(ae (bb 10 4 h6) (ae (bb 10 4 h6) (ae (bb 10 4 h6) (ae (bb 10 4 h6) (ae (bb 10 14 h6) (ae (bb 10 14 h6) (ae (bb 10 14 h6) (ae (bb 10 14 h6) (ae h5 (ae (bb 10 5 h6) (ae (bb 10 7 h6) (ae h6 (ae h6 q3)))))))))))))))))))) (fun h8=>(ae h8 (ae h8 (ae h8 (ae h7 q2))))))))) (fun h7=>(ae h7 (ae h7 (ae h7 q2)))))) (fun h6=>(bj (c:=K==4) (fun h7=>(bj (c:=(↑(apk B):Int)==0) (fun h8=>(ae h8 (ae h8 (ae h8 (bj (c:= !decide (N ≥ 0)) (fun h9=>q2) (fun h9=>(ae h7 (ae h7 (ae h7 (ae h7 (bj (c:=decide (N>100)) (fun bJ=>sV) (fun bJ=>(ae h5 (ae (bb 4 5 h7) (ae (bb 4 7 h7) (ae h6 (ae (bb 4 16 h7) (ae h7 (bj (c:=decide (apc apr (64+apc apr (64*N))>2048)) (fun bK=>sV) (fun bK=>q3)))))))))))))))))))) (fun h8=>(ae h8 (ae h8 (ae h8 q2)))))) (fun h7=>(bj (c:=K==5) (fun h8=>(bj (c:=(↑(apk B):Int)==0) (fun h9=>(ae h9 (ae h9 (bj (c:=decide (N ≥ 0)) (fun bJ=>(ae bJ (ae bJ (ae bJ (ae h9 (bj (c:=decide (N≤1)) (fun bK=>(ae bK (ae bK (ae bK (bj (c:=decide ((↑(apk A):Int) ≥ 1)) (fun bD=>(ae bD (ae bD (ae bD (ae bK (bj (c:=decide ((↑(apk A):Int)≤16)) (fun bf=>(ae bf (ae bf (ae (show(aph (ai A) af)=true by exact aH _) (ae (show(pS (ai A) (apk A=apk A∧5=5∧apb (ai A)=apk A∧apk A≤10000))=true by exact C2 ⟨rfl,rfl,nj _,by omega⟩) (ae bf (ae bf (bj (c:= !!sq (sj (ai A)) 10) (fun cG=>q2) (fun cG=>(ae h7 (ae h7 (ae h7 (ae h7 (ae (bb 5 14 h8) (ae (bb 5 14 h8) (ae (bb 5 14 h8) (ae (bb 5 14 h8) (ae h5 (ae h8 (ae h8 q3)))))))))))))))))))) (fun bf=>(ae bf (ae bf (ae bf (ae bf q2))))))))))) (fun bD=>(ae bD (ae bD (ae bD (ae bK q2)))))))))) (fun bK=>(ae bK (ae bK (ae bK (ae bK q2))))))))))) (fun bJ=>(ae bJ (ae bJ (ae bJ (ae h9 q2))))))))) (fun h9=>(ae h9 (ae h9 (ae h9 q2)))))) (fun h8=>(bj (c:=K==6) (fun h9=>(bj (c:=N==0) (fun bJ=>(ae bJ (ae bJ (ae bJ (bj (c:=decide ((↑(apk A):Int) ≥ 1)) (fun bK=>(ae bK (ae bK (ae bK (ae bJ (bj (c:=decide ((↑(apk A):Int)≤64)) (fun bD=>(ae bD (ae bD (ae (show(aph (ai A) af)=true by exact aH _) (ae (show(pS (ai A) (apk A=apk A∧5=5∧apb (ai A)=apk A∧apk A≤10000))=true by exact C2 ⟨rfl,rfl,nj _,by omega⟩) (ae bD (bj (c:=sk (sj (ai A))) (fun bf=>(ae bf (ae bf (ae bf (ae bf (ae bf (ae bf (ae bf (bj (c:= !decide ((↑(apk B):Int)≤(↑(apk A):Int))) (fun cG=>q2) (fun cG=>(ae h7 (ae h7 (ae h7 (ae h7 (ae (bb 6 14 h9) (ae (bb 6 14 h9) (ae (bb 6 14 h9) (ae (bb 6 14 h9) (ae h5 (ae h8 (ae (bb 6 7 h9) (ae h6 (ae (bb 6 16 h9) (ae h7 (ae (bb 6 8 h9) (ae (bb 6 11 h9) (ae (bb 6 13 h9) (ae (bb 6 14 h9) q3)))))))))))))))))))))))))))) (fun bf=>(ae bf (ae bf (ae bf (ae bf (ae bf (ae bf (ae bf q2))))))))))))))) (fun bD=>(ae bD (ae bD (ae bD q2)))))))))) (fun bK=>(ae bK (ae bK (ae bK (ae bJ q2)))))))))) (fun bJ=>(ae bJ (ae bJ (ae bJ (ae bJ q2))))))) (fun h9=>(bj (c:=K==7) (fun bJ=>(bj (c:=(↑(apk B):Int)==0) (fun bK=>(ae bK (ae bK (bj (c:=(↑(apk A):Int)==1) (fun bD=>(ae bD (ae (wX bD) (ae bD (ae (wW bD) (ae bD (ae bD (ae bK (bj (c:=av (ai A) 0 != 10) (fun bf=>(ae bf (ae bf (bj (c:=decide (N ≥ 1)) (fun cG=>(ae cG (ae cG (ae cG (ae bf (bj (c:= !decide (N≤65535)) (fun dZ=>q2) (fun dZ=>(ae h7 (ae h7 (ae h7 (ae h7 (ae (bb 7 14 bJ) (ae (bb 7 14 bJ) (ae (bb 7 14 bJ) (ae (bb 7 14 bJ) (ae h5 (ae h8 (ae bJ (ae bJ q3))))))))))))))))))) (fun cG=>(ae cG (ae cG (ae cG (ae bf q2))))))))) (fun bf=>(ae bf (ae bf (ae bf q2))))))))))))) (fun bD=>(ae bD (ae bD (ae bD (ae bD (ae bK q2)))))))))) (fun bK=>(ae bK (ae bK (ae bK q2)))))) (fun bJ=>(bj (c:=K==8) (fun bK=>(ae bK (bj (c:=(↑(apk B):Int)==0) (fun bD=>(ae bD (ae bD (bj (c:=decide (N ≥ 0)) (fun bf=>(ae bf (ae bf (ae bf (ae bD (bj (c:= !decide (N≤1)) (fun cG=>q2) (fun cG=>(ae h7 (ae h7 (ae h7 (ae h7 (ae (bb 8 14 bK) (ae (bb 8 14 bK) (ae (bb 8 14 bK) (ae (bb 8 14 bK) (ae h5 (ae h8 (ae bJ (ae h6 (ae (bb 8 16 bK) (ae h7 (ae bK q3)))))))))))))))))))))) (fun bf=>(ae bf (ae bf (ae bf (ae bD q2))))))))) (fun bD=>(ae bD (ae bD (ae bD q2))))))) (fun bK=>(ae (show(K==11)=false by exact(decide_eq_false (by omega))) (bj (c:=K==9) (fun bD=>(bj (c:=(↑(apk B):Int)==0) (fun bf=>(ae bf (ae bf (ae bf (bj (c:= !N==0) (fun cG=>q2) (fun cG=>(ae h7 (ae h7 (ae h7 (ae h7 (ae (bb 9 14 bD) (ae (bb 9 14 bD) (ae (bb 9 14 bD) (ae (bb 9 14 bD) (ae h5 (ae h8 (ae bJ (ae h6 (ae (bb 9 16 bD) (ae h7 (ae bK (ae (bb 9 11 bD) (ae (bb 9 13 bD) (ae (bb 9 14 bD) q3)))))))))))))))))))))))) (fun bf=>(ae bf (ae bf (ae bf q2)))))) (fun bD=>(bj (c:=K==12) (fun bf=>(ae bf (bj (c:=(↑(apk B):Int)==0) (fun cG=>(ae cG (ae cG (bj (c:=decide (N ≥ 1)) (fun dZ=>(ae dZ (ae dZ (ae dZ (ae cG (bj (c:= !decide (N≤4)) (fun dJ=>q2) (fun dJ=>(ae h7 (ae h7 (ae h7 (ae h7 (ae (bb 12 14 bf) (ae (bb 12 14 bf) (ae (bb 12 14 bf) (ae (bb 12 14 bf) (ae h5 (ae h8 (ae bJ (ae h6 (ae (bb 12 16 bf) (ae h7 (ae bK (ae (bb 12 11 bf) (ae (bb 12 13 bf) (ae (bb 12 14 bf) q3))))))))))))))))))))))))) (fun dZ=>(ae dZ (ae dZ (ae dZ (ae cG q2))))))))) (fun cG=>(ae cG (ae cG (ae cG q2))))))) (fun bf=>(bj (c:=K==15) (fun cG=>(ae cG (bj (c:=(↑(apk B):Int)==0) (fun dZ=>(ae dZ (ae dZ (bj (c:=decide (N ≥ 1)) (fun dJ=>(ae dJ (ae dJ (ae dJ (ae dZ (bj (c:= !decide (N≤4)) (fun de=>q2) (fun de=>(ae h7 (ae h7 (ae h7 (ae h7 (ae (bb 15 14 cG) (ae (bb 15 14 cG) (ae (bb 15 14 cG) (ae (bb 15 14 cG) (ae h5 (ae h8 (ae bJ (ae h6 (ae (bb 15 16 cG) (ae h7 (ae bK (ae (bb 15 11 cG) (ae (bb 15 13 cG) (ae (bb 15 14 cG) q3))))))))))))))))))))))))) (fun dJ=>(ae dJ (ae dJ (ae dJ (ae dZ q2))))))))) (fun dZ=>(ae dZ (ae dZ (ae dZ q2))))))) (fun cG=>(bj (c:=K==16) (fun dZ=>(bj (c:=(↑(apk B):Int)==0) (fun dJ=>(ae dJ (ae dJ (bj (c:=decide (N ≥ 1)) (fun de=>(ae de (ae de (ae de (ae dJ (bj (c:= !decide (N≤4)) (fun cW=>q2) (fun cW=>(ae h7 (ae h7 (ae h7 (ae h7 (ae (bb 16 14 dZ) (ae (bb 16 14 dZ) (ae (bb 16 14 dZ) (ae (bb 16 14 dZ) (ae h5 (ae h8 (ae bJ (ae h6 (ae dZ q3)))))))))))))))))))) (fun de=>(ae de (ae de (ae de (ae dJ q2))))))))) (fun dJ=>(ae dJ (ae dJ (ae dJ q2)))))) (fun dZ=>(bj (c:=K==13) (fun dJ=>(bj (c:=(↑(apk B):Int)==0) (fun de=>(ae de (ae de (bj (c:=(↑(apk A):Int)==1) (fun cW=>(ae cW (ae (wX cW) (ae cW (ae (wW cW) (ae cW (ae cW (ae de (bj (c:=av (ai A) 0 != 10) (fun eE=>(ae eE (ae eE (bj (c:=decide (N ≥ 1)) (fun gF=>(ae gF (ae gF (ae gF (ae eE (bj (c:= !decide (N≤4)) (fun re=>q2) (fun re=>(ae h7 (ae h7 (ae h7 (ae h7 (ae (bb 13 14 dJ) (ae (bb 13 14 dJ) (ae (bb 13 14 dJ) (ae (bb 13 14 dJ) (ae h5 (ae h8 (ae bJ (ae h6 (ae dZ (ae h7 (ae bK (ae (bb 13 11 dJ) (ae dJ (bj (c:=decide (apc apr (96*N)>2048)) (fun uQ=>sV) (fun uQ=>q3)))))))))))))))))))))))))) (fun gF=>(ae gF (ae gF (ae gF (ae eE q2))))))))) (fun eE=>(ae eE (ae eE (ae eE q2))))))))))))) (fun cW=>(ae cW (ae cW (ae cW (ae cW (ae de q2)))))))))) (fun de=>(ae de (ae de (ae de q2)))))) (fun dJ=>(ae (show(K==14)=true by simp at hA hB hK h0 h1 h2 h3 h4 h5 h6 h7 h8 h9 bJ bK bD bf cG dZ dJ⊢ <;>omega) (bj (c:=(↑(apk B):Int)==0) (fun de=>(ae de (ae de (bj (c:=(↑(apk A):Int)==1) (fun cW=>(ae cW (ae (wX cW) (ae cW (ae (wW cW) (ae cW (ae cW (ae de (bj (c:=av (ai A) 0 != 10) (fun eE=>(ae eE (ae eE (ae eE (bj (c:= !decide (N ≥ 1)) (fun gF=>q2) (fun gF=>(ae h7 (ae h7 (ae h7 (ae h7 (ae (show(K==14)=true by simp at hA hB hK h0 h1 h2 h3 h4 h5 h6 h7 h8 h9 bJ bK bD bf cG dZ dJ de cW eE gF⊢ <;>omega) (ae (show(K==14)=true by simp at hA hB hK h0 h1 h2 h3 h4 h5 h6 h7 h8 h9 bJ bK bD bf cG dZ dJ de cW eE gF⊢ <;>omega) (ae (show(K==14)=true by simp at hA hB hK h0 h1 h2 h3 h4 h5 h6 h7 h8 h9 bJ bK bD bf cG dZ dJ de cW eE gF⊢ <;>omega) (ae (show(K==14)=true by simp at hA hB hK h0 h1 h2 h3 h4 h5 h6 h7 h8 h9 bJ bK bD bf cG dZ dJ de cW eE gF⊢ <;>omega) (bj (c:=decide (N>100)) (fun re=>sV) (fun re=>(ae h5 (ae h8 (ae bJ (ae h6 (ae dZ (ae h7 (ae bK (ae (show(K==11)=false by exact(decide_eq_false (by omega))) (ae dJ (ae (show(K==14)=true by simp at hA hB hK h0 h1 h2 h3 h4 h5 h6 h7 h8 h9 bJ bK bD bf cG dZ dJ de cW eE gF re⊢ <;>omega) (bj (c:=decide (apc apr (2*apc apr (apc apr (64*N)+96))>2048)) (fun uQ=>sV) (fun uQ=>q3)))))))))))))))))))))))))))) (fun eE=>(ae eE (ae eE (ae eE q2))))))))))))) (fun cW=>(ae cW (ae cW (ae cW (ae cW (ae de q2)))))))))) (fun de=>(ae de (ae de (ae de q2)))))))))))))))))))))))))))))))))))))))) (fun h2=>(ae h2 (ae h2 (ae h2 (ae h2 (bj (c:=K==1) (fun h3=>(ae h3 q2)) (fun h3=>(bj (c:=K==2) (fun h4=>q2) (fun h4=>(bj (c:=K==3) (fun h5=>(ae h5 q2)) (fun h5=>(bj (c:=K==10) (fun h6=>q2) (fun h6=>(bj (c:=K==4) (fun h7=>q2) (fun h7=>(bj (c:=K==5) (fun h8=>(bj (c:=(↑(apk B):Int)==0) (fun h9=>(ae h9 (ae h9 (bj (c:=decide (N ≥ 0)) (fun bJ=>(ae bJ (ae bJ (ae bJ (ae h9 (bj (c:=decide (N≤1)) (fun bK=>(ae bK (ae bK (ae bK (bj (c:=decide ((↑(apk A):Int) ≥ 1)) (fun bD=>(ae bD (ae bD (ae bD (ae bK (bj (c:=decide ((↑(apk A):Int)≤16)) (fun bf=>(ae bf (ae bf (ae (show(aph (ai A) af)=true by exact aH _) (ae (show(pS (ai A) (apk A=apk A∧5=5∧apb (ai A)=apk A∧apk A≤10000))=true by exact C2 ⟨rfl,rfl,nj _,by omega⟩) (ae bf (ae bf (bj (c:= !!sq (sj (ai A)) 10) (fun cG=>q2) (fun cG=>(ae h7 (ae h7 (ae h7 (ae h7 (ae (bb 5 14 h8) (ae (bb 5 14 h8) (ae (bb 5 14 h8) (ae (bb 5 14 h8) (ae h5 (ae h8 (ae h8 q3)))))))))))))))))))) (fun bf=>(ae bf (ae bf (ae bf (ae bf q2))))))))))) (fun bD=>(ae bD (ae bD (ae bD (ae bK q2)))))))))) (fun bK=>(ae bK (ae bK (ae bK (ae bK q2))))))))))) (fun bJ=>(ae bJ (ae bJ (ae bJ (ae h9 q2))))))))) (fun h9=>(ae h9 (ae h9 (ae h9 q2)))))) (fun h8=>(bj (c:=K==6) (fun h9=>(bj (c:=N==0) (fun bJ=>(ae bJ (ae bJ (ae bJ (bj (c:=decide ((↑(apk A):Int) ≥ 1)) (fun bK=>(ae bK (ae bK (ae bK (ae bJ (bj (c:=decide ((↑(apk A):Int)≤64)) (fun bD=>(ae bD (ae bD (ae (show(aph (ai A) af)=true by exact aH _) (ae (show(pS (ai A) (apk A=apk A∧5=5∧apb (ai A)=apk A∧apk A≤10000))=true by exact C2 ⟨rfl,rfl,nj _,by omega⟩) (ae bD (bj (c:=sk (sj (ai A))) (fun bf=>(ae bf (ae bf (ae bf (ae bf (ae bf (ae bf (ae bf (bj (c:= !decide ((↑(apk B):Int)≤(↑(apk A):Int))) (fun cG=>q2) (fun cG=>(ae h7 (ae h7 (ae h7 (ae h7 (ae (bb 6 14 h9) (ae (bb 6 14 h9) (ae (bb 6 14 h9) (ae (bb 6 14 h9) (ae h5 (ae h8 (ae (bb 6 7 h9) (ae h6 (ae (bb 6 16 h9) (ae h7 (ae (bb 6 8 h9) (ae (bb 6 11 h9) (ae (bb 6 13 h9) (ae (bb 6 14 h9) q3)))))))))))))))))))))))))))) (fun bf=>(ae bf (ae bf (ae bf (ae bf (ae bf (ae bf (ae bf q2))))))))))))))) (fun bD=>(ae bD (ae bD (ae bD q2)))))))))) (fun bK=>(ae bK (ae bK (ae bK (ae bJ q2)))))))))) (fun bJ=>(ae bJ (ae bJ (ae bJ (ae bJ q2))))))) (fun h9=>(bj (c:=K==7) (fun bJ=>(bj (c:=(↑(apk B):Int)==0) (fun bK=>(ae bK (ae bK (bj (c:=(↑(apk A):Int)==1) (fun bD=>(ae bD (ae (wX bD) (ae bD (ae (wW bD) (ae bD (ae bD (ae bK (bj (c:=av (ai A) 0 != 10) (fun bf=>(ae bf (ae bf (bj (c:=decide (N ≥ 1)) (fun cG=>(ae cG (ae cG (ae cG (ae bf (bj (c:= !decide (N≤65535)) (fun dZ=>q2) (fun dZ=>(ae h7 (ae h7 (ae h7 (ae h7 (ae (bb 7 14 bJ) (ae (bb 7 14 bJ) (ae (bb 7 14 bJ) (ae (bb 7 14 bJ) (ae h5 (ae h8 (ae bJ (ae bJ q3))))))))))))))))))) (fun cG=>(ae cG (ae cG (ae cG (ae bf q2))))))))) (fun bf=>(ae bf (ae bf (ae bf q2))))))))))))) (fun bD=>(ae bD (ae bD (ae bD (ae bD (ae bK q2)))))))))) (fun bK=>(ae bK (ae bK (ae bK q2)))))) (fun bJ=>(bj (c:=K==8) (fun bK=>(ae bK q2)) (fun bK=>(ae (show(K==11)=false by exact(decide_eq_false (by omega))) (bj (c:=K==9) (fun bD=>q2) (fun bD=>(bj (c:=K==12) (fun bf=>(ae bf q2)) (fun bf=>(bj (c:=K==15) (fun cG=>(ae cG q2)) (fun cG=>(bj (c:=K==16) (fun dZ=>q2) (fun dZ=>(bj (c:=K==13) (fun dJ=>(bj (c:=(↑(apk B):Int)==0) (fun de=>(ae de (ae de (bj (c:=(↑(apk A):Int)==1) (fun cW=>(ae cW (ae (wX cW) (ae cW (ae (wW cW) (ae cW (ae cW (ae de (bj (c:=av (ai A) 0 != 10) (fun eE=>(ae eE (ae eE (bj (c:=decide (N ≥ 1)) (fun gF=>(ae gF (ae gF (ae gF (ae eE (bj (c:= !decide (N≤4)) (fun re=>q2) (fun re=>(ae h7 (ae h7 (ae h7 (ae h7 (ae (bb 13 14 dJ) (ae (bb 13 14 dJ) (ae (bb 13 14 dJ) (ae (bb 13 14 dJ) (ae h5 (ae h8 (ae bJ (ae h6 (ae dZ (ae h7 (ae bK (ae (bb 13 11 dJ) (ae dJ (bj (c:=decide (apc apr (96*N)>2048)) (fun uQ=>sV) (fun uQ=>q3)))))))))))))))))))))))))) (fun gF=>(ae gF (ae gF (ae gF (ae eE q2))))))))) (fun eE=>(ae eE (ae eE (ae eE q2))))))))))))) (fun cW=>(ae cW (ae cW (ae cW (ae cW (ae de q2)))))))))) (fun de=>(ae de (ae de (ae de q2)))))) (fun dJ=>(ae (show(K==14)=true by simp at hA hB hK h0 h1 h2 h3 h4 h5 h6 h7 h8 h9 bJ bK bD bf cG dZ dJ⊢ <;>omega) (bj (c:=(↑(apk B):Int)==0) (fun de=>(ae de (ae de (bj (c:=(↑(apk A):Int)==1) (fun cW=>(ae cW (ae (wX cW) (ae cW (ae (wW cW) (ae cW (ae cW (ae de (bj (c:=av (ai A) 0 != 10) (fun eE=>(ae eE (ae eE (ae eE (bj (c:= !decide (N ≥ 1)) (fun gF=>q2) (fun gF=>(ae h7 (ae h7 (ae h7 (ae h7 (ae (show(K==14)=true by simp at hA hB hK h0 h1 h2 h3 h4 h5 h6 h7 h8 h9 bJ bK bD bf cG dZ dJ de cW eE gF⊢ <;>omega) (ae (show(K==14)=true by simp at hA hB hK h0 h1 h2 h3 h4 h5 h6 h7 h8 h9 bJ bK bD bf cG dZ dJ de cW eE gF⊢ <;>omega) (ae (show(K==14)=true by simp at hA hB hK h0 h1 h2 h3 h4 h5 h6 h7 h8 h9 bJ bK bD bf cG dZ dJ de cW eE gF⊢ <;>omega) (ae (show(K==14)=true by simp at hA hB hK h0 h1 h2 h3 h4 h5 h6 h7 h8 h9 bJ bK bD bf cG dZ dJ de cW eE gF⊢ <;>omega) (bj (c:=decide (N>100)) (fun re=>sV) (fun re=>(ae h5 (ae h8 (ae bJ (ae h6 (ae dZ (ae h7 (ae bK (ae (show(K==11)=false by exact(decide_eq_false (by omega))) (ae dJ (ae (show(K==14)=true by simp at hA hB hK h0 h1 h2 h3 h4 h5 h6 h7 h8 h9 bJ bK bD bf cG dZ dJ de cW eE gF re⊢ <;>omega) (bj (c:=decide (apc apr (2*apc apr (apc apr (64*N)+96))>2048)) (fun uQ=>sV) (fun uQ=>q3)))))))))))))))))))))))))))) (fun eE=>(ae eE (ae eE (ae eE q2))))))))))))) (fun cW=>(ae cW (ae cW (ae cW (ae cW (ae de q2)))))))))) (fun de=>(ae de (ae de (ae de q2))))))))))))))))))))))))))))))))))))))))))))))))
abbrev wZ:=fun(N:Int) A B=>(⟨[(2,aa 11)],sU A B⟩:aj)
theorem alB(N:Int)(A B){Q:bg}(hq:Q (.ret (aa 11)) (wZ N A B).objs):aF apP 31 17 2 Q .ret (wZ N A B):=aF.ret (vs:=[aa 11]) (l:=[]) (bs:=[0,1]) (pl:=[0,1]) (q:=[ai A,ai B]) (fun u=>by kernel_rfl) (by kernel_rfl) (aC (aH A) (aC (aH B) bc)) hq
abbrev JR:=fun(N:Int) A B=>(⟨[(2,aa 0)],sU A B⟩:aj)
theorem alC(N:Int)(A B){Q:bg}(hq:Q (.ret (aa 0)) (JR N A B).objs):aF apP 31 17 2 Q .ret (JR N A B):=aF.ret (vs:=[aa 0]) (l:=[]) (bs:=[0,1]) (pl:=[0,1]) (q:=[ai A,ai B]) (fun u=>by kernel_rfl) (by kernel_rfl) (aC (aH A) (aC (aH B) bc)) hq
theorem TD(N:Int)(A B:ByteArray)(hA:A.size≤1000)(hB:B.size≤1000){Q:aQ}(l2:((↑(apk A):Int)==0)=true→((↑(apk B):Int)==0)=true→(decide (N ≥ 0))=true→(!decide (N≤1))=true→Q .ret (wZ N A B))(l3:((↑(apk A):Int)==0)=true→((↑(apk B):Int)==0)=true→(decide (N ≥ 0))=true→(!decide (N≤1))=false→Q .ret (JR N A B))(l4:((↑(apk A):Int)==0)=true→((↑(apk B):Int)==0)=true→(decide (N ≥ 0))=false→Q .ret (wZ N A B))(l5:((↑(apk A):Int)==0)=true→((↑(apk B):Int)==0)=false→Q .ret (wZ N A B))(l6:((↑(apk A):Int)==0)=false→Q .ret (wZ N A B)):an apP 17 2 wY ⟨[(0,.agg #[aa 11,aa N,ah 0 A.size,ah 1 B.size])],[.cells (ai A) 5 true,.cells (ai B) 5 true]⟩ Q:=
 aS Ty 1000 (.fork 11 (aA [1,3,3,1] (.fork 11 (aA [1,3] (.fork 1 (aA [1,1,1,1] (.fork 0 (.leaf [2] [0,1] [0,1]) (.leaf [2] [0,1] [0,1]))) (aA [0,0,0,1] (.leaf [2] [0,1] [0,1])))) (aA [0,0,0] (.leaf [2] [0,1] [0,1])))) (aA [0,0,0,0] (.leaf [2] [0,1] [0,1]))) (fun u=>by kernel_rfl) (Tree.dj (c:=(↑(apk A):Int)==0) (fun h0=>(Tree.aN h0 (Tree.aN h0 (Tree.aN h0 (Tree.aN h0 (Tree.dj (c:=(↑(apk B):Int)==0) (fun h1=>(Tree.aN h1 (Tree.aN h1 (Tree.dj (c:=decide (N ≥ 0)) (fun h2=>(Tree.aN h2 (Tree.aN h2 (Tree.aN h2 (Tree.aN h1 (Tree.dj (c:= !decide (N≤1)) (fun h3=>(Tree.aN (aH A) (Tree.aN (aH B) (Tree.dB (l2 h0 h1 h2 h3))))) (fun h3=>(Tree.aN (aH A) (Tree.aN (aH B) (Tree.dB (l3 h0 h1 h2 h3))))))))))) (fun h2=>(Tree.aN h2 (Tree.aN h2 (Tree.aN h2 (Tree.aN h1 (Tree.aN (aH A) (Tree.aN (aH B) (Tree.dB (l4 h0 h1 h2))))))))))))) (fun h1=>(Tree.aN h1 (Tree.aN h1 (Tree.aN h1 (Tree.aN (aH A) (Tree.aN (aH B) (Tree.dB (l5 h0 h1)))))))))))))) (fun h0=>(Tree.aN h0 (Tree.aN h0 (Tree.aN h0 (Tree.aN h0 (Tree.aN (aH A) (Tree.aN (aH B) (Tree.dB (l6 h0))))))))))
abbrev C3:=fun(N:Int) A B=>(⟨[(2,aa 11)],sU A B⟩:aj)
abbrev JS:=fun(N:Int) A B=>(⟨[(2,aa 0)],sU A B⟩:aj)
theorem alD(N:Int)(A B){Q:bg}(hq:Q (.ret (aa 0)) (JS N A B).objs):aF apP 59 11 2 Q .ret (JS N A B):=aF.ret (vs:=[aa 0]) (l:=[]) (bs:=[0,1]) (pl:=[0,1]) (q:=[ai A,ai B]) (fun u=>by kernel_rfl) (by kernel_rfl) (aC (aH A) (aC (aH B) bc)) hq
theorem alE(N:Int)(A B:ByteArray)(hA:A.size≤1000)(hB:B.size≤1000){Q:aQ}(l2:(decide (N<0))=true→Q .ret (C3 N A B))(l3:(decide (N<0))=false→(decide (N>1))=true→Q .ret (C3 N A B))(l4:(decide (N<0))=false→(decide (N>1))=false→((↑(apk A):Int)==0)=true→(!(↑(apk B):Int)==0)=true→Q .ret (C3 N A B))(l5:(decide (N<0))=false→(decide (N>1))=false→((↑(apk A):Int)==0)=true→(!(↑(apk B):Int)==0)=false→Q .ret (JS N A B))(l6:(decide (N<0))=false→(decide (N>1))=false→((↑(apk A):Int)==0)=false→Q .ret (C3 N A B)):an apP 11 2 alv ⟨[(0,.agg #[aa 11,aa N,ah 0 A.size,ah 1 B.size])],[.cells (ai A) 5 true,.cells (ai B) 5 true]⟩ Q:=
 aS alu 1000 (.fork 15 (aA [1,1,1,1,1] (.leaf [2] [0,1] [0,1])) (aA [0,2,0,2,0] (.fork 0 (aA [1,1,1,1] (.leaf [2] [0,1] [0,1])) (aA [2,2] (.fork 7 (aA [1,3,3,1,0,0] (.fork 0 (.leaf [2] [0,1] [0,1]) (.leaf [2] [0,1] [0,1]))) (aA [0,0,0,0,0,0] (.leaf [2] [0,1] [0,1]))))))) (fun u=>by kernel_rfl) (Tree.dj (c:=decide (N<0)) (fun h0=>(Tree.aN h0 (Tree.aN h0 (Tree.aN h0 (Tree.aN h0 (Tree.aN h0 (Tree.aN (aH A) (Tree.aN (aH B) (Tree.dB (l2 h0)))))))))) (fun h0=>(Tree.aN h0 (Tree.aN h0 (Tree.aN h0 (Tree.aN h0 (Tree.aN h0 (Tree.dj (c:=decide (N>1)) (fun h1=>(Tree.aN h1 (Tree.aN h1 (Tree.aN h1 (Tree.aN h1 (Tree.aN (aH A) (Tree.aN (aH B) (Tree.dB (l3 h0 h1))))))))) (fun h1=>(Tree.aN h1 (Tree.aN h1 (Tree.dj (c:=(↑(apk A):Int)==0) (fun h2=>(Tree.aN h2 (Tree.aN h2 (Tree.aN h2 (Tree.aN h2 (Tree.aN h1 (Tree.aN h1 (Tree.dj (c:= !(↑(apk B):Int)==0) (fun h3=>(Tree.aN (aH A) (Tree.aN (aH B) (Tree.dB (l4 h0 h1 h2 h3))))) (fun h3=>(Tree.aN (aH A) (Tree.aN (aH B) (Tree.dB (l5 h0 h1 h2 h3))))))))))))) (fun h2=>(Tree.aN h2 (Tree.aN h2 (Tree.aN h2 (Tree.aN h2 (Tree.aN h1 (Tree.aN h1 (Tree.aN (aH A) (Tree.aN (aH B) (Tree.dB (l6 h0 h1 h2)))))))))))))))))))))))
end
end Go.Proofs.YtnlkkgpcikkpoaaGreat
namespace Go.Proofs.YtnlkkgpcikkpoaaGreat
open Go Vm Go.RowKit
abbrev C4(K N:Int)(A B:ByteArray):List ape:=[.agg #[.int .i64 K,.int .i64 N,.slice (some ⟨0,0,none⟩) A.size A.size,.slice (some ⟨1,0,none⟩) B.size B.size]]
abbrev sW(A B:ByteArray):List ag:=[.cells (ai A) 5 true,.cells (ai B) 5 true]
theorem alF(N:Int)(A B:ByteArray)(hA:A.size≤1000)(hB:B.size≤1000):
 ∃e,aE av9 31 (C4 11 N A B) (sW A B) (fun r o=>r=.ret (.int .i64 e)∧o=sW A B)∧(e=0→A.size=0∧B.size=0∧0≤N∧N≤1):=by
 by_cases h:A.size=0∧B.size=0∧0≤N∧N≤1
 ·refine⟨0,?_,fun _=>h⟩
  obtain⟨h1,h2,h3,h4⟩:=h
  refine aE.cT (n:=cn av9 31) (by kernel_rfl) ?_
  apply TD N A B hA hB
  case l2=>intro _ _ _ g;have g:¬N≤1:=by simpa using g
           exact absurd h4 g
  case l3=>intros;exact alC N A B ⟨rfl,rfl⟩
  case l4=>intro _ _ g;have g:=of_decide_eq_false g;exact absurd h3 g
  case l5=>intro _ g;rw[h2]at g;cases g
  case l6=>intro g;rw[h1]at g;cases g
 ·refine⟨11,?_,fun h=>by cases h⟩
  refine aE.cT (n:=cn av9 31) (by kernel_rfl) ?_
  apply TD N A B hA hB
  case l3=>
   intro g1 g2 g3 g4
   have g1:(A.size:Int)=0:=by simpa using g1
   have g2:(B.size:Int)=0:=by simpa using g2
   have g3:=of_decide_eq_true g3
   have g4:N≤1:=by simpa using g4
   exact absurd ⟨by omega,by omega,by omega,g4⟩ h
  all_goals intros;exact alB N A B ⟨rfl,rfl⟩
theorem alG(K N:Int)(A B:ByteArray)(hA:A.size≤1000)(hB:B.size≤1000):
 ∃e,aE av9 31 (C4 K N A B) (sW A B) (fun r o=>r=.ret (.int .i64 e)∧o=sW A B)∧(e=0→K=11→A.size=0∧B.size=0∧0≤N∧N≤1):=by
 by_cases hK:K=11
 ·subst hK
  obtain⟨e,h1,h2⟩:=alF N A B hA hB
  exact⟨e,h1,fun h _=>h2 h⟩
 ·obtain⟨e,he⟩:=alA K N A B hA hB hK
  exact⟨e,aE.cT (n:=cn av9 31) (by kernel_rfl) he,fun _ h=>absurd h hK⟩
theorem alH(N:Int)(A B:ByteArray)(hA:A.size≤1000)(hB:B.size≤1000)(h1:A.size=0)(h2:B.size=0)(h3:0≤N)(h4:N≤1):
 aE av9 59 (C4 11 N A B) (sW A B) (fun r o=>r=.ret (.int .i64 0)∧o=sW A B):=by
 refine aE.cT (n:=cn av9 59) (by kernel_rfl) ?_
 apply alE N A B hA hB
 case l2=>intro g;have g:=of_decide_eq_true g;omega
 case l3=>intro _ g;have g:=of_decide_eq_true g;omega
 case l4=>intro _ _ _ g;rw[h2]at g;cases g
 case l5=>intros;exact alD N A B ⟨rfl,rfl⟩
 case l6=>intro _ _ g;rw[h1]at g;cases g
noncomputable section
noncomputable def alI:List apV:=aY (dz av9 10)
abbrev JT:aj:=⟨[(0,.bool true)],[]⟩
theorem alJ{Q:bg}(hq:Q (.ret (.bool true)) (JT).objs):aF apP 10 45 0 Q .ret (JT):=aF.ret (vs:=[.bool true]) (l:=[]) (bs:=[]) (pl:=[]) (q:=[]) (fun u=>by kernel_rfl) (by kernel_rfl) bc hq
theorem aw{Q:aQ}(l0:Q .ret (JT)):an apP 45 0 alI ⟨[],[]⟩ Q:=
 an.tree du mixed (X3 1000) (lf:=1000) (m:=1000) (s:=(.leaf [0] [] [])) (fun u=>by kernel_rfl) (Tree.dB (l0))
end
noncomputable section
noncomputable def C5:List apV:=aY (dz av9 32)
open Tree renaming aN→mN,dj→mF,eT→mL,fz→mQ,dB→mR,fH→mE
noncomputable abbrev TE:List apV:=(C5.drop 2)
abbrev TF(sc:List (Int×Int))(ro:Bool):aj:=⟨[(2,ah 1 (0+apb sc))],[.cells (aD sc) 77 ro,ab ([]++apE (apb sc*2) (aD sc)) 77]⟩
theorem alK(sc:List (Int×Int))(ro:Bool){Q:bg}(aR:aph (aD sc) af=true)(hq:Q (.ret (ah 1 (0+apb sc))) [.cells (aD sc) 77 ro,ab ([]++apE (apb sc*2) (aD sc)) 77]):aF av9 32 8 1 Q .ret (TF sc ro):=aF.ret (vs:=[ah 1 (0+apb sc)]) (l:=[]) (bs:=[0,1]) (pl:=[0,1]) (q:=[aD sc,[]++apE (apb sc*2) (aD sc)]) (fun u=>by kernel_rfl) (by kernel_rfl) (aC aR (aC (by exact iq rfl (oL (by assumption) _)) bc)) hq
theorem alL(sc:List (Int×Int))(ro:Bool)(h1:0<(apb sc))(h2:(apb sc)≤100000)(h3:(aD sc).length=(apb sc)*2){Q:aQ}(n0:(aph (apE (apb sc*2) (aD sc)) Value.oneCell')=true)(aR:aph (aD sc) af=true)(l2:Q .ret (TF sc ro)):an av9 8 1 C5 ⟨[(0,ah 0 (apb sc))],[.cells (aD sc) 77 ro]⟩ Q:=
 aS bo 1000 (aA [0,1,2,1,1,1,1] (.leaf [2] [0,2] [0,2])) (fun u=>by kernel_rfl) (mN (show(apy 0 (apb sc))=true by simp at h1 h2 h3⊢ <;>omega) (mN (show(Nat.ble (0+apb sc*2) (apb (aD sc)))=true by simp at h1 h2 h3⊢ <;>omega) (mN (show(Nat.ble (0+apb sc) 1000000)=true by simp at h1 h2 h3⊢ <;>omega) (mN n0 (mN (show(Nat.beq (apb (apE (apb sc*2) (aD sc))) (apb sc*2))=true by simp at h1 h2 h3⊢ <;>omega) (mN (aW sc) (mN (show(aph ([]++apE (apb sc*2) (aD sc)) af)=true by exact iq rfl (oL (by assumption) _)) (mR l2))))))))
abbrev w0(ro:Bool):List ag:=[.cells [] 77 ro]
abbrev alM(x ro:Bool):aj:=⟨[(0,ah 0 0)],w0 ro⟩
abbrev alN(x ro:Bool):aj:=⟨[(0,ah 0 0)],w0 ro⟩
theorem alO(x ro:Bool){Q:aQ}(l0:an av9 8 1 (C5.drop 1) (alM x ro) Q):an av9 8 1 C5 (alN x ro) Q:=
 aS bo 1 (.leaf [0] [0] []) (fun u=>by kernel_rfl) (mQ l0)
abbrev TG(ro:Bool):aj:=⟨[(2,b8)],w0 ro⟩
theorem alP(ro:Bool){Q:bg}(hq:Q (.ret (b8)) (w0 ro)):aF av9 32 8 1 Q .ret (TG ro):=aF.ret (vs:=[b8]) (l:=[]) (bs:=[0]) (pl:=[]) (q:=[]) (fun u=>by kernel_rfl) (by kernel_rfl) bc hq
abbrev alQ(ro:Bool):aj:=⟨[(0,ah 0 0),(4,.bool true)],w0 ro⟩
theorem alR(ro:Bool){Q:aQ}(l0:Q .ret (TG ro)):an av9 8 1 TE (alQ ro) Q:=
 aS bo 1000 (.leaf [2] [0] []) (fun u=>by kernel_rfl) (mR l0)
abbrev TH(ro:Bool):aj:=⟨[(2,ah 1 0)],[.cells [] 77 ro,ab [] 77]⟩
theorem alS(ro:Bool){Q:bg}(hq:Q (.ret (ah 1 0)) [.cells [] 77 ro,ab [] 77]):aF av9 32 8 1 Q .ret (TH ro):=aF.ret (vs:=[ah 1 0]) (l:=[]) (bs:=[0,1]) (pl:=[]) (q:=[]) (fun u=>by kernel_rfl) (by kernel_rfl) bc hq
abbrev alT(ro:Bool):aj:=⟨[(0,ah 0 0),(4,.bool false)],w0 ro⟩
theorem alU(ro:Bool){Q:aQ}(l0:Q .ret (TH ro)):an av9 8 1 TE (alT ro) Q:=
 aS bo 1000 (.leaf [2] [0,2] []) (fun u=>by kernel_rfl) (mR l0)
end
theorem alV(ro:Bool):aE av9 32 [.slice (some ⟨0,0,none⟩) 0 0] [.cells [] 77 ro] fun r o=>r=.ret (.slice (some ⟨1,0,none⟩) 0 0)∧o=[.cells [] 77 ro,.cells [] 77 false]:=by
 refine aE.NO (Q:=fun r o=>(r=.ret (.slice (some ⟨1,0,none⟩) 0 0)∧o=[.cells [] 77 ro,.cells [] 77 false])∨(r=.ret (.slice none 0 0)∧o=[.cells [] 77 ro])) 77 (s:=2) (by kernel_rfl) (by simp) ?_ ?_
 ·refine aE.cT (n:=cn av9 32) (by kernel_rfl) ?_
  apply alO true ro
  refine an.MX ⟨0,3,4,52⟩ 77 ⟨0,0,none⟩ (by kernel_rfl) (by kernel_rfl) (by rfl) (by rfl) ?_
  intro b
  cases b with
  |true=>exact alR ro (alP ro (.inr ⟨rfl,rfl⟩))
  |false=>exact alU ro (alS ro (.inl ⟨rfl,rfl⟩))
 ·rintro r o (⟨rfl,rfl⟩|⟨rfl,rfl⟩)
  ·exact⟨by simp,by simp,.inl ⟨rfl,rfl⟩⟩
  ·exact⟨by simp,by simp,.inr ⟨rfl,rfl,rfl⟩⟩
theorem alW(sc:List (Int×Int))(ro:Bool)(hs:sc.length≤100000):aE av9 32 [.slice (some ⟨0,0,none⟩) sc.length sc.length] [.cells (aD sc) 77 ro] fun r o=>r=.ret (.slice (some ⟨1,0,none⟩) sc.length sc.length)∧o=[.cells (aD sc) 77 ro,.cells (aD sc) 77 false]:=by
 by_cases h0:sc.length=0
 ·have e:sc=[]:=aqf h0
  subst e
  exact alV ro
 ·refine aE.cT (n:=cn av9 32) (by kernel_rfl) ?_
  have e:([]:List ape)++apE (sc.length*2) (aD sc)=aD sc:=by
   rw[aqO,List.take_of_length_le (by rw[oS];exact apI _)]
  apply alL sc ro (by omega) hs (oS _)
  case n0=>exact tX (oL (aW _) _)
  case aR=>exact aW _
  case l2=>
   refine alK sc ro (aW _) ⟨by rw[aqR],?_⟩
   rw[e]
noncomputable def uR(l:List ape)(n m:Nat)(el:TypeId):Bool:=@decide (∃sc:List (Int×Int),l=aD sc∧n=sc.length∧m=n∧n≤100000∧el=77) (apF _)
noncomputable def JU(a:List ape)(o:List ag):Option (Bool×bx×List ag):=match a,o with
 | [.slice (some ⟨0,0,none⟩) n m],[.cells l el ro]=>some (uR l n m el,.ret (.slice (some ⟨1,0,none⟩) n n),[.cells l el ro,.cells l el false])
 |_,_=>none
theorem alX:bp av9 32 (Sum.of JU):=bp.of fun a o r o' hg=>by
 unfold JU at hg
 split at hg
 ·rename_i n m l el ro
  simp only[api,apn]at hg
  obtain⟨h1,rfl,rfl⟩:=hg
  obtain⟨sc,rfl,rfl,rfl,h2,rfl⟩:=@of_decide_eq_true _ (apF _) h1
  exact alW sc ro h2
 ·cases hg
theorem TI{sc:List (Int×Int)}(h:sc.length≤100000):uR (aD sc) sc.length sc.length 77=true:=by
 unfold uR
 exact(@decide_eq_true_iff _ (apF _)).2 ⟨sc,rfl,rfl,rfl,h,rfl⟩
noncomputable def alY:List (apQ×Sum):=[(32,Sum.of JU)]
theorem TJ:dw av9 (dM av9 (dN alY) 50 40):=dR du mixed (ed (.cons alX .nil)) 50 40
noncomputable section
noncomputable def TK:List apV:=aY (dz av9 11)
open Tree renaming aN→mN,dj→mF,eT→mL,fz→mQ,dB→mR,fH→mE
def TL:Nat→Bool→Bool→Tree→Tree
 |0,_,_,t=>t
 |n+1,d,b,t=>.cD d b (TL n d b t)
theorem TM{R:bd→aj→Prop}{c v:Bool}{t:Tree}(n:Nat)(h1:c=v)(h2:t.ok R):(TL n c v t).ok R:=by
 induction n with
 |zero=>exact h2
 |succ n ih=>exact⟨h1,ih⟩
abbrev JV(sc:List (Int×Int)):aj:=⟨[(2,ao 1)],[.cells (aD sc) 77 true,ab ([ah 2 (apb sc),.map (some 3),aa 0,aa 0,aa 0]) 80,ab (aD sc) 77,.map ([]) 0]⟩
theorem alZ(sc:List (Int×Int)){Q:bg}(aR:aph (aD sc) af=true)(lY:aph (bt [0,1,2,3] ([])) af=true)(hq:Q (.ret (ao 1)) (JV sc).objs):aF av9 11 8 1 Q .ret (JV sc):=aF.ret (vs:=[ao 1]) (l:=[]) (bs:=[0,1,2,3]) (pl:=[0,2,3]) (q:=[aD sc,aD sc,bt [0,1,2,3] ([])]) (fun u=>by kernel_rfl) (by kernel_rfl) (aC aR (aC (by assumption) (aC lY bc))) hq
theorem al0(sc:List (Int×Int))(h2:uR (aD sc) (apb sc) (apb sc) 77=true){Q:aQ}(n0:(aph (aD sc) af)=true)(aR:aph (aD sc) af=true)(be:aph (bt [0,3,1,2] ([])) af=true)(l3:Q .ret (JV sc)):an av9 8 1 TK ⟨[(0,ah 0 (apb sc))],[.cells (aD sc) 77 true]⟩ Q:=
 aS TJ 1000 (aA [3,1,1] (.leaf [2] [0,3,1,2] [0,1,2])) (fun u=>by kernel_rfl) (mN (aW sc) (mN (show(uR (aD sc) (apb sc) (apb sc) 77)=true by assumption) (mN (aW sc) (mN (aW sc) (mN (aW sc) (mN be (mR l3)))))))
abbrev JW(sc:List (Int×Int)):aj:=⟨[(2,ao 1)],[ab (aD sc) 77,ab ([ah 2 (apb sc),.map (some 3),aa 0,aa 0,aa 0]) 80,ab (aD sc) 77,.map ([]) 0]⟩
theorem al1(sc:List (Int×Int)){Q:bg}(cq:aph (bt [0,1,2,3] ([])) af=true)(hq:Q (.ret (ao 1)) (JW sc).objs):aF av9 11 8 1 Q .ret (JW sc):=aF.ret (vs:=[ao 1]) (l:=[]) (bs:=[0,1,2,3]) (pl:=[0,2,3]) (q:=[aD sc,aD sc,bt [0,1,2,3] ([])]) (fun u=>by kernel_rfl) (by kernel_rfl) (aC (aW sc) (aC (aW sc) (aC cq bc))) hq
theorem al2(sc:List (Int×Int))(h2:uR (aD sc) (apb sc) (apb sc) 77=true){Q:aQ}(n0:(aph (aD sc) af)=true)(aR:aph (aD sc) af=true)(be:aph (bt [0,3,1,2] ([])) af=true)(l3:Q .ret (JW sc)):an av9 8 1 TK ⟨[(0,ah 0 (apb sc))],[ab (aD sc) 77]⟩ Q:=
 aS TJ 1000 (aA [3,1,1,1] (.leaf [2] [0,3,1,2] [0,1,2])) (fun u=>by kernel_rfl) (mN (aW sc) (mN (show(uR (aD sc) (apb sc) (apb sc) 77)=true by assumption) (TM 2 (aW sc) (TM 2 (aW sc) (mN be (mR l3))))))
end
theorem al3(sc:List (Int×Int))(ro:Bool)(hs:sc.length≤100000):aE av9 11 [.slice (some ⟨0,0,none⟩) sc.length sc.length] [.cells (aD sc) 77 ro] fun r o=>r=.ret (.pointer (some ⟨1,0,none⟩))∧o=[.cells (aD sc) 77 ro,.abs ⟨sc,[],0,0,0⟩]:=by
 refine aE.trim (Q:=fun r o=>r=.ret (.pointer (some ⟨1,0,none⟩))∧o=[.cells (aD sc) 77 ro,.abs ⟨sc,[],0,0,0⟩,.dead,.dead]) (aE.X1 (Q1:=fun r o=>r=.ret (.pointer (some ⟨1,0,none⟩))∧o=[.cells (aD sc) 77 ro,.cells [.slice (some ⟨2,0,none⟩) sc.length sc.length,.map (some 3),.int .i64 0,.int .i64 0,.int .i64 0] 80 false,.cells (aD sc) 77 false,.map [] 0]) ?_ ?_) ?_
 ·refine aE.cT (n:=cn av9 11) (by kernel_rfl) ?_
  cases ro with
  |true=>exact al0 sc (TI hs) (aW _) (aW _) (by rfl) (alZ sc (aW _) (by rfl) ⟨rfl,rfl⟩)
  |false=>exact al2 sc (TI hs) (aW _) (aW _) (by rfl) (al1 sc (by rfl) ⟨rfl,rfl⟩)
 ·rintro v o' ⟨rfl,rfl⟩ B w₀ ρ w' hw
  obtain⟨r,S,h1,h2,h3⟩:=Yb hw (by simp) rfl rfl (aW _) (oS _) rfl
  refine⟨1,r,_,S,[1,2,3],by simp,h1,h2,rfl,fun k hk=>?_,rfl,rfl⟩
  obtain⟨y,hy,o,q,a,b,c,e,f⟩:=h3 k hk
  exact⟨y,o,q,by rcases hy with rfl|rfl|rfl<;>rfl,a,b,c,e,f⟩
 ·rintro r o ⟨rfl,rfl⟩
  exact⟨[0,1],[0],_,_,[aD sc],rfl,fun c hc=>by rw[List.mem_singleton]at hc;subst hc;exact aW _,rfl,rfl⟩
noncomputable section
theorem C6:aE av9 10 [] [] fun r' o'=>r'=.ret (.bool true)∧o'=[]:=by
 refine aE.cT (n:=cn av9 10) (by kernel_rfl) ?_
 exact aw (alJ ⟨rfl,rfl⟩)
def al4(kd pn:Int)(A B:ByteArray)(l:List ba)(sc:List (Int×Int))(C D:List Int):List (apQ×Sum):=[(8,Sum.one (lP av9) [.agg #[aa kd,aa pn,ah 0 A.size,ah 1 B.size],ah 2 l.length,ah 3 sc.length,ah 4 2] (mS A B l sc C D) (.ret (.bool (gW A B l sc C D))) (mS A B l sc C D)),(10,⟨tY,fun a o=>match a,o with
 | [],[]=>.done (.ret (.bool true),[])
 |_,_=>.fail⟩)]
theorem al5(kd pn:Int)(A B:ByteArray)(l:List ba)(sc:List (Int×Int))(C D:List Int):dw av9 (dM av9 (dN (al4 kd pn A B l sc C D)) 50 40):=dR du mixed (ed (.cons (bp.one (JI kd pn A B l sc C D)) (.cons (bp.closed C6) .nil))) 50 40
def al6(kd pn:Int)(A B:ByteArray)(l:List ba)(sc:List (Int×Int))(C D:List Int)(e:Int):List (apQ×Sum):=[(8,Sum.one (lP av9) [.agg #[aa kd,aa pn,ah 0 A.size,ah 1 B.size],ah 2 l.length,ah 3 sc.length,ah 4 2] (mS A B l sc C D) (.ret (.bool (gW A B l sc C D))) (mS A B l sc C D)),(31,Sum.one (lP av9) [.agg #[aa kd,aa pn,ah 0 A.size,ah 1 B.size]] [.cells (ai A) 5 true,.cells (ai B) 5 true] (.ret (aa e)) [.cells (ai A) 5 true,.cells (ai B) 5 true]),(10,⟨tY,fun a o=>match a,o with
 | [],[]=>.done (.ret (.bool true),[])
 |_,_=>.fail⟩)]
theorem JX(kd pn:Int)(A B:ByteArray)(l:List ba)(sc:List (Int×Int))(C D:List Int)(e:Int)(kx:aE av9 31 [.agg #[aa kd,aa pn,ah 0 A.size,ah 1 B.size]] [.cells (ai A) 5 true,.cells (ai B) 5 true] fun r q=>r=.ret (aa e)∧q=[.cells (ai A) 5 true,.cells (ai B) 5 true]):dw av9 (dM av9 (dN (al6 kd pn A B l sc C D e)) 50 40):=dR du mixed (ed (.cons (bp.one (JI kd pn A B l sc C D)) (.cons (bp.one kx) (.cons (bp.closed C6) .nil)))) 50 40
def al7(pn:Int)(A B:ByteArray)(sc:List (Int×Int))(C D:List Int)(s:ba):List (apQ×Sum):=[(8,Sum.one (lP av9) [.agg #[aa 11,aa pn,ah 0 A.size,ah 1 B.size],ah 2 1,ah 3 sc.length,ah 4 2] (mS A B [s] sc C D) (.ret (.bool (gW A B [s] sc C D))) (mS A B [s] sc C D)),(59,Sum.one (lP av9) [.agg #[aa 11,aa pn,ah 0 A.size,ah 1 B.size]] [.cells (ai A) 5 true,.cells (ai B) 5 true] (.ret (aa 0)) [.cells (ai A) 5 true,.cells (ai B) 5 true]),(31,Sum.one (lP av9) [.agg #[aa 11,aa pn,ah 0 A.size,ah 1 B.size]] [.cells (ai A) 5 true,.cells (ai B) 5 true] (.ret (aa 0)) [.cells (ai A) 5 true,.cells (ai B) 5 true]),(10,⟨tY,fun a o=>match a,o with
 | [],[]=>.done (.ret (.bool true),[])
 |_,_=>.fail⟩),(11,Sum.one (lP av9) [.slice (some ⟨0,0,none⟩) sc.length sc.length] [.cells (aD sc) 77 true] (.ret (.pointer (some ⟨1,0,none⟩))) [.cells (aD sc) 77 true,.abs (kV sc)])]
theorem al8(pn:Int)(A B:ByteArray)(sc:List (Int×Int))(C D:List Int)(s:ba)(zk:aE av9 59 [.agg #[aa 11,aa pn,ah 0 A.size,ah 1 B.size]] [.cells (ai A) 5 true,.cells (ai B) 5 true] fun r q=>r=.ret (aa 0)∧q=[.cells (ai A) 5 true,.cells (ai B) 5 true])(zl:aE av9 31 [.agg #[aa 11,aa pn,ah 0 A.size,ah 1 B.size]] [.cells (ai A) 5 true,.cells (ai B) 5 true] fun r q=>r=.ret (aa 0)∧q=[.cells (ai A) 5 true,.cells (ai B) 5 true])(pA:aE av9 11 [ah 0 (apb sc)] [.cells (aD sc) 77 true] fun r q=>r=.ret (ao 1)∧q=[.cells (aD sc) 77 true,.abs (kV sc)]):dw av9 (dM av9 (dN (al7 pn A B sc C D s)) 50 40):=dR du mixed (ed (.cons (bp.one (JI 11 pn A B [s] sc C D)) (.cons (bp.one zk) (.cons (bp.one zl) (.cons (bp.closed C6) (.cons (bp.one pA) .nil)))))) 50 40
noncomputable def sX:List apV:=aY (dz av9 5)
open Tree renaming aN→mN,dj→mF,eT→mL,fz→mQ,dB→mR,fH→mE
def TN:Nat→Bool→Bool→Tree→Tree
 |0,_,_,t=>t
 |n+1,d,b,t=>.cD d b (TN n d b t)
theorem kW{R:bd→aj→Prop}{c v:Bool}{t:Tree}(n:Nat)(h1:c=v)(h2:t.ok R):(TN n c v t).ok R:=by
 induction n with
 |zero=>exact h2
 |succ n ih=>exact⟨h1,ih⟩
abbrev w5:=fun A B l (sc:List (Int×Int)) C D=>([.cells (ai A) 5 true,.cells (ai B) 5 true,dv l,.cells (aD sc) 77 true,.cells (aq C) 3 true,.cells (aq D) 3 true]:List ag)
noncomputable abbrev JY(kd pn:Int)(A B:ByteArray)(l:List ba)(sc:List (Int×Int))(C D:List Int):aj:=⟨[(10,.bool true)],w5 A B l sc C D⟩
theorem al9(kd pn:Int)(A B l)(sc:List (Int×Int))(C D){Q:bg}(hq:Q (.ret (.bool true)) (JY kd pn A B l sc C D).objs):aF av9 5 116 6 Q .ret (JY kd pn A B l sc C D):=aF.ret (vs:=[.bool true]) (l:=[]) (bs:=[0,1,2,3,4,5]) (pl:=[0,1,3,4,5]) (q:=[ai A,ai B,aD sc,aq C,aq D]) (fun u=>by kernel_rfl) (by kernel_rfl) (aC (aH A) (aC (aH B) (aC (aW sc) (aC (aG C) (aC (aG D) bc))))) hq
theorem ama(kd pn:Int)(A B:ByteArray)(l)(sc:List (Int×Int))(C D)(pp:(aD sc).all af=true)(h0:gW A B l sc C D=true){Q:aQ}(n0:(eD [aq9 #[aa kd,aa pn,ah 0 A.size,ah 1 B.size],ah 2 (apb l),ah 3 (apb sc),ah 4 2] [aq9 #[aa kd,aa pn,ah 0 A.size,ah 1 B.size],ah 2 (apb l),ah 3 (apb sc),ah 4 2] [ag.cells (ai A) 5 true,ag.cells (ai B) 5 true,dv l,ag.cells (aD sc) 77 true,ab [ah 5 (apb C),ah 6 (apb D)] 25,ag.cells (aq C) 3 true,ag.cells (aq D) 3 true] (mS A B l sc C D))=true)(aR:aph (ai A) af=true)(be:aph (ai B) af=true)(bB:aph (aD sc) af=true)(br:aph (aq C) af=true)(jG:aph (aq D) af=true)(l6:Q .ret (JY kd pn A B l sc C D)):an av9 116 6 sX ⟨[(0,.agg #[aa kd,aa pn,ah 0 A.size,ah 1 B.size]),(1,ah 2 (apb l)),(2,ah 3 (apb sc)),(3,ah 4 (apb C)),(4,ah 5 (apb D))],[.cells (ai A) 5 true,.cells (ai B) 5 true,dv l,.cells (aD sc) 77 true,.cells (aq C) 3 true,.cells (aq D) 3 true]⟩ Q:=
 aS (al5 kd pn A B l sc C D) 1000 (aA [5,1,1,1,1,1,1,1,1,1,1] (.leaf [10] [0,1,2,3,4,5] [0,1,3,4,5])) (fun u=>by kernel_rfl) (mN (aH A) (mN (aH B) (mN (aW sc) (mN (aG C) (mN (aG D) (mN n0 (kW 5 (show(gW A B l sc C D)=true by assumption) (mN (aH A) (mN (aH B) (mN (aW sc) (mN (aG C) (mN (aG D) (mR l6)))))))))))))
noncomputable abbrev JZ(kd pn:Int)(A B:ByteArray)(l:List ba)(sc:List (Int×Int))(C D:List Int)(e:Int):aj:=⟨[(10,.bool true)],w5 A B l sc C D⟩
theorem amb(kd pn:Int)(A B l)(sc:List (Int×Int))(C D)(e:Int){Q:bg}(hq:Q (.ret (.bool true)) (JZ kd pn A B l sc C D e).objs):aF av9 5 116 6 Q .ret (JZ kd pn A B l sc C D e):=aF.ret (vs:=[.bool true]) (l:=[]) (bs:=[0,1,2,3,4,5]) (pl:=[0,1,3,4,5]) (q:=[ai A,ai B,aD sc,aq C,aq D]) (fun u=>by kernel_rfl) (by kernel_rfl) (aC (aH A) (aC (aH B) (aC (aW sc) (aC (aG C) (aC (aG D) bc))))) hq
theorem amc(kd pn:Int)(A B:ByteArray)(l)(sc:List (Int×Int))(C D)(e:Int)(pp:(aD sc).all af=true)(kx:aE av9 31 [.agg #[aa kd,aa pn,ah 0 A.size,ah 1 B.size]] [.cells (ai A) 5 true,.cells (ai B) 5 true] fun r q=>r=.ret (aa e)∧q=[.cells (ai A) 5 true,.cells (ai B) 5 true])(h0:gW A B l sc C D=false)(h1:¬e=0){Q:aQ}(n0:(eD [aq9 #[aa kd,aa pn,ah 0 A.size,ah 1 B.size],ah 2 (apb l),ah 3 (apb sc),ah 4 2] [aq9 #[aa kd,aa pn,ah 0 A.size,ah 1 B.size],ah 2 (apb l),ah 3 (apb sc),ah 4 2] [ag.cells (ai A) 5 true,ag.cells (ai B) 5 true,dv l,ag.cells (aD sc) 77 true,ab [ah 5 (apb C),ah 6 (apb D)] 25,ag.cells (aq C) 3 true,ag.cells (aq D) 3 true] (mS A B l sc C D))=true)(n1:(eD [aq9 #[aa kd,aa pn,ah 0 A.size,ah 1 B.size]] [aq9 #[aa kd,aa pn,ah 0 A.size,ah 1 B.size]] [ag.cells (ai A) 5 true,ag.cells (ai B) 5 true] [ag.cells (ai A) 5 true,ag.cells (ai B) 5 true])=true)(aR:aph (ai A) af=true)(be:aph (ai B) af=true)(bB:aph (aD sc) af=true)(br:aph (aq C) af=true)(jG:aph (aq D) af=true)(l7:Q .ret (JZ kd pn A B l sc C D e)):an av9 116 6 sX ⟨[(0,.agg #[aa kd,aa pn,ah 0 A.size,ah 1 B.size]),(1,ah 2 (apb l)),(2,ah 3 (apb sc)),(3,ah 4 (apb C)),(4,ah 5 (apb D))],[.cells (ai A) 5 true,.cells (ai B) 5 true,dv l,.cells (aD sc) 77 true,.cells (aq C) 3 true,.cells (aq D) 3 true]⟩ Q:=
 aS (JX kd pn A B l sc C D e kx) 1000 (aA [5,1,1,1,1,1,0,2,0,7,1,1,0,0,0,0,8,0] (.leaf [10] [0,1,2,3,4,5] [0,1,3,4,5])) (fun u=>by kernel_rfl) (mN (aH A) (mN (aH B) (mN (aW sc) (mN (aG C) (mN (aG D) (mN n0 (kW 3 (show(gW A B l sc C D)=false by assumption) (mN (aH A) (mN (aH B) (mN n1 (kW 4 (decide_eq_false (by omega):(e==0)=false) (kW 2 (show(gW A B l sc C D)=false by assumption) (mN (aH A) (mN (aH B) (mN (aW sc) (mN (aG C) (mN (aG D) (mR l7))))))))))))))))))
noncomputable abbrev J0(kd pn:Int)(A B:ByteArray)(l:List ba)(sc:List (Int×Int))(C D:List Int)(e:Int):aj:=⟨[(10,.bool true)],w5 A B l sc C D⟩
theorem amd(kd pn:Int)(A B l)(sc:List (Int×Int))(C D)(e:Int){Q:bg}(hq:Q (.ret (.bool true)) (J0 kd pn A B l sc C D e).objs):aF av9 5 116 6 Q .ret (J0 kd pn A B l sc C D e):=aF.ret (vs:=[.bool true]) (l:=[]) (bs:=[0,1,2,3,4,5]) (pl:=[0,1,3,4,5]) (q:=[ai A,ai B,aD sc,aq C,aq D]) (fun u=>by kernel_rfl) (by kernel_rfl) (aC (aH A) (aC (aH B) (aC (aW sc) (aC (aG C) (aC (aG D) bc))))) hq
noncomputable abbrev J1(kd pn:Int)(A B:ByteArray)(l:List ba)(sc:List (Int×Int))(C D:List Int)(e:Int):aj:=⟨[(10,.bool true)],w5 A B l sc C D⟩
theorem ame(kd pn:Int)(A B l)(sc:List (Int×Int))(C D)(e:Int){Q:bg}(hq:Q (.ret (.bool true)) (J1 kd pn A B l sc C D e).objs):aF av9 5 116 6 Q .ret (J1 kd pn A B l sc C D e):=aF.ret (vs:=[.bool true]) (l:=[]) (bs:=[0,1,2,3,4,5]) (pl:=[0,1,3,4,5]) (q:=[ai A,ai B,aD sc,aq C,aq D]) (fun u=>by kernel_rfl) (by kernel_rfl) (aC (aH A) (aC (aH B) (aC (aW sc) (aC (aG C) (aC (aG D) bc))))) hq
theorem amf(kd pn:Int)(A B:ByteArray)(l)(sc:List (Int×Int))(C D)(e:Int)(pp:(aD sc).all af=true)(kx:aE av9 31 [.agg #[aa kd,aa pn,ah 0 A.size,ah 1 B.size]] [.cells (ai A) 5 true,.cells (ai B) 5 true] fun r q=>r=.ret (aa e)∧q=[.cells (ai A) 5 true,.cells (ai B) 5 true])(h0:gW A B l sc C D=false)(h1:¬kd=11){Q:aQ}(n0:(eD [aq9 #[aa kd,aa pn,ah 0 A.size,ah 1 B.size],ah 2 (apb l),ah 3 (apb sc),ah 4 2] [aq9 #[aa kd,aa pn,ah 0 A.size,ah 1 B.size],ah 2 (apb l),ah 3 (apb sc),ah 4 2] [ag.cells (ai A) 5 true,ag.cells (ai B) 5 true,dv l,ag.cells (aD sc) 77 true,ab [ah 5 (apb C),ah 6 (apb D)] 25,ag.cells (aq C) 3 true,ag.cells (aq D) 3 true] (mS A B l sc C D))=true)(n1:(eD [aq9 #[aa kd,aa pn,ah 0 A.size,ah 1 B.size]] [aq9 #[aa kd,aa pn,ah 0 A.size,ah 1 B.size]] [ag.cells (ai A) 5 true,ag.cells (ai B) 5 true] [ag.cells (ai A) 5 true,ag.cells (ai B) 5 true])=true)(aR:aph (ai A) af=true)(be:aph (ai B) af=true)(bB:aph (aD sc) af=true)(br:aph (aq C) af=true)(jG:aph (aq D) af=true)(l7:(e==0)=true→Q .ret (J0 kd pn A B l sc C D e))(l8:(e==0)=false→Q .ret (J1 kd pn A B l sc C D e)):an av9 116 6 sX ⟨[(0,.agg #[aa kd,aa pn,ah 0 A.size,ah 1 B.size]),(1,ah 2 (apb l)),(2,ah 3 (apb sc)),(3,ah 4 (apb C)),(4,ah 5 (apb D))],[.cells (ai A) 5 true,.cells (ai B) 5 true,dv l,.cells (aD sc) 77 true,.cells (aq C) 3 true,.cells (aq D) 3 true]⟩ Q:=
 aS (JX kd pn A B l sc C D e kx) 1000 (aA [5,1,1,1,1,1,0,2,0,7,1,1] (.fork 0 (aA [1,3,1,0,0,0,0,0,0] (.leaf [10] [0,1,2,3,4,5] [0,1,3,4,5])) (aA [0,0,0,8,0] (.leaf [10] [0,1,2,3,4,5] [0,1,3,4,5])))) (fun u=>by kernel_rfl) (mN (aH A) (mN (aH B) (mN (aW sc) (mN (aG C) (mN (aG D) (mN n0 (kW 3 (show(gW A B l sc C D)=false by assumption) (mN (aH A) (mN (aH B) (mN n1 (mF (c:=e==0) (fun h0=>(kW 3 h0 (kW 4 (decide_eq_false (by omega):(kd==11)=false) (kW 2 (show(gW A B l sc C D)=false by assumption) (mN (aH A) (mN (aH B) (mN (aW sc) (mN (aG C) (mN (aG D) (mR (l7 h0))))))))))) (fun h0=>(kW 3 h0 (kW 2 (show(gW A B l sc C D)=false by assumption) (mN (aH A) (mN (aH B) (mN (aW sc) (mN (aG C) (mN (aG D) (mR (l8 h0)))))))))))))))))))))
noncomputable abbrev J2(pn:Int)(A B:ByteArray)(l:List ba)(sc:List (Int×Int))(C D:List Int)(e:Int):aj:=⟨[(10,.bool true)],w5 A B l sc C D⟩
theorem amg(pn:Int)(A B l)(sc:List (Int×Int))(C D)(e:Int){Q:bg}(hq:Q (.ret (.bool true)) (J2 pn A B l sc C D e).objs):aF av9 5 116 6 Q .ret (J2 pn A B l sc C D e):=aF.ret (vs:=[.bool true]) (l:=[]) (bs:=[0,1,2,3,4,5]) (pl:=[0,1,3,4,5]) (q:=[ai A,ai B,aD sc,aq C,aq D]) (fun u=>by kernel_rfl) (by kernel_rfl) (aC (aH A) (aC (aH B) (aC (aW sc) (aC (aG C) (aC (aG D) bc))))) hq
noncomputable abbrev J3(pn:Int)(A B:ByteArray)(l:List ba)(sc:List (Int×Int))(C D:List Int)(e:Int):aj:=⟨[(10,.bool true)],w5 A B l sc C D⟩
theorem amh(pn:Int)(A B l)(sc:List (Int×Int))(C D)(e:Int){Q:bg}(hq:Q (.ret (.bool true)) (J3 pn A B l sc C D e).objs):aF av9 5 116 6 Q .ret (J3 pn A B l sc C D e):=aF.ret (vs:=[.bool true]) (l:=[]) (bs:=[0,1,2,3,4,5]) (pl:=[0,1,3,4,5]) (q:=[ai A,ai B,aD sc,aq C,aq D]) (fun u=>by kernel_rfl) (by kernel_rfl) (aC (aH A) (aC (aH B) (aC (aW sc) (aC (aG C) (aC (aG D) bc))))) hq
theorem ami(pn:Int)(A B:ByteArray)(l)(sc:List (Int×Int))(C D)(e:Int)(pp:(aD sc).all af=true)(kx:aE av9 31 [.agg #[aa 11,aa pn,ah 0 A.size,ah 1 B.size]] [.cells (ai A) 5 true,.cells (ai B) 5 true] fun r q=>r=.ret (aa e)∧q=[.cells (ai A) 5 true,.cells (ai B) 5 true])(h0:gW A B l sc C D=false)(h1:(apb l)≠1){Q:aQ}(n0:(eD [aq9 #[aa 11,aa pn,ah 0 A.size,ah 1 B.size],ah 2 (apb l),ah 3 (apb sc),ah 4 2] [aq9 #[aa 11,aa pn,ah 0 A.size,ah 1 B.size],ah 2 (apb l),ah 3 (apb sc),ah 4 2] [ag.cells (ai A) 5 true,ag.cells (ai B) 5 true,dv l,ag.cells (aD sc) 77 true,ab [ah 5 (apb C),ah 6 (apb D)] 25,ag.cells (aq C) 3 true,ag.cells (aq D) 3 true] (mS A B l sc C D))=true)(n1:(eD [aq9 #[aa 11,aa pn,ah 0 A.size,ah 1 B.size]] [aq9 #[aa 11,aa pn,ah 0 A.size,ah 1 B.size]] [ag.cells (ai A) 5 true,ag.cells (ai B) 5 true] [ag.cells (ai A) 5 true,ag.cells (ai B) 5 true])=true)(aR:aph (ai A) af=true)(be:aph (ai B) af=true)(bB:aph (aD sc) af=true)(br:aph (aq C) af=true)(jG:aph (aq D) af=true)(l7:(e==0)=true→Q .ret (J2 pn A B l sc C D e))(l8:(e==0)=false→Q .ret (J3 pn A B l sc C D e)):an av9 116 6 sX ⟨[(0,.agg #[aa 11,aa pn,ah 0 A.size,ah 1 B.size]),(1,ah 2 (apb l)),(2,ah 3 (apb sc)),(3,ah 4 (apb C)),(4,ah 5 (apb D))],[.cells (ai A) 5 true,.cells (ai B) 5 true,dv l,.cells (aD sc) 77 true,.cells (aq C) 3 true,.cells (aq D) 3 true]⟩ Q:=
 aS (JX 11 pn A B l sc C D e kx) 1000 (aA [5,1,1,1,1,1,0,2,0,7,1,1] (.fork 0 (aA [1,3,1,10,0,1] (.leaf [10] [0,1,2,3,4,5] [0,1,3,4,5])) (aA [0,0,0,8,0] (.leaf [10] [0,1,2,3,4,5] [0,1,3,4,5])))) (fun u=>by kernel_rfl) (mN (aH A) (mN (aH B) (mN (aW sc) (mN (aG C) (mN (aG D) (mN n0 (kW 3 (show(gW A B l sc C D)=false by assumption) (mN (aH A) (mN (aH B) (mN n1 (mF (c:=e==0) (fun h0=>(kW 3 h0 (kW 2 (show(gW A B l sc C D)=false by assumption) (mN (show(!(↑(apb l):Int)==1)=true by simp at pp kx h0 h1 h0⊢ <;>omega) (mN (aH A) (mN (aH B) (mN (aW sc) (mN (aG C) (mN (aG D) (mR (l7 h0))))))))))) (fun h0=>(kW 3 h0 (kW 2 (show(gW A B l sc C D)=false by assumption) (mN (aH A) (mN (aH B) (mN (aW sc) (mN (aG C) (mN (aG D) (mR (l8 h0)))))))))))))))))))))
abbrev amj:=fun(pn:Int) A B (sc:List (Int×Int)) C D s=>(⟨[(1,ah 2 1),(3,ah 4 (apb C)),(4,ah 5 (apb D)),(11,ao 6),(12,ao 7),(13,ao 8),(15,ao 9)],[.cells (ai A) 5 true,.cells (ai B) 5 true,dv [s],.cells (aD sc) 77 true,.cells (aq C) 3 true,.cells (aq D) 3 true,.abs (kV sc),.abs (kV sc),ab ([aa 0,.bool false,.bool false,.int .u8 0,.int .u8 0,.int .u8 0,.int .u8 0,.int .u8 0,.int .u8 0,.int .u8 0,.int .u8 0,.int .u8 0,.int .u8 0,.int .u8 0,.int .u8 0,.int .u8 0,.int .u8 0,.int .u8 0,.int .u8 0,.int .u8 0,.int .u8 0,.int .u8 0,.int .u8 0,.int .u8 0,.int .u8 0,.int .u8 0,.int .u8 0,.int .u8 0,.int .u8 0,.int .u8 0,.int .u8 0,.int .u8 0,.int .u8 0,.int .u8 0,.int .u8 0,.int .u8 0,.int .u8 0,.int .u8 0,.int .u8 0,.int .u8 0,.int .u8 0,.int .u8 0,.int .u8 0,.int .u8 0,.int .u8 0,.int .u8 0,.int .u8 0,.int .u8 0,.int .u8 0,.int .u8 0,.int .u8 0,.int .u8 0,.int .u8 0,.int .u8 0,.int .u8 0,.int .u8 0,.int .u8 0,.int .u8 0,.int .u8 0,.int .u8 0,.int .u8 0,.int .u8 0,.int .u8 0,.int .u8 0,.int .u8 0,.int .u8 0,.int .u8 0,aa 0,.bool false,ao 6,.bool (pn==1),b8,aa 0,b8,b8,.bool false,aa 0,.bool false]) 89,ab ([aa 0,.bool false,.bool false,.int .u8 0,.int .u8 0,.int .u8 0,.int .u8 0,.int .u8 0,.int .u8 0,.int .u8 0,.int .u8 0,.int .u8 0,.int .u8 0,.int .u8 0,.int .u8 0,.int .u8 0,.int .u8 0,.int .u8 0,.int .u8 0,.int .u8 0,.int .u8 0,.int .u8 0,.int .u8 0,.int .u8 0,.int .u8 0,.int .u8 0,.int .u8 0,.int .u8 0,.int .u8 0,.int .u8 0,.int .u8 0,.int .u8 0,.int .u8 0,.int .u8 0,.int .u8 0,.int .u8 0,.int .u8 0,.int .u8 0,.int .u8 0,.int .u8 0,.int .u8 0,.int .u8 0,.int .u8 0,.int .u8 0,.int .u8 0,.int .u8 0,.int .u8 0,.int .u8 0,.int .u8 0,.int .u8 0,.int .u8 0,.int .u8 0,.int .u8 0,.int .u8 0,.int .u8 0,.int .u8 0,.int .u8 0,.int .u8 0,.int .u8 0,.int .u8 0,.int .u8 0,.int .u8 0,.int .u8 0,.int .u8 0,.int .u8 0,.int .u8 0,.int .u8 0,aa 0,.bool false,ao 7,.bool (pn==1),b8,aa 0,b8,b8,.bool false,aa 0,.bool false]) 89]⟩:aj)
theorem amk(pn:Int)(A B:ByteArray)(sc:List (Int×Int))(C D s)(pp:(aD sc).all af=true)(zk:aE av9 59 [.agg #[aa 11,aa pn,ah 0 A.size,ah 1 B.size]] [.cells (ai A) 5 true,.cells (ai B) 5 true] fun r q=>r=.ret (aa 0)∧q=[.cells (ai A) 5 true,.cells (ai B) 5 true])(zl:aE av9 31 [.agg #[aa 11,aa pn,ah 0 A.size,ah 1 B.size]] [.cells (ai A) 5 true,.cells (ai B) 5 true] fun r q=>r=.ret (aa 0)∧q=[.cells (ai A) 5 true,.cells (ai B) 5 true])(pA:aE av9 11 [ah 0 (apb sc)] [.cells (aD sc) 77 true] fun r q=>r=.ret (ao 1)∧q=[.cells (aD sc) 77 true,.abs (kV sc)])(h0:gW A B [s] sc C D=false){Q:aQ}(n0:(eD [aq9 #[aa 11,aa pn,ah 0 A.size,ah 1 B.size],ah 2 1,ah 3 (apb sc),ah 4 2] [aq9 #[aa 11,aa pn,ah 0 A.size,ah 1 B.size],ah 2 1,ah 3 (apb sc),ah 4 2] [ag.cells (ai A) 5 true,ag.cells (ai B) 5 true,dv [s],ag.cells (aD sc) 77 true,ab [ah 5 (apb C),ah 6 (apb D)] 25,ag.cells (aq C) 3 true,ag.cells (aq D) 3 true] (mS A B [s] sc C D))=true)(n1:(eD [aq9 #[aa 11,aa pn,ah 0 A.size,ah 1 B.size]] [aq9 #[aa 11,aa pn,ah 0 A.size,ah 1 B.size]] [ag.cells (ai A) 5 true,ag.cells (ai B) 5 true] [ag.cells (ai A) 5 true,ag.cells (ai B) 5 true])=true)(n2:(eD [ah 0 (apb sc)] [ah 0 (apb sc)] [ag.cells (aD sc) 77 true] [ag.cells (aD sc) 77 true])=true)(aR:aph (ai A) af=true)(be:aph (ai B) af=true)(bB:aph (aD sc) af=true)(br:aph (aq C) af=true)(jG:aph (aq D) af=true)(l8:an av9 116 6 (sX.drop 8) (amj pn A B sc C D s) Q):an av9 116 6 sX ⟨[(0,.agg #[aa 11,aa pn,ah 0 A.size,ah 1 B.size]),(1,ah 2 1),(2,ah 3 (apb sc)),(3,ah 4 (apb C)),(4,ah 5 (apb D))],[.cells (ai A) 5 true,.cells (ai B) 5 true,dv [s],.cells (aD sc) 77 true,.cells (aq C) 3 true,.cells (aq D) 3 true]⟩ Q:=
 aS (al8 pn A B sc C D s zk zl pA) 8 (aA [5,1,1,1,1,1,0,2,0,7,1,1,20,0,5,1,3,1,13,1,1,25,1,1] (.leaf [1,3,4,11,12,13,15] [0,1,2,3,4,5,9,10,13,16] [0,1,3,4,5])) (fun u=>by kernel_rfl) (mN (aH A) (mN (aH B) (mN (aW sc) (mN (aG C) (mN (aG D) (mN n0 (kW 3 (show(gW A B [s] sc C D)=false by assumption) (mN (aH A) (mN (aH B) (mN n1 (kW 2 (show(gW A B [s] sc C D)=false by assumption) (mN (aW sc) (mN n2 (mN (aW sc) (mN n2 (mN (aH A) (mN (aH B) (mN n1 (mN (aH A) (mN (aH B) (mN n1 (mN (aH A) (mN (aH B) (mN (aW sc) (mN (aG C) (mN (aG D) (mQ l8)))))))))))))))))))))))))))
end
noncomputable section
noncomputable def zm:List apV:=aY (dz av9 21)
open Tree renaming aN→mN,dj→mF,eT→mL,fz→mQ,dB→mR,fH→mE
noncomputable abbrev J4:List apV:=(aY (inner (aY (inner (zm.drop 4)))))
def TP:Nat→Bool→Bool→Tree→Tree
 |0,_,_,t=>t
 |n+1,d,b,t=>.cD d b (TP n d b t)
theorem zn{R:bd→aj→Prop}{c v:Bool}{t:Tree}(n:Nat)(h1:c=v)(h2:t.ok R):(TP n c v t).ok R:=by
 induction n with
 |zero=>exact h2
 |succ n ih=>exact⟨h1,ih⟩
noncomputable abbrev J5:aj:=⟨[(4,.bool true)],[]⟩
theorem aml{Q:bg}(hq:Q (.ret (.bool true)) (J5).objs):aF av9 21 26 0 Q .ret (J5):=aF.ret (vs:=[.bool true]) (l:=[]) (bs:=[]) (pl:=[]) (q:=[]) (fun u=>by kernel_rfl) (by kernel_rfl) bc hq
theorem amm{Q:aQ}(l0:Q .ret (J5)):an av9 26 0 zm ⟨[(0,b8),(1,b8)],[]⟩ Q:=
 aS bo 1000 (.leaf [4] [] []) (fun u=>by kernel_rfl) (mR l0)
abbrev sY:=fun l=>([ab (aq l) 3,ab (aq l) 3]:List ag)
abbrev amn:=fun l=>(⟨[(0,ah 0 (apb l)),(1,ah 1 (apb l)),(5,aa 0)],sY l⟩:aj)
abbrev amo:=fun l=>(⟨[(0,ah 0 (apb l)),(1,ah 1 (apb l))],sY l⟩:aj)
theorem amp(l){Q:aQ}(l1:an av9 26 2 (zm.drop 4) (amn l) Q):an av9 26 2 zm (amo l) Q:=
 aS bo 4 (aA [4] (.leaf [0,1,5] [0,1] [0,1])) (fun u=>by kernel_rfl) (mN (show((↑(apb l):Int) != (↑(apb l):Int))=false by simp) (zn 2 (aG l) (mQ l1)))
abbrev amq:=fun l (i:Int)=>(⟨[(0,ah 0 (apb l)),(1,ah 1 (apb l)),(5,aa i)],sY l⟩:aj)
noncomputable abbrev amr(l:List Int)(i:Int):aj:=⟨[],sY l⟩
abbrev TQ:=fun l (i:Int)=>(⟨[(0,ah 0 (apb l)),(1,ah 1 (apb l)),(5,aa i)],sY l⟩:aj)
theorem ams(l)(i:Int){Q:aQ}(l1:(decide (i<(↑(apb l):Int)))=true→an av9 26 2 (J4.drop 2) (amq l i) Q)(l2:(decide (i<(↑(apb l):Int)))=false→Q (.exit 0) (amr l i)):an av9 26 2 J4 (TQ l i) Q:=
 aS bo 2 (.fork 1 (.leaf [0,1,5] [0,1] [0,1]) (.leaf [] [0,1] [0,1])) (fun u=>by kernel_rfl) (mF (c:=decide (i<(↑(apb l):Int))) (fun h0=>(zn 2 (aG l) (mQ (l1 h0)))) (fun h0=>(zn 2 (aG l) (mE 0 (l2 h0)))))
abbrev TR:=fun l (i:Int)=>(⟨[(0,ah 0 (apb l)),(1,ah 1 (apb l)),(5,.int .i64 (apc .i64 (i+1)))],sY l⟩:aj)
theorem amt(l)(i:Int)(h0:0≤i)(h1:i<(apb l))(h2:(apb l)≤1000000)(h3:apc .i64 (i+1)=i+1){Q:aQ}(n0:(cA apr (aq l) (0+apd i*1))=true)(l2:Q .normal (TR l i)):an av9 26 2 (J4.drop 2) (TQ l i) Q:=
 aS bo 1000 (aA [0,1,1,0,1,0,1,1,0,1,0] (.leaf [0,1,5] [0,1] [0,1])) (fun u=>by kernel_rfl) (mN (decide_eq_true (by omega):(decide (0≤i))=true) (mN (show(apy (apd i) (apb l))=true by simp at h0 h1 h2 h3⊢ <;>omega) (mN n0 (mN (decide_eq_true (by omega):(decide (0≤i))=true) (mN (show(apy (apd i) (apb l))=true by simp at h0 h1 h2 h3⊢ <;>omega) (mN n0 (mN (show(av (aq l) (0+apd i*1) != av (aq l) (0+apd i*1))=false by simp) (zn 2 (aG l) (mQ (an.done (by kernel_rfl) l2))))))))))
noncomputable abbrev J6(l:List Int):aj:=⟨[(4,.bool true)],sY l⟩
theorem amu(l){Q:bg}(hq:Q (.ret (.bool true)) (J6 l).objs):aF av9 21 26 2 Q .ret (J6 l):=aF.ret (vs:=[.bool true]) (l:=[]) (bs:=[0,1]) (pl:=[0,1]) (q:=[aq l,aq l]) (fun u=>by kernel_rfl) (by kernel_rfl) (aC (aG l) (aC (aG l) bc)) hq
noncomputable abbrev amv(l:List Int):aj:=⟨[],sY l⟩
theorem amw(l){Q:aQ}(aR:aph (aq l) af=true)(l1:Q .ret (J6 l)):an av9 26 2 (zm.drop 5) (amv l) Q:=
 aS bo 1000 (.leaf [4] [0,1] [0,1]) (fun u=>by kernel_rfl) (zn 2 (aG l) (mR l1))
end
theorem amx:aE av9 21 [.slice none 0 0,.slice none 0 0] [] fun r q=>r=.ret (.bool true)∧q=[]:=by
 refine aE.cT (n:=cn av9 21) (by kernel_rfl) ?_
 exact amm (aml ⟨rfl,rfl⟩)
abbrev J7(l:List Int):List ag:=[.cells (aq l) 3 false,.cells (aq l) 3 false]
theorem amy(l:List Int)(hl:l.length≤1000000):aE av9 21 [.slice (some ⟨0,0,none⟩) l.length l.length,.slice (some ⟨1,0,none⟩) l.length l.length] (J7 l) fun r q=>r=.ret (.bool true)∧q=J7 l:=by
 refine aE.cT (n:=cn av9 21) (by kernel_rfl) ?_
 apply amp l
 ·
  refine an.eU 4 0 (by kernel_rfl) ?_
  refine an.fS (fun i:Nat=>⟨[(0,.slice (some ⟨0,0,none⟩) l.length l.length),(1,.slice (some ⟨1,0,none⟩) l.length l.length),(5,.int .i64 (i:Nat))],J7 l⟩) (fun i=>l.length-i) (fun i=>i≤l.length) 0 (by kernel_rfl) (ap7 _) ?_
  intro i h1
  apply ams l i
  case l2=>
   intro g
   with_reducible (repeat first|refine QL.ret ?_|refine QL.exit ?_|refine QB.ret ?_|refine QB.cp ?_|refine QB.normal ?_|refine QB.cy (by rfl) ?_)
   exact amw l (by simp) (amu l ⟨rfl,rfl⟩)
  case l1=>
   intro g
   have g:=of_decide_eq_true g
   have hi:i<l.length:=by omega
   have hw:=bI (z:=(i:Int)+1) (by omega) (by omega)
   apply amt l i (by omega) (by omega) hl hw
   case n0=>exact A6 (by omega)
   case l2=>
    refine QL.to (i+1) (by omega) (by omega) ?_
    unfold TR
    rw[hw]
    rfl
def amz(a:List ape)(_:Nat→Option ag):Option (List Nat):=match a with
 | [.iface _ (.pointer (some ⟨8,_,_⟩)),_,_]=>some [8,6,10,11,12,2,4]
 |_=>some [9,7,13,14,15,2,5]
def amA(S:List ape→ad)(L:List ape→List ByteArray)(R:List ape→List Int)(H:List ape→List au)(d:ay)(o:ByteArray)(nd er:Int)(hd t:List ape→Int)(_:List ape)(ob:List ag):Option (bx×List ag):=match ob with
 | [_,_,_,_,_,r5,.cells cC ty ro]=>some (.ret (.agg (nY o nd er (hd cC) (t cC)).toArray),[.cells (aJ (S cC) 1 7 8 9) 89 false,.abs d,.dead,.dead,.dead,r5,.cells cC ty ro,.cells (ap (L cC)) 9 false,.cells (aq (R cC)) 3 false,.cells (ak (H cC)) 114 false])
 |_=>none
def lW(a:List ape)(ob:List ag):Option (bx×List ag):=match a,ob with
 | [_,_],l=>some (.ret (.bool true),l)
 |_,_=>none
noncomputable def TS:Sum:=Sum.fn av9 21 tY lW
theorem amB:bp av9 21 TS:=bp.fn
noncomputable section
noncomputable def amC(A B:ByteArray)(s:ba)(sc:List (Int×Int))(C D:List Int)(S0:ad)(S:List ape→ad)(L:List ape→List ByteArray)(R:List ape→List Int)(H:List ape→List au)(d:ay)(o:ByteArray)(nd er:Int)(hd:List ape→Int)(t:List ape→Int):List (apQ×Sum):=[(13,Sum.fn av9 13 amz (amA S L R H d o nd er hd t)),(20,Sum.dq av9 HO),(15,JQ),(21,TS),(10,⟨tY,fun a o=>match a,o with
 | [],[]=>.done (.ret (.bool true),[])
 |_,_=>.fail⟩)]
theorem amD(A B:ByteArray)(s:ba)(sc:List (Int×Int))(C D:List Int)(S0:ad)(S:List ape→ad)(L:List ape→List ByteArray)(R:List ape→List Int)(H:List ape→List au)(d:ay)(o:ByteArray)(nd er:Int)(hd t:List ape→Int):dw av9 (dM av9 (dN (amC A B s sc C D S0 S L R H d o nd er hd t)) 50 40):=dR du mixed (ed (.cons bp.fn (.cons adA (.cons aln (.cons amB (.cons (bp.closed C6) .nil)))))) 50 40
open Tree renaming aN→mN,dj→mF,eT→mL,fz→mQ,dB→mR,fH→mE
def TT:Nat→Bool→Bool→Tree→Tree
 |0,_,_,t=>t
 |n+1,d,b,t=>.cD d b (TT n d b t)
theorem rf{R:bd→aj→Prop}{c v:Bool}{t:Tree}(n:Nat)(h1:c=v)(h2:t.ok R):(TT n c v t).ok R:=by
 induction n with
 |zero=>exact h2
 |succ n ih=>exact⟨h1,ih⟩
abbrev zo:=fun A B s (sc:List (Int×Int)) C D=>([.cells (ai A) 5 true,.cells (ai B) 5 true,dv [s],.cells (aD sc) 77 true,.cells (aq C) 3 true,.cells (aq D) 3 true]:List ag)
noncomputable abbrev J8(A B:ByteArray)(s:ba)(sc:List (Int×Int))(C D:List Int)(S0:ad)(S:List ape→ad)(L:List ape→List ByteArray)(R:List ape→List Int)(H:List ape→List au)(d:ay)(o:ByteArray)(nd er:Int)(hd:List ape→Int)(t:List ape→Int):aj:=⟨[(10,.bool true)],zo A B s sc C D⟩
theorem amE(A B s)(sc:List (Int×Int))(C D S0)(S:List ape→ad)(L:List ape→List ByteArray)(R:List ape→List Int)(H:List ape→List au)(d o)(nd er:Int)(hd t:List ape→Int){Q:bg}(hq:Q (.ret (.bool true)) (J8 A B s sc C D S0 S L R H d o nd er hd t).objs):aF av9 5 116 6 Q .ret (J8 A B s sc C D S0 S L R H d o nd er hd t):=aF.ret (vs:=[.bool true]) (l:=[]) (bs:=[0,1,2,3,4,5]) (pl:=[0,1,3,4,5]) (q:=[ai A,ai B,aD sc,aq C,aq D]) (fun u=>by kernel_rfl) (by kernel_rfl) (aC (aH A) (aC (aH B) (aC (aW sc) (aC (aG C) (aC (aG D) bc))))) hq
noncomputable abbrev amF(A B:ByteArray)(s:ba)(sc:List (Int×Int))(C D:List Int)(S0:ad)(S:List ape→ad)(L:List ape→List ByteArray)(R:List ape→List Int)(H:List ape→List au)(d:ay)(o:ByteArray)(nd er:Int)(hd:List ape→Int)(t:List ape→Int):aj:=⟨[(10,.bool false)],zo A B s sc C D⟩
noncomputable abbrev J9(A B:ByteArray)(s:ba)(sc:List (Int×Int))(C D:List Int)(S0:ad)(S:List ape→ad)(L:List ape→List ByteArray)(R:List ape→List Int)(H:List ape→List au)(d:ay)(o:ByteArray)(nd er:Int)(hd:List ape→Int)(t:List ape→Int):aj:=⟨[(10,.bool true)],zo A B s sc C D⟩
theorem amG(A B s)(sc:List (Int×Int))(C D S0)(S:List ape→ad)(L:List ape→List ByteArray)(R:List ape→List Int)(H:List ape→List au)(d o)(nd er:Int)(hd t:List ape→Int){Q:bg}(hq:Q (.ret (.bool true)) (J9 A B s sc C D S0 S L R H d o nd er hd t).objs):aF av9 5 116 6 Q .ret (J9 A B s sc C D S0 S L R H d o nd er hd t):=aF.ret (vs:=[.bool true]) (l:=[]) (bs:=[0,1,2,3,4,5]) (pl:=[0,1,3,4,5]) (q:=[ai A,ai B,aD sc,aq C,aq D]) (fun u=>by kernel_rfl) (by kernel_rfl) (aC (aH A) (aC (aH B) (aC (aW sc) (aC (aG C) (aC (aG D) bc))))) hq
noncomputable abbrev amH(A B:ByteArray)(s:ba)(sc:List (Int×Int))(C D:List Int)(S0:ad)(S:List ape→ad)(L:List ape→List ByteArray)(R:List ape→List Int)(H:List ape→List au)(d:ay)(o:ByteArray)(nd er:Int)(hd:List ape→Int)(t:List ape→Int):aj:=⟨[(10,.bool false)],zo A B s sc C D⟩
noncomputable abbrev amI(A B:ByteArray)(s:ba)(sc:List (Int×Int))(C D:List Int)(S0:ad)(S:List ape→ad)(L:List ape→List ByteArray)(R:List ape→List Int)(H:List ape→List au)(d:ay)(o:ByteArray)(nd er:Int)(hd:List ape→Int)(t:List ape→Int):aj:=⟨[(10,.bool false)],zo A B s sc C D⟩
theorem amJ(A B s)(sc:List (Int×Int))(C D S0)(S:List ape→ad)(L:List ape→List ByteArray)(R:List ape→List Int)(H:List ape→List au)(d:ay)(o:ByteArray)(nd er:Int)(hd t:List ape→Int)(pp:(aD sc).all af=true){Q:aQ}(n0:(wT as6 13 [avT 37 (ao 0),ah 5 1,ah 6 (apb C)] [ab (aJ S0 1 2 3 4) 89,ag.abs (kV sc),ab (ap []) 9,ab (aq []) 3,ab [] 114,dv [s],ag.cells (aq C) 3 true] (bx.ret (aq9 #[apJ o,apJ apj,apJ apj,apJ apj,aa nd,aa er,aa (hd (aq C)),aa (t (aq C)),aa 0,aa 0,aa 0,aqj false])) [ab (aJ (S (aq C)) 1 7 8 9) 89,ag.abs d,ag.dead,ag.dead,ag.dead,dv [s],ag.cells (aq C) 3 true,ab (ap (L (aq C))) 9,ab (aq (R (aq C))) 3,ab (ak (H (aq C))) 114])=true)(n1:(wT as6 13 [avT 37 (ao 0),ah 5 1,ah 6 (apb D)] [ab (aJ S0 1 2 3 4) 89,ag.abs (kV sc),ab (ap []) 9,ab (aq []) 3,ab [] 114,dv [s],ag.cells (aq D) 3 true] (bx.ret (aq9 #[apJ o,apJ apj,apJ apj,apJ apj,aa nd,aa er,aa (hd (aq D)),aa (t (aq D)),aa 0,aa 0,aa 0,aqj false])) [ab (aJ (S (aq D)) 1 7 8 9) 89,ag.abs d,ag.dead,ag.dead,ag.dead,dv [s],ag.cells (aq D) 3 true,ab (ap (L (aq D))) 9,ab (aq (R (aq D))) 3,ab (ak (H (aq D))) 114])=true)(n2:(o==o&&(apj==apj&&(apj==apj&&(apj==apj&&true))))=true→(nQ d)=true)(n3:(o==o&&(apj==apj&&(apj==apj&&(apj==apj&&true))))=true→(asr (ay.files d))=true→(wT as6 21 [b8,b8] [] (bx.ret (aqj true)) [])=true)(l9:(o==o&&(apj==apj&&(apj==apj&&(apj==apj&&true))))=true→(asr (ay.files d))=true→(ad.raw (S (aq C))==ad.raw (S (aq D)))=true→Q .ret (J8 A B s sc C D S0 S L R H d o nd er hd t))(j4:(o==o&&(apj==apj&&(apj==apj&&(apj==apj&&true))))=true→(asr (ay.files d))=true→(ad.raw (S (aq C))==ad.raw (S (aq D)))=false→Q .ret (amF A B s sc C D S0 S L R H d o nd er hd t))(n11:(o==o&&(apj==apj&&(apj==apj&&(apj==apj&&true))))=true→(asr (ay.files d))=false→(wT as6 21 [ah 0 (apb (ay.files d)),ah 1 (apb (ay.files d))] [ab (aq (mT d)) 3,ab (aq (mT d)) 3] (bx.ret (aqj true)) [ab (aq (mT d)) 3,ab (aq (mT d)) 3])=true)(jY:(o==o&&(apj==apj&&(apj==apj&&(apj==apj&&true))))=true→(asr (ay.files d))=false→(ad.raw (S (aq C))==ad.raw (S (aq D)))=true→Q .ret (J9 A B s sc C D S0 S L R H d o nd er hd t))(nt:(o==o&&(apj==apj&&(apj==apj&&(apj==apj&&true))))=true→(asr (ay.files d))=false→(ad.raw (S (aq C))==ad.raw (S (aq D)))=false→Q .ret (amH A B s sc C D S0 S L R H d o nd er hd t))(CD:(o==o&&(apj==apj&&(apj==apj&&(apj==apj&&true))))=false→Q .ret (amI A B s sc C D S0 S L R H d o nd er hd t)):an av9 116 6 (sX.drop 8) ⟨[(1,ah 2 1),(3,ah 4 (apb C)),(4,ah 5 (apb D)),(11,ao 6),(12,ao 7),(13,ao 8),(15,ao 9)],[.cells (ai A) 5 true,.cells (ai B) 5 true,dv [s],.cells (aD sc) 77 true,.cells (aq C) 3 true,.cells (aq D) 3 true,.abs (kV sc),.abs (kV sc),ab (aJ S0 6 10 11 12) 89,ab (aJ S0 7 13 14 15) 89,ab (ap []) 9,ab (aq []) 3,ab (ak []) 114,ab (ap []) 9,ab (aq []) 3,ab (ak []) 114]⟩ Q:=
 aS (amD A B s sc C D S0 S L R H d o nd er hd t) 1000 (aA [9,1,1,1,1,9,1,1,1,1] (.fork 4 (aA [1,3,1,3,1,1,1,3,1,3,1,1,1,5,1,5,1,1,1,3] (.fork 0 (aA [1,1,3,1,1,3,1] (.fork 12 (aA [3] (.leaf [10] [0,1,2,3,4,5] [0,1,3,4,5])) (aA [0] (.leaf [10] [0,1,2,3,4,5] [0,1,3,4,5])))) (aA [1,1,1,3,0,1,1,3,1,1,1,1,1] (.fork 12 (aA [3] (.leaf [10] [0,1,2,3,4,5] [0,1,3,4,5])) (aA [0] (.leaf [10] [0,1,2,3,4,5] [0,1,3,4,5])))))) (aA [0,0,0,0,0] (.leaf [10] [0,1,2,3,4,5] [0,1,3,4,5])))) (fun u=>by kernel_rfl) (mN (aG C) (mN n0 (mN (aZ (L (aq C))) (mN (aG (R (aq C))) (mN (aU (H (aq C))) (mN (aG D) (mN n1 (mN (aZ (L (aq D))) (mN (aG (R (aq D))) (mN (aU (H (aq D))) (mF (c:=o==o&&(apj==apj&&(apj==apj&&(apj==apj&&true)))) (fun h0=>(rf 5 h0 (rf 6 (show(nd==nd)=true by simp) (rf 6 (show(er==er)=true by simp) (rf 2 (show(ay.calls d==ay.calls d)=true by simp) (mN (n2 h0) (mF (c:=asr (ay.files d)) (fun h1=>(rf 2 (show(ay.calls d==ay.calls d)=true by simp) (mN (n2 h0) (mN h1 (mN (show(ay.calls d==ay.calls d)=true by simp) (mN (n3 h0 h1) (mN (show(ay.calls d==ay.calls d)=true by simp) (mF (c:=ad.raw (S (aq C))==ad.raw (S (aq D))) (fun h2=>(mN h2 (mN (aH A) (mN (aH B) (mN (aW sc) (mN (aG C) (mN (aG D) (mR (l9 h0 h1 h2))))))))) (fun h2=>(mN h2 (mN (aH A) (mN (aH B) (mN (aW sc) (mN (aG C) (mN (aG D) (mR (j4 h0 h1 h2))))))))))))))))) (fun h1=>(mN (aG (mT d)) (rf 2 (show(ay.calls d==ay.calls d)=true by simp) (mN (n2 h0) (mN h1 (mN (aG (mT d)) (mN (show(ay.calls d==ay.calls d)=true by simp) (rf 2 (aG (mT d)) (mN (n11 h0 h1) (rf 2 (aG (mT d)) (mN (show(ay.calls d==ay.calls d)=true by simp) (mF (c:=ad.raw (S (aq C))==ad.raw (S (aq D))) (fun h2=>(mN h2 (mN (aH A) (mN (aH B) (mN (aW sc) (mN (aG C) (mN (aG D) (mR (jY h0 h1 h2))))))))) (fun h2=>(mN h2 (mN (aH A) (mN (aH B) (mN (aW sc) (mN (aG C) (mN (aG D) (mR (nt h0 h1 h2)))))))))))))))))))))))))))) (fun h0=>(rf 5 h0 (mN (aH A) (mN (aH B) (mN (aW sc) (mN (aG C) (mN (aG D) (mR (CD h0))))))))))))))))))))
end
structure Fin(x:MS):Prop where
 cF:cj x.d
 cl:x.S.closed=false
theorem Fin.fail{x:MS}(h:Fin x)(e:Int):Fin (x.fail e):=⟨h.cF,h.cl⟩
theorem Ka(S:ad)(L:List ByteArray)(R:List Int)(d:ay):(cM S L R d).2.1.closed=S.closed:=by unfold cM;split;rfl;split;rfl;rfl
theorem C7:∀(l:List ByteArray) (s:ci),(cY l s).2.1.closed=s.1.closed
 | [],s=>rfl
 |x::l,s=>by
  unfold cY
  split
  ·split
   ·exact Ka _ _ _ _
   ·exact(C7 l _).trans (Ka _ _ _ _)
  ·exact C7 l _
theorem Kb(S:ad)(R:List Int)(H:List au)(d:ay):(cZ S R H d).2.1.closed=S.closed:=by unfold cZ;split<;>rfl
theorem Kc{S:ad}{R:List Int}{H:List au}{d:ay}(h:cj d):cj (cZ S R H d).2.2:=by
 unfold cZ
 split
 ·exact h
 ·exact(Cc R d h).1
theorem Fin.feed{F:Nat}{x:MS}(h:lB F x)(hf:Fin x)(b:ByteArray):Fin (bX x b).2:=by
 obtain⟨S,L,R,H,d⟩:=x
 obtain⟨⟨hg,hc,hH,K2,ca⟩,eo,gj,dh,sN,SH⟩:=h
 dsimp only[MS.z]at*
 obtain⟨c1,c2,c3,c4⟩:=za b.data.toList S [] hc fun x hx=>by cases hx
 obtain⟨s1,s2,s3,s4,s5,s6,s7,s8,s9,Sa,Sb,I9,Ja⟩:=wJ b.data.toList S []
 unfold bX
 dsimp only
 generalize cg b.data.toList S []=o at*
 obtain⟨e,S1,M⟩:=o
 dsimp only at*
 have pM:Good F (S1,L,R,d):=⟨⟨by rw[show((S1,L,R,d):ci).1.rn=S1.rn from rfl,s6];exact hg.ok.len,by rw[show((S1,L,R,d):ci).1.sn=S1.sn from rfl,s8];exact hg.ok.runs,hg.ok.cF,hg.ok.made,by rw[show((S1,L,R,d):ci).1.bH=S1.bH from rfl,s7];exact hg.ok.bH,hg.ok.bQ⟩,hg.old,hg.bQ⟩
 have h3:=(y9 M F (S1,L,R,d) pM c2).1
 have h4:=C7 M (S1,L,R,d)
 generalize cY M (S1,L,R,d)=o at*
 obtain⟨f,t⟩:=o
 dsimp only at*
 have ft:Fin (gN t H):=⟨h3.cF,h4.trans (I9.trans hf.cl)⟩
 split
 ·exact ft.fail _
 split
 ·exact ft.fail _
 ·exact ft
theorem TU(s:ci):(fV s).2.1.closed=s.1.closed:=by
 unfold fV
 split
 ·rfl
 ·exact C7 _ _
theorem amK(s:ci)(H:List au):(jp s H).2.1.1.closed=s.1.closed:=by
 unfold jp
 split
 ·rfl
 ·generalize dI s.1.aB s.2.2.1.length s.2.2.1 s.2.2.2=o
  obtain⟨a,R,d⟩:=o
  dsimp only
  generalize dS R [] d=o
  obtain⟨e,l,dd⟩:=o
  dsimp only
  split<;>rfl
theorem amL(s:ci)(H:List au):(iw s H).2.1.1.closed=s.1.closed:=by
 unfold iw
 split
 ·exact TU s
 have h:(lv (fV s).2).1.closed=s.1.closed:=TU s
 unfold sK
 split
 ·exact h
 unfold qZ
 have h2:(fL (lv (fV s).2)).2.1.closed=s.1.closed:=by
  unfold fL
  split
  ·exact(Ka _ _ _ _).trans h
  ·exact h
 split
 ·exact h2
 ·exact(amK _ _).trans h2
theorem Fin.ends{F:Nat}{x:MS}(h:lB F x)(hf:Fin x)(hF:F≤800000):Fin (gp x).2:=by
 have hl:=CH (s:=x.z) (H:=x.H) h.ok.uL h.ok.cut hF h.ok.jK
 have hc:=amL x.z x.H
 unfold gp
 generalize iw x.z x.H=o at*
 obtain⟨e,t,G⟩:=o
 dsimp only at*
 have ft:Fin (gN t G):=⟨hl.cF,hc.trans hf.cl⟩
 split
 ·exact ft.fail _
 have h2:=Kc (S:=t.1) (R:=t.2.2.1) (H:=G) ft.cF
 have h3:=Kb t.1 t.2.2.1 G t.2.2.2
 have h2:cj (cZ t.1 t.2.2.1 G t.2.2.2).2.2:=h2
 generalize cZ t.1 t.2.2.1 G t.2.2.2=o at*
 obtain⟨f,U,d3⟩:=o
 dsimp only at*
 have fu:Fin ⟨U,t.2.1,t.2.2.1,G,d3⟩:=⟨h2,h3.trans ft.cl⟩
 split
 ·exact fu.fail _
 ·exact fu
theorem Fin.more{x:MS}(hf:Fin x):Fin (gV x).2.2:=by
 unfold gV
 split
 ·have h2:cj (cZ x.S.pop x.R x.H x.d).2.2:=Kc hf.cF
  have h3:(cZ x.S.pop x.R x.H x.d).2.1.closed=x.S.closed:=Kb _ _ _ _
  generalize cZ x.S.pop x.R x.H x.d=o at*
  obtain⟨f,U,d3⟩:=o
  dsimp only at*
  have fu:Fin ⟨U,x.L,x.R,x.H,d3⟩:=⟨h2,h3.trans hf.cl⟩
  split
  ·exact fu.fail _
  ·exact fu
 ·split
  ·exact hf
  ·rename_i k _
   have h1:=cj.bW hf.cF (aP x.H k)
   generalize bW (aP x.H k) x.d=o at*
   obtain⟨e,y,dd⟩:=o
   dsimp only at*
   have fy:Fin ⟨x.S,x.L,x.R,x.H.set k y,dd⟩:=⟨h1,hf.cl⟩
   split
   ·exact fy.fail _
   have h2:cj (cZ x.S x.R (x.H.set k y) dd).2.2:=Kc h1
   have h3:(cZ x.S x.R (x.H.set k y) dd).2.1.closed=x.S.closed:=Kb _ _ _ _
   generalize cZ x.S x.R (x.H.set k y) dd=o at*
   obtain⟨f,U,d3⟩:=o
   dsimp only at*
   have fu:Fin ⟨U,x.L,x.R,x.H.set k y,d3⟩:=⟨h2,h3.trans hf.cl⟩
   split
   ·exact fu.fail _
   ·exact fu
theorem C8(s:ba)(C:List Int)(hs:s.bytes.size≤800000):∀(m k:Nat) (g:DS),jq s k g→Fin g.x→Fin (ef s C m k g).x
 |0,k,g,h,hf=>hf
 |m+1,k,g,h,hf=>by
  unfold ef
  by_cases hc:g.er=0∧g.nd≠-1
  ·rw[if_pos hc]
   unfold fN
   by_cases h2:g.nd= -2
   ·rw[if_pos h2]
    exact C8 s C hs m (k+1) _ (h.o9 hc.1 h2) hf.more
   ·rw[if_neg h2]
    obtain⟨F,f1,f2,f3⟩:=h.feed hc.1 hc.2 h2
    by_cases ht:g.t<s.bytes.size
    ·rw[if_pos ht]
     exact C8 s C hs m (k+1) _ (h.jc hc.1 hc.2 h2 ht) (Fin.feed f1 hf _)
    ·rw[if_neg ht]
     by_cases he:s.ended=true∧g.w=false
     ·rw[if_pos he]
      have ra:=h.t
      exact C8 s C hs m (k+1) _ (h.pa hc.1 hc.2 h2 hs) (Fin.ends f1 hf (by omega))
     ·rw[if_neg he]
      exact hf
  ·rw[if_neg hc]
   exact hf
theorem amM(f:Bool)(sc:List (Int×Int))(s:ba)(C:List Int)(h:sc.length≤1000000)(hs:s.bytes.size≤4500)(m:Nat):Fin (ef s C m 0 (kU (sQ f sc))).x:=by
 have hx:=SZ f h
 exact C8 s C (by omega) m 0 (kU (sQ f sc)) ⟨rfl,ap7 _,apI _,hx.inv,fun _=>.inr (.inr ⟨0,hx,rfl,rfl⟩),by show(0:Int)≤0∧(0:Int)≤320;omega⟩ ⟨SY h,rfl⟩
end Go.Proofs.YtnlkkgpcikkpoaaGreat
