/- Part of the proof: GamC, Gam, Va. -/
import Derived.Below
import Derived.Orders
import Derived.Tactics2
import Derived.Laws.World
import Derived.Laws.Sem
import Derived.Laws.Cells
import Derived.Laws.BytesString
import Derived.Laws.BytesArg
import Derived.Laws.Slices
import Derived.IntWalk
open Array renaming ext'→aqI,getElem?_modify→art,getElem?_push→asZ,map→auM,range→atb,replicate→aq5,size_append→atj,size_map→auG,size_replicate→atT,toList_extract→aq4
open Bool renaming and_eq_true→ao3,false_eq_true→apT,not_true→ath,or_eq_false_iff→asL
open ForInStep renaming yield→auu
open Go renaming Addr→arf,Field→ar1,FuncId→apr,MapEntry→apl,Next→aqV,Oper→apS,Operand→aqo,Program→ao7,TypeDesc→asy,TypeId→ao1,Value→aoP,World→ao4,foldl_push_bytes→auq,run_bytesToString→auh,run_convert_bytes_string→arL,run_newObj→aut,run_program→aqW
open Go.Conv renaming stringToBytes→atd
open Go.Instr renaming alloc→ave,box→avv,build→atc,buildSlice→ato,extract→atZ,field→aum,fieldAt→at0,fill→auw,index→ar8,indexAt→arA,loadAt→auX,makeInterface→asY,makeMap→auN,makeSlice→atz,panic→avd,slice→aun,sliceAt→aq3,sliceBound→ar2,sliceBounds→aui,storeAt→atY,sureAddr→arI,typeAssert→atn
open Go.IntKind renaming i64→ao2
open Go.IntWalk renaming i64_in→auH
open Go.Next renaming value→ap4
open Go.Op renaming equal→arJ,equalIn→arR
open Go.Question renaming appendCap→asd,cut→at6
open Go.Region renaming binds→aq6
open Go.Result renaming andThen_ok→aoQ
open Go.RowKit.Below renaming heap_alloc→ark
open Go.Sem renaming run→arl,run_bind→aoR,run_pure→apA
open Go.Value renaming int→aoW,oneCell'→apR
open Go.World renaming alloc→avf,freeze→auY,shape?→auZ
open Int renaming toNat_natCast→arj
open List renaming all_eq_true→aps,append_assoc→api,eq_nil_of_length_eq_zero→apL,ext_getElem?→arX,extract_eq_take_drop→aq1,getElem?_append_left→apH,getElem?_append_right→apz,getElem?_drop→aqb,getElem?_eq_getElem→aoV,getElem?_eq_none→ap3,getElem?_eq_some_iff→ao0,getElem?_take→ap9,isEmpty_iff→aqJ,length_cons→apC,mem_of_getElem?→apy,take_of_length_le→ap8
open Nat renaming add_assoc→aqP,beq→ao6,ble→apf,blt→ao9,eq_of_beq_eq_true→apa,land→atS,le_of_ble_eq_true→apk,le_of_eq→aq7,le_refl→apn,lor→asG,lt_of_lt_of_le→ard,min→as2,one_ne_zero→auv,pow_succ→auV,shiftRight→asl,succ_mul→asM
open Option renaming isSome_none→at7
open Option.some renaming injEq→aoU
open Prod.mk renaming injEq→aoX
open UInt8 renaming ofNat→arH
set_option linter.unusedVariables false
set_option linter.unusedSimpArgs false
set_option maxRecDepth 100000
namespace Go.Proofs.YtnlkkgpcikkpoaaGreat.Vm
inductive CO where
 |cells (c:List aoP) (el:ao1) (sh room:Nat)
 |map (es:List apl) (clock:Nat)
def eK(w:ao4)(k:Nat):CO→Prop
 | .cells c el sh room=>∃(c':Array aoP) (fr:Nat×Nat),w.heap[k]?=some (.cells c' el fr)∧c'.size=room∧sh+c.length≤room∧(fr.1=fr.2∨room≤fr.1)∧∀(i:Nat) (v:aoP),c[i]?=some v→c'[sh+i]?=some v
 | .map es clock=>w.heap[k]?=some (.map es.toArray clock)
theorem eK.frame{w w':ao4}{k:Nat}{o:CO}(h:eK w k o)(hk:w'.heap[k]?=w.heap[k]?):eK w' k o:=by
 cases o with
 |cells c el sh room=>obtain⟨c',fr,h1,h2⟩:=h;exact⟨c',fr,by rw[hk];exact h1,h2⟩
 |map es clock=>exact(hk.trans h:)
def zi:Obj→Bool
 | .cells _ _ _=>true
 | .map _ _=>true
 |_=>false
theorem eK.row{w:ao4}{k:Nat}{o:CO}(h:eK w k o):∃q,w.heap[k]?=some q∧zi q=true:=by
 cases o with
 |cells c el sh room=>obtain⟨c',fr,h1,h2⟩:=h;exact⟨_,h1,rfl⟩
 |map es clock=>exact⟨_,h,rfl⟩
structure qe(w:ao4)(b:Nat)(S:Nat→Prop)(L:List (Nat×CO)):Prop where
 at_:∀p∈L,eK w p.1 p.2
 fH:(L.map (·.1)).Nodup
 root:b∈L.map (·.1)
 all:∀k,S k↔k∈L.map (·.1)
theorem qe.frame{w w':ao4}{b:Nat}{S:Nat→Prop}{L:List (Nat×CO)}(h:qe w b S L)(hs:∀k,S k→w'.heap[k]?=w.heap[k]?):qe w' b S L:=
 ⟨fun p hp=>(h.at_ p hp).frame (hs _ ((h.all _).2 (List.mem_map_of_mem hp))),h.fH,h.root,h.all⟩
theorem qe.row{w:ao4}{b:Nat}{S:Nat→Prop}{L:List (Nat×CO)}(h:qe w b S L):∀k,S k→∃o,w.heap[k]?=some o∧zi o=true:=fun k hk=>by
 obtain⟨p,hp,rfl⟩:=List.mem_map.1 ((h.all k).1 hk)
 exact(h.at_ p hp).row
def J3(w:ao4):Prop:=True
structure au where
 bS:List (Int×Int)
 files:List (Nat×ByteArray)
 made:Nat
 calls:Int
 raw:Int
abbrev ly:Type:=au
def aG(l:List (Int×Int)):List aoP:=(l.map fun p=>[aoW .i64 p.1,aoW .i64 p.2]).flatten
def J4(b:ByteArray):List aoP:=b.data.toList.map fun x=>aoW .u8 x.toNat
def rowAt(n size:Nat)(c:List aoP)(el:ao1)(v:aoP)(L:List (Nat×CO)):Prop:=
 (n=0∧L=[]∧∃a,v=.slice a 0 0)∨∃k sh cap room,v=.slice (some ⟨k,sh,none⟩) n cap∧n≤cap∧sh+cap*size≤room∧L=[(k,.cells c el sh room)]
def fileAt(p:Nat×ByteArray)(k sh:Nat)(L:List (Nat×CO)):Prop:=
 ∃v room L',rowAt p.2.size 1 (J4 p.2) 5 v L'∧L=(k,.cells [v] 173 sh room)::L'
inductive fw:List (Nat×ByteArray)→List apl→List (Nat×CO)→Prop where
 |nil:fw [] [] []
 |cons (p:Nat×ByteArray) (k sh:Nat) (l:List (Nat×ByteArray)) (es:List apl) (L L':List (Nat×CO)) (h:fileAt p k sh L) (t:fw l es L') (hp:1≤p.1):
  fw (p::l) ({key:=.int .i64 p.1,val:=.pointer (some ⟨k,sh,none⟩),born:=p.1-1}::es) (L++L')
def CQ(d:ly)(b off sz dz:Nat)(L:List (Nat×CO)):Prop:=
 sz=5∧∃v m es L1 L2,rowAt d.bS.length 2 (aG d.bS) 77 v L1∧fw d.files es L2∧
  L=(b,.cells [v,.map (some m),.int .i64 d.made,.int .i64 d.calls,.int .i64 d.raw] 80 off dz)::(m,.map es d.made)::(L1++L2)
inductive SV where
 |val (v:aoP)
 |cells (n:Nat) (c:List aoP) (elem:ao1)
 |rows (n size:Nat) (row:Nat→List SV)
inductive ak where
 |cells (c:List aoP) (elem:ao1) (ro:Bool)
 |map (es:List apl) (clock:Nat)
 |kU (s:ByteArray) (pos:Nat)
 |dead
 |rows (n size:Nat) (row:Nat→List SV)
 |abs (d:ly)
inductive Tr(α:Type) where
 |nil
 |node (l:Tr α) (v:Option α) (r:Tr α)
def Tr.get{α:Type}:Nat→Tr α→Nat→Option α
 |0,.node _ v _,_=>v
 |0,.nil,_=>none
 |_+1,.nil,_=>none
 |k+1,.node l _ r,n=>match ao6 (n%2) 0 with
  |true=>l.get k (n/2)
  |false=>r.get k (n/2)
def Tr.set{α:Type}:Nat→Tr α→Nat→α→Tr α
 |0,_,_,o=>.node .nil (some o) .nil
 |k+1,.nil,n,o=>match ao6 (n%2) 0 with
  |true=>.node (Tr.set k .nil (n/2) o) none .nil
  |false=>.node .nil none (Tr.set k .nil (n/2) o)
 |k+1,.node l v r,n,o=>match ao6 (n%2) 0 with
  |true=>.node (Tr.set k l (n/2) o) v r
  |false=>.node l v (Tr.set k r (n/2) o)
def small(n:Nat):Bool:=ao9 n 262144
def gt(t:Tr ak)(n:Nat):Option ak:=match small n with
 |true=>t.get 18 n
 |false=>none
structure VS where
 mem:Tr ak
 next:Nat
 rd:List Nat
 wr:List Nat
inductive Rd(α:Type) where
 |done (a:α)
 |fail
 |read (x:Nat) (k:ak→Rd α)
def Rd.run{α:Type}(g:Nat→Option ak):Rd α→Option (α×List Nat)
 | .done a=>some (a,[])
 | .fail=>none
 | .read x k=>match g x with
  |none=>none
  |some o=>match(k o).run g with
   |none=>none
   |some (a,l)=>some (a,x::l)
def Rd.bind{α β:Type}:Rd α→(α→Rd β)→Rd β
 | .done a,f=>f a
 | .fail,_=>.fail
 | .read x k,f=>.read x fun o=>(k o).bind f
def fP{α:Type}:Option α→Rd α
 |some a=>.done a
 |none=>.fail
inductive j3 where
 |val (v:aoP)
 |skip
 |enter (f:apr) (args:List aoP)
 |panic (v:aoP)
 |defer (d:Deferred)
structure bq where
 r:j3
 ws:List (Nat×ak)
 nw:Option ak
def flat:Nat→aoP→Bool
 |_,.bool _|_,.int _ _|_,.float _ _|_,.complex _ _ _|_,.string _|_,.pointer none|_,.map none|_,.chan none|_,.nilFunc|_,.nilIface=>true
 |_,.slice none 0 0=>true
 |_,.func (.func _) f c=>f.toList.isEmpty&&c.toList.isEmpty
 |d+1,.iface _ v=>flat d v
 |d+1,.agg cs=>cs.toList.all (flat d)
 |d+1,.tuple cs=>cs.toList.all (flat d)
 |_,_=>false
abbrev fl(v:aoP):Bool:=flat 6 v
def gE{α:Type}(P:ao7):Sem α→Option (Except aoP α)
 | .pure a=>some (.ok a)
 | .program k=>gE P (k P)
 | .mark _ k=>gE P k
 | .halt (.panic v)=>some (.error v)
 |_=>none
structure Fr where
 t:Tr aoP
 n:Nat
 ds:List (apr×List aoP)
 base:List Deferred
def Fr.at(f:Fr)(i:Nat):aoP:=match ao9 i f.n with
 |true=>match f.t.get 10 i with
  |some v=>v
  |none=>undef
 |false=>undef
def Fr.set(f:Fr)(i:Nat)(v:aoP):Option Fr:=match f with
 |⟨t,n,ds,base⟩=>match ao9 i n with
  |true=>some ⟨t.set 10 i v,n,ds,base⟩
  |false=>none
theorem Fr.rf(f:Fr)(i:Nat)(v:aoP):f.set i v=match ao9 i f.n with
 |true=>some {f with t:=f.t.set 10 i v}
 |false=>none:=by cases f;rfl
def Fr.rh:List aoP→Nat→Tr aoP→Tr aoP
 | [],_,t=>t
 |v::l,i,t=>Fr.rh l (i+1) (t.set 10 i v)
def Fr.of(args:List aoP)(n:Nat):Option Fr:=match apf args.length n&&apf n 1024 with
 |true=>some ⟨Fr.rh args 0 .nil,n,[],[]⟩
 |false=>none
def bR(t:Fr):aqo→aoP
 | .tmp i=>t.at i
 | .const v=>v
 | .global g=>.pointer (some ⟨g,0,none⟩)
 | .func f=>.func (.func f) #[] #[]
def pd:aqo→Bool
 | .global _=>false
 | .const v=>fl v
 |_=>true
section
variable (P:ao7)
def b7(t:ao1):Option Nat:=(P.info? t).map (·.size)
def og(t:ao1):Option Bool:=match P.underlying t with
 |some (.struct _)|some (.array _ _)=>some true
 |some _=>some false
 |none=>none
def val(v:aoP):Rd bq:=.done ⟨.val v,[],none⟩
def new(ob:ak)(v:aoP):Rd bq:=.done ⟨.val v,[],some ob⟩
def cut(c:List aoP)(off n:Nat):Option (List aoP):=match apf (off+n) c.length with
 |true=>some ((c.drop off).take n)
 |false=>none
def bf(c:List aoP)(off:Nat)(vs:List aoP):List aoP:=c.take off++vs++c.drop (off+vs.length)
def qf(t:ao1)(b off:Nat):Rd aoP:=.read b fun
 | .cells c _ _=>match og P t with
  |some true=>match b7 P t with
   |some (n+1)=>match cut c off (n+1)with
    |some l=>.done (.agg l.toArray)
    |none=>.fail
   |_=>.fail
  |some false=>match c[off]?with
   |some v=>.done v
   |none=>.fail
  |none=>.fail
 |_=>.fail
def ri(size:Nat):aoP→Nat→Rd (List aoP)
 | .slice (some ⟨b,off,none⟩) _ _,n=>.read b fun
  | .cells c _ _=>fP (cut c off (n*size))
  |_=>.fail
 | .slice none _ _,_=>.done []
 | .string s,n=>.done ((s.data.toList.take n).map fun b=>.int .u8 b.toNat)
 |_,_=>.fail
def bytesOf:List aoP→Option (List UInt8)
 | []=>some []
 | .int .u8 n::l=>match bytesOf l with
  |some r=>some (arH n.toNat::r)
  |none=>none
 |_::_=>none
def sX(size:Nat→Option (Nat×Nat))(cells:List aoP):List (Nat×aoP)→Option (List aoP)
 | []=>some cells
 |(i,v)::rest=>match size i with
  |none=>none
  |some (off,n)=>match ao6 v.cells.size n&&apf (off+n) cells.length with
   |true=>sX size (bf cells off v.cells.toList) rest
   |false=>none
def uQ(P:ao7):List ar1→Option (List (Nat×Nat))
 | []=>some []
 |f::l=>match b7 P f.type,uQ P l with
  |some n,some r=>some ((f.offset,n)::r)
  |_,_=>none
def fg(zero:List aoP):Nat→List aoP
 |0=>[]
 |n+1=>zero++fg zero n
def zeroOf(t:ao1):Option aoP:=(P.info? t).bind (·.zero)
def rj:aoP→Option Nat
 | .slice _ n _=>some n
 | .string s=>some s.size
 |_=>none
def pe:aoP→Option Nat
 | .int _ (.ofNat n)=>some n
 |_=>none
def oh(d:Nat):Option aoP→Option Nat
 |none=>some d
 |some v=>pe v
def uR(elem:ao1)(size len k:Nat)(base:Option arf)(xs:List aoP)(n:Nat):Rd bq:=match base with
 |none=>match len with
  |0=>.done ⟨.val (.slice (some ⟨n,0,none⟩) k k),[],some (.cells xs elem false)⟩
  |_=>.fail
 |some ⟨b,off,none⟩=>.read b fun
  | .cells c el false=>match ao6 (off+len*size) c.length&&ao6 el elem with
   |true=>.done ⟨.val (.slice (some ⟨n,0,none⟩) (len+k) (len+k)),[(b,.dead)],some (.cells (c.drop off++xs) elem false)⟩
   |false=>.fail
  |_=>.fail
 |_=>.fail
def wW(size len cap k:Nat)(base:Option arf)(xs:List aoP):Rd bq:=match base with
 |some ⟨b,off,none⟩=>.read b fun
  | .cells c el false=>match apf (len+k) cap&&apf (off+len*size+xs.length) c.length with
   |true=>.done ⟨.val (.slice (some ⟨b,off,none⟩) (len+k) cap),[(b,.cells (bf c (off+len*size) xs) el false)],none⟩
   |false=>.fail
  |_=>.fail
 |_=>.fail
def full(len cap:Nat):Bool:=match cap with
 |0=>true
 |c+1=>apf (c+1) len
def isInt:asy→Bool
 | .int _=>true
 |_=>false
def wX(argTypes:List ao1)(args:List aoP)(n:Nat):Rd bq:=
 match argTypes,args with
 |sT::xT::_,.slice base len cap::x::_=>match P.underlying sT,P.underlying xT with
  |some (.slice elem),some xd=>match b7 P elem,rj x,zeroOf P elem,(P.info? elem).map (·.bytes)with
   |some size,some k,some z,some bytes=>match !isInt xd&&apf bytes 1000000&&ao6 z.cells.size size&&ao9 0 size with
    |false=>.fail
    |true=>(ri size x k).bind fun xs=>match apf (len+k) 1000000&&xs.all apR&&ao6 xs.length (k*size)with
     |false=>.fail
     |true=>match full len cap with
      |true=>uR elem size len k base xs n
      |false=>wW size len cap k base xs
   |_,_,_,_=>.fail
  |_,_=>.fail
 |_,_=>.fail
def copyV(argTypes:List ao1)(args:List aoP):Rd bq:=
 match argTypes,args with
 |dT::_,.slice base len _::x::_=>match P.underlying dT with
  |some (.slice elem)=>match b7 P elem,rj x with
   |some size,some k=>(ri size x (as2 k len)).bind fun xs=>
    match base with
    |none=>val (.int .i64 (as2 k len))
    |some ⟨b,off,none⟩=>.read b fun
     | .cells c el false=>match apf (off+xs.length) c.length&&xs.all apR with
      |true=>.done ⟨.val (.int .i64 (as2 k len)),[(b,.cells (bf c off xs) el false)],none⟩
      |false=>.fail
     |_=>.fail
    |_=>.fail
   |_,_=>.fail
  |_=>.fail
 |_,_=>.fail
def fm(k:aoP):List apl→Nat→Option (Option (Nat×aoP))
 | [],_=>some none
 |e::es,i=>match k,e.key with
  | .int a x,.int b y=>match a==b with
   |true=>if x==y then some (some (i,e.val))else fm k es (i+1)
   |false=>none
  | .string x,.string y=>if x==y then some (some (i,e.val))else fm k es (i+1)
  |_,_=>none
def pf(P:ao7)(t:ao1)(k:aoP):Bool:=match P.underlying t,k with
 |some (.int _),.int _ _=>true
 |some .string,.string _=>true
 |_,_=>false
def CS(t:ao1)(x k:aoP)(ok:Bool):Rd bq:=
 match P.underlying t with
 |some (.map kt et)=>match pf P kt k,zeroOf P et with
  |true,some z=>
   let tell (r:Option (Nat×aoP)):Rd bq:=match r with
    |some (_,v)=>val (if ok then .tuple #[v,.bool true]else v)
    |none=>val (if ok then .tuple #[z,.bool false]else z)
   match x with
   | .map none=>match fl z with
    |true=>tell none
    |false=>.fail
   | .map (some r)=>.read r fun
    | .map es _=>match fm k es 0,fl z with
     |some f,true=>tell f
     |_,_=>.fail
    |_=>.fail
   |_=>.fail
  |_,_=>.fail
 |_=>.fail
def wY(t:ao1)(x k v:aoP):Rd bq:=
 match P.underlying t with
 |some (.map kt _)=>match pf P kt k,x with
  |true,.map (some r)=>.read r fun
   | .map es clock=>match fm k es 0 with
    |some (some (i,_))=>.done ⟨.skip,[(r,.map (es.modify i fun e=>{e with key:=k,val:=v}) clock)],none⟩
    |some none=>.done ⟨.skip,[(r,.map (es++[{key:=k,val:=v,born:=clock}]) (clock+1))],none⟩
    |none=>.fail
   |_=>.fail
  |_,_=>.fail
 |_=>.fail
def wZ(argTypes:List ao1)(args:List aoP):Rd bq:=
 match argTypes,args with
 |t::_,.map (some r)::k::_=>match P.underlying t with
  |some (.map kt _)=>match pf P kt k with
   |true=>.read r fun
    | .map es clock=>match fm k es 0 with
     |some (some (i,_))=>.done ⟨.val (.tuple #[]),[(r,.map (es.eraseIdx i) clock)],none⟩
     |some none=>.done ⟨.val (.tuple #[]),[(r,.map es clock)],none⟩
     |none=>.fail
    |_=>.fail
   |false=>.fail
  |_=>.fail
 |_,_=>.fail
def CT(argTypes:List ao1)(args:List aoP):Rd bq:=
 match argTypes,args with
 |t::_,x::_=>match P.underlying t,x with
  |some (.slice _),.slice _ n _=>val (.int .i64 n)
  |some (.map _ _),.map none=>val (.int .i64 0)
  |some (.map _ _),.map (some r)=>.read r fun
   | .map es _=>val (.int .i64 es.length)
   |_=>.fail
  |some (.array n _),_=>val (.int .i64 n)
  |some (.pointer a),_=>match P.underlying a with
   |some (.array n _)=>val (.int .i64 n)
   |_=>.fail
  |_,_=>.fail
 |_,_=>.fail
inductive Pl where
 |val (v:aoP)
 |var (b off:Nat)
def w0(s:ao1)(i:Nat):Option (Nat×ao1×Nat):=match P.underlying s with
 |some (.struct fs)=>match fs[i]?with
  |some f=>match b7 P f.type with
   |some (n+1)=>some (f.offset,f.type,n+1)
   |_=>none
  |none=>none
 |_=>none
def zj(t:ao1):Pl→Rd aoP
 | .val v=>.done v
 | .var b o=>qf P t b o
def uS:List FieldStep→ao1→Pl→Rd (ao1×Pl)
 | [],t,x=>.done (t,x)
 |s::rest,t,x=>match w0 P s.struct s.index with
  |none=>.fail
  |some (off,ft,n)=>match s.deref with
   |true=>(zj P t x).bind fun
    | .pointer (some ⟨b,o,none⟩)=>uS rest ft (.var b (o+off))
    |_=>.fail
   |false=>match x with
    | .var b o=>uS rest ft (.var b (o+off))
    | .val _=>.fail
def CU(t:ao1)(x:Pl)(ptr:Bool):Rd aoP:=match P.underlying t,ptr,x with
 |some (.pointer _),true,.val v=>.done v
 |some (.pointer _),true,.var b o=>qf P t b o
 |some (.pointer e),false,.val (.pointer (some ⟨b,o,none⟩))=>qf P e b o
 |some (.pointer _),false,_=>.fail
 |some _,true,.var b o=>.done (.pointer (some ⟨b,o,none⟩))
 |some _,false,.val v=>.done v
 |some _,false,.var b o=>qf P t b o
 |_,_,_=>.fail
def zk:Nat→ao1→aoP→String→Rd (apr×aoP)
 |0,_,_,_=>.fail
 |d+1,t,v,name=>match(P.info? t).bind (·.methods.find? (·.name==name))with
  |none=>.fail
  |some m=>(uS P m.path.toList t (.val v)).bind fun(xt,x)=>match m.func with
   |none=>(zj P xt x).bind fun
    | .iface t' v'=>zk d t' v' name
    |_=>.fail
   |some (f,ptr)=>(CU P xt x ptr).bind fun r=>.done (f,r)
def zl:asy→aoP→aoP→Option Bool
 | .pointer _,.pointer none,.pointer (some _)=>some false
 | .pointer _,.pointer (some _),.pointer none=>some false
 | .slice _,.slice none _ _,.slice (some _) _ c=>match ao9 0 c with
  |true=>some false
  |false=>none
 | .slice _,.slice (some _) _ c,.slice none _ _=>match ao9 0 c with
  |true=>some false
  |false=>none
 | .map _ _,.map none,.map (some _)=>some false
 | .map _ _,.map (some _),.map none=>some false
 | .func _ _ _,.nilFunc,.func _ _ _=>some false
 | .func _ _ _,.func _ _ _,.nilFunc=>some false
 | .interface _,.nilIface,.iface _ _=>some false
 | .interface _,.iface _ _,.nilIface=>some false
 |_,_,_=>none
def kr(s:Sem aqV):Rd bq:=match gE P s with
 |some (.ok (.value v))=>match fl v with
  |true=>val v
  |false=>.fail
 |some (.error v)=>match fl v with
  |true=>.done ⟨.panic v,[],none⟩
  |false=>.fail
 |_=>.fail
def enter(f:apr)(args:List aoP):Rd bq:=match P.funcs[f]?with
 |some fn=>match fn.body with
  |some _=>.done ⟨.enter f args,[],none⟩
  |none=>match args.all fl with
   |true=>kr P (callFunc f args.toArray)
   |false=>.fail
 |none=>.fail
def zm(recv:aoP)(name:String)(args:List aoP):Rd bq:=match recv with
 | .iface t v=>(zk P 9 t v name).bind fun(f,r)=>enter P f (r::args)
 |_=>.fail
def T3:Builtin→Bool
 | .len| .min| .max=>true
 |_=>false
def T4(b:Builtin)(argTypes:Array ao1)(type:ao1)(uT:Array Bool)(args:List aoP):Rd bq:=
 kr P (builtin b argTypes type uT args.toArray)
def w5(argTypes:List ao1)(args:List aoP):Rd bq:=
 match argTypes,args with
 |t::_,x::_=>match P.underlying t,x with
  |some _,.slice none _ _=>val (.tuple #[])
  |some _,.slice _ 0 _=>val (.tuple #[])
  |some (.slice el),.slice (some ⟨b,off,none⟩) k _=>match b7 P el,zeroOf P el with
   |some size,some z=>.read b fun
    | .cells c ce false=>match fl z&&ao6 z.cells.size size&&apf (off+k*size) c.length&&z.cells.toList.all apR with
     |true=>.done ⟨.val (.tuple #[]),[(b,.cells (bf c off (fg z.cells.toList k)) ce false)],none⟩
     |false=>.fail
    |_=>.fail
   |_,_=>.fail
  |_,_=>.fail
 |_,_=>.fail
def CV(b:Builtin)(argTypes:Array ao1)(type:ao1)(uT:Array Bool)(args:List aoP)(n:Nat):Rd bq:=
 match T3 b&&args.all fl with
 |true=>T4 P b argTypes type uT args
 |false=>match b with
  | .append=>wX P argTypes.toList args n
  | .copy=>copyV P argTypes.toList args
  | .len=>CT P argTypes.toList args
  | .delete=>wZ P argTypes.toList args
  | .clear=>w5 P argTypes.toList args
  |_=>.fail
def J5(f:aoP)(args:List aoP):Rd bq:=match f with
 | .func (.func k) first captured=>enter P k (first.toList++args++captured.toList)
 | .func (.method name) first captured=>match first.toList++args with
  |recv::rest=>zm P recv name rest
  | []=>.fail
 |_=>.fail
def rk(c:Call)(e:aqo→aoP)(type:ao1)(n:Nat):Rd bq:=
 match c.callee with
 | .builtin b=>CV P b c.argTypes type (c.args.map fun| .const _=>true|_=>false) (c.args.toList.map e) n
 | .invoke recv name=>zm P (e recv) name (c.args.toList.map e)
 | .value f=>J5 P (e f) (c.args.toList.map e)
def CW(t:ao1)(n:Nat):Rd bq:=match zeroOf P t with
 |some z=>match fl z with
  |true=>new (.cells z.cells.toList t false) (.pointer (some ⟨n,0,none⟩))
  |false=>.fail
 |none=>.fail
def CX(t:ao1)(parts:List (Nat×aoP)):Rd bq:=match zeroOf P t,P.underlying t with
 |some z,some (.struct fs)=>match uQ P fs.toList,fl z with
  |some ps,true=>match sX (fun i=>ps[i]?) z.cells.toList parts with
   |some l=>val (.agg l.toArray)
   |none=>.fail
  |_,_=>.fail
 |some z,some (.array _ el)=>match b7 P el,fl z with
  |some size,true=>match sX (fun i=>some (i*size,size)) z.cells.toList parts with
   |some l=>val (.agg l.toArray)
   |none=>.fail
  |_,_=>.fail
 |_,_=>.fail
def CY(t:ao1)(len:Nat)(parts:List (Nat×aoP))(n:Nat):Rd bq:=match P.underlying t with
 |some (.slice el)=>match b7 P el,zeroOf P el with
  |some size,some z=>match fl z&&apf (len*size) 1000000&&ao6 z.cells.size size with
   |true=>match sX (fun i=>some (i*size,size)) (fg z.cells.toList len) parts with
    |some l=>new (.cells l el false) (.slice (some ⟨n,0,none⟩) len len)
    |none=>.fail
   |false=>.fail
  |_,_=>.fail
 |_=>.fail
def sY(t:ao1):aoP→Rd bq
 | .pointer (some ⟨b,off,none⟩)=>(qf P t b off).bind val
 |_=>.fail
def sZ(t:ao1)(a x:aoP):Rd bq:=match a with
 | .pointer (some ⟨b,off,none⟩)=>match b7 P t with
  |some size=>.read b fun
   | .cells c el false=>match ao6 x.cells.size size&&apf (off+size) c.length&&x.cells.toList.all apR with
    |true=>.done ⟨.skip,[(b,.cells (bf c off x.cells.toList) el false)],none⟩
    |false=>.fail
   |_=>.fail
  |none=>.fail
 |_=>.fail
def CZ:aoP→Rd bq
 | .pointer (some a)=>val (.pointer (some a))
 | .func (.func k) f c=>val (.func (.func k) f c)
 | .iface t v=>val (.iface t v)
 | .pointer none| .nilIface| .nilFunc=>kr P (runtimePanic .nilDeref)
 |_=>.fail
def uU(t:ao1)(a b:aoP)(neg:Bool):Rd bq:=match P.underlying t with
 |some d=>match zl d a b with
  |some r=>val (.bool (r != neg))
  |none=>.fail
 |none=>.fail
def zn(ft:ao1)(cs:List aoP)(d:Nat):Option aoP:=match og P ft,b7 P ft with
 |some true,some k=>match cut cs d k with
  |some l=>some (.agg l.toArray)
  |none=>none
 |some false,some _=>cs[d]?
 |_,_=>none
def w6(f:ar1→Option Bool):List ar1→Option Bool
 | []=>some true
 |x::l=>match f x,w6 f l with
  |some a,some b=>some (a&&b)
  |_,_=>none
def w7:Nat→ao1→aoP→aoP→Option Bool
 |0,_,_,_=>none
 |d+1,t,x,y=>match P.underlying t with
  |some .bool=>match x,y with
   | .bool a,.bool b=>some (a==b)
   |_,_=>none
  |some (.int _)=>match x,y with
   | .int k a,.int k' b=>match decide (k=k')with
    |true=>some (a==b)
    |false=>none
   |_,_=>none
  |some .string=>match x,y with
   | .string a,.string b=>some (a==b)
   |_,_=>none
  |some (.struct fs)=>match x,y with
   | .agg xs,.agg ys=>match P.stoodInHeld t with
    |true=>none
    |false=>w6 (fun f=>match decide (f.name= "_")with
     |true=>none
     |false=>match zn P f.type xs.toList f.offset,zn P f.type ys.toList f.offset with
      |some a,some b=>w7 d f.type a b
      |_,_=>none) fs.toList
   |_,_=>none
  |_=>none
def C0(op:BinOp)(t:ao1)(a b:aoP):Option Bool:=match op,a,b with
 | .eql,.agg _,.agg _=>match P.eqGuardType P.depth t with
  |true=>none
  |false=>w7 P 10000 t a b
 | .neq,.agg _,.agg _=>match P.eqGuardType P.depth t with
  |true=>none
  |false=>(w7 P 10000 t a b).map (!·)
 |_,_,_=>none
def ta(op:BinOp)(t:ao1)(x y:aqo)(a b:aoP):Rd bq:=match fl a&&fl b with
 |true=>match C0 P op t a b with
  |some r=>val (.bool r)
  |none=>kr P (do let v ←(do eqGuard op t x y a b;binOp op t a b);pure (.value v))
 |false=>match op with
  | .eql=>uU P t a b false
  | .neq=>uU P t a b true
  |_=>.fail
def C1(op:UnOp)(a:aoP):Rd bq:=match fl a with
 |true=>kr P (do let v ←Op.unary op a;pure (.value v))
 |false=>.fail
def w8(src dst:ao1)(x:aoP)(n:Nat):Rd bq:=match P.underlying src,P.underlying dst,x with
 |some _,some (.slice el),.string s=>match P.underlying el,b7 P el with
  |some (.int .u8),some 1=>new (.cells (s.data.toList.map fun b=>.int .u8 b.toNat) el false) (.slice (some ⟨n,0,none⟩) s.size s.size)
  |_,_=>.fail
 |some (.slice el),some (.slice _),.slice (some ⟨b,off,none⟩) len cap=>match P.underlying el,ao6 src dst with
  |some (.int .u8),true=>match cap with
   |0=>.fail
   |_+1=>.read b fun
    | .cells (_::_) _ false=>val (.slice (some ⟨b,off,none⟩) len cap)
    |_=>.fail
  |_,_=>.fail
 |some (.slice el),some .string,.slice a len cap=>match P.underlying el,a with
  |some (.int .u8),none=>val (.string .empty)
  |some (.int .u8),some ⟨b,off,none⟩=>.read b fun
   | .cells c _ _=>match(cut c off len).bind bytesOf with
    |some l=>val (.string ⟨l.toArray⟩)
    |none=>.fail
   |_=>.fail
  |_,_=>.fail
 |_,_,_=>match fl x with
  |true=>kr P (do let v ←convert src dst x;pure (.value v))
  |false=>.fail
def C2(t:ao1)(x:aoP):Rd bq:=match P.underlying t with
 |some (.interface _)=>.fail
 |some _=>val (.iface t x)
 |none=>.fail
def C3(fn:Fn)(first captured:List aoP):Rd bq:=match fn with
 | .func _| .method _=>val (.func fn first.toArray captured.toArray)
 |_=>.fail
def C4(t:ao1)(h:Option aoP)(n:Nat):Rd bq:=match h with
 |none=>new (.map [] 0) (.map (some n))
 |some (.int _ _)=>match P.underlying t with
  |some (.map _ _)=>new (.map [] 0) (.map (some n))
  |_=>.fail
 |_=>.fail
def C5(t:ao1)(l c:aoP)(n:Nat):Rd bq:=match P.underlying t,pe l,pe c with
 |some (.slice el),some l,some c=>match b7 P el,zeroOf P el,(P.info? el).map (·.bytes)with
  |some size,some z,some bytes=>match fl z&&apf l c&&apf c 1000000&&apf bytes 1000000&&ao6 z.cells.size size with
   |true=>new (.cells (fg z.cells.toList c) el false) (.slice (some ⟨n,0,none⟩) l c)
   |false=>.fail
  |_,_,_=>.fail
 |_,_,_=>.fail
def rl(t:ao1)(x:aoP)(lo hi mx:Option aoP):Rd bq:=match fl x with
 |true=>match lo.all fl&&hi.all fl&&mx.all fl with
  |true=>kr P (do let v ←aq3 t x lo hi mx;pure (.value v))
  |false=>.fail
 |false=>match P.underlying t,x,mx with
  |some (.slice el),.slice (some ⟨b,off,none⟩) len cap,none=>match oh 0 lo,oh len hi,b7 P el with
   |some l,some h,some size=>match apf l h&&apf h cap with
    |true=>.read b fun
     | .cells c eb ro=>match b7 P eb with
      |some sb=>match apf size sb with
       |true=>val (.slice (some ⟨b,off+l*size,none⟩) (h-l) (cap-l))
       |false=>.fail
      |none=>.fail
     |_=>.fail
    |false=>.fail
   |_,_,_=>.fail
  |some (.array k el),.pointer (some ⟨b,off,none⟩),none=>match oh 0 lo,oh k hi,b7 P el with
   |some l,some h,some size=>match apf l h&&apf h k with
    |true=>val (.slice (some ⟨b,off+(if ao6 k l then 0 else l*size),none⟩) (h-l) (k-l))
    |false=>.fail
   |_,_,_=>.fail
  |_,_,_=>.fail
def C6(s:ao1)(x:aoP)(f:Nat):Rd bq:=match x,w0 P s f with
 | .pointer (some ⟨b,off,none⟩),some (d,_,_)=>val (.pointer (some ⟨b,off+d,none⟩))
 |_,_=>.fail
def zo(ft:ao1)(cs:List aoP)(d k:Nat):Rd bq:=match og P ft with
 |some true=>match cut cs d k with
  |some l=>val (.agg l.toArray)
  |none=>.fail
 |some false=>match cs[d]?with
  |some v=>val v
  |none=>.fail
 |none=>.fail
def C7(s:ao1)(x:aoP)(f:Nat):Rd bq:=match x,w0 P s f with
 | .agg cs,some (d,ft,k)=>zo P ft cs.toList d k
 |_,_=>.fail
def tb(t:ao1)(x i:aoP):Rd bq:=match P.underlying t,x,pe i with
 |some (.array k el),.pointer (some ⟨b,off,none⟩),some i=>match b7 P el,ao9 i k with
  |some size,true=>val (.pointer (some ⟨b,off+i*size,none⟩))
  |_,_=>.fail
 |some (.slice el),.slice (some ⟨b,off,none⟩) len _,some i=>match b7 P el,ao9 i len with
  |some size,true=>val (.pointer (some ⟨b,off+i*size,none⟩))
  |_,_=>.fail
 |_,_,_=>.fail
def w9(t:ao1)(x i:aoP):Rd bq:=match x with
 | .string s=>match fl i with
  |true=>kr P (do let v ←ar8 t (.string s) i;pure (.value v))
  |false=>.fail
 | .agg cs=>match P.underlying t,pe i with
  |some (.array k el),some i=>match b7 P el,ao9 i k with
   |some size,true=>zo P el cs.toList (i*size) size
   |_,_=>.fail
  |_,_=>.fail
 |_=>.fail
def C8(x:aoP)(i:Nat):Rd bq:=match x with
 | .tuple vs=>match vs.toList[i]?with
  |some v=>val v
  |none=>.fail
 |_=>.fail
def C9(x:aoP)(at_:ao1)(ok:Bool):Rd bq:=match P.underlying at_,x with
 |some (.interface _),_=>.fail
 |some _,.iface t v=>match ao6 t at_ with
  |true=>val (if ok then .tuple #[v,.bool true]else v)
  |false=>.fail
 |_,_=>.fail
def zp(c a b:aoP):Rd bq:=match c with
 | .bool true=>val a
 | .bool false=>val b
 |_=>.fail
def Da(x:aoP):Rd bq:=match fl x with
 |true=>kr P (do let v ←avd x;pure (.value v))
 |false=>.fail
end
def zq(op:Op):ao7→(aqo→aoP)→Nat→ao1→Rd bq:=match op with
 | .move x| .assign x=>fun P e n ty=>val (e x)
 | .pick c a b=>fun P e n ty=>zp (e c) (e a) (e b)
 | .alloc t=>fun P e n ty=>CW P t n
 | .box t x=>fun P e n ty=>new (.cells (e x).cells.toList t false) (.pointer (some ⟨n,0,none⟩))
 | .build t parts=>fun P e n ty=>CX P t (parts.toList.map fun(i,x)=>(i,e x))
 | .buildSlice t len parts=>fun P e n ty=>CY P t len (parts.toList.map fun(i,x)=>(i,e x)) n
 | .load t a=>fun P e n ty=>sY P t (e a)
 | .store t a x=>fun P e n ty=>sZ P t (e a) (e x)
 | .nilCheck x=>fun P e n ty=>CZ P (e x)
 | .binOp op t x y _=>fun P e n ty=>ta P op t x y (e x) (e y)
 | .unOp op _ x=>fun P e n ty=>C1 P op (e x)
 | .convert src dst x=>fun P e n ty=>w8 P src dst (e x) n
 | .makeInterface t x=>fun P e n ty=>C2 P t (e x)
 | .makeFunc fn first captured=>fun P e n ty=>C3 fn (first.toList.map e) (captured.toList.map e)
 | .makeMap t r=>fun P e n ty=>C4 P t (r.map e) n
 | .makeSlice t l c=>fun P e n ty=>C5 P t (e l) (e c) n
 | .slice t x lo hi mx=>fun P e n ty=>rl P t (e x) (lo.map e) (hi.map e) (mx.map e)
 | .fieldAddr s x f=>fun P e n ty=>C6 P s (e x) f
 | .field s x f=>fun P e n ty=>C7 P s (e x) f
 | .indexAddr t x i=>fun P e n ty=>tb P t (e x) (e i)
 | .index t x i=>fun P e n ty=>w9 P t (e x) (e i)
 | .lookup t x k ok=>fun P e n ty=>CS P t (e x) (e k) ok
 | .mapUpdate t m k x| .insert t m k x=>fun P e n ty=>wY P t (e m) (e k) (e x)
 | .extract t i=>fun P e n ty=>C8 (e t) i
 | .typeAssert x _ at_ ok=>fun P e n ty=>C9 P (e x) at_ ok
 | .call c=>fun P e n ty=>rk P c e ty n
 | .panic x=>fun P e n ty=>Da P (e x)
 |_=>fun _ _ _ _=>.fail
def ev(P:ao7)(e:aqo→aoP)(n:Nat)(o:apS):Rd bq:=zq o.op P e n o.type
def zr(S:VS)(l:List Nat)(out:bq):Option (j3×VS):=
 let S1:VS:=out.ws.foldl (fun S (x,o)=>{S with mem:=S.mem.set 18 x o,wr:=x::S.wr}) {S with rd:=l++S.rd}
 match out.ws.all fun(x,_)=>l.contains x with
 |false=>none
 |true=>match out.nw with
  |none=>some (out.r,S1)
  |some o=>match small S.next,gt S.mem S.next with
   |true,none=>some (out.r,{S1 with mem:=S1.mem.set 18 S.next o,next:=S.next+1,wr:=S.next::S1.wr})
   |_,_=>none
def nG(P:ao7)(t:Fr)(S:VS)(o:apS):Option (j3×VS):=
 match o.op.operands.toList.all pd with
 |false=>none
 |true=>match(ev P (bR t) S.next o).run (gt S.mem)with
  |none=>none
  |some (out,l)=>zr S l out
def ml:List SV→Nat→List aoP
 | [],_=>[]
 | .val v::l,k=>v::ml l k
 | .cells n _ _::l,k=>.slice (some ⟨k,0,none⟩) n n::ml l (k+1)
 | .rows n _ _::l,k=>.slice (some ⟨k,0,none⟩) n n::ml l (k+1)
def gF:List SV→List ak
 | []=>[]
 | .val _::l=>gF l
 | .cells _ c el::l=>.cells c el true::gF l
 | .rows n s r::l=>.rows n s r::gF l
def kV:List SV→Nat
 | []=>0
 | .val _::l=>kV l
 |_::l=>kV l+1
def rp:List ak→VS→Option VS
 | [],S=>some S
 |o::l,S=>match small S.next,gt S.mem S.next with
  |true,none=>rp l {S with mem:=S.mem.set 18 S.next o,next:=S.next+1,wr:=S.next::S.wr}
  |_,_=>none
def xa(S:VS)(b:Nat)(el:ao1)(l:List SV):Option (j3×VS):=
 match rp (gF l++[.cells (ml l S.next) el true]) {S with rd:=b::S.rd}with
 |some S1=>some (.val (.pointer (some ⟨S.next+kV l,0,none⟩)),S1)
 |none=>none
structure View where
 b:Nat
 el:ao1
 n:Nat
 size:Nat
 row:Nat→List SV
 len:Nat
 i:aoP
def lz(P:ao7)(t:Fr)(S:VS)(o:apS):Option View:=match o.op with
 | .indexAddr ty x i=>match bR t x with
  | .slice (some ⟨b,off,none⟩) len _=>match gt S.mem b with
   |some (.rows n size row)=>match off with
    |0=>match P.underlying ty with
     |some (.slice el)=>match b7 P el with
      |some s=>match ao6 s size with
       |true=>some ⟨b,el,n,size,row,len,bR t i⟩
       |false=>none
      |none=>none
     |_=>none
    |_+1=>none
   |_=>none
  |_=>none
 |_=>none
def jt(P:ao7)(t:Fr)(S:VS)(o:apS):Option (j3×VS):=match lz P t S o with
 |some V=>match o.op.operands.toList.all pd,pe V.i with
  |true,some k=>match ao9 k V.n&&ao9 k V.len with
   |true=>xa S V.b V.el (V.row k)
   |false=>none
  |_,_=>none
 |none=>nG P t S o
inductive bj where
 |normal
 |exit (id:Nat)
 |ret
 |panic (v:aoP)
inductive bO where
 |ret (v:aoP)
 |panic (v:aoP)
abbrev cL:=apr→List aoP→VS→Option (bO×VS)
def put(t:Fr)(d:Option Tmp)(v:aoP):Option Fr:=match d with
 |some d=>t.set d v
 |none=>some t
def lB(ops:List apS)(t:Fr)(j:Nat):Option Bool:=match(ops[j]?).bind (·.dst)with
 |some d=>match t.at d with
  | .bool b=>some b
  |_=>none
 |none=>none
def kv(P:ao7)(call:cL)(ops:List apS)(o:apS)(t:Fr)(S:VS):Option (Option aoP×Fr×VS):=
 match Region.wanted o (lB ops t)with
 |false=>(put t o.dst undef).map fun t1=>(none,t1,S)
 |true=>match jt P t S o with
  |none=>none
  |some (r,S1)=>match r with
   | .val v=>(put t o.dst v).map fun t1=>(none,t1,S1)
   | .skip=>(put t o.dst undef).map fun t1=>(none,t1,S1)
   | .panic v=>some (some v,t,S1)
   | .defer _=>none
   | .enter f args=>match call f args S1 with
    |none=>none
    |some (.ret v,S2)=>(put t o.dst v).map fun t1=>(none,t1,S2)
    |some (.panic v,S2)=>some (some v,t,S2)
def xc(o:apS):Option Call:=match o.op with
 | .defer c=>some c
 |_=>none
def zt(P:ao7)(t:Fr)(o:apS)(c:Call):Option Fr:=match o.guard,c.callee with
 |none,.value f=>match pd f&&c.args.toList.all pd,bR t f with
  |true,.func (.func k) first captured=>match(P.funcs[k]?).bind (·.body)with
   |some _=>put {t with ds:=(k,(first.toList++c.args.toList.map (bR t))++captured.toList)::t.ds} o.dst undef
   |none=>none
  |_,_=>none
 |_,_=>none
def opsV(P:ao7)(call:cL)(df:Bool)(ops:List apS):List apS→Fr→VS→Option (bj×Fr×VS)
 | [],t,S=>some (.normal,t,S)
 |o::rest,t,S=>match xc o with
  |some c=>match df with
   |true=>match zt P t o c with
    |some t1=>opsV P call df ops rest t1 S
    |none=>none
   |false=>none
  |none=>match kv P call ops o t S with
   |none=>none
   |some (some v,t1,S1)=>some (.panic v,t1,S1)
   |some (none,t1,S1)=>opsV P call df ops rest t1 S1
structure Fp where
 rd:List Nat
 wr:List Nat
def zu(a b:List Nat):Bool:=a.all fun x=> !b.contains x
def kw(P:ao7)(call:cL)(ops:List apS):List apS→Fr→VS→Option (Fr×VS×List Fp)
 | [],t,S=>some (t,S,[])
 |o::rest,t,S=>match kv P call ops o t {S with rd:=[],wr:=[]}with
  |some (none,t1,S1)=>match kw P call ops rest t1 {S1 with rd:=S1.rd++S.rd,wr:=S1.wr++S.wr}with
   |some (t2,S2,gp)=>some (t2,S2,⟨S1.rd,S1.wr⟩::gp)
   |none=>none
  |_=>none
def J6(f g:Fp):Bool:=zu f.wr g.rd&&zu f.wr g.wr&&zu g.wr f.rd
def ju:List Edge→Nat
 | []=>0
 |e::l=>match aq6 .any e with
  |true=>asG (Nat.shiftLeft 1 e.on) (ju l)
  |false=>ju l
def mm(m:Nat):Nat→List Nat→Nat
 |k+1,b::bs=>match ao6 (atS (asl m k) 1) 1 with
  |true=>asG b (mm m k bs)
  |false=>mm m k bs
 |_,_=>0
def rq:Nat→List Nat→List apS→List Nat
 |_,_,[]=>[]
 |k,bs,o::l=>(fun m=>m::rq (k+1) (m::bs) l) (asG (ju o.after.toList) (mm (ju o.after.toList) k bs))
def qg(ops:Array apS):List Nat:=rq 0 [] ops.toList
structure Db where
 no:Nat
 bits:Nat
 fp:Fp
def pg:Nat→List Nat→List Fp→List Db
 |i,m::ms,f::fs=>match f.rd,f.wr with
  | [],[]=>pg (i+1) ms fs
  |_,_=>⟨i,m,f⟩::pg (i+1) ms fs
 |_,_,_=>[]
def uV:List Db→Bool
 | []=>true
 |f::l=>l.all (fun g=>ao6 (atS (asl g.bits f.no) 1) 1||J6 f.fp g.fp)&&uV l
def zv(ops:Array apS):Nat→List (Nat×apS)→List Nat→List apS→Bool
 |j,prev,m::ms,p::ps=>p.after.toList.all (fun e=> !(aq6 .any e)||ao9 e.on j)&&
  prev.all (fun q=>ao6 (atS (asl m q.1) 1) 1||q.2.apart ops p)&&zv ops (j+1) ((j,p)::prev) ms ps
 |_,_,_,_=>true
def T5(ops:Array apS):Bool:=zv ops 0 [] (qg ops) ops.toList
def tc(ops:Array apS)(gp:List Fp):Bool:=T5 ops&&uV (pg 0 (qg ops) gp)
def iter(f:Fr→VS→Option (bj×Fr×VS)):Nat→Fr→VS→Option (bj×Fr×VS)
 |0,_,_=>none
 |k+1,t,S=>match f t S with
  |some (.normal,t1,S1)=>iter f k t1 S1
  |r=>r
def di(P:ao7)(call:cL)(lf:Nat)(df:Bool):Code→Fr→VS→Option (bj×Fr×VS)
 | .skip,t,S=>some (.normal,t,S)
 | .region _ ops false,t,S=>opsV P call df ops.toList ops.toList t S
 | .region _ ops true,t,S=>match kw P call ops.toList ops.toList t S with
  |some (t1,S1,gp)=>match tc ops gp with
   |true=>some (.normal,t1,S1)
   |false=>none
  |none=>none
 | .seq a b,t,S=>match di P call lf df a t S with
  |some (.normal,t1,S1)=>di P call lf df b t1 S1
  |r=>r
 | .cond c a b,t,S=>match bR t c with
  | .bool true=>di P call lf df a t S
  | .bool false=>di P call lf df b t S
  |_=>none
 | .block id c,t,S=>match di P call lf df c t S with
  |some (.exit j,t1,S1)=>match ao6 j id with
   |true=>some (.normal,t1,S1)
   |false=>some (.exit j,t1,S1)
  |r=>r
 | .loop c,t,S=>iter (di P call lf df c) lf t S
 | .exit id,t,S=>some (.exit id,t,S)
 | .ret,t,S=>some (.ret,t,S)
 | .scope c,t,S=>di P call lf df c t S
 | .label _,t,S=>some (.normal,t,S)
 |_,_,_=>none
def gX(P:ao7)(t:Fr):List ResultVar→Rd (List aoP)
 | []=>.done []
 | .tmp i::l=>(gX P t l).bind fun r=>.done (t.at i::r)
 | .cell a ty::l=>match t.at a with
  | .pointer (some ⟨b,off,none⟩)=>(qf P ty b off).bind fun v=>(gX P t l).bind fun r=>.done (v::r)
  |_=>.fail
def mT:List aoP→aoP
 | [v]=>v
 |vs=>.tuple vs.toArray
def ol(P:ao7)(t:Fr)(fn:Func)(S:VS):Option (bO×VS):=match(gX P t fn.results.toList).run (gt S.mem)with
 |some (vs,l)=>some (.ret (mT vs),{S with rd:=l++S.rd})
 |none=>none
inductive Md where
 |ret
 |mU (v:aoP)
def Dc(o:apS):Bool:=match o.op,o.guard with
 | .call ⟨.builtin .recover,_,_⟩,none=>true
 |_,_=>false
def J7:Md→aoP
 | .ret=>.nilIface
 | .mU v=>v
def ph(P:ao7):List apS→Fr→VS→Option (Fr×VS)
 | [],t,S=>some (t,S)
 |o::rest,t,S=>match o.guard with
  |some _=>none
  |none=>match jt P t S o with
   |some (.val v,S1)=>match put t o.dst v with
    |some t1=>ph P rest t1 S1
    |none=>none
   |_=>none
def j4(P:ao7)(call:cL)(lf:Nat)(md:Md):Code→Fr→VS→Option (Md×bj×Fr×VS)
 | .seq a b,t,S=>match j4 P call lf md a t S with
  |some (fB,.normal,t1,S1)=>(di P call lf false b t1 S1).map fun r=>(fB,r)
  |r=>r
 | .region id ops false,t,S=>match ops.toList with
  |o::rest=>match Dc o with
   |true=>match put t o.dst (J7 md)with
    |some t1=>match ph P rest t1 S with
     |some (t2,S2)=>some (.ret,.normal,t2,S2)
     |none=>none
    |none=>none
   |false=>(di P call lf false (.region id ops false) t S).map fun r=>(md,r)
  | []=>none
 |c,t,S=>(di P call lf false c t S).map fun r=>(md,r)
def td(P:ao7)(call:cL)(lf:Nat)(md:Md)(k:apr)(args:List aoP)(S:VS):Option (Md×VS):=match P.funcs[k]?with
 |none=>none
 |some fn=>match fn.body with
  |none=>none
  |some c=>match Fr.of args fn.ntmps with
   |none=>none
   |some t0=>match j4 P call lf md c t0 S with
    |some (fB,x,t,S1)=>match x,t.ds,t.base with
     | .normal,[],[]=>match ol P t fn S1 with
      |some (_,S2)=>some (fB,S2)
      |none=>none
     | .ret,[],[]=>match ol P t fn S1 with
      |some (_,S2)=>some (fB,S2)
      |none=>none
     |_,_,_=>none
    |none=>none
def om(P:ao7)(call:cL)(lf:Nat):List (apr×List aoP)→Md→VS→Option (Md×VS)
 | [],md,S=>some (md,S)
 |(k,args)::l,md,S=>match td P call lf md k args S with
  |some (fB,S1)=>om P call lf l fB S1
  |none=>none
def pj(P:ao7)(call:cL)(lf:Nat)(fn:Func)(md:Md)(t:Fr)(S:VS):Option (bO×VS):=match t.base with
 | []=>match om P call lf t.ds md S with
  |some (.ret,S1)=>ol P t fn S1
  |some (.mU v,S1)=>some (.panic v,S1)
  |none=>none
 |_=>none
def mn(P:ao7)(sp:cL→cL)(lf:Nat):Nat→cL
 |0,_,_,_=>none
 |d+1,f,args,S=>match P.funcs[f]?with
  |none=>none
  |some fn=>match fn.body with
   |none=>none
   |some c=>match Fr.of args fn.ntmps with
    |none=>none
    |some t0=>match di P (sp (mn P sp lf d)) lf true c t0 S with
     |some (.normal,t,S1)=>pj P (sp (mn P sp lf d)) lf fn .ret t S1
     |some (.ret,t,S1)=>pj P (sp (mn P sp lf d)) lf fn .ret t S1
     |some (.panic v,t,S1)=>pj P (sp (mn P sp lf d)) lf fn (.mU v) t S1
     |_=>none
def S0:VS:=⟨.nil,0,[],[]⟩
def T6(P:ao7)(sp:cL→cL)(lf d:Nat)(f:apr):Bool:=match mn P sp lf d f [] S0 with
 |some (.ret (.bool true),_)=>true
 |_=>false
def am4(P:ao7)(lf d:Nat)(f:apr):Bool:=T6 P id lf d f
end Go.Proofs.YtnlkkgpcikkpoaaGreat.Vm
namespace Go.Proofs.YtnlkkgpcikkpoaaGreat.Vm
open Go.RowKit
theorem Tr.Dd{α:Type}(k n:Nat):Tr.get k (.nil:Tr α) n=none:=by cases k<;>rfl
theorem Tr.xe{α:Type}:∀(k:Nat) (t:Tr α) (n m:Nat) (o:α),n<2^k→m<2^k→Tr.get k (Tr.set k t n o) m=if m=n then some o else Tr.get k t m
 |0,t,n,m,o,hn,hm=>by
  have h1:n=0:=by simpa using hn
  have h2:m=0:=by simpa using hm
  subst h1 h2
  cases t<;>simp[Tr.set,Tr.get]
 |k+1,t,n,m,o,hn,hm=>by
  have zw:n/2<2^k:=by rw[auV]at hn;omega
  have De:m/2<2^k:=by rw[auV]at hm;omega
  have key:∀t,Tr.get k (Tr.set k t (n/2) o) (m/2)=if m/2=n/2 then some o else Tr.get k t (m/2):=fun t=>Tr.xe k t _ _ o zw De
  have zx:n%2=0∨n%2=1:=by omega
  have pk:m%2=0∨m%2=1:=by omega
  have e0:ao6 0 0=true:=rfl
  have e1:ao6 1 0=false:=rfl
  cases t with
  |nil=>
   rcases zx with mo|mo<;>rcases pk with cy|cy<;>simp only[Tr.set,Tr.get,mo,cy,e0,e1,key,Tr.Dd]
   ·by_cases e:m=n
    ·subst e;simp
    ·have:m/2≠n/2:=by omega
     simp[e,this]
   ·have:m≠n:=by omega
    simp[this]
   ·have:m≠n:=by omega
    simp[this]
   ·by_cases e:m=n
    ·subst e;simp
    ·have:m/2≠n/2:=by omega
     simp[e,this]
  |node l v r=>
   rcases zx with mo|mo<;>rcases pk with cy|cy<;>simp only[Tr.set,Tr.get,mo,cy,e0,e1,key]
   ·by_cases e:m=n
    ·subst e;simp
    ·have:m/2≠n/2:=by omega
     simp[e,this]
   ·have:m≠n:=by omega
    simp[this]
   ·have:m≠n:=by omega
    simp[this]
   ·by_cases e:m=n
    ·subst e;simp
    ·have:m/2≠n/2:=by omega
     simp[e,this]
theorem gT{n:Nat}:small n=true↔n<2^18:=by
 unfold small
 rw[show(2:Nat)^18=262144 from rfl]
 simp[ao9]
 omega
def cT(g:Nat→Option ak)(x:Nat)(o:ak):Nat→Option ak:=fun y=>if y=x then some o else g y
theorem fh(g:Nat→Option ak)(x:Nat)(o:ak):cT g x o x=some o:=by simp[cT]
theorem ec{g:Nat→Option ak}{x y:Nat}(o:ak)(h:y≠x):cT g x o y=g y:=by simp[cT,h]
theorem xf{t:Tr ak}{x:Nat}{o:ak}(h:small x=true):gt (t.set 18 x o)=cT (gt t) x o:=by
 funext y
 unfold gt cT
 by_cases hy:small y=true
 ·simp only[hy]
  rw[Tr.xe 18 _ _ _ _ (gT.1 h) (gT.1 hy)]
 ·have:y≠x:=by rintro rfl;exact hy h
  simp[hy,this]
theorem po{t:Tr ak}{x:Nat}{o:ak}(h:gt t x=some o):small x=true:=by
 unfold gt at h
 cases hs:small x with
 |true=>rfl
 |false=>rw[hs]at h;cases h
theorem Rd.run_bind{α β:Type}(g:Nat→Option ak)(r:Rd α)(f:α→Rd β)(b:β)(l:List Nat):(r.bind f).run g=some (b,l)↔
 ∃a l1 l2,r.run g=some (a,l1)∧(f a).run g=some (b,l2)∧l=l1++l2:=by
 induction r generalizing l with
 |done a=>
  constructor
  ·intro h;exact⟨a,[],l,rfl,h,rfl⟩
  ·rintro⟨a',l1,l2,h1,h2,rfl⟩
   simp only[Rd.run,aoU,aoX]at h1
   obtain⟨rfl,rfl⟩:=h1
   exact h2
 |fail=>simp[Rd.bind,Rd.run]
 |read x k ih=>
  simp only[Rd.bind,Rd.run]
  cases hx:g x with
  |none=>simp
  |some o=>
   simp only[]
   constructor
   ·intro h
    cases hk:((k o).bind f).run g with
    |none=>rw[hk]at h;cases h
    |some p=>
     obtain⟨b',l'⟩:=p
     rw[hk]at h
     simp only[aoU,aoX]at h
     obtain⟨rfl,rfl⟩:=h
     obtain⟨a,l1,l2,h1,h2,rfl⟩:=(ih o l').1 hk
     exact⟨a,x::l1,l2,by rw[h1],h2,rfl⟩
   ·rintro⟨a,l1,l2,h1,h2,rfl⟩
    cases hk:(k o).run g with
    |none=>rw[hk]at h1;cases h1
    |some p=>
     obtain⟨a',l'⟩:=p
     rw[hk]at h1
     simp only[aoU,aoX]at h1
     obtain⟨rfl,rfl⟩:=h1
     rw[(ih o (l'++l2)).2 ⟨a',l',l2,hk,h2,rfl⟩]
     rfl
theorem Rd.run_read{α:Type}{g:Nat→Option ak}{x:Nat}{k:ak→Rd α}{a:α}{l:List Nat}(h:(Rd.read x k).run g=some (a,l)):
 ∃o l',g x=some o∧(k o).run g=some (a,l')∧l=x::l':=by
 simp only[Rd.run]at h
 cases hx:g x with
 |none=>rw[hx]at h;cases h
 |some o=>
  rw[hx]at h
  simp only[]at h
  cases hk:(k o).run g with
  |none=>rw[hk]at h;cases h
  |some p=>
   obtain⟨b,l'⟩:=p
   rw[hk]at h
   simp only[aoU,aoX]at h
   obtain⟨rfl,rfl⟩:=h
   exact⟨o,l',rfl,hk,rfl⟩
theorem Rd.zy{α:Type}{g g':Nat→Option ak}:∀{r:Rd α} {a:α} {l:List Nat},r.run g=some (a,l)→(∀x∈l,g' x=g x)→r.run g'=some (a,l):=by
 intro r
 induction r with
 |done a=>intro a l h _;exact h
 |fail=>intro a l h;cases h
 |read x k ih=>
  intro a l h hl
  obtain⟨o,l',h1,h2,rfl⟩:=Rd.run_read h
  have hx:g' x=some o:=by rw[hl x (by simp),h1]
  simp only[Rd.run,hx,ih o h2 (fun y hy=>hl y (by simp[hy]))]
theorem Rd.J8{α:Type}{g:Nat→Option ak}{x:Option α}{a:α}{l:List Nat}(h:(fP x).run g=some (a,l)):x=some a:=by
 cases x with
 |none=>cases h
 |some b=>simp[fP,Rd.run]at h;rw[h.1]
theorem Rd.zz{α:Type}{g:Nat→Option ak}:∀{r:Rd α} {a:α} {l:List Nat},r.run g=some (a,l)→∀x∈l,∃o,g x=some o:=by
 intro r
 induction r with
 |done a=>intro a l h x hx;simp[Rd.run]at h;rw[h.2]at hx;cases hx
 |fail=>intro a l h;cases h
 |read x k ih=>
  intro a l h y hy
  obtain⟨o,l',h1,h2,rfl⟩:=Rd.run_read h
  rcases List.mem_cons.1 hy with rfl|hy
  ·exact⟨o,h1⟩
  ·exact ih o h2 y hy
structure bT where
 aN:Nat
 sh:Nat
 sz:Nat
 dz:Nat
abbrev Ren:=Nat→Option bT
def ag:aoP→Bool
 | .bool _| .int _ _| .float _ _| .complex _ _ _| .string _| .pointer none| .map none| .chan none| .nilFunc| .nilIface| .slice none 0 0=>true
 |_=>false
def T7:Fn→Bool
 | .func _| .method _=>true
 |_=>false
def Df(r:bT)(off cap bI:Nat):Prop:=bI=cap∨(cap≤bI∧r.sh+off+bI*r.sz≤r.dz)
inductive VR(ρ:Ren):aoP→aoP→Prop where
 |bM (v:aoP) (h:ag v=true):VR ρ v v
 |ptr (b off:Nat) (r:bT) (h:ρ b=some r):VR ρ (.pointer (some ⟨b,off,none⟩)) (.pointer (some ⟨r.aN,r.sh+off,none⟩))
 |sl (b off len cap bI:Nat) (r:bT) (h:ρ b=some r) (hc:Df r off cap bI):VR ρ (.slice (some ⟨b,off,none⟩) len cap) (.slice (some ⟨r.aN,r.sh+off,none⟩) len bI)
 |eD (a:arf) (a':Option arf):VR ρ (.slice (some a) 0 0) (.slice a' 0 0)
 |mq (b off t:Nat):VR ρ (.pointer (some ⟨b,off,some t⟩)) (.pointer (some ⟨b,off,none⟩))
 |mV (b off t len cap:Nat):VR ρ (.slice (some ⟨b,off,some t⟩) len cap) (.slice (some ⟨b,off,none⟩) len cap)
 |map (b:Nat) (r:bT) (h:ρ b=some r):VR ρ (.map (some b)) (.map (some r.aN))
 |func (fn:Fn) (f f' c c':Array aoP) (h:T7 fn=true) (h1:f.toList.length=f'.toList.length)
  (h2:∀(i:Nat) (v v':aoP),f.toList[i]?=some v→f'.toList[i]?=some v'→VR ρ v v') (h3:c.toList.length=c'.toList.length)
  (h4:∀(i:Nat) (v v':aoP),c.toList[i]?=some v→c'.toList[i]?=some v'→VR ρ v v'):VR ρ (.func fn f c) (.func fn f' c')
 |iface (t:ao1) (v v':aoP) (h:VR ρ v v'):VR ρ (.iface t v) (.iface t v')
 |agg (c c':Array aoP) (h1:c.toList.length=c'.toList.length)
  (h2:∀(i:Nat) (v v':aoP),c.toList[i]?=some v→c'.toList[i]?=some v'→VR ρ v v'):VR ρ (.agg c) (.agg c')
 |tuple (c c':Array aoP) (h1:c.toList.length=c'.toList.length)
  (h2:∀(i:Nat) (v v':aoP),c.toList[i]?=some v→c'.toList[i]?=some v'→VR ρ v v'):VR ρ (.tuple c) (.tuple c')
structure LR(ρ:Ren)(l l':List aoP):Prop where
 len:l.length=l'.length
 at_:∀(i:Nat) (v v':aoP),l[i]?=some v→l'[i]?=some v'→VR ρ v v'
def Ren.le(ρ ρ':Ren):Prop:=∀x r,ρ x=some r→ρ' x=some r
theorem Ren.le_refl(ρ:Ren):ρ.le ρ:=fun _ _ h=>h
theorem Ren.le_trans{a b c:Ren}(h:a.le b)(k:b.le c):a.le c:=fun x r e=>k x r (h x r e)
theorem VR.mono{ρ ρ':Ren}(hl:ρ.le ρ'){v v':aoP}(h:VR ρ v v'):VR ρ' v v':=by
 induction h with
 |bM v h=>exact .bM v h
 |ptr b off r h=>exact .ptr b off r (hl _ _ h)
 |sl b off len cap bI r h hc=>exact .sl b off len cap bI r (hl _ _ h) hc
 |eD a a'=>exact .eD a a'
 |mq b off t=>exact .mq b off t
 |mV b off t len cap=>exact .mV b off t len cap
 |map b r h=>exact .map b r (hl _ _ h)
 |func fn f f' c c' h h1 h2 h3 h4 Dg Dh=>exact .func fn f f' c c' h h1 Dg h3 Dh
 |iface t v v' h ih=>exact .iface t v v' ih
 |agg c c' h1 h2 ih=>exact .agg c c' h1 ih
 |tuple c c' h1 h2 ih=>exact .tuple c c' h1 ih
theorem LR.mono{ρ ρ':Ren}(hl:ρ.le ρ'){l l':List aoP}(h:LR ρ l l'):LR ρ' l l':=⟨h.len,fun i v v' h1 h2=>(h.at_ i v v' h1 h2).mono hl⟩
theorem LR.nil(ρ:Ren):LR ρ [] []:=⟨rfl,fun i v v' h=>by simp at h⟩
theorem LR.cons{ρ:Ren}{v v':aoP}{l l':List aoP}(h:VR ρ v v')(hl:LR ρ l l'):LR ρ (v::l) (v'::l'):=
 ⟨by simp[hl.len],fun i u u' h1 h2=>by
  cases i with
  |zero=>simp at h1 h2;subst h1 h2;exact h
  |succ i=>simp at h1 h2;exact hl.at_ i u u' h1 h2⟩
theorem LR.head{ρ:Ren}{v v':aoP}{l l':List aoP}(h:LR ρ (v::l) (v'::l')):VR ρ v v':=h.at_ 0 v v' rfl rfl
theorem LR.tail{ρ:Ren}{v v':aoP}{l l':List aoP}(h:LR ρ (v::l) (v'::l')):LR ρ l l':=
 ⟨by simpa using h.len,fun i u u' h1 h2=>h.at_ (i+1) u u' (by simpa using h1) (by simpa using h2)⟩
theorem LR.kx{ρ:Ren}{l:List aoP}(h:LR ρ [] l):l=[]:=by have:=h.len;cases l<;>simp_all
theorem LR.gG{ρ:Ren}{v:aoP}{l l':List aoP}(h:LR ρ (v::l) l'):∃v' r,l'=v'::r∧VR ρ v v'∧LR ρ l r:=by
 cases l' with
 |nil=>have:=h.len;simp at this
 |cons v' r=>exact⟨v',r,rfl,h.head,h.tail⟩
theorem LR.append{ρ:Ren}:∀{a a' b b':List aoP},LR ρ a a'→LR ρ b b'→LR ρ (a++b) (a'++b')
 | [],a',b,b',h,hb=>by rw[h.kx];exact hb
 |v::a,a',b,b',h,hb=>by
  obtain⟨v',r,rfl,h1,h2⟩:=h.gG
  exact LR.cons h1 (h2.append hb)
theorem LR.drop{ρ:Ren}{l l':List aoP}(h:LR ρ l l')(n:Nat):LR ρ (l.drop n) (l'.drop n):=
 ⟨by simp[h.len],fun i v v' h1 h2=>h.at_ (n+i) v v' (by simpa using h1) (by simpa using h2)⟩
theorem LR.take{ρ:Ren}{l l':List aoP}(h:LR ρ l l')(n:Nat):LR ρ (l.take n) (l'.take n):=
 ⟨by simp[h.len],fun i v v' h1 h2=>by
  rw[ap9]at h1 h2
  split at h1
  ·rename_i hi;rw[if_pos hi]at h2;exact h.at_ i v v' h1 h2
  ·cases h1⟩
theorem LR.get{ρ:Ren}{l l':List aoP}(h:LR ρ l l'){i:Nat}{v:aoP}(hv:l[i]?=some v):∃v',l'[i]?=some v'∧VR ρ v v':=by
 have hi:i<l.length:=(ao0.1 hv).1
 have fo:i<l'.length:=h.len▸hi
 exact⟨l'[i],aoV fo,h.at_ i v _ hv (aoV fo)⟩
theorem LR.map{ρ:Ren}{α:Type}(f f':α→aoP):∀(l:List α),(∀a∈l,VR ρ (f a) (f' a))→LR ρ (l.map f) (l.map f')
 | [],_=>LR.nil ρ
 |a::l,h=>LR.cons (h a (by simp)) (LR.map f f' l fun b hb=>h b (by simp[hb]))
theorem VR.xg{ρ:Ren}{c c':Array aoP}(h:LR ρ c.toList c'.toList):VR ρ (.agg c) (.agg c'):=.agg c c' h.len h.at_
theorem VR.Di{ρ:Ren}{c c':Array aoP}(h:LR ρ c.toList c'.toList):VR ρ (.tuple c) (.tuple c'):=.tuple c c' h.len h.at_
theorem VR.J9{ρ:Ren}{l l':List aoP}(h:LR ρ l l'):VR ρ (.agg l.toArray) (.agg l'.toArray):=.xg (by simpa using h)
theorem VR.zA{ρ:Ren}{l l':List aoP}(h:LR ρ l l'):VR ρ (.tuple l.toArray) (.tuple l'.toArray):=.Di (by simpa using h)
theorem VR.Dj{ρ:Ren}{c:Array aoP}{v:aoP}(h:VR ρ (.agg c) v):∃c',v=.agg c'∧LR ρ c.toList c'.toList:=by
 cases h with
 |bM _ h=>cases h
 |agg c c' h1 h2=>exact⟨c',rfl,h1,h2⟩
theorem VR.Ka{ρ:Ren}{c:Array aoP}{v:aoP}(h:VR ρ (.tuple c) v):∃c',v=.tuple c'∧LR ρ c.toList c'.toList:=by
 cases h with
 |bM _ h=>cases h
 |tuple c c' h1 h2=>exact⟨c',rfl,h1,h2⟩
theorem VR.ky{ρ:Ren}{b off:Nat}{v:aoP}(h:VR ρ (.pointer (some ⟨b,off,none⟩)) v):∃r,ρ b=some r∧v=.pointer (some ⟨r.aN,r.sh+off,none⟩):=by
 cases h with
 |bM _ h=>cases h
 |ptr _ _ r h=>exact⟨r,h,rfl⟩
theorem VR.jG{ρ:Ren}{k:IntKind}{n:Int}{v:aoP}(h:VR ρ (.int k n) v):v=.int k n:=by cases h;rfl
theorem VR.pq{ρ:Ren}{s:ByteArray}{v:aoP}(h:VR ρ (.string s) v):v=.string s:=by cases h;rfl
theorem VR.uW{ρ:Ren}{b:Bool}{v:aoP}(h:VR ρ (.bool b) v):v=.bool b:=by cases h;rfl
theorem VR.xh{ρ:Ren}{t:ao1}{u v:aoP}(h:VR ρ (.iface t u) v):∃u',v=.iface t u'∧VR ρ u u':=by
 cases h with
 |bM _ h=>cases h
 |iface _ _ u' h=>exact⟨u',rfl,h⟩
theorem VR.qh{ρ:Ren}{b:Nat}{v:aoP}(h:VR ρ (.map (some b)) v):∃r,ρ b=some r∧v=.map (some r.aN):=by
 cases h with
 |bM _ h=>cases h
 |map _ r h=>exact⟨r,h,rfl⟩
theorem VR.xj{ρ:Ren}{fn:Fn}{f c:Array aoP}{v:aoP}(h:VR ρ (.func fn f c) v):∃f' c',v=.func fn f' c'∧LR ρ f.toList f'.toList∧LR ρ c.toList c'.toList:=by
 cases h with
 |bM _ h=>cases h
 |func _ _ f' _ c' h h1 h2 h3 h4=>exact⟨f',c',rfl,⟨h1,h2⟩,⟨h3,h4⟩⟩
theorem VR.undef(ρ:Ren):VR ρ undef undef:=.tuple _ _ rfl fun i v v' h=>by simp at h
theorem VR.te{ρ:Ren}{v u:aoP}(h:ag v=true)(r:VR ρ v u):u=v:=by
 cases r<;>first|rfl|cases h
theorem VR.cells{ρ:Ren}{v v':aoP}(h:VR ρ v v'):LR ρ v.cells.toList v'.cells.toList:=by
 cases h with
 |bM _ h=>
  have:v.cells= #[v]:=by cases v<;>first|rfl|cases h
  rw[this]
  exact LR.cons (.bM v h) (LR.nil ρ)
 |agg c c' h1 h2=>exact⟨h1,h2⟩
 |ptr b off r h=>exact LR.cons (.ptr b off r h) (LR.nil ρ)
 |sl b off len cap bI r h hc=>exact LR.cons (.sl b off len cap bI r h hc) (LR.nil ρ)
 |eD a a'=>exact LR.cons (.eD a a') (LR.nil ρ)
 |mq b off t=>exact LR.cons (.mq b off t) (LR.nil ρ)
 |mV b off t len cap=>exact LR.cons (.mV b off t len cap) (LR.nil ρ)
 |map b r h=>exact LR.cons (.map b r h) (LR.nil ρ)
 |func fn f f' c c' h h1 h2 h3 h4=>exact LR.cons (.func fn f f' c c' h h1 h2 h3 h4) (LR.nil ρ)
 |iface t v v' h=>exact LR.cons (.iface t v v' h) (LR.nil ρ)
 |tuple c c' h1 h2=>exact LR.cons (.tuple c c' h1 h2) (LR.nil ρ)
theorem VR.zB{ρ:Ren}{v v':aoP}(h:VR ρ v v'):v'.oneCell'=v.oneCell':=by cases h<;>rfl
theorem rA(ρ:Ren):∀(d:Nat) (v:aoP),flat d v=true→VR ρ v v:=by
 intro d
 induction d with
 |zero=>
  intro v h
  unfold flat at h
  split at h<;>first
   |exact .bM _ rfl
   |(simp only[ao3,aqJ]at h
     exact .func _ _ _ _ _ rfl rfl (fun i a b h1=>by rw[h.1]at h1;simp at h1) rfl (fun i a b h1=>by rw[h.2]at h1;simp at h1))
   |cases h
   |omega
 |succ d ih=>
  intro v h
  unfold flat at h
  split at h<;>first
   |exact .bM _ rfl
   |(simp only[ao3,aqJ]at h
     exact .func _ _ _ _ _ rfl rfl (fun i a b h1=>by rw[h.1]at h1;simp at h1) rfl (fun i a b h1=>by rw[h.2]at h1;simp at h1))
   |cases h
   |(rename_i e;cases e;exact .iface _ _ _ (ih _ h))
   |(rename_i e;cases e;refine .agg _ _ rfl fun i a b h1 h2=>?_;rw[h1]at h2;cases h2;exact ih _ (aps.1 h _ (apy h1)))
   |(rename_i e;cases e;refine .tuple _ _ rfl fun i a b h1 h2=>?_;rw[h1]at h2;cases h2;exact ih _ (aps.1 h _ (apy h1)))
theorem zC{l l':List aoP}(hl:l.length=l'.length)(h:∀(i:Nat) (v v':aoP),l[i]?=some v→l'[i]?=some v'→v'=v):l'=l:=by
 apply arX
 intro i
 by_cases hi:i<l.length
 ·have fo:i<l'.length:=hl▸hi
  rw[aoV hi,aoV fo,h i _ _ (aoV hi) (aoV fo)]
 ·rw[ap3 (by omega),ap3 (by omega)]
theorem xk(ρ:Ren):∀(d:Nat) (v v':aoP),flat d v=true→VR ρ v v'→v'=v:=by
 intro d
 induction d with
 |zero=>
  intro v v' h hr
  cases hr with
  |bM=>rfl
  |func fn f f' c c' ho h1 h2 h3 h4=>
   cases fn with
   |func k=>
    simp only[flat,ao3,aqJ]at h
    have e1:f'=f:=by apply aqI;rw[h.1]at h1⊢;cases hf:f'.toList<;>simp_all
    have e2:c'=c:=by apply aqI;rw[h.2]at h3⊢;cases hf:c'.toList<;>simp_all
    rw[e1,e2]
   |_=>simp[flat]at h
  |_=>simp[flat]at h
 |succ d ih=>
  intro v v' h hr
  cases hr with
  |bM=>rfl
  |func fn f f' c c' ho h1 h2 h3 h4=>
   cases fn with
   |func k=>
    simp only[flat,ao3,aqJ]at h
    have e1:f'=f:=by apply aqI;rw[h.1]at h1⊢;cases hf:f'.toList<;>simp_all
    have e2:c'=c:=by apply aqI;rw[h.2]at h3⊢;cases hf:c'.toList<;>simp_all
    rw[e1,e2]
   |_=>simp[flat]at h
  |iface t v v' hv=>
   simp only[flat]at h
   rw[ih _ _ h hv]
  |agg c c' h1 h2=>
   simp only[flat]at h
   have:c'=c:=aqI (zC h1 fun i a b ha hb=>ih _ _ (aps.1 h _ (apy ha)) (h2 i a b ha hb))
   rw[this]
  |tuple c c' h1 h2=>
   simp only[flat]at h
   have:c'=c:=aqI (zC h1 fun i a b ha hb=>ih _ _ (aps.1 h _ (apy ha)) (h2 i a b ha hb))
   rw[this]
  |_=>simp[flat]at h
theorem mW{ρ:Ren}{v v':aoP}(h:fl v=true)(r:VR ρ v v'):v'=v:=xk ρ 6 v v' h r
theorem nH{ρ:Ren}{v:aoP}(h:fl v=true):VR ρ v v:=rA ρ 6 v h
theorem LR.xk{ρ:Ren}{l l':List aoP}(h:l.all fl=true)(r:LR ρ l l'):l'=l:=
 zC r.len fun i v v' h1 h2=>mW (aps.1 h _ (apy h1)) (r.at_ i v v' h1 h2)
theorem LR.rA{ρ:Ren}{l:List aoP}(h:l.all fl=true):LR ρ l l:=
 ⟨rfl,fun i v v' h1 h2=>by rw[h1]at h2;cases h2;exact nH (aps.1 h _ (apy h1))⟩
def ak.ro:ak→Bool
 | .cells _ _ r=>r
 | .rows _ _ _=>true
 |_=>false
def Live(o:ak)(r:bT):Bool:=match o with
 | .dead=>false
 | .rows _ _ _=>false
 | .abs _=>false
 | .cells c _ _=> !c.isEmpty|| !(ao6 r.dz 0)
 |_=>true
theorem oq{c:List aoP}{el:ao1}{ro:Bool}{r:bT}(h:c≠[]):Live (.cells c el ro) r=true:=by
 cases c with
 |nil=>exact absurd rfl h
 |cons v c=>rfl
theorem Dk{c:List aoP}{el:ao1}{ro:Bool}{r:bT}(h:Live (.cells c el ro) r=false):c=[]∧r.dz=0:=by
 simp only[Live,asL,Bool.not_eq_false',aqJ]at h
 exact⟨h.1,apa h.2⟩
structure gq(K:Nat→Prop)(w w':ao4):Prop where
 os:w'.os=w.os
 tape:w'.tape=w.tape
 output:w'.output=w.output
 size:w.heap.size≤w'.heap.size
 block:∀k,K k→w'.heap[k]?=w.heap[k]?
theorem gq.refl(K:Nat→Prop)(w:ao4):gq K w w:=⟨rfl,rfl,rfl,apn _,fun _ _=>rfl⟩
theorem gq.trans{K:Nat→Prop}{a b c:ao4}(h:gq K a b)(k:gq K b c):gq K a c:=
 ⟨k.os.trans h.os,k.tape.trans h.tape,k.output.trans h.output,Nat.le_trans h.size k.size,fun i hi=>(k.block i hi).trans (h.block i hi)⟩
theorem gq.alloc{K:Nat→Prop}{a w:ao4}(h:gq K a w)(hB:∀k,K k→k<w.heap.size)(o:Obj):gq K a (w.alloc o):=
 h.trans ⟨rfl,rfl,rfl,by simp,fun k hk=>ark _ _ _ (hB k hk)⟩
theorem gq.below{w₀ w:ao4}(h:gq (fun k=>k<w₀.heap.size) w₀ w):Below w₀.heap.size w₀ w:=⟨h.os,h.tape,h.output,h.size,h.block⟩
def Env(B:Nat→Prop)(w₀:ao4):Prop:=∀w,gq B w₀ w→J3 w
theorem Env.next{B B':Nat→Prop}{w₀ w:ao4}(h:Env B w₀)(hb:gq B w₀ w)(hB:∀k,B k→B' k):Env B' w:=
 fun w' h'=>h w' (hb.trans ⟨h'.os,h'.tape,h'.output,h'.size,fun k hk=>h'.block k (hB k hk)⟩)
inductive SR(P:ao7)(w₀:ao4)(B:Nat→Prop):SV→aoP→Prop where
 |val (v:aoP) (h:ag v=true):SR P w₀ B (.val v) v
 |nil (el:ao1) (a:Option arf):SR P w₀ B (.cells 0 [] el) (.slice a 0 0)
 |cells (n:Nat) (c:List aoP) (el:ao1) (b off cap:Nat) (c':Array aoP) (b8:ao1) (fr:Nat×Nat) (hB:B b) (hb:w₀.heap[b]?=some (.cells c' b8 fr))
  (hc:∀(i:Nat) (v:aoP),c[i]?=some v→ag v=true∧c'[off+i]?=some v) (hl:off+c.length≤c'.size) (hn:n≤cap) (gU:∀s,b7 P el=some s→off+cap*s≤c'.size):
  SR P w₀ B (.cells n c el) (.slice (some ⟨b,off,none⟩) n cap)
 |nI (size:Nat) (row:Nat→List SV) (a:Option arf):SR P w₀ B (.rows 0 size row) (.slice a 0 0)
 |rows (n size:Nat) (row:Nat→List SV) (b off cap:Nat) (c':Array aoP) (b8:ao1) (fr:Nat×Nat) (hB:B b) (hb:w₀.heap[b]?=some (.cells c' b8 fr)) (hl:off+n*size≤c'.size) (hn:n≤cap) (gU:off+cap*size≤c'.size)
  (hlen:∀i,i<n→(row i).length=size) (u:Nat→Nat→aoP) (hu:∀i k,i<n→k<size→c'[off+i*size+k]?=some (u i k))
  (hr:∀(i k:Nat) (sv:SV),i<n→(row i)[k]?=some sv→SR P w₀ B sv (u i k)):SR P w₀ B (.rows n size row) (.slice (some ⟨b,off,none⟩) n cap)
structure mX(P:ao7)(w₀:ao4)(B:Nat→Prop)(r:bT)(n size:Nat)(row:Nat→List SV):Prop where
 aN:B r.aN
 sz:r.sz=size
 at_:∃(c':Array aoP) (b8:ao1) (fr:Nat×Nat),w₀.heap[r.aN]?=some (.cells c' b8 fr)∧c'.size=r.dz∧r.sh+n*size≤r.dz∧
  ∀i,i<n→(row i).length=size∧∀(k:Nat) (sv:SV),(row i)[k]?=some sv→∃v',c'[r.sh+i*size+k]?=some v'∧SR P w₀ B sv v'
structure mY(ρ:Ren)(e e':apl):Prop where
 key:VR ρ e.key e'.key
 val:VR ρ e.val e'.val
 born:e.born=e'.born
inductive OR(P:ao7)(ρ:Ren)(r:bT):ak→Obj→Prop where
 |cells (c:List aoP) (el b8:ao1) (ro:Bool) (c':Array aoP) (fr:Nat×Nat) (hp:c'.size=r.dz) (hs:r.sh+c.length≤r.dz)
  (he:ro=false→b8=el) (hz:∀n,b7 P el=some n→r.sz=n) (hf:ro=false→fr.1=fr.2∨r.dz≤fr.1)
  (hc:∀(i:Nat) (v:aoP),c[i]?=some v→∃v',c'[r.sh+i]?=some v'∧VR ρ v v'):OR P ρ r (.cells c el ro) (.cells c' b8 fr)
 |map (es:List apl) (cW:Array apl) (clock:Nat) (h1:es.length=cW.toList.length)
  (h2:∀(i:Nat) (e e':apl),es[i]?=some e→cW.toList[i]?=some e'→mY ρ e e'):OR P ρ r (.map es clock) (.map cW clock)
 |kU (s:ByteArray) (pos:Nat):OR P ρ r (.kU s pos) (.stringIter s pos)
theorem OR.mono{P:ao7}{ρ ρ':Ren}(hl:ρ.le ρ'){r:bT}{o:ak}{o':Obj}(h:OR P ρ r o o'):OR P ρ' r o o':=by
 cases h with
 |cells c el b8 ro c' fr hp hs he hz hf hc=>exact .cells c el b8 ro c' fr hp hs he hz hf fun i v hv=>let⟨v',h1,h2⟩:=hc i v hv;⟨v',h1,h2.mono hl⟩
 |map es cW clock h1 h2=>exact .map es cW clock h1 fun i e e' a b=>let q:=h2 i e e' a b;⟨q.key.mono hl,q.val.mono hl,q.born⟩
 |kU s pos=>exact .kU s pos
def ot(w:ao4)(r:bT)(d:ly)(S:Nat→Prop):Prop:=∃L,CQ d r.aN r.sh r.sz r.dz L∧qe w r.aN S L
theorem ot.frame{w w':ao4}{r:bT}{d:ly}{S:Nat→Prop}(h:ot w r d S)(hs:∀k,S k→w'.heap[k]?=w.heap[k]?):ot w' r d S:=let⟨L,h1,h2⟩:=h;⟨L,h1,h2.frame hs⟩
theorem ot.row{w:ao4}{r:bT}{d:ly}{S:Nat→Prop}(h:ot w r d S):∀k,S k→∃o,w.heap[k]?=some o∧zi o=true:=let⟨L,h1,h2⟩:=h;h2.row
def uX(B:Nat→Prop)(ρ:Ren)(g:Nat→Option ak)(w:ao4):Prop:=
 ∃F:Nat→Nat→Prop,(∀x d,g x=some (.abs d)→∃r S,ρ x=some r∧ot w r d S∧∀k,S k→F x k)∧
  (∀x k,F x k→(∃d,g x=some (.abs d))∧k<w.heap.size∧¬B k∧∀y o r,g y=some o→ρ y=some r→Live o r=true→r.aN≠k)∧(∀x y k,F x k→F y k→x=y)
theorem uX.none{B:Nat→Prop}{ρ:Ren}{g:Nat→Option ak}{w:ao4}(h:∀x d,g x≠some (.abs d)):uX B ρ g w:=
 ⟨fun _ _=>False,fun x d hx=>absurd hx (h x d),fun _ _ h=>h.elim,fun _ _ _ h=>h.elim⟩
theorem uX.next{B B':Nat→Prop}{ρ ρ':Ren}{g g':Nat→Option ak}{w w':ao4}(h:uX B ρ g w)(hle:∀x d,g' x=some (.abs d)→g x=some (.abs d)∧ρ' x=ρ x)
 (hb:∀k,k<w.heap.size→¬B k→(∀y o r,g y=some o→ρ y=some r→Live o r=true→r.aN≠k)→w'.heap[k]?=w.heap[k]?∧¬B' k∧∀y o r,g' y=some o→ρ' y=some r→Live o r=true→r.aN≠k)
 (cd:w.heap.size≤w'.heap.size):uX B' ρ' g' w':=by
 obtain⟨F,h1,h2,h3⟩:=h
 refine⟨fun x k=>F x k∧∃d,g' x=some (.abs d),fun x d hx=>?_,fun x k hk=>?_,fun x y k a b=>h3 x y k a.1 b.1⟩
 ·obtain⟨a,b⟩:=hle x d hx
  obtain⟨r,S,c,e,f⟩:=h1 x d a
  exact⟨r,S,by rw[b,c],e.frame fun k hk=>(by obtain⟨_,q2,q3,q4⟩:=h2 x k (f k hk);exact(hb k q2 q3 q4).1),fun k hk=>⟨f k hk,d,hx⟩⟩
 ·obtain⟨_,q2,q3,q4⟩:=h2 x k hk.1
  obtain⟨_,c,e⟩:=hb k q2 q3 q4
  exact⟨hk.2,ard q2 cd,c,e⟩
structure WR(P:ao7)(B:Nat→Prop)(w₀:ao4)(ρ:Ren)(g:Nat→Option ak)(w:ao4):Prop where
 below:gq B w₀ w
 env:Env B w₀
 size:∀k,B k→k<w.heap.size
 live:∀x o r,g x=some o→ρ x=some r→Live o r=true→∃o',w.heap[r.aN]?=some o'∧OR P ρ r o o'∧(o.ro=false→¬B r.aN)
 inj:∀x y ox oy rx ry,g x=some ox→g y=some oy→ρ x=some rx→ρ y=some ry→Live ox rx=true→Live oy ry=true→(ox.ro=false∨oy.ro=false)→rx.aN=ry.aN→x=y
 fresh:∀x,g x=none→ρ x=none
 rows:∀x n size row,g x=some (.rows n size row)→∃r,ρ x=some r∧(0<n→mX P w₀ B r n size row)
 nil:∀x el ro r,g x=some (.cells [] el ro)→ρ x=some r→∀n,b7 P el=some n→r.sz=n
 named:∀x o,g x=some o→o≠ .dead→∃r,ρ x=some r
 abs:uX B ρ g w
theorem OR.rows{P:ao7}{ρ:Ren}{r:bT}{n size:Nat}{row:Nat→List SV}{o':Obj}(h:OR P ρ r (.rows n size row) o'):False:=by cases h
theorem OR.xl{P:ao7}{ρ:Ren}{r:bT}{c:List aoP}{el:ao1}{ro:Bool}{o':Obj}(h:OR P ρ r (.cells c el ro) o'):∀n,b7 P el=some n→r.sz=n:=by
 cases h with
 |cells _ _ _ _ _ _ _ _ _ hz _ _=>exact hz
section
variable {P:ao7} {B:Nat→Prop} {w₀:ao4} {ρ:Ren} {g:Nat→Option ak} {w:ao4}
theorem WR.mem(h:WR P B w₀ ρ g w){x:Nat}{o:ak}(hx:g x=some o){r:bT}(hl:Live o r=true)(hr:ρ x=some r):
 ∃o',w.heap[r.aN]?=some o'∧OR P ρ r o o'∧(o.ro=false→¬B r.aN):=h.live x o r hx hr hl
theorem WR.same(h:WR P B w₀ ρ g w){w':ao4}(hh:w'.heap=w.heap)(ho:w'.os=w.os)(ht:w'.tape=w.tape)(hu:w'.output=w.output):WR P B w₀ ρ g w' where
 env:=h.env
 below:=⟨ho.trans h.below.os,ht.trans h.below.tape,hu.trans h.below.output,by rw[hh];exact h.below.size,fun k hk=>by rw[hh];exact h.below.block k hk⟩
 size:=by rw[hh];exact h.size
 live:=by rw[hh];exact h.live
 inj:=h.inj
 fresh:=h.fresh
 rows:=h.rows
 nil:=h.nil
 named:=h.named
 abs:=h.abs.next (fun x d hx=>⟨hx,rfl⟩) (fun k _ a b=>⟨by rw[hh],a,b⟩) (by rw[hh];exact apn _)
theorem WR.drew(h:WR P B w₀ ρ g w):WR P B w₀ ρ g w.drew:=h.same rfl rfl rfl rfl
structure ow(w w':ao4)(b:Nat)(o:Obj):Prop where
 os:w'.os=w.os
 tape:w'.tape=w.tape
 output:w'.output=w.output
 size:w'.heap.size=w.heap.size
 now:w'.heap[b]?=some o
 rest:∀k,k≠b→w'.heap[k]?=w.heap[k]?
theorem WR.change(h:WR P B w₀ ρ g w){x:Nat}{o o2:ak}(hx:g x=some o){r:bT}(hl:Live o r=true)(hr:ρ x=some r)(hB:¬B r.aN)
 {w':ao4}{o':Obj}(hc:ow w w' r.aN o')(ho:OR P ρ r o2 o')(dw:o.ro=false:=by rfl):WR P B w₀ ρ (cT g x o2) w' where
 env:=h.env
 below:=h.below.trans ⟨hc.os,hc.tape,hc.output,aq7 hc.size.symm,fun k hk=>hc.rest k (fun e=>hB (e▸hk))⟩
 size:=by rw[hc.size];exact h.size
 live:=by
  intro y oy ry hy cA dj
  by_cases e:y=x
  ·subst e
   rw[fh]at hy
   cases hy
   rw[hr]at cA
   cases cA
   exact⟨o',hc.now,ho,fun _=>hB⟩
  ·rw[ec _ e]at hy
   obtain⟨Dl,h2,h3,h4⟩:=h.live y oy ry hy cA dj
   refine⟨Dl,?_,h3,h4⟩
   rw[hc.rest]
   ·exact h2
   ·intro e'
    exact e (h.inj y x oy o ry r hy hx cA hr dj hl (.inr dw) e')
 inj:=by
  intro y z oy oz ry rz hy hz cA iu dj j5 hd e
  have live:∀u ou ru,cT g x o2 u=some ou→ρ u=some ru→Live ou ru=true→∃Dm,g u=some Dm∧Live Dm ru=true∧(ou.ro=false→Dm.ro=false):=by
   intro u ou ru hu xm xn
   by_cases eu:u=x
   ·subst eu;rw[hr]at xm;cases xm;exact⟨o,hx,hl,fun _=>dw⟩
   ·rw[ec _ eu]at hu;exact⟨ou,hu,xn,fun h=>h⟩
  obtain⟨Dl,kA,T8,T9⟩:=live y oy ry hy cA dj
  obtain⟨Ua,qi,Ub,Uc⟩:=live z oz rz hz iu j5
  exact h.inj y z Dl Ua ry rz kA qi cA iu T8 Ub (hd.imp T9 Uc) e
 fresh:=by
  intro y hy
  by_cases e:y=x
  ·subst e;rw[fh]at hy;cases hy
  ·rw[ec _ e]at hy;exact h.fresh y hy
 rows:=by
  intro y n size row hy
  by_cases e:y=x
  ·subst e;rw[fh]at hy;cases hy;exact ho.rows.elim
  ·rw[ec _ e]at hy;exact h.rows y n size row hy
 nil:=by
  intro y el tf ry hy cA
  by_cases e:y=x
  ·subst e;rw[fh]at hy;cases hy;rw[hr]at cA;cases cA;exact ho.xl
  ·rw[ec _ e]at hy;exact h.nil y el tf ry hy cA
 named:=by
  intro y oy hy bu
  by_cases e:y=x
  ·subst e;exact⟨r,hr⟩
  ·rw[ec _ e]at hy;exact h.named y oy hy bu
 abs:=by
  refine h.abs.next (fun y d hy=>?_) (fun k k1 k2 k3=>⟨hc.rest k (fun e=>k3 x o r hx hr hl e.symm),k2,fun y oy ry hy cA dj=>?_⟩) (aq7 hc.size.symm)
  ·by_cases e:y=x
   ·subst e;rw[fh]at hy;cases hy;cases ho
   ·rw[ec _ e]at hy;exact⟨hy,rfl⟩
  ·by_cases e:y=x
   ·subst e;rw[hr]at cA;cases cA;exact k3 _ o _ hx hr hl
   ·rw[ec _ e]at hy;exact k3 y oy ry hy cA dj
theorem WR.kill(h:WR P B w₀ ρ g w)(x:Nat){o:ak}(hx:g x=some o):WR P B w₀ ρ (cT g x .dead) w where
 env:=h.env
 below:=h.below
 size:=h.size
 live:=by
  intro y oy ry hy cA dj
  by_cases e:y=x
  ·subst e;rw[fh]at hy;cases hy;cases dj
  ·rw[ec _ e]at hy;exact h.live y oy ry hy cA dj
 inj:=by
  intro y z oy oz ry rz hy hz cA iu dj j5
  have key:∀u ou ru,cT g x .dead u=some ou→Live ou ru=true→g u=some ou:=by
   intro u ou ru hu xn
   by_cases eu:u=x
   ·subst eu;rw[fh]at hu;cases hu;cases xn
   ·rw[ec _ eu]at hu;exact hu
  exact h.inj y z oy oz ry rz (key y oy ry hy dj) (key z oz rz hz j5) cA iu dj j5
 fresh:=by
  intro y hy
  by_cases e:y=x
  ·subst e;rw[fh]at hy;cases hy
  ·rw[ec _ e]at hy;exact h.fresh y hy
 rows:=by
  intro y n size row hy
  by_cases e:y=x
  ·subst e;rw[fh]at hy;cases hy
  ·rw[ec _ e]at hy;exact h.rows y n size row hy
 nil:=by
  intro y el tf ry hy cA
  by_cases e:y=x
  ·subst e;rw[fh]at hy;cases hy
  ·rw[ec _ e]at hy;exact h.nil y el tf ry hy cA
 named:=by
  intro y oy hy bu
  by_cases e:y=x
  ·subst e;rw[fh]at hy;cases hy;exact absurd rfl bu
  ·rw[ec _ e]at hy;exact h.named y oy hy bu
 abs:=by
  refine h.abs.next (fun y d hy=>?_) (fun k k1 k2 k3=>⟨rfl,k2,fun y oy ry hy cA dj=>?_⟩) (apn _)
  ·by_cases e:y=x
   ·subst e;rw[fh]at hy;cases hy
   ·rw[ec _ e]at hy;exact⟨hy,rfl⟩
  ·by_cases e:y=x
   ·subst e;rw[fh]at hy;cases hy;cases dj
   ·rw[ec _ e]at hy;exact k3 y oy ry hy cA dj
def Ren.put(ρ:Ren)(x:Nat)(r:bT):Ren:=fun y=>if y=x then some r else ρ y
theorem Ren.kC(ρ:Ren)(x:Nat)(r:bT):ρ.put x r x=some r:=by simp[Ren.put]
theorem Ren.qj(ρ:Ren){x y:Nat}(r:bT)(h:y≠x):ρ.put x r y=ρ y:=by simp[Ren.put,h]
theorem Ren.j6{ρ:Ren}{x:Nat}(h:ρ x=none)(r:bT):ρ.le (ρ.put x r):=fun y s e=>by
 unfold Ren.put
 by_cases hy:y=x
 ·subst hy;rw[h]at e;cases e
 ·rw[if_neg hy,e]
theorem WR.put(h:WR P B w₀ ρ g w){n:Nat}(hn:g n=none){g':Nat→Option ak}(hg:∀y,y≠n→g' y=g y∨g' y=some .dead){o:ak}(iv:g' n=some o){r:bT}{w':ao4}
 (hb:gq B w w')(cd:w.heap.size≤w'.heap.size)
 (hold:∀y oy ry,y≠n→g' y=some oy→g y=some oy→ρ y=some ry→Live oy ry=true→w'.heap[ry.aN]?=w.heap[ry.aN]?)
 (uY:Live o r=true→∃o',w'.heap[r.aN]?=some o'∧OR P (ρ.put n r) r o o'∧(o.ro=false→¬B r.aN))
 (xo:Live o r=true→∀y oy ry,y≠n→g' y=some oy→g y=some oy→ρ y=some ry→Live oy ry=true→(oy.ro=false∨o.ro=false)→ry.aN≠r.aN)
 (zD:∀k,k<w.heap.size→¬B k→(∀y oy ry,g y=some oy→ρ y=some ry→Live oy ry=true→ry.aN≠k)→w'.heap[k]?=w.heap[k]?∧(Live o r=true→r.aN≠k))(Dn:∀d,o≠ .abs d)
 (Dp:∀m size row,o=.rows m size row→0<m→mX P w₀ B r m size row)(qk:∀el ro,o=.cells [] el ro→∀k,b7 P el=some k→r.sz=k):WR P B w₀ (ρ.put n r) g' w':=by
 have own:∀u ou ru,u≠n→g' u=some ou→Live ou ru=true→(ρ.put n r) u=some ru→g u=some ou∧ρ u=some ru:=by
  intro u ou ru hu h1 h2 h3
  rw[Ren.qj _ _ hu]at h3
  rcases hg u hu with h4|h4
  ·rw[h4]at h1;exact⟨h1,h3⟩
  ·rw[h4]at h1;cases h1;cases h2
 exact
 {env:=h.env
  below:=h.below.trans hb
  size:=fun k hk=>ard (h.size k hk) cd
  live:=by
   intro y oy ry hy cA dj
   by_cases e:y=n
   ·subst e
    rw[iv]at hy
    cases hy
    rw[Ren.kC]at cA
    cases cA
    exact uY dj
   ·obtain⟨h1,h2⟩:=own y oy ry e hy dj cA
    obtain⟨o',h3,h4,h5⟩:=h.live y oy ry h1 h2 dj
    exact⟨o',by rw[hold y oy ry e hy h1 h2 dj,h3],h4.mono (Ren.j6 (h.fresh n hn) r),h5⟩
  inj:=by
   intro y z oy oz ry rz hy hz cA iu dj j5 hd e
   by_cases ey:y=n
   ·by_cases ez:z=n
    ·rw[ey,ez]
    ·obtain⟨h1,h2⟩:=own z oz rz ez hz j5 iu
     subst ey
     rw[iv]at hy
     cases hy
     rw[Ren.kC]at cA
     cases cA
     exact absurd e.symm (xo dj z oz rz ez hz h1 h2 j5 hd.symm)
   ·obtain⟨h1,h2⟩:=own y oy ry ey hy dj cA
    by_cases ez:z=n
    ·subst ez
     rw[iv]at hz
     cases hz
     rw[Ren.kC]at iu
     cases iu
     exact absurd e (xo j5 y oy ry ey hy h1 h2 dj hd)
    ·obtain⟨h3,h4⟩:=own z oz rz ez hz j5 iu
     exact h.inj y z oy oz ry rz h1 h3 h2 h4 dj j5 hd e
  fresh:=by
   intro y hy
   by_cases e:y=n
   ·subst e;rw[iv]at hy;cases hy
   ·rw[Ren.qj _ _ e]
    rcases hg y e with h4|h4
    ·rw[h4]at hy;exact h.fresh y hy
    ·rw[h4]at hy;cases hy
  rows:=by
   intro y m size row hy
   by_cases e:y=n
   ·subst e;rw[iv]at hy;cases hy;exact⟨r,Ren.kC _ _ _,Dp m size row rfl⟩
   ·rw[Ren.qj _ _ e]
    rcases hg y e with h4|h4
    ·rw[h4]at hy;exact h.rows y m size row hy
    ·rw[h4]at hy;cases hy
  nil:=by
   intro y el tf ry hy cA
   by_cases e:y=n
   ·subst e;rw[iv]at hy;cases hy;rw[Ren.kC]at cA;cases cA;exact qk el tf rfl
   ·rw[Ren.qj _ _ e]at cA
    rcases hg y e with h4|h4
    ·rw[h4]at hy;exact h.nil y el tf ry hy cA
    ·rw[h4]at hy;cases hy
  named:=by
   intro y oy hy bu
   by_cases e:y=n
   ·subst e;exact⟨r,Ren.kC _ _ _⟩
   ·rw[Ren.qj _ _ e]
    rcases hg y e with h4|h4
    ·rw[h4]at hy;exact h.named y oy hy bu
    ·rw[h4]at hy;cases hy;exact absurd rfl bu
  abs:=by
   refine h.abs.next (fun y d hy=>?_) (fun k k1 k2 k3=>⟨(zD k k1 k2 k3).1,k2,fun y oy ry hy cA dj=>?_⟩) cd
   ·by_cases e:y=n
    ·subst e;rw[iv]at hy;cases hy;exact absurd rfl (Dn d)
    ·rcases hg y e with h4|h4
     ·rw[h4]at hy;exact⟨hy,Ren.qj _ _ e⟩
     ·rw[h4]at hy;cases hy
   ·by_cases e:y=n
    ·subst e;rw[iv]at hy;cases hy;rw[Ren.kC]at cA;cases cA;exact(zD k k1 k2 k3).2 dj
    ·obtain⟨h1,h2⟩:=own y oy ry e hy dj cA
     exact k3 y oy ry h1 h2 dj}
theorem WR.alloc(h:WR P B w₀ ρ g w){n:Nat}(hn:g n=none){o:ak}{o':Obj}{r:bT}(hb:r.aN=w.heap.size)(ho:OR P (ρ.put n r) r o o'):
 WR P B w₀ (ρ.put n r) (cT g n o) (w.alloc o'):=by
 have hlt:∀y oy ry,g y=some oy→ρ y=some ry→Live oy ry=true→ry.aN<w.heap.size:=fun y oy ry h1 h2 h3=>by
  obtain⟨o2,h5,_⟩:=h.live y oy ry h1 h2 h3
  exact(Array.getElem?_eq_some_iff.1 h5).1
 refine h.put hn (fun y hy=>.inl (ec _ hy)) (fh _ _ _) ((gq.refl B w).alloc h.size o') (by simp) (fun y oy ry _ _ h1 h2 h3=>ark _ _ _ (hlt y oy ry h1 h2 h3))
  (fun _=>⟨o',by rw[hb];show(w.heap.push o')[w.heap.size]?=some o';simp,ho,fun _ hk=>by have:=h.size _ hk;omega⟩)
  (fun _ y oy ry _ _ h1 h2 h3 _ e=>by have:=hlt y oy ry h1 h2 h3;omega) (fun k k1 _ _=>⟨ark _ _ _ k1,fun _ e=>by omega⟩) (fun d e=>by subst e;cases ho) (fun m s q e=>by subst e;exact ho.rows.elim) (fun el ro e=>by subst e;exact ho.xl)
theorem WR.rename(h:WR P B w₀ ρ g w){n b:Nat}(hn:g n=none){ob:ak}(hb:g b=some ob){rb:bT}(tg:Live ob rb=true)(Dq:ρ b=some rb)(hB:¬B rb.aN)
 {w':ao4}{o':Obj}(hc:ow w w' rb.aN o'){o:ak}{r:bT}(hr:r.aN=rb.aN)(ho:OR P (ρ.put n r) r o o')(dw:ob.ro=false:=by rfl):
 WR P B w₀ (ρ.put n r) (cT (cT g b .dead) n o) w':=by
 have bu:∀y oy ry,y≠n→cT (cT g b .dead) n o y=some oy→Live oy ry=true→y≠b:=fun y oy ry e h1 h2 eb=>by
  subst eb
  rw[ec _ e,fh]at h1
  cases h1
  cases h2
 have Kb:∀y oy ry,y≠n→cT (cT g b .dead) n o y=some oy→g y=some oy→ρ y=some ry→Live oy ry=true→ry.aN≠rb.aN:=fun y oy ry e h0 h1 h2 h3 e'=>
  bu y oy ry e h0 h3 (h.inj y b oy ob ry rb h1 hb h2 Dq h3 tg (.inr dw) e')
 refine h.put hn (fun y hy=>?_) (fh _ _ _) ⟨hc.os,hc.tape,hc.output,aq7 hc.size.symm,fun k hk=>hc.rest k (fun e=>hB (e▸hk))⟩ (aq7 hc.size.symm)
  (fun y oy ry e h0 h1 h2 h3=>hc.rest _ (Kb y oy ry e h0 h1 h2 h3)) (fun _=>⟨o',by rw[hr];exact hc.now,ho,fun _=>by rw[hr];exact hB⟩)
  (fun _ y oy ry e h0 h1 h2 h3 _=>by rw[hr];exact Kb y oy ry e h0 h1 h2 h3) (fun k k1 _ k3=>⟨hc.rest k fun e=>k3 b ob rb hb Dq tg e.symm,fun _=>by rw[hr];exact k3 b ob rb hb Dq tg⟩) (fun d e=>by subst e;cases ho) (fun m s q e=>by subst e;exact ho.rows.elim) (fun el ro e=>by subst e;exact ho.xl)
 rw[ec _ hy]
 by_cases e:y=b
 ·right;rw[e,fh]
 ·left;rw[ec _ e]
end
theorem pr(b off j:Nat):(⟨b,off,none⟩:arf).add j=⟨b,off+j,none⟩:=by
 unfold Addr.add
 by_cases h:j=0
 ·rw[if_pos h,h];rfl
 ·rw[if_neg h]
theorem Dr{w:ao4}{b:Nat}{c:Array aoP}{el:ao1}{fr:Nat×Nat}(h:w.heap[b]?=some (.cells c el fr))(i:Nat):w.cell? ⟨b,i,none⟩=c[i]? :=by
 simp[World.cell?,h]
def ql(c:Array aoP)(off:Nat):List aoP→Array aoP
 | []=>c
 |v::l=>ql (c.setIfInBounds off v) (off+1) l
theorem Ds(c:Array aoP):∀(l:List aoP) (off:Nat),(ql c off l).size=c.size:=by
 intro l
 induction l generalizing c with
 |nil=>intro off;rfl
 |cons v l ih=>intro off;simp[ql,ih]
theorem zE:∀(l:List aoP) (c:Array aoP) (off i:Nat),off+l.length≤c.size→
 (ql c off l)[i]?=if off≤i∧i<off+l.length then l[i-off]?else c[i]?
 | [],c,off,i,h=>by
  have:¬(off≤i∧i<off+([]:List aoP).length):=fun hh=>by simp at hh;omega
  rw[if_neg this];rfl
 |v::l,c,off,i,h=>by
  simp only[apC]at h
  rw[ql,zE l _ (off+1) i (by simp;omega)]
  by_cases h1:off+1≤i∧i<off+1+l.length
  ·rw[if_pos h1,if_pos (by simp;omega)]
   rw[show i-off=(i-(off+1))+1 by omega]
   rfl
  ·rw[if_neg h1]
   by_cases h2:i=off
   ·subst h2
    rw[if_pos (by simp),Array.getElem?_setIfInBounds_self,if_pos (by omega)]
    simp
   ·rw[if_neg (by simp;omega)]
    simp[Array.getElem?_setIfInBounds_ne (Ne.symm h2)]
theorem Dt{P:ao7}{w:ao4}{b:Nat}{el:ao1}{fr:Nat×Nat}:∀(vs:List aoP) (w':ao4) (c:Array aoP) (off i:Nat),
 ow w w' b (.cells c el fr)→off+i+vs.length≤c.size→(fr.1=fr.2∨c.size≤fr.1)→(vs.all apR)=true→
 ∃w2,(storeCells ⟨b,off,none⟩ vs i).run P w'=.ok () w2∧ow w w2 b (.cells (ql c (off+i) vs) el fr)
 | [],w',c,off,i,hc,_,_,_=>⟨w',rfl,hc⟩
 |v::vs,w',c,off,i,hc,hl,hf,ho=>by
  simp only[apC]at hl
  simp only[List.all_cons,ao3]at ho
  have pt:w'.cell? ⟨b,off+i,none⟩=some (c[off+i]'(by omega)):=by
   rw[Dr hc.now,Array.getElem?_eq_getElem]
  have oA:w'.frozen? ⟨b,off+i,none⟩=false:=by
   simp only[World.frozen?,hc.now]
   rcases hf with hf|hf
   ·obtain⟨lo,hi⟩:=fr
    simp only at hf
    subst hf
    simp only[Bool.and_eq_false_iff,decide_eq_false_iff_not]
    omega
   ·have:¬fr.1≤off+i:=by omega
    simp[this]
  have gM:ow w (w'.setCell ⟨b,off+i,none⟩ v) b (.cells (c.setIfInBounds (off+i) v) el fr):=
   ⟨hc.os,hc.tape,hc.output,by rw[World.size_setCell,hc.size],by simp[World.setCell,art,hc.now],fun k hk=>by
    rw[Below.heap_setCell _ _ _ _ hk];exact hc.rest k hk⟩
  obtain⟨w2,hr,hw⟩:=Dt vs _ (c.setIfInBounds (off+i) v) off (i+1) gM (by simp;omega) (by simpa using hf) ho.2
  refine⟨w2,?_,hw⟩
  show(arl P (store ((⟨b,off,none⟩:arf).add i) v>>=fun _=>storeCells ⟨b,off,none⟩ vs (i+1)) w')=_
  rw[aoR,pr,run_store _ _ _ _ _ ho.1,pt]
  simp only[oA,apT,if_false,aoQ]
  exact hr
theorem ow.refl{w:ao4}{b:Nat}{o:Obj}(h:w.heap[b]?=some o):ow w w b o:=⟨rfl,rfl,rfl,rfl,h,fun _ _=>rfl⟩
theorem zG{P:ao7}{w:ao4}{b:Nat}{c:Array aoP}{el:ao1}{fr:Nat×Nat}(hb:w.heap[b]?=some (.cells c el fr))(off n:Nat)(h:off+n≤c.size):
 (loadCells ⟨b,off,none⟩ n).run P w=.ok ((c.toList.drop off).take n).toArray w:=by
 have hlen:((c.toList.drop off).take n).length=n:=by simp;omega
 have:=run_loadCells_list (P:=P) w ⟨b,off,none⟩ ((c.toList.drop off).take n) (fun j v hj=>by
  rw[pr,Dr hb]
  rw[ap9]at hj
  split at hj
  ·simpa using hj
  ·cases hj)
 rwa[hlen]at this
end Go.Proofs.YtnlkkgpcikkpoaaGreat.Vm
namespace Go.Proofs.YtnlkkgpcikkpoaaGreat.Vm
open Go.RowKit
theorem Ud{α:Type}{P:ao7}:∀{s:Sem α} {a:α},gE P s=some (.ok a)→∀w:ao4,s.run P w=.ok a w:=by
 intro s
 induction s with
 |pure b=>intro a h w;simp[gE]at h;subst h;rfl
 |program k ih=>intro a h w;simp only[gE]at h;simp only[arl];exact ih P h w
 |mark m k ih=>intro a h w;simp only[gE]at h;simp only[arl];exact ih h w
 |halt x=>intro a h w;cases x<;>simp[gE]at h
 |_=>intro a h;simp[gE]at h
theorem Ue{α:Type}{P:ao7}:∀{s:Sem α} {v:aoP},gE P s=some (.error v)→∀w:ao4,s.run P w=.halt (.panic v) w:=by
 intro s
 induction s with
 |pure b=>intro a h;simp[gE]at h
 |program k ih=>intro a h w;simp only[gE]at h;simp only[arl];exact ih P h w
 |mark m k ih=>intro a h w;simp only[gE]at h;simp only[arl];exact ih h w
 |halt x=>intro a h w;cases x<;>simp[gE]at h;subst h;rfl
 |_=>intro a h;simp[gE]at h
section
variable {P:ao7}
theorem run_underlying{t:ao1}{d:asy}(h:P.underlying t=some d)(w:ao4):(underlying t).run P w=.ok d w:=by
 simp only[underlying,aoR,aqW,aoQ,h];rfl
theorem run_sizeOf{t:ao1}{n:Nat}(h:b7 P t=some n)(w:ao4):(sizeOf t).run P w=.ok n w:=by
 unfold b7 at h
 cases hi:P.info? t with
 |none=>rw[hi]at h;cases h
 |some i=>
  rw[hi]at h
  cases h
  simp only[sizeOf,typeInfo,aoR,aqW,aoQ,hi];rfl
theorem zH{t:ao1}{b:Bool}(h:og P t=some b)(w:ao4):(isAgg t).run P w=.ok b w:=by
 unfold og at h
 unfold isAgg
 cases hu:P.underlying t with
 |none=>rw[hu]at h;cases h
 |some d=>
  rw[hu]at h
  rw[aoR,run_underlying hu,aoQ]
  cases d<;>simp at h<;>subst h<;>rfl
theorem mZ{t:ao1}{z:aoP}(h:zeroOf P t=some z)(w:ao4):(zeroValue t).run P w=.ok z w:=by
 unfold zeroOf at h
 cases hi:P.info? t with
 |none=>rw[hi]at h;cases h
 |some i=>
  rw[hi]at h
  simp only[zeroValue,typeInfo,aoR,aqW,aoQ,hi,apA]
  have:i.zero=some z:=h
  rw[this];rfl
end
inductive RR(ρ:Ren):j3→Result aqV→ao4→Prop where
 |val (v v':aoP) (w:ao4) (h:VR ρ v v'):RR ρ (.val v) (.ok (.value v') w) w
 |skip (w:ao4):RR ρ .skip (.ok .skip w) w
 |panic (v v':aoP) (w:ao4) (h:VR ρ v v'):RR ρ (.panic v) (.halt (.panic v') w) w
 |enter (f:apr) (l:List aoP) (a:Array aoP) (w:ao4) (h:LR ρ l a.toList):RR ρ (.enter f l) (.ok (.enter f a) w) w
def uZ(g:Nat→Option ak)(n:Nat)(out:bq):Nat→Option ak:=
 let g1:=out.ws.foldl (fun g (x,o)=>cT g x o) g
 match out.nw with
 |none=>g1
 |some o=>cT g1 n o
structure Fits(P:ao7)(B:Nat→Prop)(w₀:ao4)(ρ:Ren)(g:Nat→Option ak)(n:Nat)(out:bq)(oB:Result aqV):Prop where
 ex:∃ρ' w',ρ.le ρ'∧RR ρ' out.r oB w'∧WR P B w₀ ρ' (uZ g n out) w'
section
variable {P:ao7} {B:Nat→Prop} {w₀:ao4} {ρ:Ren} {g:Nat→Option ak} {n:Nat} {w:ao4}
theorem Fits.val(hw:WR P B w₀ ρ g w){v v':aoP}(h:VR ρ v v'):Fits P B w₀ ρ g n ⟨.val v,[],none⟩ (.ok (.value v') w):=
 ⟨ρ,w,Ren.le_refl ρ,.val v v' w h,hw⟩
theorem Fits.dG(hw:WR P B w₀ ρ g w){v v':aoP}{out:bq}{l:List Nat}(ho:(Vm.val v).run g=some (out,l))(h:VR ρ v v'):
 Fits P B w₀ ρ g n out (.ok (.value v') w):=by
 simp only[Vm.val,Rd.run,aoU,aoX]at ho
 obtain⟨rfl,rfl⟩:=ho
 exact Fits.val hw h
theorem oC(hw:WR P B w₀ ρ g w){s:Sem aqV}{out:bq}{l:List Nat}(ho:(kr P s).run g=some (out,l)):
 Fits P B w₀ ρ g n out (s.run P w):=by
 unfold kr at ho
 split at ho
 ·rename_i v hp
  split at ho
  ·rename_i hf
   rw[Ud hp]
   exact Fits.dG hw ho (nH hf)
  ·cases ho
 ·rename_i v hp
  split at ho
  ·rename_i hf
   rw[Ue hp]
   simp only[Rd.run,aoU,aoX]at ho
   obtain⟨rfl,rfl⟩:=ho
   exact⟨ρ,w,Ren.le_refl ρ,.panic v v w (nH hf),hw⟩
  ·cases ho
 ·cases ho
theorem rB(hw:WR P B w₀ ρ g w){b:Nat}{c:List aoP}{el:ao1}{ro:Bool}(hb:g b=some (.cells c el ro)){r:bT}(hr:ρ b=some r)(lC:Live (.cells c el ro) r=true):
 ∃c' fr,(∃b8,w.heap[r.aN]?=some (.cells c' b8 fr)∧(ro=false→b8=el))∧c'.size=r.dz∧r.sh+c.length≤r.dz∧(∀n,b7 P el=some n→r.sz=n)∧
  (ro=false→fr.1=fr.2∨r.dz≤fr.1)∧LR ρ c ((c'.toList.drop r.sh).take c.length)∧(ro=false→¬B r.aN):=by
 obtain⟨o',h1,h2,h3⟩:=hw.mem hb lC hr
 cases h2 with
 |cells _ _ b8 _ c' fr hp hs he hz hf hc=>
  refine⟨c',fr,⟨b8,h1,he⟩,hp,hs,hz,hf,⟨by simp;omega,fun i v v' hv fV=>?_⟩,h3⟩
  obtain⟨u,hu,hr⟩:=hc i v hv
  rw[ap9]at fV
  split at fV
  ·rw[aqb]at fV
   have:c'.toList[r.sh+i]?=some u:=by simpa using hu
   rw[this]at fV
   cases fV
   exact hr
  ·cases fV
theorem Kc(hw:WR P B w₀ ρ g w){b:Nat}{c:List aoP}{el:ao1}{ro:Bool}(hb:g b=some (.cells c el ro)){r:bT}(hr:ρ b=some r):∀n,b7 P el=some n→r.sz=n:=by
 cases lC:Live (.cells c el ro) r with
 |true=>
  obtain⟨_,_,_,_,_,h,_⟩:=rB hw hb hr lC
  exact h
 |false=>
  obtain⟨rfl,_⟩:=Dk lC
  exact hw.nil b el ro r hb hr
theorem u0{c:List aoP}{off n:Nat}{l:List aoP}(h:cut c off n=some l):off+n≤c.length∧l=(c.drop off).take n:=by
 unfold cut at h
 split at h
 ·rename_i hb;cases h;exact⟨apk hb,rfl⟩
 ·cases h
theorem zI{c:List aoP}{d:List aoP}{sh off n:Nat}(hl:LR ρ c ((d.drop sh).take c.length))(h:off+n≤c.length):
 LR ρ ((c.drop off).take n) ((d.drop (sh+off)).take n):=by
 have h1:=(hl.drop off).take n
 rwa[List.drop_take,List.take_take,List.drop_drop,Nat.min_eq_left (by omega)]at h1
theorem u5(hw:WR P B w₀ ρ g w){t:ao1}{b off:Nat}{v:aoP}{l:List Nat}(h:(qf P t b off).run g=some (v,l)){r:bT}(hr:ρ b=some r):
 ∃v',(loadVar t ⟨r.aN,r.sh+off,none⟩).run P w=.ok v' w∧VR ρ v v':=by
 obtain⟨o,l',hb,hk,rfl⟩:=Rd.run_read h
 split at hk
 ·rename_i c el ro
  split at hk
  ·rename_i th
   split at hk
   ·rename_i m hm
    split at hk
    ·rename_i cs qn
     obtain⟨hle,rfl⟩:=u0 qn
     obtain⟨c',fr,⟨b8,h1,_⟩,hp,hs,hz,hf,hl,_⟩:=rB hw hb hr (oq (by intro e;rw[e]at hle;simp at hle))
     simp only[Rd.run,aoU,aoX]at hk
     obtain⟨rfl,rfl⟩:=hk
     refine⟨_,?_,VR.J9 (zI hl hle)⟩
     unfold loadVar
     rw[aoR,zH th,aoQ]
     simp only[if_true,aoR,run_sizeOf hm,aoQ,zG h1 (r.sh+off) (m+1) (by omega),apA]
    ·cases hk
   ·cases hk
  ·rename_i th
   split at hk
   ·rename_i u hu
    simp only[Rd.run,aoU,aoX]at hk
    obtain⟨rfl,rfl⟩:=hk
    obtain⟨c',fr,⟨b8,h1,_⟩,hp,hs,hz,hf,hl,_⟩:=rB hw hb hr (oq (by intro e;rw[e]at hu;cases hu))
    obtain⟨u',h2,h3⟩:=hl.get hu
    rw[ap9]at h2
    split at h2
    ·rw[aqb]at h2
     refine⟨u',?_,h3⟩
     unfold loadVar
     rw[aoR,zH th,aoQ]
     have pt:w.cell? ⟨r.aN,r.sh+off,none⟩=some u':=by rw[Dr h1];simpa using h2
     simp only[apT,if_false,run_load,pt]
    ·cases h2
   ·cases hk
  ·cases hk
 ·cases hk
theorem WR.newRow(hw:WR P B w₀ ρ g w)(hn:g n=none){c:List aoP}{t:ao1}{c':Array aoP}{fr:Nat×Nat}(hs:c.length≤c'.size)
 (hf:fr.1=fr.2∨c'.size≤fr.1)(hc:LR ρ c (c'.toList.take c.length)):
 WR P B w₀ (ρ.put n ⟨w.heap.size,0,(b7 P t).getD 0,c'.size⟩) (cT g n (.cells c t false)) (w.alloc (.cells c' t fr)):=by
 refine hw.alloc hn rfl ?_
 refine .cells c t t false c' fr rfl (by simpa using hs) (fun _=>rfl) (fun m hm=>by simp[hm]) (fun _=>hf) fun i v hv=>?_
 obtain⟨v',h1,h2⟩:=hc.get hv
 rw[ap9]at h1
 split at h1
 ·exact⟨v',by simpa using h1,h2.mono (Ren.j6 (hw.fresh n hn) _)⟩
 ·cases h1
theorem Fits.newRow(hw:WR P B w₀ ρ g w)(hn:g n=none){c:List aoP}{t:ao1}{c':Array aoP}{v v':aoP}(hs:c.length=c'.size)
 (hc:LR ρ c c'.toList)(hv:∀ρ':Ren,ρ' n=some ⟨w.heap.size,0,(b7 P t).getD 0,c'.size⟩→VR ρ' v v'):
 Fits P B w₀ ρ g n ⟨.val v,[],some (.cells c t false)⟩ (.ok (.value v') (w.alloc (.cells c' t))):=
 ⟨_,_,Ren.j6 (hw.fresh n hn) _,.val v v' _ (hv _ (Ren.kC _ _ _)),hw.newRow hn (aq7 hs) (.inl rfl) (by rw[hs,ap8 (by simp)];exact hc)⟩
theorem LR.Du{c c':Array aoP}(h:LR ρ c.toList c'.toList):c.size=c'.size:=by have:=h.len;simpa using this
theorem ti{ob:ak}{v:aoP}{out:bq}{l:List Nat}(h:(new ob v).run g=some (out,l)):out=⟨.val v,[],some ob⟩:=by
 simp only[new,Rd.run,aoU,aoX]at h
 exact h.1.symm
theorem Uf(hw:WR P B w₀ ρ g w){t:ao1}{out:bq}{l:List Nat}(hn:out.nw≠none→g n=none)(h:(CW P t n).run g=some (out,l)):
 Fits P B w₀ ρ g n out ((do let v ←ave t true (.tuple #[]);pure (ap4 v):Sem aqV).run P w):=by
 unfold CW at h
 split at h
 ·rename_i z hz
  split at h
  ·rename_i hf
   obtain rfl:=ti h
   replace hn:=hn (by simp)
   simp only[ave,aoR,mZ hz,aoQ,newVar,newRow,aut,apA]
   exact Fits.newRow hw hn (by simp) (nH hf).cells fun ρ' h'=>by simpa using VR.ptr (ρ:=ρ') n 0 _ h'
  ·cases h
 ·cases h
theorem Ug(hw:WR P B w₀ ρ g w){t:ao1}{v v':aoP}(hv:VR ρ v v'){out:bq}{l:List Nat}
 (hn:out.nw≠none→g n=none)(h:(new (.cells v.cells.toList t false) (.pointer (some ⟨n,0,none⟩))).run g=some (out,l)):
 Fits P B w₀ ρ g n out ((do let v ←avv t v';pure (ap4 v):Sem aqV).run P w):=by
 obtain rfl:=ti h
 replace hn:=hn (by simp)
 simp only[avv,aoR,aoQ,newVar,newRow,aut,apA]
 exact Fits.newRow hw hn (by simpa using hv.cells.Du) hv.cells fun ρ' h'=>by simpa using VR.ptr (ρ:=ρ') n 0 _ h'
theorem Uh(hw:WR P B w₀ ρ g w){t:ao1}{a a':aoP}(ha:VR ρ a a'){out:bq}{l:List Nat}(h:(sY P t a).run g=some (out,l)):
 Fits P B w₀ ρ g n out ((do let v ←auX t a';pure (ap4 v):Sem aqV).run P w):=by
 unfold sY at h
 split at h
 ·rename_i b off
  obtain⟨r,hr,rfl⟩:=ha.ky
  obtain⟨v,l1,l2,h1,h2,rfl⟩:=(Rd.run_bind _ _ _ _ _).1 h
  obtain⟨v',h3,h4⟩:=u5 hw h1 hr
  simp only[auX,arI,aoR,apA,aoQ,h3]
  exact Fits.dG hw h2 h4
 ·cases h
theorem Dv{c vs:List aoP}{off:Nat}(h:off+vs.length≤c.length)(i:Nat):
 (bf c off vs)[i]?=if off≤i∧i<off+vs.length then vs[i-off]?else c[i]? :=by
 unfold bf
 have hl:(c.take off).length=off:=by simp;omega
 by_cases h1:i<off
 ·rw[if_neg (by omega),api,apH (by omega),ap9,if_pos h1]
 ·rw[api,apz (by omega),hl]
  by_cases h2:i<off+vs.length
  ·rw[if_pos ⟨by omega,h2⟩,apH (by omega)]
  ·rw[if_neg (by omega),apz (by omega),aqb]
   congr 1
   omega
theorem oD{c vs:List aoP}{off:Nat}(h:off+vs.length≤c.length):(bf c off vs).length=c.length:=by
 unfold bf;simp;omega
theorem LR.zB{l l':List aoP}(h:LR ρ l l')(ho:(l.all apR)=true):(l'.all apR)=true:=by
 rw[aps]at*
 intro v' fV
 obtain⟨i,hi⟩:=List.getElem?_of_mem fV
 have hlt:i<l'.length:=(ao0.1 hi).1
 have Kd:i<l.length:=h.len▸hlt
 rw[(h.at_ i _ v' (aoV Kd) hi).zB]
 exact ho _ (List.getElem_mem Kd)
theorem WR.store(hw:WR P B w₀ ρ g w){b:Nat}{c:List aoP}{el:ao1}(hb:g b=some (.cells c el false)){r:bT}(hr:ρ b=some r)
 {vs jH:List aoP}(hv:LR ρ vs jH){off:Nat}(hle:off+vs.length≤c.length)(ho:(vs.all apR)=true):
 ∃w',(storeCells ⟨r.aN,r.sh+off,none⟩ jH).run P w=.ok () w'∧WR P B w₀ ρ (cT g b (.cells (bf c off vs) el false)) w':=by
 by_cases bu:c=[]
 ·subst bu
  have Dw:vs=[]:=apL (by have:off+vs.length≤0:=hle;omega)
  subst Dw
  have:=hv.kx
  subst this
  refine⟨w,rfl,?_⟩
  have:cT g b (.cells (bf [] off []) el false)=g:=by
   funext x
   by_cases e:x=b
   ·subst e;rw[fh,hb];simp[bf]
   ·rw[ec _ e]
  rw[this]
  exact hw
 obtain⟨c',fr,⟨b8,h1,he⟩,hp,hs,hz,hf,hl,hB⟩:=rB hw hb hr (oq bu)
 obtain rfl:=he rfl
 replace hf:=hf rfl
 have hlen:=hv.len
 obtain⟨w',h2,h3⟩:=Dt (P:=P) jH w c' (r.sh+off) 0 (ow.refl h1) (by omega) (by rwa[hp]) (hv.zB ho)
 refine⟨w',h2,hw.change hb (oq bu) hr (hB rfl) h3 ?_⟩
 refine .cells _ _ _ _ _ fr (by rw[Ds,hp]) (by rw[oD hle];exact hs) (fun _=>rfl) hz (fun _=>hf) fun i v hi=>?_
 rw[Dv hle]at hi
 rw[zE _ _ _ _ (by omega)]
 by_cases fq:off≤i∧i<off+vs.length
 ·rw[if_pos fq]at hi
  rw[if_pos (by omega)]
  obtain⟨v',h4,h5⟩:=hv.get hi
  refine⟨v',?_,h5⟩
  rw[show r.sh+i-(r.sh+off+0)=i-off by omega]
  exact h4
 ·rw[if_neg fq]at hi
  rw[if_neg (by omega)]
  obtain⟨v',h4,h5⟩:=hl.get hi
  rw[ap9]at h4
  split at h4
  ·exact⟨v',by simpa using h4,h5⟩
  ·cases h4
theorem Ui(hw:WR P B w₀ ρ g w){t:ao1}{a a' x x':aoP}(ha:VR ρ a a')(hx:VR ρ x x'){out:bq}{l:List Nat}(h:(sZ P t a x).run g=some (out,l)):
 Fits P B w₀ ρ g n out ((do atY t a' x';pure Next.skip:Sem aqV).run P w):=by
 unfold sZ at h
 split at h
 ·rename_i b off
  obtain⟨r,hr,rfl⟩:=ha.ky
  split at h
  ·rename_i size cd
   obtain⟨o,l',hb,hk,rfl⟩:=Rd.run_read h
   split at hk
   ·rename_i c el
    split at hk
    ·rename_i hc
     simp only[ao3]at hc
     obtain⟨⟨h1,h2⟩,h3⟩:=hc
     have h1:=apa h1
     have h2:=apk h2
     simp only[Rd.run,aoU,aoX]at hk
     obtain⟨rfl,rfl⟩:=hk
     obtain⟨w',h4,h5⟩:=hw.store hb hr hx.cells (off:=off) (by simp;omega) h3
     refine⟨ρ,w',Ren.le_refl ρ,?_,h5⟩
     have Uj:x'.cells.size=size:=by rw[←hx.cells.Du,h1]
     have j7:(atY t (.pointer (some ⟨r.aN,r.sh+off,none⟩)) x').run P w=.ok () w':=by
      simp only[atY,arI,storeVar,aoR,apA,aoQ,run_sizeOf cd,Uj,ne_eq,not_true_eq_false,if_false,h4]
     rw[aoR,j7]
     exact .skip w'
    ·cases hk
   ·cases hk
  ·cases h
 ·cases h
end
end Go.Proofs.YtnlkkgpcikkpoaaGreat.Vm
namespace Go.Proofs.YtnlkkgpcikkpoaaGreat.Vm
open Go.RowKit
section
variable {P:ao7}
theorem zJ{t:ao1}{cs:Array aoP}{d k:Nat}{v:aoP}(hk:b7 P t=some k)
 (h:(og P t=some true∧d+k≤cs.size∧v=.agg (cs.extract d (d+k)))∨(og P t=some false∧cs[d]?=some v)){w:ao4}:(part t cs d).run P w=.ok v w:=by
 unfold part
 rcases h with⟨h1,h2,rfl⟩|⟨h1,h2⟩
 ·rw[aoR,zH h1,aoQ]
  simp only[if_true,aoR,run_sizeOf hk,aoQ,apA]
 ·rw[aoR,zH h1,aoQ]
  simp only[apT,if_false,h2,apA]
theorem Ke{ft:ao1}{cs:Array aoP}{d:Nat}{v:aoP}(h:zn P ft cs.toList d=some v)(w:ao4):(part ft cs d).run P w=.ok v w:=by
 unfold zn at h
 split at h
 ·rename_i k m5 hk
  split at h
  ·rename_i l qn
   cases h
   obtain⟨hle,rfl⟩:=u0 qn
   rw[zJ hk (.inl ⟨m5,by simp at hle;omega,rfl⟩)]
   have:(cs.extract d (d+k))=((cs.toList.drop d).take k).toArray:=by
    apply aqI
    simp[aq4,aq1]
   rw[this]
  ·cases h
 ·rename_i k m5 hk
  exact zJ hk (.inr ⟨m5,by simpa using h⟩)
 ·cases h
theorem Kf{d:Nat}{xs ys:Array aoP}{F:ar1→Option Bool}:∀(l:List ar1) (r:Bool),w6 F l=some r→(∀f b,F f=some b→f.name≠ "_" ∧∃u v,(∀w:ao4,(part f.type xs f.offset).run P w=.ok u w)∧(∀w:ao4,(part f.type ys f.offset).run P w=.ok v w)∧∀w:ao4,(arR d f.type u v).run P w=.ok b w)→
 ∀w:ao4,(forIn l ((none:Option Bool),()) fun(f:ar1) (__s:Option Bool×Unit)=>
     if f.name≠ "_" then do
      let __do_lift ←part f.type xs f.offset
      let __do_lift_1 ←part f.type ys f.offset
      let __do_lift ←arR d f.type __do_lift __do_lift_1
      if(!__do_lift)=true then(pure (ForInStep.done (some false,())):Sem (ForInStep (Option Bool×Unit)))
       else pure (auu (none,()))
     else pure (auu (none,()))).run P w=.ok (if r then(none,())else(some false,())) w
 | [],r,h,hF,w=>by
   simp only[w6,aoU]at h
   subst h
   rfl
 |f::l,r,h,hF,w=>by
  unfold w6 at h
  split at h
  ·rename_i a b ha hb
   simp only[aoU]at h
   subst h
   obtain⟨h1,u,v,h2,h3,h4⟩:=hF f a ha
   rw[List.forIn_cons]
   rw[if_pos h1]
   simp only[aoR,h2,h3,h4,aoQ]
   cases a with
   |false=>rfl
   |true=>
    simp only[ath,apT,if_false,apA,aoQ,Bool.true_and]
    exact Kf l b hb hF w
  ·cases h
theorem Dx:∀(d:Nat) (t:ao1) (x y:aoP) (r:Bool),w7 P d t x y=some r→∀w:ao4,(arR d t x y).run P w=.ok r w
 |0,t,x,y,r,h,w=>by cases h
 |d+1,t,x,y,r,h,w=>by
  unfold w7 at h
  unfold arR
  split at h
  ·rename_i ht
   split at h
   ·cases h
    rw[aoR,run_underlying ht,aoQ]
    rfl
   ·cases h
  ·rename_i ht
   split at h
   ·split at h
    ·rename_i hk
     cases h
     have hk:=of_decide_eq_true hk
     rw[aoR,run_underlying ht,aoQ]
     dsimp only
     rw[if_pos hk]
     rfl
    ·cases h
   ·cases h
  ·rename_i ht
   split at h
   ·cases h
    rw[aoR,run_underlying ht,aoQ]
    rfl
   ·cases h
  ·rename_i fs ht
   split at h
   ·rename_i xs ys
    split at h
    ·cases h
    ·rename_i dJ
     rw[aoR,run_underlying ht,aoQ]
     dsimp only
     rw[aoR,aqW,aoQ]
     rw[dJ]
     simp only[apT,if_false]
     rw[←Array.forIn_toList]
     rw[aoR,Kf (d:=d) fs.toList r h (fun f b hf=>?_) w,aoQ]
     ·cases r<;>rfl
     ·split at hf
      ·cases hf
      ·rename_i lD
       refine⟨by simpa using lD,?_⟩
       split at hf
       ·rename_i u v hu hv
        exact⟨u,v,Ke hu,Ke hv,Dx d f.type u v b hf⟩
       ·cases hf
   ·cases h
  ·cases h
theorem Uk{op:BinOp}{t:ao1}{x y:aqo}{a b:aoP}{r:Bool}(h:C0 P op t a b=some r)(w:ao4):((do eqGuard op t x y a b;binOp op t a b):Sem aoP).run P w=.ok (.bool r) w:=by
 unfold C0 at h
 split at h
 ·rename_i xs ys
  split at h
  ·cases h
  ·rename_i hg
   have Dy:∀w:ao4,(eqGuard .eql t x y (.agg xs) (.agg ys)).run P w=.ok () w:=fun w=>by
    unfold eqGuard
    simp only[ath,apT,if_false]
    rw[aoR,aqW,aoQ,aoR,aqW,aoQ,hg]
    rfl
   have he:(arJ t (.agg xs) (.agg ys)).run P w=.ok r w:=Dx 10000 t _ _ r h w
   rw[aoR,Dy,aoQ]
   show(arl P (do pure (.bool (←arJ t (.agg xs) (.agg ys))):Sem aoP) w)=_
   rw[aoR,he]
   rfl
 ·rename_i xs ys
  split at h
  ·cases h
  ·rename_i hg
   have Dy:∀w:ao4,(eqGuard .neq t x y (.agg xs) (.agg ys)).run P w=.ok () w:=fun w=>by
    unfold eqGuard
    simp only[ath,apT,if_false]
    rw[aoR,aqW,aoQ,aoR,aqW,aoQ,hg]
    rfl
   obtain⟨q,hq,rfl⟩:=Option.map_eq_some_iff.1 h
   have he:(arJ t (.agg xs) (.agg ys)).run P w=.ok q w:=Dx 10000 t _ _ q hq w
   rw[aoR,Dy,aoQ]
   show(arl P (do pure (.bool (!(←arJ t (.agg xs) (.agg ys)))):Sem aoP) w)=_
   rw[aoR,he]
   rfl
 ·cases h
end
end Go.Proofs.YtnlkkgpcikkpoaaGreat.Vm
namespace Go.Proofs.YtnlkkgpcikkpoaaGreat.Vm
open Go.RowKit
section
variable {P:ao7} {B:Nat→Prop} {w₀:ao4} {ρ:Ren} {g:Nat→Option ak} {n:Nat} {w:ao4}
theorem Ul(hw:WR P B w₀ ρ g w){c c' a a' b b':aoP}(hc:VR ρ c c')(ha:VR ρ a a')(hb:VR ρ b b'){out:bq}{l:List Nat}
 (h:(zp c a b).run g=some (out,l)):Fits P B w₀ ρ g n out ((do pure (ap4 (if←asBool c' then a' else b')):Sem aqV).run P w):=by
 unfold zp at h
 split at h
 ·rw[hc.uW];exact Fits.dG hw h ha
 ·rw[hc.uW];exact Fits.dG hw h hb
 ·cases h
theorem Um(hw:WR P B w₀ ρ g w){v v':aoP}(hv:VR ρ v v'){out:bq}{l:List Nat}(h:(CZ P v).run g=some (out,l))(e':aqo→aoP)(x:aqo)(he:e' x=v')
 (o:apS)(ho:o.op=.nilCheck x):Fits P B w₀ ρ g n out ((execOp e' o).run P w):=by
 unfold execOp
 rw[ho]
 simp only[he]
 unfold CZ at h
 split at h
 ·cases hv with
  |bM _ hs=>cases hs
  |ptr b off r hr=>exact Fits.dG hw h (.ptr b off r hr)
  |mq b off t=>exact Fits.dG hw h (.mq b off t)
 ·obtain⟨f',c',rfl,h1,h2⟩:=hv.xj
  exact Fits.dG hw h (.func _ _ _ _ _ rfl h1.len h1.at_ h2.len h2.at_)
 ·obtain⟨u',rfl,h1⟩:=hv.xh
  exact Fits.dG hw h (.iface _ _ _ h1)
 ·cases hv;exact oC hw h
 ·cases hv;exact oC hw h
 ·cases hv;exact oC hw h
 ·cases h
theorem Kg(t:ao1)(x y:aoP):arJ t x y=arR (9999+1) t x y:=rfl
theorem Kh{t:ao1}{x y:aqo}{a b:aoP}{r:Bool}(neg:Bool)(h1:binOp .eql t a b=(do pure (.bool (←arJ t a b))))
 (h2:binOp .neq t a b=(do pure (.bool (!(←arJ t a b)))))(hg:∀op,(eqGuard op t x y a b).run P w=.ok () w)(he:(arJ t a b).run P w=.ok r w):
 ((do eqGuard (if neg then .neq else .eql) t x y a b;binOp (if neg then .neq else .eql) t a b):Sem aoP).run P w=.ok (.bool (r != neg)) w:=by
 rw[aoR,hg,aoQ]
 cases neg with
 |false=>simp only[apT,if_false];rw[h1,aoR,he];simp
 |true=>simp only[if_true];rw[h2,aoR,he];simp
theorem Ki(hw:WR P B w₀ ρ g w){t:ao1}{x y:aqo}{a a' b b':aoP}(ha:VR ρ a a')(hb:VR ρ b b')(neg:Bool){out:bq}{l:List Nat}
 (h:(uU P t a b neg).run g=some (out,l)):
 Fits P B w₀ ρ g n out ((do let v ←(do eqGuard (if neg then .neq else .eql) t x y a' b';binOp (if neg then .neq else .eql) t a' b');pure (ap4 v):Sem aqV).run P w):=by
 unfold uU at h
 split at h
 ·rename_i d hd
  split at h
  ·rename_i r hr
   have key:((do eqGuard (if neg then .neq else .eql) t x y a' b';binOp (if neg then .neq else .eql) t a' b'):Sem aoP).run P w=.ok (.bool (r != neg)) w:=by
    unfold zl at hr
    split at hr<;>first
     |(cases hr;done)
     |(split at hr<;>first
        |(cases hr;done)
        |(rename_i gU
          simp only[aoU]at hr
          subst hr
          cases ha<;>cases hb<;>first
           |exact Kh neg rfl rfl (fun op=>by unfold eqGuard;split<;>rfl) (by rw[Kg];unfold arR;rw[aoR,run_underlying hd,aoQ];rfl)
           |(cases gU;done)
           |(rename_i h1 h2;cases h1;done)
           |(rename_i h1 h2;cases h2;done)
           |(rename_i h1;cases h1;done)))
     |(simp only[aoU]at hr
       subst hr
       cases ha<;>cases hb<;>first
        |exact Kh neg rfl rfl (fun op=>by unfold eqGuard;split<;>rfl) (by rw[Kg];unfold arR;rw[aoR,run_underlying hd,aoQ];rfl)
        |(rename_i h1 h2;cases h1;done)
        |(rename_i h1 h2;cases h2;done)
        |(rename_i h1;cases h1;done))
   rw[aoR,key]
   exact Fits.dG hw h (.bM _ rfl)
  ·cases h
 ·cases h
theorem Un(hw:WR P B w₀ ρ g w){op:BinOp}{t:ao1}{x y:aqo}{a a' b b':aoP}(ha:VR ρ a a')(hb:VR ρ b b'){out:bq}{l:List Nat}
 (h:(ta P op t x y a b).run g=some (out,l)):
 Fits P B w₀ ρ g n out ((do let v ←(do eqGuard op t x y a' b';binOp op t a' b');pure (ap4 v):Sem aqV).run P w):=by
 unfold ta at h
 split at h
 ·rename_i hf
  simp only[ao3]at hf
  rw[mW hf.1 ha,mW hf.2 hb]
  split at h
  ·rename_i r hr
   rw[aoR,Uk hr]
   exact Fits.dG hw h (.bM _ rfl)
  ·exact oC hw h
 ·split at h
  ·exact Ki hw ha hb false h
  ·exact Ki hw ha hb true h
  ·cases h
theorem Uo(hw:WR P B w₀ ρ g w){op:UnOp}{a a':aoP}(ha:VR ρ a a'){out:bq}{l:List Nat}(h:(C1 P op a).run g=some (out,l)):
 Fits P B w₀ ρ g n out ((do let v ←Op.unary op a';pure (ap4 v):Sem aqV).run P w):=by
 unfold C1 at h
 split at h
 ·rename_i hf
  rw[mW hf ha]
  exact oC hw h
 ·cases h
theorem Up(hw:WR P B w₀ ρ g w){t:ao1}{a a':aoP}(ha:VR ρ a a'){out:bq}{l:List Nat}(h:(C2 P t a).run g=some (out,l)):
 Fits P B w₀ ρ g n out ((do let v ←asY t a';pure (ap4 v):Sem aqV).run P w):=by
 unfold C2 at h
 split at h
 ·cases h
 ·rename_i d hd hu
  have:(asY t a').run P w=.ok (.iface t a') w:=by
   unfold asY
   rw[aoR,run_underlying hu,aoQ]
   split
   ·exact absurd rfl (hd _)
   ·rfl
  rw[aoR,this]
  exact Fits.dG hw h (.iface _ _ _ ha)
 ·cases h
theorem Uq(hw:WR P B w₀ ρ g w){fn:Fn}{f c:List aoP}{f' c':Array aoP}(hf:LR ρ f f'.toList)(hc:LR ρ c c'.toList){out:bq}{l:List Nat}
 (h:(C3 fn f c).run g=some (out,l)):Fits P B w₀ ρ g n out ((do let v ←Instr.makeFunc fn f' c';pure (ap4 v):Sem aqV).run P w):=by
 unfold C3 at h
 split at h<;>first
  |(cases h;done)
  |exact Fits.dG hw h (.func _ _ _ _ _ rfl (by simpa using hf.len) (by simpa using hf.at_) (by simpa using hc.len) (by simpa using hc.at_))
theorem Ur(hw:WR P B w₀ ρ g w){x x':aoP}(hx:VR ρ x x')(i:Nat){out:bq}{l:List Nat}(h:(C8 x i).run g=some (out,l)):
 Fits P B w₀ ρ g n out ((do let v ←atZ x' i;pure (ap4 v):Sem aqV).run P w):=by
 unfold C8 at h
 split at h
 ·obtain⟨c',rfl,hl⟩:=hx.Ka
  split at h
  ·rename_i v hv
   obtain⟨v',h1,h2⟩:=hl.get hv
   have Dz:c'[i]?=some v':=by simpa using h1
   have:(atZ (.tuple c') i).run P w=.ok v' w:=by unfold atZ;simp only[Dz];rfl
   rw[aoR,this]
   exact Fits.dG hw h h2
  ·cases h
 ·cases h
theorem Us(hw:WR P B w₀ ρ g w){x x':aoP}(hx:VR ρ x x')(xt at_:ao1)(ok:Bool){out:bq}{l:List Nat}(h:(C9 P x at_ ok).run g=some (out,l)):
 Fits P B w₀ ρ g n out ((do let v ←atn x' xt at_ ok;pure (ap4 v):Sem aqV).run P w):=by
 unfold C9 at h
 split at h
 ·cases h
 ·rename_i d t v hu hd
  obtain⟨u',rfl,h1⟩:=hx.xh
  split at h
  ·rename_i ht
   have ht:=apa ht
   subst ht
   have:(atn (.iface t u') xt t ok).run P w=.ok (if ok then .tuple #[u',.bool true]else u') w:=by
    unfold atn
    rw[aoR,run_underlying hd,aoQ]
    split<;>simp_all
   rw[aoR,this]
   cases ok with
   |true=>exact Fits.dG hw h (.zA (LR.cons h1 (LR.cons (.bM _ rfl) (LR.nil ρ))))
   |false=>exact Fits.dG hw h h1
  ·cases h
 ·cases h
theorem Ut(hw:WR P B w₀ ρ g w){x x':aoP}(hx:VR ρ x x'){out:bq}{l:List Nat}(h:(Da P x).run g=some (out,l)):
 Fits P B w₀ ρ g n out ((do let v ←avd x';pure (ap4 v):Sem aqV).run P w):=by
 unfold Da at h
 split at h
 ·rename_i hf
  rw[mW hf hx]
  exact oC hw h
 ·cases h
theorem DA{s i off ft k:Nat}(h:w0 P s i=some (off,ft,k)):
 ∃fs f,P.underlying s=some (.struct fs)∧fs[i]?=some f∧f.offset=off∧f.type=ft∧b7 P ft=some k∧k≠0:=by
 unfold w0 at h
 split at h
 ·rename_i fs hu
  split at h
  ·rename_i f hf
   split at h
   ·rename_i m hm
    simp only[aoU,aoX]at h
    obtain⟨rfl,rfl,rfl⟩:=h
    exact⟨fs,f,hu,hf,rfl,rfl,hm,by omega⟩
   ·cases h
  ·cases h
 ·cases h
theorem DB{f:ar1}{k:Nat}(h:b7 P f.type=some k)(hk:k≠0)(b off:Nat):(fieldPlace ⟨b,off,none⟩ f).run P w=.ok ⟨b,off+f.offset,none⟩ w:=by
 unfold fieldPlace
 rw[aoR,run_sizeOf h,aoQ,if_neg hk,pr]
 rfl
theorem Uu(hw:WR P B w₀ ρ g w){s:ao1}{x x':aoP}(hx:VR ρ x x')(i:Nat){out:bq}{l:List Nat}(h:(C6 P s x i).run g=some (out,l)):
 Fits P B w₀ ρ g n out ((do let v ←at0 s x' i;pure (ap4 v):Sem aqV).run P w):=by
 unfold C6 at h
 split at h
 ·rename_i b off d ft k hd
  obtain⟨r,hr,rfl⟩:=hx.ky
  obtain⟨fs,f,hu,hf,rfl,rfl,hk,iw⟩:=DA hd
  have:(at0 s (.pointer (some ⟨r.aN,r.sh+off,none⟩)) i).run P w=.ok (.pointer (some ⟨r.aN,r.sh+off+f.offset,none⟩)) w:=by
   unfold at0
   rw[aoR,run_underlying hu,aoQ]
   simp only[hf]
   simp only[arI,aoR,apA,aoQ,DB hk iw]
  rw[aoR,this]
  exact Fits.dG hw h (by rw[aqP];exact .ptr _ _ _ hr)
 ·cases h
theorem Kj(hw:WR P B w₀ ρ g w){ft:ao1}{cs:List aoP}{ix:Array aoP}(hl:LR ρ cs ix.toList){d k:Nat}(hk:b7 P ft=some k){out:bq}{l:List Nat}
 (h:(zo P ft cs d k).run g=some (out,l)):Fits P B w₀ ρ g n out ((do let v ←part ft ix d;pure (ap4 v):Sem aqV).run P w):=by
 unfold zo at h
 split at h
 ·rename_i th
  split at h
  ·rename_i c hc
   obtain⟨hle,rfl⟩:=u0 hc
   have hs:=hl.len
   rw[aoR,zJ hk (.inl ⟨th,by simp at hs;omega,rfl⟩)]
   refine Fits.dG hw h ?_
   have:(ix.extract d (d+k))=((ix.toList.drop d).take k).toArray:=by
    apply aqI
    simp[aq4,aq1]
   rw[this]
   exact .J9 ((hl.drop d).take k)
  ·cases h
 ·rename_i th
  split at h
  ·rename_i v hv
   obtain⟨v',h1,h2⟩:=hl.get hv
   rw[aoR,zJ hk (.inr ⟨th,by simpa using h1⟩)]
   exact Fits.dG hw h h2
  ·cases h
 ·cases h
theorem Uv(hw:WR P B w₀ ρ g w){s:ao1}{x x':aoP}(hx:VR ρ x x')(i:Nat){out:bq}{l:List Nat}(h:(C7 P s x i).run g=some (out,l)):
 Fits P B w₀ ρ g n out ((do let v ←aum s x' i;pure (ap4 v):Sem aqV).run P w):=by
 unfold C7 at h
 split at h
 ·rename_i cs d ft k hd
  obtain⟨c',rfl,hl⟩:=hx.Dj
  obtain⟨fs,f,hu,hf,rfl,rfl,hk,iw⟩:=DA hd
  have:=Kj (n:=n) hw hl hk h
  have e:(aum s (.agg c') i).run P w=(part f.type c' f.offset).run P w:=by
   unfold aum
   rw[aoR,run_underlying hu,aoQ]
   simp only[hf,asAgg,aoR,apA,aoQ]
  rw[aoR,e]
  rwa[aoR]at this
 ·cases h
theorem pu{v:aoP}{i:Nat}(h:pe v=some i):∃k,v=.int k (i:Int):=by
 unfold pe at h
 split at h
 ·rename_i k m;cases h;exact⟨k,rfl⟩
 ·cases h
theorem Kk(hw:WR P B w₀ ρ g w){t:ao1}{x x' i i':aoP}(hx:VR ρ x x')(hi:VR ρ i i'){out:bq}{l:List Nat}(h:(tb P t x i).run g=some (out,l)):
 Fits P B w₀ ρ g n out ((do let v ←arA t x' i';pure (ap4 v):Sem aqV).run P w):=by
 unfold tb at h
 split at h
 ·rename_i k el b off j hu hj
  obtain⟨ik,rfl⟩:=pu hj
  obtain⟨r,hr,rfl⟩:=hx.ky
  rw[hi.jG]
  split at h
  ·rename_i size hs hlt
   have hlt:j<k:=by simp[ao9]at hlt;omega
   have:(arA t (.pointer (some ⟨r.aN,r.sh+off,none⟩)) (.int ik j)).run P w=.ok (.pointer (some ⟨r.aN,r.sh+off+j*size,none⟩)) w:=by
    unfold arA
    simp only[asIntOf,aoR,apA,aoQ,run_underlying hu,arI]
    rw[if_pos ⟨by omega,by omega⟩]
    simp only[aoR,run_sizeOf hs,aoQ,apA,pr,arj]
   rw[aoR,this]
   exact Fits.dG hw h (by rw[aqP];exact .ptr _ _ _ hr)
  ·cases h
 ·rename_i el b off len cap j hu hj
  obtain⟨ik,rfl⟩:=pu hj
  rw[hi.jG]
  split at h
  ·rename_i size hs hlt
   have hlt:j<len:=by simp[ao9]at hlt;omega
   cases hx with
   |bM _ h=>cases h
   |eD=>omega
   |sl _ _ _ _ bI r hr hc=>
    have:(arA t (.slice (some ⟨r.aN,r.sh+off,none⟩) len bI) (.int ik j)).run P w=.ok (.pointer (some ⟨r.aN,r.sh+off+j*size,none⟩)) w:=by
     unfold arA
     simp only[asIntOf,aoR,apA,aoQ,run_underlying hu,arI]
     rw[if_pos ⟨by omega,by omega⟩]
     simp only[aoR,run_sizeOf hs,aoQ,apA,pr,arj]
    rw[aoR,this]
    exact Fits.dG hw h (by rw[aqP];exact .ptr _ _ _ hr)
  ·cases h
 ·cases h
theorem Uw(hw:WR P B w₀ ρ g w){t:ao1}{x x' i i':aoP}(hx:VR ρ x x')(hi:VR ρ i i'){out:bq}{l:List Nat}(h:(w9 P t x i).run g=some (out,l)):
 Fits P B w₀ ρ g n out ((do let v ←ar8 t x' i';pure (ap4 v):Sem aqV).run P w):=by
 unfold w9 at h
 split at h
 ·split at h
  ·rename_i hf
   rw[hx.pq,mW hf hi]
   exact oC hw h
  ·cases h
 ·obtain⟨c',rfl,hl⟩:=hx.Dj
  split at h
  ·rename_i k el j hu hj
   obtain⟨ik,rfl⟩:=pu hj
   rw[hi.jG]
   split at h
   ·rename_i size hs hlt
    have hlt:j<k:=by simp[ao9]at hlt;omega
    have:=Kj (n:=n) hw hl hs h
    have e:(ar8 t (.agg c') (.int ik j)).run P w=(part el c' (j*size)).run P w:=by
     unfold ar8
     simp only[asIntOf,aoR,apA,aoQ,run_underlying hu]
     rw[if_pos ⟨by omega,by omega⟩]
     simp only[aoR,run_sizeOf hs,aoQ,arj]
    rw[aoR,e]
    rwa[aoR]at this
   ·cases h
  ·cases h
 ·cases h
end
end Go.Proofs.YtnlkkgpcikkpoaaGreat.Vm
namespace Go.Proofs.YtnlkkgpcikkpoaaGreat.Vm
open Go.RowKit
theorem Ux(a:Array Obj)(x:Obj)(f:Obj→Obj):(a.push x).modify a.size f=a.push (f x):=by
 apply Array.ext_getElem?
 intro i
 rw[art,asZ,asZ]
 by_cases h:i=a.size
 ·subst h;simp
 ·have:¬a.size=i:=fun e=>h e.symm
  simp[h,this]
theorem Uy(w:ao4)(c:Array aoP)(el:ao1)(k:Nat):(w.alloc (.cells c el)).freeze ⟨w.heap.size,k,none⟩ 1=w.alloc (.cells c el (k,k+1)):=by
 unfold auY avf
 simp only[auv,if_false]
 rw[Ux]
 rfl
section
variable {P:ao7} {B:Nat→Prop} {w₀:ao4} {ρ:Ren} {g:Nat→Option ak} {n:Nat} {w:ao4}
theorem Uz(w:ao4)(c:Array aoP)(el:ao1):(w.alloc (.cells c el)).shape? w.heap.size=some (el,c.size):=by
 unfold auZ avf
 simp only[asZ,if_true]
theorem u6(el:ao1)(lE:Array aoP)(w:ao4):(newRow el lE).run P w=.ok ⟨w.heap.size,0,none⟩ (w.alloc (.cells lE el)):=rfl
theorem UA(el:ao1)(lE:Array aoP)(w:ao4):(markStringish ⟨w.heap.size,0,none⟩).run P (w.alloc (.cells lE el))=.ok () (w.alloc (.cells lE el (lE.size,lE.size+1))):=by
 unfold markStringish
 rw[aoR,run_shape,aoQ,Uz]
 simp only[run_freeze]
 rw[Uy]
theorem UB(el:ao1)(s:ByteArray):∃bI,s.size≤bI∧(atd el s).run P w=.ok (.slice (some ⟨w.heap.size,0,none⟩) s.size bI)
 (w.drew.alloc (.cells ((s.data.map fun b=>aoW .u8 b.toNat)++aq5 (bI-s.size) (.int .u8 0)) el (bI,bI+1))):=by
 refine⟨(asd s.size 0 el).cut (w.tape w.drawn (.appendCap s.size 0 el)),by simp[at6],?_⟩
 generalize hq:(asd s.size 0 el).cut (w.tape w.drawn (.appendCap s.size 0 el))=bI
 have hle:s.size≤bI:=by rw[←hq];simp[at6]
 unfold atd
 rw[aoR,run_choose,if_neg (by simp[Question.forced]),hq,aoQ]
 dsimp only
 generalize m6:((s.data.map fun b=>aoW .u8 b.toNat)++aq5 (bI-s.size) (aoW .u8 0))=lE
 have cd:lE.size=bI:=by
  rw[←m6,atj,auG,atT]
  have:s.data.size=s.size:=rfl
  omega
 rw[aoR,u6,aoQ,aoR]
 have:=UA (P:=P) el lE w.drew
 rw[World.size_drew]at this
 show((markStringish ⟨w.heap.size,0,none⟩).run P (w.drew.alloc (.cells lE el))).andThen _=_
 rw[this,cd]
 rfl
theorem UC(s:ByteArray):LR ρ (s.data.toList.map fun b=>aoW .u8 b.toNat) (s.data.toList.map fun b=>aoW .u8 b.toNat):=LR.map _ _ _ fun b _=>.bM _ rfl
theorem Kl{b:Nat}{o:ak}(h:g b=some o):cT g b o=g:=by
 funext y
 by_cases e:y=b
 ·subst e;rw[fh,h]
 ·rw[ec _ e]
theorem Km:∀{c:List aoP} {l:List UInt8},bytesOf c=some l→∃ns:List Int,c=ns.map (aoW .u8)∧l=ns.map fun n=>arH n.toNat
 | [],l,h=>by simp[bytesOf]at h;exact⟨[],rfl,by simp[h]⟩
 |v::c,l,h=>by
  unfold bytesOf at h
  split at h
  ·rename_i e;cases e
  ·rename_i m c' e
   cases e
   split at h
   ·rename_i r hr
    cases h
    obtain⟨ns,h1,h2⟩:=Km hr
    exact⟨m::ns,by simp[h1],by simp[h2]⟩
   ·cases h
  ·cases h
theorem UD{src dst el:ao1}{d:asy}{s:ByteArray}(hs:P.underlying src=some d)(hd:P.underlying dst=some (.slice el))(he:P.underlying el=some (.int .u8)):
 (convert src dst (.string s)).run P w=(atd el s).run P w:=by
 unfold convert
 rw[aoR,run_underlying hs,aoQ,aoR,run_underlying hd,aoQ]
 cases d<;>simp only[aoR,run_underlying he,aoQ]
theorem UE{w:ao4}{b m:Nat}{c:Array aoP}{el:ao1}{fr:Nat×Nat}(h:w.heap[b]?=some (.cells c el fr)):
 ow w (w.freeze ⟨b,m,none⟩ 1) b (.cells c el (if fr.1==fr.2 then(m,m+1)else(min fr.1 m,max fr.2 (m+1)))):=by
 unfold auY
 simp only[auv,if_false]
 refine⟨rfl,rfl,rfl,by simp,?_,fun k hk=>?_⟩
 ·simp only[art,if_true,h,Option.map_some]
 ·simp only[art]
  rw[if_neg (fun e=>hk e.symm)]
theorem UF{b off:Nat}{c:Array aoP}{el:ao1}{fr:Nat×Nat}(h:w.heap[b]?=some (.cells c el fr)):
 (markStringish ⟨b,off,none⟩).run P w=.ok () (w.freeze ⟨b,c.size,none⟩ 1):=by
 unfold markStringish
 rw[aoR,run_shape,aoQ]
 have:w.shape? b=some (el,c.size):=by unfold auZ;simp only[h]
 simp only[this,run_freeze]
theorem UG{src el:ao1}{a:arf}{len cap:Nat}(hs:P.underlying src=some (.slice el))(he:P.underlying el=some (.int .u8)):
 (convert src src (.slice (some a) len cap)).run P w=((do markStringish a;pure (Value.slice (some a) len cap)):Sem aoP).run P w:=by
 unfold convert
 rw[aoR,run_underlying hs,aoQ,aoR,run_underlying hs,aoQ]
 simp only[beq_self_eq_true]
 rw[aoR,run_underlying he,aoQ]
theorem UH(hw:WR P B w₀ ρ g w){src dst:ao1}{x x':aoP}(hx:VR ρ x x'){out:bq}{l:List Nat}(hn:out.nw≠none→g n=none)(h:(w8 P src dst x n).run g=some (out,l)):
 Fits P B w₀ ρ g n out ((do let v ←convert src dst x';pure (ap4 v):Sem aqV).run P w):=by
 unfold w8 at h
 split at h
 ·rename_i d el s hs hd
  split at h
  ·rename_i he h1
   obtain rfl:=ti h
   replace hn:=hn (by simp)
   rw[hx.pq,aoR,UD hs hd he]
   obtain⟨bI,hle,hr⟩:=UB (P:=P) (w:=w) el s
   rw[hr,aoQ]
   generalize m6:((s.data.map fun b=>aoW .u8 b.toNat)++aq5 (bI-s.size) (aoW .u8 0))=lE
   have gr:s.data.size=s.size:=rfl
   have cd:lE.size=bI:=by
    rw[←m6,atj,auG,atT]
    omega
   have nJ:(s.data.toList.map fun b=>aoW .u8 b.toNat).length=s.size:=by simp[gr]
   have hz:(b7 P el).getD 0=1:=by rw[h1];rfl
   refine⟨ρ.put n ⟨w.drew.heap.size,0,(b7 P el).getD 0,lE.size⟩,_,Ren.j6 (hw.fresh n hn) _,.val _ _ _ ?_,hw.drew.newRow hn (by rw[nJ,cd];exact hle) (.inr (by rw[cd];exact apn _)) ?_⟩
   ·have:=VR.sl (ρ:=ρ.put n ⟨w.drew.heap.size,0,(b7 P el).getD 0,lE.size⟩) n 0 s.size s.size bI _ (Ren.kC _ _ _) (.inr ⟨hle,by simp[hz,cd]⟩)
    simpa using this
   ·rw[←m6,nJ,Array.toList_append,List.take_append_of_le_length (by simp[gr]),ap8 (by simp[gr]),Array.toList_map]
    exact UC s
  ·cases h
 ·rename_i el e2 b off len cap hs hd
  split at h
  ·rename_i he tj
   have tj:=apa tj
   subst tj
   rw[hs]at hd
   cases hd
   split at h
   ·cases h
   ·rename_i gU
    obtain⟨o,l',hb,hk,rfl⟩:=Rd.run_read h
    split at hk
    ·rename_i cv cr ce
     generalize jn:cv::cr=c at hb
     cases hx with
     |bM _ h=>cases h
     |sl _ _ _ _ bI r hr hc=>
      obtain⟨c',fr,⟨b8,h1,Kn⟩,hp,iW,hz,hf,hl,hB⟩:=rB hw hb hr (oq (by rw[←jn];simp))
      obtain rfl:=Kn rfl
      replace hf:=hf rfl
      have UI:=UE (m:=c'.size) h1
      have UJ:OR P ρ r (.cells c b8 false) (.cells c' b8 (if fr.1==fr.2 then(c'.size,c'.size+1)else(min fr.1 c'.size,max fr.2 (c'.size+1)))):=by
       refine .cells _ _ _ _ _ _ hp iW (fun _=>rfl) hz (fun _=>?_) fun i v hv=>?_
       ·right
        split
        ·exact aq7 hp.symm
        ·rename_i bu
         rcases hf with hf|hf
         ·rw[hf]at bu;simp at bu
         ·simp only;omega
       ·obtain⟨v',h2,h3⟩:=hl.get hv
        rw[ap9]at h2
        split at h2
        ·exact⟨v',by simpa using h2,h3⟩
        ·cases h2
      have dK:=hw.change hb (oq (by rw[←jn];simp)) hr (hB rfl) UI UJ
      rw[Kl hb]at dK
      rw[aoR,UG hs he,aoR,UF h1,aoQ,apA,aoQ,apA]
      exact Fits.dG dK hk (.sl _ _ _ _ _ _ hr hc)
    ·cases hk
  ·cases h
 ·rename_i el len cap hs hd
  split at h
  ·rename_i he
   cases hx
   rw[aoR,arL w src dst _ none _ _ hs he hd]
   exact Fits.dG hw h (.bM _ rfl)
  ·rename_i b off he
   obtain⟨o,l',hb,hk,rfl⟩:=Rd.run_read h
   split at hk
   ·rename_i c ce ro
    split at hk
    ·rename_i bs qo
     obtain⟨cs,qn,DC⟩:=Option.bind_eq_some_iff.1 qo
     obtain⟨hle,rfl⟩:=u0 qn
     obtain⟨ns,h1,rfl⟩:=Km DC
     have key:(∃a',ns=[]∧x'=.slice a' 0 0)∨∃a' bI,x'=.slice (some a') len bI∧(loadCells a' len).run P w=.ok (ns.map (aoW .u8)).toArray w:=by
      cases hx with
      |bM _ h=>cases h
      |eD _ a'=>
       exact .inl ⟨a',by simp at h1;exact h1,rfl⟩
      |sl _ _ _ _ bI r hr hc=>
       refine .inr ⟨_,bI,rfl,?_⟩
       by_cases hlen:len=0
       ·subst hlen
        have:ns=[]:=by simp at h1;exact h1
        subst this
        rfl
       obtain⟨c',fr,⟨b8,h2,Kn⟩,hp,iW,hz,hf,hl,hB⟩:=rB hw hb hr (oq (by intro e;rw[e]at hle;simp at hle;omega))
       rw[zG h2 _ _ (by omega)]
       have h3:=zI hl hle
       rw[h1]at h3
       rw[LR.xk (by simp[fl,flat]) h3]
     rcases key with⟨a',rfl,rfl⟩|⟨a',bI,rfl,UK⟩
     ·cases a' with
      |none=>
       rw[aoR,arL w src dst _ none _ _ hs he hd]
       exact Fits.dG hw hk (.bM _ rfl)
      |some a'=>
       rw[aoR,arL w src dst _ _ _ _ hs he hd,auh w a' 0 0 [] rfl,aoQ,auq]
       exact Fits.dG hw hk (.bM _ rfl)
     rw[aoR,arL w src dst _ _ _ _ hs he hd,auh w a' len bI ns UK,aoQ,auq]
     refine Fits.dG hw hk ?_
     have:(ByteArray.mk (ByteArray.empty.data++(ns.map fun n=>arH n.toNat).toArray))=⟨(ns.map fun n=>arH n.toNat).toArray⟩:=by
      congr 1
      exact Array.empty_append ..
     rw[this]
     exact .bM _ rfl
    ·cases hk
   ·cases hk
  ·cases h
 ·split at h
  ·rename_i hf
   rw[mW hf hx]
   exact oC hw h
  ·cases h
end
end Go.Proofs.YtnlkkgpcikkpoaaGreat.Vm
namespace Go.Proofs.YtnlkkgpcikkpoaaGreat.Vm
open Go.RowKit
section
variable {P:ao7} {B:Nat→Prop} {w₀:ao4} {ρ:Ren} {g:Nat→Option ak} {n:Nat} {w:ao4}
theorem Fits.Ko(hw:WR P B w₀ ρ g w)(hn:g n=none):
 Fits P B w₀ ρ g n ⟨.val (.map (some n)),[],some (.map [] 0)⟩ (.ok (.value (.map (some w.heap.size))) (w.alloc (.map #[] 0))):=by
 refine⟨ρ.put n ⟨w.heap.size,0,0,0⟩,_,Ren.j6 (hw.fresh n hn) _,.val _ _ _ (.map n _ (Ren.kC _ _ _)),hw.alloc hn rfl ?_⟩
 exact .map [] #[] 0 rfl fun i e e' h=>by simp at h
theorem UL(hw:WR P B w₀ ρ g w){t:ao1}{r r':Option aoP}(hr:∀v,r=some v→∃v',r'=some v'∧VR ρ v v')(xp:r=none→r'=none)
 {out:bq}{l:List Nat}(hn:out.nw≠none→g n=none)(h:(C4 P t r n).run g=some (out,l)):
 Fits P B w₀ ρ g n out ((do let v ←auN t r';pure (ap4 v):Sem aqV).run P w):=by
 unfold C4 at h
 split at h
 ·rw[xp rfl]
  obtain rfl:=ti h
  exact Fits.Ko hw (hn (by simp))
 ·obtain⟨v',rfl,hv⟩:=hr _ rfl
  rw[hv.jG]
  split at h
  ·rename_i hu
   obtain rfl:=ti h
   replace hn:=hn (by simp)
   rw[aoR]
   unfold auN
   simp only[aoR,run_underlying hu,aoQ,asInt,asIntOf,apA,aut]
   exact Fits.Ko hw hn
  ·cases h
 ·cases h
theorem zK(z:List aoP)(k:Nat):(fg z k).length=k*z.length:=by
 induction k with
 |zero=>simp[fg]
 |succ k ih=>simp[fg,ih,asM];omega
theorem DD(z:List aoP):∀(k i:Nat),i<k*z.length→(fg z k)[i]?=z[i%z.length]?
 |0,i,h=>by simp at h
 |k+1,i,h=>by
  rw[asM]at h
  have e:fg z (k+1)=z++fg z k:=rfl
  rw[e]
  by_cases hi:i<z.length
  ·rw[apH hi,Nat.mod_eq_of_lt hi]
  ·have ih:=DD z k (i-z.length) (by omega)
   rw[apz (by omega),ih]
   congr 1
   rw[Nat.mod_eq_sub_mod (a:=i) (by omega)]
theorem DE(z:aoP)(k:Nat):((atb (k*z.cells.size)).map fun i=>z.cells[i%z.cells.size]!)=(fg z.cells.toList k).toArray:=by
 apply aqI
 apply arX
 intro i
 have hlen:z.cells.toList.length=z.cells.size:=by simp
 have xq:(fg z.cells.toList k).length=k*z.cells.size:=by rw[zK,hlen]
 by_cases hi:i<k*z.cells.size
 ·have h1:=DD z.cells.toList k i (by rw[hlen];exact hi)
  rw[hlen]at h1
  have UM:0<z.cells.size:=by
   rcases Nat.eq_zero_or_pos z.cells.size with h0|h0
   ·rw[h0]at hi;simp at hi
   ·exact h0
  have hm:i%z.cells.size<z.cells.size:=Nat.mod_lt _ UM
  show _=(fg z.cells.toList k)[i]?
  rw[h1]
  simp[hi,getElem!_pos,hm]
 ·show _=(fg z.cells.toList k)[i]?
  rw[ap3 (l:=fg z.cells.toList k) (by rw[xq];omega),ap3 (by simp;omega)]
theorem xr{z:aoP}(h:fl z=true):LR ρ z.cells.toList z.cells.toList:=(nH h).cells
theorem LR.fg{z z':List aoP}(h:LR ρ z z'):∀k,LR ρ (fg z k) (fg z' k)
 |0=>LR.nil ρ
 |k+1=>h.append (LR.fg h k)
theorem Kp(k:IntKind)(i:Int):(asInt (.int k i)).run P w=.ok i w:=rfl
theorem UN(hw:WR P B w₀ ρ g w){t:ao1}{a a' b b':aoP}(ha:VR ρ a a')(hb:VR ρ b b'){out:bq}{l:List Nat}
 (hn:out.nw≠none→g n=none)(h:(C5 P t a b n).run g=some (out,l)):Fits P B w₀ ρ g n out ((do let v ←atz t a' b';pure (ap4 v):Sem aqV).run P w):=by
 unfold C5 at h
 split at h
 ·rename_i el i c hu hi hc
  obtain⟨ki,rfl⟩:=pu hi
  obtain⟨kc,rfl⟩:=pu hc
  rw[ha.jG,hb.jG]
  split at h
  ·rename_i size z bytes hs hz qp
   split at h
   ·rename_i gu
    simp only[ao3]at gu
    obtain⟨⟨⟨⟨hf,h1⟩,h2⟩,h3⟩,h4⟩:=gu
    have h1:=apk h1
    have h2:=apk h2
    have h3:=apk h3
    have h4:=apa h4
    obtain rfl:=ti h
    replace hn:=hn (by simp)
    have UO:∃inf,P.info? el=some inf∧inf.bytes=bytes:=by
     cases oE:P.info? el with
     |none=>rw[oE]at qp;cases qp
     |some inf=>rw[oE]at qp;cases qp;exact⟨inf,rfl,rfl⟩
    obtain⟨inf,oE,rfl⟩:=UO
    have wi:ao2.wrap (i:Int)=i:=auH _ (by omega)
    have wc:ao2.wrap (c:Int)=c:=auH _ (by omega)
    have UP:inf.bytes*c≤1000000000000:=Nat.mul_le_mul h3 h2
    have j7:(atz t (.int ki i) (.int kc c)).run P w=.ok (.slice (some ⟨w.heap.size,0,none⟩) i c) (w.alloc (.cells (fg z.cells.toList c).toArray el)):=by
     unfold atz
     rw[aoR,run_underlying hu,aoQ]
     dsimp only
     rw[aoR,Kp,aoQ,aoR,Kp,aoQ]
     simp only[typeInfo,aoR,aqW,aoQ,oE,apA,wi,wc]
     have hp:(inf.bytes:Int)*(c:Int)≤1000000000000:=by rw[←Int.natCast_mul];omega
     generalize hq:(inf.bytes:Int)*(c:Int)=q at hp⊢
     have kW:(decide ((c:Int)<0)||decide (q>2^48))=false:=by
      rw[asL,decide_eq_false_iff_not,decide_eq_false_iff_not]
      exact⟨by omega,by omega⟩
     have gM:decide ((i:Int)<0)=false:=decide_eq_false_iff_not.2 (by omega)
     have UQ:decide ((i:Int)>(c:Int))=false:=decide_eq_false_iff_not.2 (by omega)
     have UR:¬(((decide ((c:Int)<0)||decide (q>2^48))=true∨(i:Int)<0)∨(i:Int)>(c:Int)):=by
      rw[kW];rintro((h|h)|h)
      ·cases h
      ·omega
      ·omega
     rw[if_neg (by first|exact UR|(simp only[Bool.or_eq_true,decide_eq_true_eq];omega))]
     have hlen:(fg z.cells.toList c).toArray=(atb (c*size)).map fun i=>z.cells[i%z.cells.size]! :=by rw[←h4];exact(DE z c).symm
     simp only[run_askRoom,aoQ,arj,aoR,run_sizeOf hs]
     by_cases h0:c*size=0
     ·simp only[h0,if_true,apA,aoQ,u6]
      rw[hlen,h0]
      have e:∀f:Nat→aoP,auM f (atb 0)= #[]:=fun f=>by apply aqI;simp
      rw[e]
      first|rfl|(rw[e];rfl)|(simp only[e];rfl)|skip
     ·simp only[h0,if_false,aoR,mZ hz,apA,aoQ,u6]
      rw[hlen]
    rw[aoR,j7,aoQ]
    have hlen:(fg z.cells.toList c).length=c*size:=by rw[zK,←h4];simp
    refine Fits.newRow hw hn (by simp) (by simpa using(xr hf).fg c) fun ρ' h'=>?_
    simpa using VR.sl (ρ:=ρ') n 0 i c c _ h' (.inl rfl)
   ·cases h
  ·cases h
 ·cases h
end
end Go.Proofs.YtnlkkgpcikkpoaaGreat.Vm
namespace Go.Proofs.YtnlkkgpcikkpoaaGreat.Vm
open Go.RowKit
section
variable {P:ao7} {B:Nat→Prop} {w₀:ao4} {ρ:Ren} {g:Nat→Option ak} {n:Nat} {w:ao4}
theorem Kq(off:Nat):∀(vs:List aoP) (k:Nat) (c:Array aoP),
 (vs.zipIdx k).foldl (fun(cs:Array aoP) (x:aoP×Nat)=>cs.setIfInBounds (off+x.2) x.1) c=ql c (off+k) vs
 | [],k,c=>rfl
 |v::vs,k,c=>by
  rw[List.zipIdx_cons,List.foldl_cons,Kq off vs (k+1)]
  rfl
theorem US(off:Nat)(vs:Array aoP)(c:Array aoP):
 vs.zipIdx.foldl (fun(cs:Array aoP) (x:aoP×Nat)=>cs.setIfInBounds (off+x.2) x.1) c=ql c off vs.toList:=by
 rw[←Array.foldl_toList,Array.toList_zipIdx,Kq]
 rfl
theorem LR.splice{c:List aoP}{c':Array aoP}(h:LR ρ c c'.toList){vs jH:List aoP}(hv:LR ρ vs jH){off:Nat}(hle:off+vs.length≤c.length):
 LR ρ (bf c off vs) (ql c' off jH).toList:=by
 have hl:=h.len
 have DF:=hv.len
 refine⟨by rw[oD hle];simpa[Ds]using hl,fun i v v' h1 h2=>?_⟩
 rw[Dv hle]at h1
 rw[Array.getElem?_toList,zE _ _ _ _ (by simp at hl;omega)]at h2
 by_cases fq:off≤i∧i<off+vs.length
 ·rw[if_pos fq]at h1
  rw[if_pos (by omega)]at h2
  exact hv.at_ _ _ _ h1 h2
 ·rw[if_neg fq]at h1
  rw[if_neg (by omega)]at h2
  exact h.at_ i v v' h1 (by simpa using h2)
inductive PR(ρ:Ren):List (Nat×aoP)→List (Nat×aoP)→Prop where
 |nil:PR ρ [] []
 |cons (i:Nat) (v v':aoP) (l l':List (Nat×aoP)) (h:VR ρ v v') (hl:PR ρ l l'):PR ρ ((i,v)::l) ((i,v')::l')
theorem PR.map{e e':aqo→aoP}:∀(l:List (Nat×aqo)),(∀x∈l,VR ρ (e x.2) (e' x.2))→PR ρ (l.map fun x=>(x.1,e x.2)) (l.map fun x=>(x.1,e' x.2))
 | [],_=>.nil
 |(i,x)::l,h=>.cons _ _ _ _ _ (h (i,x) (by simp)) (PR.map l fun y hy=>h y (by simp[hy]))
theorem DG{pl:Nat→Option (Nat×Nat)}:∀{parts m7:List (Nat×aoP)},PR ρ parts m7→∀{c:List aoP} {c':Array aoP} {out:List aoP},LR ρ c c'.toList→
 sX pl c parts=some out→∃qq,auw pl c' m7=some qq∧LR ρ out qq.toList:=by
 intro parts m7 hp
 induction hp with
 |nil=>intro c c' out hc h;simp[sX]at h;subst h;exact⟨c',rfl,hc⟩
 |cons i v v' l l' hv hl ih=>
  intro c c' out hc h
  unfold sX at h
  unfold auw
  cases pv:pl i with
  |none=>rw[pv]at h;cases h
  |some p=>
   obtain⟨off,k⟩:=p
   rw[pv]at h
   simp only[]at h⊢
   split at h
   ·rename_i gu
    simp only[ao3]at gu
    obtain⟨h1,h2⟩:=gu
    have h1:=apa h1
    have h2:=apk h2
    have hs:=hv.cells.Du
    have eh:=hc.len
    simp only[Array.length_toList]at eh
    rw[if_neg (by simp;omega)]
    have:=US off v'.cells c'
    rw[this]
    exact ih (hc.splice hv.cells (by simp;omega)) h
   ·cases h
theorem run_places{fs:List ar1}:∀{ps:List (Nat×Nat)},uQ P fs=some ps→(fs.mapM (m:=Sem) fun f=>do pure (f.offset,←sizeOf f.type)).run P w=.ok ps w:=by
 induction fs with
 |nil=>intro ps h;simp[uQ]at h;subst h;rfl
 |cons f fs ih=>
  intro ps h
  unfold uQ at h
  split at h
  ·rename_i k r hk hr
   cases h
   rw[List.mapM_cons,aoR,aoR,run_sizeOf hk,aoQ,apA,aoQ,aoR,ih hr,aoQ]
   rfl
  ·cases h
theorem UT{fs:Array ar1}{ps:List (Nat×Nat)}(h:uQ P fs.toList=some ps):(fs.mapM (m:=Sem) fun f=>do pure (f.offset,←sizeOf f.type)).run P w=.ok ps.toArray w:=by
 rw[Array.mapM_eq_mapM_toList,Sem.run_map,run_places h]
 rfl
theorem UU(hw:WR P B w₀ ρ g w){t:ao1}{parts:List (Nat×aoP)}{m7:Array (Nat×aoP)}(hp:PR ρ parts m7.toList){out:bq}{l:List Nat}
 (h:(CX P t parts).run g=some (out,l)):Fits P B w₀ ρ g n out ((do let v ←atc t m7;pure (ap4 v):Sem aqV).run P w):=by
 unfold CX at h
 split at h
 ·rename_i z fs hz hu
  split at h
  ·rename_i ps jI hf
   split at h
   ·rename_i cs xu
    have UW:LR ρ z.cells.toList z.cells.toList:=xr hf
    obtain⟨qq,h1,h2⟩:=DG hp UW xu
    have:(atc t m7).run P w=.ok (.agg qq) w:=by
     unfold atc
     rw[aoR,mZ hz,aoQ]
     dsimp only
     rw[aoR,run_underlying hu,aoQ]
     dsimp only
     rw[aoR,UT jI,aoQ]
     have Dz:auw (fun x=>ps.toArray[x]?) z.cells m7.toList=some qq:=by
      have:(fun i:Nat=>ps.toArray[i]?)=(fun i:Nat=>ps[i]?):=by funext i;simp
      rw[this];exact h1
     rw[Dz]
     rfl
    rw[aoR,this]
    exact Fits.dG hw h (.xg (by simpa using h2))
   ·cases h
  ·cases h
 ·rename_i z k el hz hu
  split at h
  ·rename_i size hs hf
   split at h
   ·rename_i cs xu
    obtain⟨qq,h1,h2⟩:=DG hp (xr hf) xu
    have:(atc t m7).run P w=.ok (.agg qq) w:=by
     unfold atc
     rw[aoR,mZ hz,aoQ]
     dsimp only
     rw[aoR,run_underlying hu,aoQ]
     dsimp only
     rw[aoR,run_sizeOf hs,aoQ,h1]
     rfl
    rw[aoR,this]
    exact Fits.dG hw h (.xg (by simpa using h2))
   ·cases h
  ·cases h
 ·cases h
theorem UX(hw:WR P B w₀ ρ g w){t:ao1}{len:Nat}{parts:List (Nat×aoP)}{m7:Array (Nat×aoP)}(hp:PR ρ parts m7.toList){out:bq}{l:List Nat}
 (hn:out.nw≠none→g n=none)(h:(CY P t len parts n).run g=some (out,l)):Fits P B w₀ ρ g n out ((do let v ←ato t len m7;pure (ap4 v):Sem aqV).run P w):=by
 unfold CY at h
 split at h
 ·rename_i el hu
  split at h
  ·rename_i size z hs hz
   split at h
   ·rename_i gu
    simp only[ao3]at gu
    obtain⟨⟨hf,h1⟩,h2⟩:=gu
    have h1:=apk h1
    have h2:=apa h2
    split at h
    ·rename_i cs xu
     obtain rfl:=ti h
     replace hn:=hn (by simp)
     have xq:LR ρ (fg z.cells.toList len) ((fg z.cells.toList len).toArray).toList:=by simpa using(xr hf).fg len
     obtain⟨qq,h3,h4⟩:=DG hp xq xu
     have hzero:(fg z.cells.toList len).toArray=(atb (len*size)).map fun i=>z.cells[i%z.cells.size]! :=by rw[←h2];exact(DE z len).symm
     have j7:(ato t len m7).run P w=.ok (.slice (some ⟨w.heap.size,0,none⟩) len len) (w.alloc (.cells qq el)):=by
      unfold ato
      rw[aoR,run_underlying hu,aoQ]
      dsimp only
      rw[aoR,run_sizeOf hs,aoQ,if_neg (by omega)]
      by_cases h0:len*size=0
      ·have e:∀f:Nat→aoP,auM f (atb 0)= #[]:=fun f=>by apply aqI;simp
       have e2:(fg z.cells.toList len).toArray= #[]:=by rw[hzero,h0,e]
       rw[e2]at h3
       simp only[h0,if_true,aoR,apA,aoQ,e,h3,u6]
      ·rw[hzero]at h3
       simp only[h0,if_false,aoR,mZ hz,apA,aoQ,h3,u6]
     rw[aoR,j7,aoQ]
     have xv:=h4.len
     refine Fits.newRow hw hn (by simpa using xv) h4 fun ρ' h'=>?_
     simpa using VR.sl (ρ:=ρ') n 0 len len len _ h' (.inl rfl)
    ·cases h
   ·cases h
  ·cases h
 ·cases h
theorem zL{k:IntKind}{i m:Nat}(code:BoundsCode)(h:i≤m):(ar2 (.int k i) m code).run P w=.ok i w:=by
 unfold ar2
 simp only[asIntOf,aoR,apA,aoQ]
 rw[if_pos ⟨by omega,by omega⟩]
 simp
theorem DH{isSlice:Bool}{len cap l h:Nat}{lo hi:Option aoP}(m8:oh 0 lo=some l)(pw:oh len hi=some h)(h1:l≤h)(h2:h≤cap):
 (aui isSlice len cap lo hi none).run P w=.ok (l,h,cap) w:=by
 unfold aui
 cases hi with
 |none=>
  simp only[oh,aoU]at pw
  subst pw
  cases lo with
  |none=>
   simp only[oh,aoU]at m8
   subst m8
   simp
  |some v=>
   obtain⟨k,rfl⟩:=pu m8
   simp only[aoR,apA,aoQ,at7,apT,if_false,zL _ h1]
 |some u=>
  obtain⟨ku,rfl⟩:=pu pw
  cases lo with
  |none=>
   simp only[oh,aoU]at m8
   subst m8
   simp only[aoR,apA,aoQ,zL _ h2]
  |some v=>
   obtain⟨k,rfl⟩:=pu m8
   simp only[aoR,apA,aoQ,at7,apT,if_false,zL _ h1,zL _ h2]
theorem zM{d m:Nat}{o o':Option aoP}(hr:∀v,o=some v→∃v',o'=some v'∧VR ρ v v')(xp:o=none→o'=none)(h:oh d o=some m):o'=o:=by
 cases o with
 |none=>exact xp rfl
 |some v=>
  obtain⟨v',rfl,hv⟩:=hr v rfl
  obtain⟨k,rfl⟩:=pu h
  rw[hv.jG]
theorem DI{o o':Option aoP}(hr:∀v,o=some v→∃v',o'=some v'∧VR ρ v v')(xp:o=none→o'=none)(h:o.all fl=true):o'=o:=by
 cases o with
 |none=>exact xp rfl
 |some v=>
  obtain⟨v',rfl,hv⟩:=hr v rfl
  rw[mW (by simpa using h) hv]
structure qt(ρ:Ren)(o o':Option aoP):Prop where
 some_:∀v,o=some v→∃v',o'=some v'∧VR ρ v v'
 none_:o=none→o'=none
theorem qt.map{e e':aqo→aoP}(x:Option aqo)(h:∀y,x=some y→VR ρ (e y) (e' y)):qt ρ (x.map e) (x.map e'):=by
 cases x with
 |none=>exact⟨by simp,by simp⟩
 |some y=>exact⟨fun v hv=>by simp at hv;subst hv;exact⟨_,rfl,h y rfl⟩,by simp⟩
theorem UY(hw:WR P B w₀ ρ g w){t:ao1}{x x':aoP}(hx:VR ρ x x'){lo Kr hi fo mx Ks:Option aoP}(m8:qt ρ lo Kr)(pw:qt ρ hi fo)(zN:qt ρ mx Ks)
 {out:bq}{l:List Nat}(h:(rl P t x lo hi mx).run g=some (out,l)):Fits P B w₀ ρ g n out ((do let v ←aq3 t x' Kr fo Ks;pure (ap4 v):Sem aqV).run P w):=by
 unfold rl at h
 split at h
 ·rename_i hf
  split at h
  ·rename_i fQ
   simp only[ao3]at fQ
   rw[mW hf hx,DI m8.some_ m8.none_ fQ.1.1,DI pw.some_ pw.none_ fQ.1.2,DI zN.some_ zN.none_ fQ.2]
   exact oC hw h
  ·cases h
 ·split at h
  ·rename_i el b off len cap hu _
   rw[zN.none_ rfl]
   split at h
   ·rename_i i j size fo kD hs
    rw[zM m8.some_ m8.none_ fo,zM pw.some_ pw.none_ kD]
    split at h
    ·rename_i gu
     simp only[ao3]at gu
     have h1:=apk gu.1
     have h2:=apk gu.2
     obtain⟨o,l',hb,hk,rfl⟩:=Rd.run_read h
     split at hk
     ·rename_i c eb ro
      split at hk
      ·rename_i sb DJ
       split at hk
       ·rename_i hle
        have hle:=apk hle
        have UZ:(i=0→j=0→(aq3 t (.slice none len 0) lo hi none).run P w=.ok (.slice none 0 0) w):=by
         intro u7 tk
         subst u7 tk
         unfold aq3
         rw[aoR,run_underlying hu,aoQ]
         dsimp only
         unfold aun
         rw[aoR,run_underlying hu,aoQ]
         dsimp only
         rw[aoR,DH fo kD h1 (apn _),aoQ]
         dsimp only
         try rw[aoR,run_sizeOf hs,aoQ]
         try rfl
        have key:∀(a:arf) (bI:Nat),j≤bI→(aq3 t (.slice (some a) len bI) lo hi none).run P w=.ok (.slice (if bI=i then some a else some (a.add (i*size))) (j-i) (bI-i)) w:=by
         intro a bI gU
         unfold aq3
         rw[aoR,run_underlying hu,aoQ]
         dsimp only
         unfold aun
         rw[aoR,run_underlying hu,aoQ]
         dsimp only
         rw[aoR,DH fo kD h1 gU,aoQ]
         dsimp only
         rw[aoR,run_sizeOf hs,aoQ]
         rfl
        cases hx with
        |bM _ h=>cases h
        |eD _ a'=>
         have u7:i=0:=by omega
         have tk:j=0:=by omega
         cases a' with
         |none=>
          rw[aoR,UZ u7 tk,aoQ]
          subst u7 tk
          refine Fits.dG hw hk ?_
          simpa using VR.eD (ρ:=ρ) ⟨b,off+0*size,none⟩ none
         |some a'=>
          rw[aoR,key a' 0 h2,aoQ]
          subst u7 tk
          refine Fits.dG hw hk ?_
          simpa using VR.eD (ρ:=ρ) ⟨b,off+0*size,none⟩ (some a')
        |sl _ _ _ _ bI r hr hc=>
         have jn:cap≤bI:=by rcases hc with hc|hc<;>omega
         rw[aoR,key _ bI (by omega),aoQ]
         refine Fits.dG hw hk ?_
         by_cases Kt:bI=i
         ·rw[if_pos Kt]
          have e1:j-i=0:=by omega
          have e2:cap-i=0:=by omega
          have e3:bI-i=0:=by omega
          rw[e1,e2,e3]
          exact .eD _ _
         ·rw[if_neg Kt,pr,aqP]
          refine .sl _ _ _ _ _ r hr ?_
          rcases hc with hc|⟨kW,gM⟩
          ·left;omega
          ·right
           refine⟨by omega,?_⟩
           have cd:r.sz=sb:=Kc hw hb hr sb DJ
           rw[cd]at gM⊢
           have:i*size+(bI-i)*sb≤bI*sb:=by
            have h3:i*size≤i*sb:=Nat.mul_le_mul_left _ hle
            have h4:i*sb+(bI-i)*sb=bI*sb:=by rw[←Nat.add_mul];congr 1;omega
            omega
           omega
       ·cases hk
      ·cases hk
     ·cases hk
    ·cases h
   ·cases h
  ·rename_i k el b off hu _
   rw[zN.none_ rfl]
   obtain⟨r,hr,rfl⟩:=hx.ky
   split at h
   ·rename_i i j size fo kD hs
    rw[zM m8.some_ m8.none_ fo,zM pw.some_ pw.none_ kD]
    split at h
    ·rename_i gu
     simp only[ao3]at gu
     have h1:=apk gu.1
     have h2:=apk gu.2
     have key:(aq3 t (.pointer (some ⟨r.aN,r.sh+off,none⟩)) lo hi none).run P w=.ok (.slice (some (if k=i then⟨r.aN,r.sh+off,none⟩else(⟨r.aN,r.sh+off,none⟩:arf).add (i*size))) (j-i) (k-i)) w:=by
      unfold aq3
      rw[aoR,run_underlying hu,aoQ]
      dsimp only
      simp only[arI,aoR,apA,aoQ,DH fo kD h1 h2,run_sizeOf hs]
     rw[aoR,key,aoQ]
     refine Fits.dG hw h ?_
     by_cases DK:k=i
     ·subst DK
      have e:ao6 k k=true:=Nat.beq_refl k
      simp only[e,if_true,Nat.add_zero]
      exact .sl _ _ _ _ _ r hr (.inl rfl)
     ·have e:ao6 k i=false:=by
       cases hb:ao6 k i with
       |false=>rfl
       |true=>exact absurd (apa hb) DK
      simp only[e,apT,if_false,DK,pr,aqP]
      exact .sl _ _ _ _ _ r hr (.inl rfl)
    ·cases h
   ·cases h
  ·cases h
end
end Go.Proofs.YtnlkkgpcikkpoaaGreat.Vm
namespace Go.Proofs.YtnlkkgpcikkpoaaGreat.Vm
open Go.RowKit
section
variable {P:ao7} {B:Nat→Prop} {w₀:ao4} {ρ:Ren} {g:Nat→Option ak} {w:ao4}
theorem WR.xw(h:WR P B w₀ ρ g w){n:Nat}(hn:g n=none){o:ak}{r:bT}(hl:Live o r=false)
 (Dp:∀m size row,o=.rows m size row→0<m→mX P w₀ B r m size row)(qk:∀el ro,o=.cells [] el ro→∀k,b7 P el=some k→r.sz=k)(Dn:∀d,o≠ .abs d:=by intro d e;cases e):WR P B w₀ (ρ.put n r) (cT g n o) w:=
 h.put hn (fun y hy=>.inl (ec _ hy)) (fh _ _ _) (gq.refl B w) (apn _) (fun y oy ry _ _ h1 h2 h3=>rfl) (fun e=>by rw[hl]at e;cases e) (fun e=>by rw[hl]at e;cases e) (fun k _ _ _=>⟨rfl,fun e=>by rw[hl]at e;cases e⟩) Dn Dp qk
theorem WR.Ku(h:WR P B w₀ ρ g w){n:Nat}(hn:g n=none){c:List aoP}{el:ao1}{r:bT}(hz:∀k,b7 P el=some k→r.sz=k)
 (hc:c≠[]∨r.dz≠0→B r.aN∧∃(c':Array aoP) (b8:ao1) (fr:Nat×Nat),w.heap[r.aN]?=some (.cells c' b8 fr)∧c'.size=r.dz∧r.sh+c.length≤r.dz∧
  ∀(i:Nat) (v:aoP),c[i]?=some v→∃v',c'[r.sh+i]?=some v'∧VR (ρ.put n r) v v'):WR P B w₀ (ρ.put n r) (cT g n (.cells c el true)) w:=by
 have oF:Live (.cells c el true) r=true→B r.aN∧∃(c':Array aoP) (b8:ao1) (fr:Nat×Nat),w.heap[r.aN]?=some (.cells c' b8 fr)∧c'.size=r.dz∧r.sh+c.length≤r.dz∧
  ∀(i:Nat) (v:aoP),c[i]?=some v→∃v',c'[r.sh+i]?=some v'∧VR (ρ.put n r) v v':=fun hl=>by
  refine hc ?_
  by_cases bu:c=[]
  ·right
   intro e
   subst bu
   simp[Live,e]at hl
  ·exact .inl bu
 refine h.put hn (fun y hy=>.inl (ec _ hy)) (fh _ _ _) (gq.refl B w) (apn _) (fun y oy ry _ _ h1 h2 h3=>rfl) (fun hl=>?_) (fun hl y oy ry e h0 h1 h2 h3 hd e'=>?_) (fun k _ k2 _=>⟨rfl,fun hl e=>k2 (e▸(oF hl).1)⟩) (fun d e=>by cases e) (fun m s q e=>by cases e) (fun b8 ro e=>by cases e;exact hz)
 ·obtain⟨hB,c',b8,fr,hb,hp,hs,jn⟩:=oF hl
  exact⟨_,hb,.cells c el b8 true c' fr hp hs (fun e=>by cases e) hz (fun e=>by cases e) jn,fun e=>by cases e⟩
 ·obtain⟨hB,_⟩:=oF hl
  obtain⟨_,_,_,h6⟩:=h.live y oy ry h1 h2 h3
  rcases hd with hd|hd
  ·exact h6 hd (e'▸hB)
  ·cases hd
def iP(g:Nat→Option ak):Nat→List ak→Nat→Option ak
 |_,[]=>g
 |k,o::l=>iP (cT g k o) (k+1) l
theorem Kv(g:Nat→Option ak):∀(k:Nat) (l l':List ak),iP g k (l++l')=iP (iP g k l) (k+l.length) l'
 |k,[],l'=>rfl
 |k,o::l,l'=>by
  show iP (cT g k o) (k+1) (l++l')=_
  rw[Kv]
  simp only[apC]
  rw[show k+1+l.length=k+(l.length+1)by omega]
  rfl
theorem zO{k x:Nat}{l:List ak}{g:Nat→Option ak}(h:x<k∨k+l.length≤x):iP g k l x=g x:=by
 induction l generalizing k g with
 |nil=>rfl
 |cons o l ih=>
  show iP (cT g k o) (k+1) l x=_
  rw[ih (by simp only[apC]at h;omega),ec _ (by simp only[apC]at h;omega)]
theorem rC:∀l:List SV,(gF l).length=kV l
 | []=>rfl
 | .val _::l=>rC l
 | .cells _ _ _::l=>by show(gF l).length+1=_;rw[rC l];rfl
 | .rows _ _ _::l=>by show(gF l).length+1=_;rw[rC l];rfl
structure gv(P:ao7)(w₀:ao4)(B:Nat→Prop)(l:List SV)(l':List aoP):Prop where
 len:l.length=l'.length
 at_:∀(i:Nat) (s:SV) (v:aoP),l[i]?=some s→l'[i]?=some v→SR P w₀ B s v
theorem gv.tail{s:SV}{v:aoP}{l:List SV}{l':List aoP}(h:gv P w₀ B (s::l) (v::l')):gv P w₀ B l l':=
 ⟨by simpa using h.len,fun i a b h1 h2=>h.at_ (i+1) a b (by simpa using h1) (by simpa using h2)⟩
theorem SR.U0{n:Nat}{c:List aoP}{el:ao1}{v:aoP}(h:SR P w₀ B (.cells n c el) v)(hb:gq B w₀ w):
 ∃r:bT,(∀k,b7 P el=some k→r.sz=k)∧(∀(ρ:Ren) (x:Nat),ρ x=some r→VR ρ (.slice (some ⟨x,0,none⟩) n n) v)∧
  (c≠[]∨r.dz≠0→B r.aN∧∃(c':Array aoP) (b8:ao1) (fr:Nat×Nat),w.heap[r.aN]?=some (.cells c' b8 fr)∧c'.size=r.dz∧r.sh+c.length≤r.dz∧
   ∀(ρ:Ren) (i:Nat) (v:aoP),c[i]?=some v→∃v',c'[r.sh+i]?=some v'∧VR ρ v v'):=by
 cases h with
 |nil _ a=>exact⟨⟨0,0,(b7 P el).getD 0,0⟩,fun k hk=>by simp[hk],fun ρ x _=>.eD _ _,fun hc=>by rcases hc with hc|hc<;>exact absurd rfl hc⟩
 |cells _ _ _ b off cap c' b8 fr hB gY hc hl hn gU=>
  refine⟨⟨b,off,(b7 P el).getD 0,c'.size⟩,fun k hk=>by simp[hk],fun ρ x hx=>?_,fun _=>⟨hB,c',b8,fr,(hb.block b hB).trans gY,rfl,hl,fun ρ i v hv=>?_⟩⟩
  ·refine .sl x 0 n n cap _ hx ?_
   right
   refine⟨hn,?_⟩
   dsimp only
   cases hs:b7 P el with
   |none=>simp;omega
   |some s=>have:=gU s hs;simpa using this
  ·obtain⟨h1,h2⟩:=hc i v hv
   exact⟨v,h2,.bM v h1⟩
theorem SR.U1{n size:Nat}{row:Nat→List SV}{v:aoP}(h:SR P w₀ B (.rows n size row) v):
 ∃r:bT,(0<n→mX P w₀ B r n size row)∧(∀(ρ:Ren) (x:Nat),ρ x=some r→VR ρ (.slice (some ⟨x,0,none⟩) n n) v):=by
 cases h with
 |nI _ _ a=>exact⟨⟨0,0,0,0⟩,fun h=>absurd h (by omega),fun ρ x _=>.eD _ _⟩
 |rows _ _ _ b off cap c' b8 fr hB gY hl hn gU hlen u hu hr=>
  refine⟨⟨b,off,size,c'.size⟩,fun _=>⟨hB,rfl,c',b8,fr,gY,rfl,hl,fun i hi=>⟨hlen i hi,fun k sv hk=>?_⟩⟩,fun ρ x hx=>.sl x 0 n n cap _ hx (.inr ⟨hn,gU⟩)⟩
  have u9:k<size:=by rw[←hlen i hi];exact(ao0.1 hk).1
  exact⟨_,hu i k hi u9,hr i k sv hi hk⟩
theorem xx:∀{l:List SV} {l':List aoP} {k:Nat} {g:Nat→Option ak} {ρ:Ren},gv P w₀ B l l'→WR P B w₀ ρ g w→(∀j,j<kV l→g (k+j)=none)→
 ∃ρ',ρ.le ρ'∧WR P B w₀ ρ' (iP g k (gF l)) w∧LR ρ' (ml l k) l'
 | [],l',k,g,ρ,hs,hw,hf=>by
  have:l'=[]:=by have:=hs.len;exact apL (by simpa using this.symm)
  subst this
  exact⟨ρ,Ren.le_refl ρ,hw,LR.nil ρ⟩
 |s::l,[],k,g,ρ,hs,hw,hf=>by have:=hs.len;simp at this
 | .val v::l,v'::l',k,g,ρ,hs,hw,hf=>by
  obtain⟨ρ',h1,h2,h3⟩:=xx (k:=k) hs.tail hw hf
  have h0:=hs.at_ 0 _ _ rfl rfl
  cases h0 with
  |val _ hv=>exact⟨ρ',h1,h2,LR.cons (.bM v hv) h3⟩
 | .cells n c el::l,v'::l',k,g,ρ,hs,hw,hf=>by
  obtain⟨r,h1,h2,h3⟩:=(hs.at_ 0 _ _ rfl rfl).U0 hw.below
  have hk:g k=none:=hf 0 (by simp[kV])
  have gV:=hw.Ku hk h1 fun bu=>let⟨a,c',b8,fr,b1,b2,b3,b4⟩:=h3 bu;⟨a,c',b8,fr,b1,b2,b3,b4 _⟩
  obtain⟨ρ',h4,h5,h6⟩:=xx (k:=k+1) hs.tail gV fun j hj=>by
   rw[ec _ (by omega),show k+1+j=k+(j+1)by omega]
   exact hf (j+1) (by simp only[kV];omega)
  exact⟨ρ',Ren.le_trans (Ren.j6 (hw.fresh k hk) r) h4,h5,LR.cons (h2 _ _ (h4 _ _ (Ren.kC _ _ _))) h6⟩
 | .rows n size row::l,v'::l',k,g,ρ,hs,hw,hf=>by
  obtain⟨r,h1,h2⟩:=(hs.at_ 0 _ _ rfl rfl).U1
  have hk:g k=none:=hf 0 (by simp[kV])
  have gV:=hw.xw hk (o:=.rows n size row) (r:=r) rfl (fun m s q e hm=>by cases e;exact h1 hm) (fun el tf e=>by cases e)
  obtain⟨ρ',h4,h5,h6⟩:=xx (k:=k+1) hs.tail gV fun j hj=>by
   rw[ec _ (by omega),show k+1+j=k+(j+1)by omega]
   exact hf (j+1) (by simp only[kV];omega)
  exact⟨ρ',Ren.le_trans (Ren.j6 (hw.fresh k hk) r) h4,h5,LR.cons (h2 _ _ (h4 _ _ (Ren.kC _ _ _))) h6⟩
end
end Go.Proofs.YtnlkkgpcikkpoaaGreat.Vm
