/- Part of the proof: Va. -/
import Derived.Orders
import Derived.Tactics2
import Derived.Laws.World
import Derived.Laws.Sem
import Derived.Below
import Derived.Test.YtnlkkgpcikkpoaaJAa
import Derived.Laws.Cells
import Derived.Laws.BytesString
import Derived.Laws.BytesArg
import Derived.Laws.Slices
import Derived.IntWalk
open Array renaming ext'→aof,getElem?_modify→aoV,getElem?_push→aql,map→arW,range→aqw,replicate→aoy,size_append→aqF,size_map→arQ,size_replicate→aq9,toList_extract→aox
open Bool renaming and_eq_true→amB,false_eq_true→anr,not_true→aqD,or_eq_false_iff→ap9
open ForInStep renaming yield→arG
open Go renaming Addr→aoH,Field→apt,FuncId→amY,MapEntry→amW,Next→aoo,Oper→anp,Operand→anX,Program→amF,TypeDesc→apY,TypeId→amz,Value→amn,World→amC,foldl_push_bytes→arC,run_bytesToString→arv,run_convert_bytes_string→apa,run_newObj→arF,run_program→aor
open Go.Conv renaming stringToBytes→aqy
open Go.Instr renaming alloc→asg,box→ast,build→aqx,buildSlice→aqJ,extract→arh,field→ary,fieldAt→ari,fill→arI,index→apA,indexAt→ao0,loadAt→ar6,makeInterface→aqk,makeMap→arX,makeSlice→aqS,panic→asf,slice→arz,sliceAt→aow,sliceBound→apu,sliceBounds→arw,storeAt→arf,sureAddr→ao6,typeAssert→aqI
open Go.IntKind renaming i64→amA
open Go.IntWalk renaming i64_in→arR
open Go.Next renaming value→anC
open Go.Op renaming equal→ao8,equalIn→apg
open Go.Question renaming appendCap→apG,cut→arm
open Go.Region renaming binds→aoA
open Go.Result renaming andThen_ok→amo
open Go.RowKit.Below renaming heap_alloc→ao7
open Go.Sem renaming run→aoN,run_bind→amp,run_pure→am6
open Go.Value renaming int→amu,oneCell'→ano
open Go.World renaming alloc→ash,freeze→ar7,shape?→ar8
open Int renaming toNat_natCast→aoK
open List renaming all_eq_true→am1,append_assoc→amQ,eq_nil_of_length_eq_zero→ant,ext_getElem?→apq,extract_eq_take_drop→aou,getElem?_append_left→ane,getElem?_append_right→am5,getElem?_drop→anK,getElem?_eq_getElem→amt,getElem?_eq_none→anH,getElem?_eq_some_iff→amy,getElem?_take→anJ,isEmpty_iff→aoM,length_cons→am9,mem_of_getElem?→am8,take_of_length_le→anI
open Nat renaming add_assoc→aok,beq→amE,ble→amO,blt→amG,eq_of_beq_eq_true→amI,land→aq8,le_of_ble_eq_true→amS,le_of_eq→aoB,le_refl→amX,lor→ap4,lt_of_lt_of_le→aoS,min→aqo,one_ne_zero→arH,pow_succ→ar4,shiftRight→apL,succ_mul→aqa
open Option renaming isSome_none→arn
open Option.some renaming injEq→amr
open Prod.mk renaming injEq→amv
open UInt8 renaming ofNat→ao5
set_option linter.unusedVariables false
set_option linter.unusedSimpArgs false
namespace Go.Proofs.Ytnlkkgpcikkpoaa.Vm
inductive SV where
 |val (v:amn)
 |cells (n:Nat) (c:List amn) (elem:amz)
 |rows (n size:Nat) (row:Nat→List SV)
inductive ai where
 |cells (c:List amn) (elem:amz) (ro:Bool)
 |map (es:List amW) (clock:Nat)
 |kr (s:ByteArray) (pos:Nat)
 |dead
 |rows (n size:Nat) (row:Nat→List SV)
 |abs (d:kU)
inductive Tr(α:Type) where
 |nil
 |node (l:Tr α) (v:Option α) (r:Tr α)
def Tr.get{α:Type}:Nat→Tr α→Nat→Option α
 |0,.node _ v _,_=>v
 |0,.nil,_=>none
 |_+1,.nil,_=>none
 |k+1,.node l _ r,n=>match amE (n%2) 0 with
  |true=>l.get k (n/2)
  |false=>r.get k (n/2)
def Tr.set{α:Type}:Nat→Tr α→Nat→α→Tr α
 |0,_,_,o=>.node .nil (some o) .nil
 |k+1,.nil,n,o=>match amE (n%2) 0 with
  |true=>.node (Tr.set k .nil (n/2) o) none .nil
  |false=>.node .nil none (Tr.set k .nil (n/2) o)
 |k+1,.node l v r,n,o=>match amE (n%2) 0 with
  |true=>.node (Tr.set k l (n/2) o) v r
  |false=>.node l v (Tr.set k r (n/2) o)
def small(n:Nat):Bool:=amG n 262144
def gt(t:Tr ai)(n:Nat):Option ai:=match small n with
 |true=>t.get 18 n
 |false=>none
structure VS where
 mem:Tr ai
 next:Nat
 rd:List Nat
 wr:List Nat
inductive Rd(α:Type) where
 |done (a:α)
 |fail
 |read (x:Nat) (k:ai→Rd α)
def Rd.run{α:Type}(g:Nat→Option ai):Rd α→Option (α×List Nat)
 | .done a=>some (a,[])
 | .fail=>none
 | .read x k=>match g x with
  |none=>none
  |some o=>match(k o).run g with
   |none=>none
   |some (a,l)=>some (a,x::l)
def Rd.bind{α β:Type}:Rd α→(α→Rd β)→Rd β
 | .done a,f=>f a
 | .fail,_=>.fail
 | .read x k,f=>.read x fun o=>(k o).bind f
def fB{α:Type}:Option α→Rd α
 |some a=>.done a
 |none=>.fail
inductive jE where
 |val (v:amn)
 |skip
 |enter (f:amY) (args:List amn)
 |panic (v:amn)
 |defer (d:Deferred)
structure bi where
 r:jE
 ws:List (Nat×ai)
 nw:Option ai
def flat:Nat→amn→Bool
 |_,.bool _|_,.int _ _|_,.float _ _|_,.complex _ _ _|_,.string _|_,.pointer none|_,.map none|_,.chan none|_,.nilFunc|_,.nilIface=>true
 |_,.slice none 0 0=>true
 |_,.func (.func _) f c=>f.toList.isEmpty&&c.toList.isEmpty
 |d+1,.iface _ v=>flat d v
 |d+1,.agg cs=>cs.toList.all (flat d)
 |d+1,.tuple cs=>cs.toList.all (flat d)
 |_,_=>false
abbrev fl(v:amn):Bool:=flat 6 v
def fY{α:Type}(P:amF):Sem α→Option (Except amn α)
 | .pure a=>some (.ok a)
 | .program k=>fY P (k P)
 | .mark _ k=>fY P k
 | .halt (.panic v)=>some (.error v)
 |_=>none
structure Fr where
 t:Tr amn
 n:Nat
 ds:List (amY×List amn)
 base:List Deferred
def Fr.at(f:Fr)(i:Nat):amn:=match amG i f.n with
 |true=>match f.t.get 10 i with
  |some v=>v
  |none=>undef
 |false=>undef
def Fr.set(f:Fr)(i:Nat)(v:amn):Option Fr:=match f with
 |⟨t,n,ds,base⟩=>match amG i n with
  |true=>some ⟨t.set 10 i v,n,ds,base⟩
  |false=>none
theorem Fr.qy(f:Fr)(i:Nat)(v:amn):f.set i v=match amG i f.n with
 |true=>some {f with t:=f.t.set 10 i v}
 |false=>none:=by cases f;rfl
def Fr.qz:List amn→Nat→Tr amn→Tr amn
 | [],_,t=>t
 |v::l,i,t=>Fr.qz l (i+1) (t.set 10 i v)
def Fr.of(args:List amn)(n:Nat):Option Fr:=match amO args.length n&&amO n 1024 with
 |true=>some ⟨Fr.qz args 0 .nil,n,[],[]⟩
 |false=>none
def bK(t:Fr):anX→amn
 | .tmp i=>t.at i
 | .const v=>v
 | .global g=>.pointer (some ⟨g,0,none⟩)
 | .func f=>.func (.func f) #[] #[]
def oE:anX→Bool
 | .global _=>false
 | .const v=>fl v
 |_=>true
section
variable (P:amF)
def bT(t:amz):Option Nat:=(P.info? t).map (·.size)
def nu(t:amz):Option Bool:=match P.underlying t with
 |some (.struct _)|some (.array _ _)=>some true
 |some _=>some false
 |none=>none
def val(v:amn):Rd bi:=.done ⟨.val v,[],none⟩
def new(ob:ai)(v:amn):Rd bi:=.done ⟨.val v,[],some ob⟩
def cut(c:List amn)(off n:Nat):Option (List amn):=match amO (off+n) c.length with
 |true=>some ((c.drop off).take n)
 |false=>none
def amk(c:List amn)(off:Nat)(vs:List amn):List amn:=c.take off++vs++c.drop (off+vs.length)
def pC(t:amz)(b off:Nat):Rd amn:=.read b fun
 | .cells c _ _=>match nu P t with
  |some true=>match bT P t with
   |some (n+1)=>match cut c off (n+1)with
    |some l=>.done (.agg l.toArray)
    |none=>.fail
   |_=>.fail
  |some false=>match c[off]?with
   |some v=>.done v
   |none=>.fail
  |none=>.fail
 |_=>.fail
def qA(size:Nat):amn→Nat→Rd (List amn)
 | .slice (some ⟨b,off,none⟩) _ _,n=>.read b fun
  | .cells c _ _=>fB (cut c off (n*size))
  |_=>.fail
 | .slice none _ _,_=>.done []
 | .string s,n=>.done ((s.data.toList.take n).map fun b=>.int .u8 b.toNat)
 |_,_=>.fail
def bytesOf:List amn→Option (List UInt8)
 | []=>some []
 | .int .u8 n::l=>match bytesOf l with
  |some r=>some (ao5 n.toNat::r)
  |none=>none
 |_::_=>none
def rW(size:Nat→Option (Nat×Nat))(cells:List amn):List (Nat×amn)→Option (List amn)
 | []=>some cells
 |(i,v)::rest=>match size i with
  |none=>none
  |some (off,n)=>match amE v.cells.size n&&amO (off+n) cells.length with
   |true=>rW size (amk cells off v.cells.toList) rest
   |false=>none
def places(P:amF):List apt→Option (List (Nat×Nat))
 | []=>some []
 |f::l=>match bT P f.type,places P l with
  |some n,some r=>some ((f.offset,n)::r)
  |_,_=>none
def eU(zero:List amn):Nat→List amn
 |0=>[]
 |n+1=>zero++eU zero n
def zeroOf(t:amz):Option amn:=(P.info? t).bind (·.zero)
def qB:amn→Option Nat
 | .slice _ n _=>some n
 | .string s=>some s.size
 |_=>none
def oF:amn→Option Nat
 | .int _ (.ofNat n)=>some n
 |_=>none
def nv(d:Nat):Option amn→Option Nat
 |none=>some d
 |some v=>oF v
def tV(elem:amz)(size len k:Nat)(base:Option aoH)(xs:List amn)(n:Nat):Rd bi:=match base with
 |none=>match len with
  |0=>.done ⟨.val (.slice (some ⟨n,0,none⟩) k k),[],some (.cells xs elem false)⟩
  |_=>.fail
 |some ⟨b,off,none⟩=>.read b fun
  | .cells c el false=>match amE (off+len*size) c.length&&amE el elem with
   |true=>.done ⟨.val (.slice (some ⟨n,0,none⟩) (len+k) (len+k)),[(b,.dead)],some (.cells (c.drop off++xs) elem false)⟩
   |false=>.fail
  |_=>.fail
 |_=>.fail
def vU(size len cap k:Nat)(base:Option aoH)(xs:List amn):Rd bi:=match base with
 |some ⟨b,off,none⟩=>.read b fun
  | .cells c el false=>match amO (len+k) cap&&amO (off+len*size+xs.length) c.length with
   |true=>.done ⟨.val (.slice (some ⟨b,off,none⟩) (len+k) cap),[(b,.cells (amk c (off+len*size) xs) el false)],none⟩
   |false=>.fail
  |_=>.fail
 |_=>.fail
def full(len cap:Nat):Bool:=match cap with
 |0=>true
 |c+1=>amO (c+1) len
def isInt:apY→Bool
 | .int _=>true
 |_=>false
def vV(argTypes:List amz)(args:List amn)(n:Nat):Rd bi:=
 match argTypes,args with
 |sT::xT::_,.slice base len cap::x::_=>match P.underlying sT,P.underlying xT with
  |some (.slice elem),some xd=>match bT P elem,qB x,zeroOf P elem,(P.info? elem).map (·.bytes)with
   |some size,some k,some z,some bytes=>match !isInt xd&&amO bytes 1000000&&amE z.cells.size size&&amG 0 size with
    |false=>.fail
    |true=>(qA size x k).bind fun xs=>match amO (len+k) 1000000&&xs.all ano&&amE xs.length (k*size)with
     |false=>.fail
     |true=>match full len cap with
      |true=>tV elem size len k base xs n
      |false=>vU size len cap k base xs
   |_,_,_,_=>.fail
  |_,_=>.fail
 |_,_=>.fail
def copyV(argTypes:List amz)(args:List amn):Rd bi:=
 match argTypes,args with
 |dT::_,.slice base len _::x::_=>match P.underlying dT with
  |some (.slice elem)=>match bT P elem,qB x with
   |some size,some k=>(qA size x (aqo k len)).bind fun xs=>
    match base with
    |none=>val (.int .i64 (aqo k len))
    |some ⟨b,off,none⟩=>.read b fun
     | .cells c el false=>match amO (off+xs.length) c.length&&xs.all ano with
      |true=>.done ⟨.val (.int .i64 (aqo k len)),[(b,.cells (amk c off xs) el false)],none⟩
      |false=>.fail
     |_=>.fail
    |_=>.fail
   |_,_=>.fail
  |_=>.fail
 |_,_=>.fail
def e7(k:amn):List amW→Nat→Option (Option (Nat×amn))
 | [],_=>some none
 |e::es,i=>match k,e.key with
  | .int a x,.int b y=>match a==b with
   |true=>if x==y then some (some (i,e.val))else e7 k es (i+1)
   |false=>none
  | .string x,.string y=>if x==y then some (some (i,e.val))else e7 k es (i+1)
  |_,_=>none
def oG(P:amF)(t:amz)(k:amn):Bool:=match P.underlying t,k with
 |some (.int _),.int _ _=>true
 |some .string,.string _=>true
 |_,_=>false
def BP(t:amz)(x k:amn)(ok:Bool):Rd bi:=
 match P.underlying t with
 |some (.map kt et)=>match oG P kt k,zeroOf P et with
  |true,some z=>
   let tell (r:Option (Nat×amn)):Rd bi:=match r with
    |some (_,v)=>val (if ok then .tuple #[v,.bool true]else v)
    |none=>val (if ok then .tuple #[z,.bool false]else z)
   match x with
   | .map none=>match fl z with
    |true=>tell none
    |false=>.fail
   | .map (some r)=>.read r fun
    | .map es _=>match e7 k es 0,fl z with
     |some f,true=>tell f
     |_,_=>.fail
    |_=>.fail
   |_=>.fail
  |_,_=>.fail
 |_=>.fail
def vW(t:amz)(x k v:amn):Rd bi:=
 match P.underlying t with
 |some (.map kt _)=>match oG P kt k,x with
  |true,.map (some r)=>.read r fun
   | .map es clock=>match e7 k es 0 with
    |some (some (i,_))=>.done ⟨.skip,[(r,.map (es.modify i fun e=>{e with key:=k,val:=v}) clock)],none⟩
    |some none=>.done ⟨.skip,[(r,.map (es++[{key:=k,val:=v,born:=clock}]) (clock+1))],none⟩
    |none=>.fail
   |_=>.fail
  |_,_=>.fail
 |_=>.fail
def vX(argTypes:List amz)(args:List amn):Rd bi:=
 match argTypes,args with
 |t::_,.map (some r)::k::_=>match P.underlying t with
  |some (.map kt _)=>match oG P kt k with
   |true=>.read r fun
    | .map es clock=>match e7 k es 0 with
     |some (some (i,_))=>.done ⟨.val (.tuple #[]),[(r,.map (es.eraseIdx i) clock)],none⟩
     |some none=>.done ⟨.val (.tuple #[]),[(r,.map es clock)],none⟩
     |none=>.fail
    |_=>.fail
   |false=>.fail
  |_=>.fail
 |_,_=>.fail
def BQ(argTypes:List amz)(args:List amn):Rd bi:=
 match argTypes,args with
 |t::_,x::_=>match P.underlying t,x with
  |some (.slice _),.slice _ n _=>val (.int .i64 n)
  |some (.map _ _),.map none=>val (.int .i64 0)
  |some (.map _ _),.map (some r)=>.read r fun
   | .map es _=>val (.int .i64 es.length)
   |_=>.fail
  |some (.array n _),_=>val (.int .i64 n)
  |some (.pointer a),_=>match P.underlying a with
   |some (.array n _)=>val (.int .i64 n)
   |_=>.fail
  |_,_=>.fail
 |_,_=>.fail
inductive Pl where
 |val (v:amn)
 |var (b off:Nat)
def vY(s:amz)(i:Nat):Option (Nat×amz×Nat):=match P.underlying s with
 |some (.struct fs)=>match fs[i]?with
  |some f=>match bT P f.type with
   |some (n+1)=>some (f.offset,f.type,n+1)
   |_=>none
  |none=>none
 |_=>none
def yq(t:amz):Pl→Rd amn
 | .val v=>.done v
 | .var b o=>pC P t b o
def tW:List FieldStep→amz→Pl→Rd (amz×Pl)
 | [],t,x=>.done (t,x)
 |s::rest,t,x=>match vY P s.struct s.index with
  |none=>.fail
  |some (off,ft,n)=>match s.deref with
   |true=>(yq P t x).bind fun
    | .pointer (some ⟨b,o,none⟩)=>tW rest ft (.var b (o+off))
    |_=>.fail
   |false=>match x with
    | .var b o=>tW rest ft (.var b (o+off))
    | .val _=>.fail
def BR(t:amz)(x:Pl)(ptr:Bool):Rd amn:=match P.underlying t,ptr,x with
 |some (.pointer _),true,.val v=>.done v
 |some (.pointer _),true,.var b o=>pC P t b o
 |some (.pointer e),false,.val (.pointer (some ⟨b,o,none⟩))=>pC P e b o
 |some (.pointer _),false,_=>.fail
 |some _,true,.var b o=>.done (.pointer (some ⟨b,o,none⟩))
 |some _,false,.val v=>.done v
 |some _,false,.var b o=>pC P t b o
 |_,_,_=>.fail
def yr:Nat→amz→amn→String→Rd (amY×amn)
 |0,_,_,_=>.fail
 |d+1,t,v,name=>match(P.info? t).bind (·.methods.find? (·.name==name))with
  |none=>.fail
  |some m=>(tW P m.path.toList t (.val v)).bind fun(xt,x)=>match m.func with
   |none=>(yq P xt x).bind fun
    | .iface t' v'=>yr d t' v' name
    |_=>.fail
   |some (f,ptr)=>(BR P xt x ptr).bind fun r=>.done (f,r)
def yu:apY→amn→amn→Option Bool
 | .pointer _,.pointer none,.pointer (some _)=>some false
 | .pointer _,.pointer (some _),.pointer none=>some false
 | .slice _,.slice none _ _,.slice (some _) _ c=>match amG 0 c with
  |true=>some false
  |false=>none
 | .slice _,.slice (some _) _ c,.slice none _ _=>match amG 0 c with
  |true=>some false
  |false=>none
 | .map _ _,.map none,.map (some _)=>some false
 | .map _ _,.map (some _),.map none=>some false
 | .func _ _ _,.nilFunc,.func _ _ _=>some false
 | .func _ _ _,.func _ _ _,.nilFunc=>some false
 | .interface _,.nilIface,.iface _ _=>some false
 | .interface _,.iface _ _,.nilIface=>some false
 |_,_,_=>none
def jY(s:Sem aoo):Rd bi:=match fY P s with
 |some (.ok (.value v))=>match fl v with
  |true=>val v
  |false=>.fail
 |some (.error v)=>match fl v with
  |true=>.done ⟨.panic v,[],none⟩
  |false=>.fail
 |_=>.fail
def enter(f:amY)(args:List amn):Rd bi:=match P.funcs[f]?with
 |some fn=>match fn.body with
  |some _=>.done ⟨.enter f args,[],none⟩
  |none=>match args.all fl with
   |true=>jY P (callFunc f args.toArray)
   |false=>.fail
 |none=>.fail
def yv(recv:amn)(name:String)(args:List amn):Rd bi:=match recv with
 | .iface t v=>(yr P 9 t v name).bind fun(f,r)=>enter P f (r::args)
 |_=>.fail
def Sh:Builtin→Bool
 | .len| .min| .max=>true
 |_=>false
def Si(b:Builtin)(argTypes:Array amz)(type:amz)(tX:Array Bool)(args:List amn):Rd bi:=
 jY P (builtin b argTypes type tX args.toArray)
def vZ(argTypes:List amz)(args:List amn):Rd bi:=
 match argTypes,args with
 |t::_,x::_=>match P.underlying t,x with
  |some _,.slice none _ _=>val (.tuple #[])
  |some _,.slice _ 0 _=>val (.tuple #[])
  |some (.slice el),.slice (some ⟨b,off,none⟩) k _=>match bT P el,zeroOf P el with
   |some size,some z=>.read b fun
    | .cells c ce false=>match fl z&&amE z.cells.size size&&amO (off+k*size) c.length&&z.cells.toList.all ano with
     |true=>.done ⟨.val (.tuple #[]),[(b,.cells (amk c off (eU z.cells.toList k)) ce false)],none⟩
     |false=>.fail
    |_=>.fail
   |_,_=>.fail
  |_,_=>.fail
 |_,_=>.fail
def BS(b:Builtin)(argTypes:Array amz)(type:amz)(tX:Array Bool)(args:List amn)(n:Nat):Rd bi:=
 match Sh b&&args.all fl with
 |true=>Si P b argTypes type tX args
 |false=>match b with
  | .append=>vV P argTypes.toList args n
  | .copy=>copyV P argTypes.toList args
  | .len=>BQ P argTypes.toList args
  | .delete=>vX P argTypes.toList args
  | .clear=>vZ P argTypes.toList args
  |_=>.fail
def IK(f:amn)(args:List amn):Rd bi:=match f with
 | .func (.func k) first captured=>enter P k (first.toList++args++captured.toList)
 | .func (.method name) first captured=>match first.toList++args with
  |recv::rest=>yv P recv name rest
  | []=>.fail
 |_=>.fail
def qC(c:Call)(e:anX→amn)(type:amz)(n:Nat):Rd bi:=
 match c.callee with
 | .builtin b=>BS P b c.argTypes type (c.args.map fun| .const _=>true|_=>false) (c.args.toList.map e) n
 | .invoke recv name=>yv P (e recv) name (c.args.toList.map e)
 | .value f=>IK P (e f) (c.args.toList.map e)
def BT(t:amz)(n:Nat):Rd bi:=match zeroOf P t with
 |some z=>match fl z with
  |true=>new (.cells z.cells.toList t false) (.pointer (some ⟨n,0,none⟩))
  |false=>.fail
 |none=>.fail
def BU(t:amz)(parts:List (Nat×amn)):Rd bi:=match zeroOf P t,P.underlying t with
 |some z,some (.struct fs)=>match places P fs.toList,fl z with
  |some ps,true=>match rW (fun i=>ps[i]?) z.cells.toList parts with
   |some l=>val (.agg l.toArray)
   |none=>.fail
  |_,_=>.fail
 |some z,some (.array _ el)=>match bT P el,fl z with
  |some size,true=>match rW (fun i=>some (i*size,size)) z.cells.toList parts with
   |some l=>val (.agg l.toArray)
   |none=>.fail
  |_,_=>.fail
 |_,_=>.fail
def BV(t:amz)(len:Nat)(parts:List (Nat×amn))(n:Nat):Rd bi:=match P.underlying t with
 |some (.slice el)=>match bT P el,zeroOf P el with
  |some size,some z=>match fl z&&amO (len*size) 1000000&&amE z.cells.size size with
   |true=>match rW (fun i=>some (i*size,size)) (eU z.cells.toList len) parts with
    |some l=>new (.cells l el false) (.slice (some ⟨n,0,none⟩) len len)
    |none=>.fail
   |false=>.fail
  |_,_=>.fail
 |_=>.fail
def rX(t:amz):amn→Rd bi
 | .pointer (some ⟨b,off,none⟩)=>(pC P t b off).bind val
 |_=>.fail
def rY(t:amz)(a x:amn):Rd bi:=match a with
 | .pointer (some ⟨b,off,none⟩)=>match bT P t with
  |some size=>.read b fun
   | .cells c el false=>match amE x.cells.size size&&amO (off+size) c.length&&x.cells.toList.all ano with
    |true=>.done ⟨.skip,[(b,.cells (amk c off x.cells.toList) el false)],none⟩
    |false=>.fail
   |_=>.fail
  |none=>.fail
 |_=>.fail
def BW:amn→Rd bi
 | .pointer (some a)=>val (.pointer (some a))
 | .func (.func k) f c=>val (.func (.func k) f c)
 | .iface t v=>val (.iface t v)
 | .pointer none| .nilIface| .nilFunc=>jY P (runtimePanic .nilDeref)
 |_=>.fail
def tY(t:amz)(a b:amn)(neg:Bool):Rd bi:=match P.underlying t with
 |some d=>match yu d a b with
  |some r=>val (.bool (r != neg))
  |none=>.fail
 |none=>.fail
def yw(ft:amz)(cs:List amn)(d:Nat):Option amn:=match nu P ft,bT P ft with
 |some true,some k=>match cut cs d k with
  |some l=>some (.agg l.toArray)
  |none=>none
 |some false,some _=>cs[d]?
 |_,_=>none
def v5(f:apt→Option Bool):List apt→Option Bool
 | []=>some true
 |x::l=>match f x,v5 f l with
  |some a,some b=>some (a&&b)
  |_,_=>none
def v7:Nat→amz→amn→amn→Option Bool
 |0,_,_,_=>none
 |d+1,t,x,y=>match P.underlying t with
  |some .bool=>match x,y with
   | .bool a,.bool b=>some (a==b)
   |_,_=>none
  |some (.int _)=>match x,y with
   | .int k a,.int k' b=>match decide (k=k')with
    |true=>some (a==b)
    |false=>none
   |_,_=>none
  |some .string=>match x,y with
   | .string a,.string b=>some (a==b)
   |_,_=>none
  |some (.struct fs)=>match x,y with
   | .agg xs,.agg ys=>match P.stoodInHeld t with
    |true=>none
    |false=>v5 (fun f=>match decide (f.name= "_")with
     |true=>none
     |false=>match yw P f.type xs.toList f.offset,yw P f.type ys.toList f.offset with
      |some a,some b=>v7 d f.type a b
      |_,_=>none) fs.toList
   |_,_=>none
  |_=>none
def BX(op:BinOp)(t:amz)(a b:amn):Option Bool:=match op,a,b with
 | .eql,.agg _,.agg _=>match P.eqGuardType P.depth t with
  |true=>none
  |false=>v7 P 10000 t a b
 | .neq,.agg _,.agg _=>match P.eqGuardType P.depth t with
  |true=>none
  |false=>(v7 P 10000 t a b).map (!·)
 |_,_,_=>none
def rZ(op:BinOp)(t:amz)(x y:anX)(a b:amn):Rd bi:=match fl a&&fl b with
 |true=>match BX P op t a b with
  |some r=>val (.bool r)
  |none=>jY P (do let v ←(do eqGuard op t x y a b;binOp op t a b);pure (.value v))
 |false=>match op with
  | .eql=>tY P t a b false
  | .neq=>tY P t a b true
  |_=>.fail
def BZ(op:UnOp)(a:amn):Rd bi:=match fl a with
 |true=>jY P (do let v ←Op.unary op a;pure (.value v))
 |false=>.fail
def v8(src dst:amz)(x:amn)(n:Nat):Rd bi:=match P.underlying src,P.underlying dst,x with
 |some _,some (.slice el),.string s=>match P.underlying el,bT P el with
  |some (.int .u8),some 1=>new (.cells (s.data.toList.map fun b=>.int .u8 b.toNat) el false) (.slice (some ⟨n,0,none⟩) s.size s.size)
  |_,_=>.fail
 |some (.slice el),some (.slice _),.slice (some ⟨b,off,none⟩) len cap=>match P.underlying el,amE src dst with
  |some (.int .u8),true=>match cap with
   |0=>.fail
   |_+1=>.read b fun
    | .cells (_::_) _ false=>val (.slice (some ⟨b,off,none⟩) len cap)
    |_=>.fail
  |_,_=>.fail
 |some (.slice el),some .string,.slice a len cap=>match P.underlying el,a with
  |some (.int .u8),none=>val (.string .empty)
  |some (.int .u8),some ⟨b,off,none⟩=>.read b fun
   | .cells c _ _=>match(cut c off len).bind bytesOf with
    |some l=>val (.string ⟨l.toArray⟩)
    |none=>.fail
   |_=>.fail
  |_,_=>.fail
 |_,_,_=>match fl x with
  |true=>jY P (do let v ←convert src dst x;pure (.value v))
  |false=>.fail
def B0(t:amz)(x:amn):Rd bi:=match P.underlying t with
 |some (.interface _)=>.fail
 |some _=>val (.iface t x)
 |none=>.fail
def B2(fn:Fn)(first captured:List amn):Rd bi:=match fn with
 | .func _| .method _=>val (.func fn first.toArray captured.toArray)
 |_=>.fail
def B3(t:amz)(h:Option amn)(n:Nat):Rd bi:=match h with
 |none=>new (.map [] 0) (.map (some n))
 |some (.int _ _)=>match P.underlying t with
  |some (.map _ _)=>new (.map [] 0) (.map (some n))
  |_=>.fail
 |_=>.fail
def B4(t:amz)(l c:amn)(n:Nat):Rd bi:=match P.underlying t,oF l,oF c with
 |some (.slice el),some l,some c=>match bT P el,zeroOf P el,(P.info? el).map (·.bytes)with
  |some size,some z,some bytes=>match fl z&&amO l c&&amO c 1000000&&amO bytes 1000000&&amE z.cells.size size with
   |true=>new (.cells (eU z.cells.toList c) el false) (.slice (some ⟨n,0,none⟩) l c)
   |false=>.fail
  |_,_,_=>.fail
 |_,_,_=>.fail
def qD(t:amz)(x:amn)(lo hi mx:Option amn):Rd bi:=match fl x with
 |true=>match lo.all fl&&hi.all fl&&mx.all fl with
  |true=>jY P (do let v ←aow t x lo hi mx;pure (.value v))
  |false=>.fail
 |false=>match P.underlying t,x,mx with
  |some (.slice el),.slice (some ⟨b,off,none⟩) len cap,none=>match nv 0 lo,nv len hi,bT P el with
   |some l,some h,some size=>match amO l h&&amO h cap with
    |true=>.read b fun
     | .cells c eb ro=>match bT P eb with
      |some sb=>match amO size sb with
       |true=>val (.slice (some ⟨b,off+l*size,none⟩) (h-l) (cap-l))
       |false=>.fail
      |none=>.fail
     |_=>.fail
    |false=>.fail
   |_,_,_=>.fail
  |some (.array k el),.pointer (some ⟨b,off,none⟩),none=>match nv 0 lo,nv k hi,bT P el with
   |some l,some h,some size=>match amO l h&&amO h k with
    |true=>val (.slice (some ⟨b,off+(if amE k l then 0 else l*size),none⟩) (h-l) (k-l))
    |false=>.fail
   |_,_,_=>.fail
  |_,_,_=>.fail
def B5(s:amz)(x:amn)(f:Nat):Rd bi:=match x,vY P s f with
 | .pointer (some ⟨b,off,none⟩),some (d,_,_)=>val (.pointer (some ⟨b,off+d,none⟩))
 |_,_=>.fail
def yx(ft:amz)(cs:List amn)(d k:Nat):Rd bi:=match nu P ft with
 |some true=>match cut cs d k with
  |some l=>val (.agg l.toArray)
  |none=>.fail
 |some false=>match cs[d]?with
  |some v=>val v
  |none=>.fail
 |none=>.fail
def B6(s:amz)(x:amn)(f:Nat):Rd bi:=match x,vY P s f with
 | .agg cs,some (d,ft,k)=>yx P ft cs.toList d k
 |_,_=>.fail
def r4(t:amz)(x i:amn):Rd bi:=match P.underlying t,x,oF i with
 |some (.array k el),.pointer (some ⟨b,off,none⟩),some i=>match bT P el,amG i k with
  |some size,true=>val (.pointer (some ⟨b,off+i*size,none⟩))
  |_,_=>.fail
 |some (.slice el),.slice (some ⟨b,off,none⟩) len _,some i=>match bT P el,amG i len with
  |some size,true=>val (.pointer (some ⟨b,off+i*size,none⟩))
  |_,_=>.fail
 |_,_,_=>.fail
def v9(t:amz)(x i:amn):Rd bi:=match x with
 | .string s=>match fl i with
  |true=>jY P (do let v ←apA t (.string s) i;pure (.value v))
  |false=>.fail
 | .agg cs=>match P.underlying t,oF i with
  |some (.array k el),some i=>match bT P el,amG i k with
   |some size,true=>yx P el cs.toList (i*size) size
   |_,_=>.fail
  |_,_=>.fail
 |_=>.fail
def B7(x:amn)(i:Nat):Rd bi:=match x with
 | .tuple vs=>match vs.toList[i]?with
  |some v=>val v
  |none=>.fail
 |_=>.fail
def B8(x:amn)(at_:amz)(ok:Bool):Rd bi:=match P.underlying at_,x with
 |some (.interface _),_=>.fail
 |some _,.iface t v=>match amE t at_ with
  |true=>val (if ok then .tuple #[v,.bool true]else v)
  |false=>.fail
 |_,_=>.fail
def yy(c a b:amn):Rd bi:=match c with
 | .bool true=>val a
 | .bool false=>val b
 |_=>.fail
def B9(x:amn):Rd bi:=match fl x with
 |true=>jY P (do let v ←asf x;pure (.value v))
 |false=>.fail
end
def yz(op:Op):amF→(anX→amn)→Nat→amz→Rd bi:=match op with
 | .move x| .assign x=>fun P e n ty=>val (e x)
 | .pick c a b=>fun P e n ty=>yy (e c) (e a) (e b)
 | .alloc t=>fun P e n ty=>BT P t n
 | .box t x=>fun P e n ty=>new (.cells (e x).cells.toList t false) (.pointer (some ⟨n,0,none⟩))
 | .build t parts=>fun P e n ty=>BU P t (parts.toList.map fun(i,x)=>(i,e x))
 | .buildSlice t len parts=>fun P e n ty=>BV P t len (parts.toList.map fun(i,x)=>(i,e x)) n
 | .load t a=>fun P e n ty=>rX P t (e a)
 | .store t a x=>fun P e n ty=>rY P t (e a) (e x)
 | .nilCheck x=>fun P e n ty=>BW P (e x)
 | .binOp op t x y _=>fun P e n ty=>rZ P op t x y (e x) (e y)
 | .unOp op _ x=>fun P e n ty=>BZ P op (e x)
 | .convert src dst x=>fun P e n ty=>v8 P src dst (e x) n
 | .makeInterface t x=>fun P e n ty=>B0 P t (e x)
 | .makeFunc fn first captured=>fun P e n ty=>B2 fn (first.toList.map e) (captured.toList.map e)
 | .makeMap t r=>fun P e n ty=>B3 P t (r.map e) n
 | .makeSlice t l c=>fun P e n ty=>B4 P t (e l) (e c) n
 | .slice t x lo hi mx=>fun P e n ty=>qD P t (e x) (lo.map e) (hi.map e) (mx.map e)
 | .fieldAddr s x f=>fun P e n ty=>B5 P s (e x) f
 | .field s x f=>fun P e n ty=>B6 P s (e x) f
 | .indexAddr t x i=>fun P e n ty=>r4 P t (e x) (e i)
 | .index t x i=>fun P e n ty=>v9 P t (e x) (e i)
 | .lookup t x k ok=>fun P e n ty=>BP P t (e x) (e k) ok
 | .mapUpdate t m k x| .insert t m k x=>fun P e n ty=>vW P t (e m) (e k) (e x)
 | .extract t i=>fun P e n ty=>B7 (e t) i
 | .typeAssert x _ at_ ok=>fun P e n ty=>B8 P (e x) at_ ok
 | .call c=>fun P e n ty=>qC P c e ty n
 | .panic x=>fun P e n ty=>B9 P (e x)
 |_=>fun _ _ _ _=>.fail
def ev(P:amF)(e:anX→amn)(n:Nat)(o:anp):Rd bi:=yz o.op P e n o.type
def yA(S:VS)(l:List Nat)(out:bi):Option (jE×VS):=
 let S1:VS:=out.ws.foldl (fun S (x,o)=>{S with mem:=S.mem.set 18 x o,wr:=x::S.wr}) {S with rd:=l++S.rd}
 match out.ws.all fun(x,_)=>l.contains x with
 |false=>none
 |true=>match out.nw with
  |none=>some (out.r,S1)
  |some o=>match small S.next,gt S.mem S.next with
   |true,none=>some (out.r,{S1 with mem:=S1.mem.set 18 S.next o,next:=S.next+1,wr:=S.next::S1.wr})
   |_,_=>none
def mW(P:amF)(t:Fr)(S:VS)(o:anp):Option (jE×VS):=
 match o.op.operands.toList.all oE with
 |false=>none
 |true=>match(ev P (bK t) S.next o).run (gt S.mem)with
  |none=>none
  |some (out,l)=>yA S l out
def lE:List SV→Nat→List amn
 | [],_=>[]
 | .val v::l,k=>v::lE l k
 | .cells n _ _::l,k=>.slice (some ⟨k,0,none⟩) n n::lE l (k+1)
 | .rows n _ _::l,k=>.slice (some ⟨k,0,none⟩) n n::lE l (k+1)
def fZ:List SV→List ai
 | []=>[]
 | .val _::l=>fZ l
 | .cells _ c el::l=>.cells c el true::fZ l
 | .rows n s r::l=>.rows n s r::fZ l
def kv:List SV→Nat
 | []=>0
 | .val _::l=>kv l
 |_::l=>kv l+1
def qE:List ai→VS→Option VS
 | [],S=>some S
 |o::l,S=>match small S.next,gt S.mem S.next with
  |true,none=>qE l {S with mem:=S.mem.set 18 S.next o,next:=S.next+1,wr:=S.next::S.wr}
  |_,_=>none
def wa(S:VS)(b:Nat)(el:amz)(l:List SV):Option (jE×VS):=
 match qE (fZ l++[.cells (lE l S.next) el true]) {S with rd:=b::S.rd}with
 |some S1=>some (.val (.pointer (some ⟨S.next+kv l,0,none⟩)),S1)
 |none=>none
structure View where
 b:Nat
 el:amz
 n:Nat
 size:Nat
 row:Nat→List SV
 len:Nat
 i:amn
def kV(P:amF)(t:Fr)(S:VS)(o:anp):Option View:=match o.op with
 | .indexAddr ty x i=>match bK t x with
  | .slice (some ⟨b,off,none⟩) len _=>match gt S.mem b with
   |some (.rows n size row)=>match off with
    |0=>match P.underlying ty with
     |some (.slice el)=>match bT P el with
      |some s=>match amE s size with
       |true=>some ⟨b,el,n,size,row,len,bK t i⟩
       |false=>none
      |none=>none
     |_=>none
    |_+1=>none
   |_=>none
  |_=>none
 |_=>none
def jd(P:amF)(t:Fr)(S:VS)(o:anp):Option (jE×VS):=match kV P t S o with
 |some V=>match o.op.operands.toList.all oE,oF V.i with
  |true,some k=>match amG k V.n&&amG k V.len with
   |true=>wa S V.b V.el (V.row k)
   |false=>none
  |_,_=>none
 |none=>mW P t S o
inductive bf where
 |normal
 |exit (id:Nat)
 |ret
 |panic (v:amn)
inductive bL where
 |ret (v:amn)
 |panic (v:amn)
abbrev cx:=amY→List amn→VS→Option (bL×VS)
def put(t:Fr)(d:Option Tmp)(v:amn):Option Fr:=match d with
 |some d=>t.set d v
 |none=>some t
def kW(ops:List anp)(t:Fr)(j:Nat):Option Bool:=match(ops[j]?).bind (·.dst)with
 |some d=>match t.at d with
  | .bool b=>some b
  |_=>none
 |none=>none
def jZ(P:amF)(call:cx)(ops:List anp)(o:anp)(t:Fr)(S:VS):Option (Option amn×Fr×VS):=
 match Region.wanted o (kW ops t)with
 |false=>(put t o.dst undef).map fun t1=>(none,t1,S)
 |true=>match jd P t S o with
  |none=>none
  |some (r,S1)=>match r with
   | .val v=>(put t o.dst v).map fun t1=>(none,t1,S1)
   | .skip=>(put t o.dst undef).map fun t1=>(none,t1,S1)
   | .panic v=>some (some v,t,S1)
   | .defer _=>none
   | .enter f args=>match call f args S1 with
    |none=>none
    |some (.ret v,S2)=>(put t o.dst v).map fun t1=>(none,t1,S2)
    |some (.panic v,S2)=>some (some v,t,S2)
def wb(o:anp):Option Call:=match o.op with
 | .defer c=>some c
 |_=>none
def yB(P:amF)(t:Fr)(o:anp)(c:Call):Option Fr:=match o.guard,c.callee with
 |none,.value f=>match oE f&&c.args.toList.all oE,bK t f with
  |true,.func (.func k) first captured=>match(P.funcs[k]?).bind (·.body)with
   |some _=>put {t with ds:=(k,(first.toList++c.args.toList.map (bK t))++captured.toList)::t.ds} o.dst undef
   |none=>none
  |_,_=>none
 |_,_=>none
def opsV(P:amF)(call:cx)(df:Bool)(ops:List anp):List anp→Fr→VS→Option (bf×Fr×VS)
 | [],t,S=>some (.normal,t,S)
 |o::rest,t,S=>match wb o with
  |some c=>match df with
   |true=>match yB P t o c with
    |some t1=>opsV P call df ops rest t1 S
    |none=>none
   |false=>none
  |none=>match jZ P call ops o t S with
   |none=>none
   |some (some v,t1,S1)=>some (.panic v,t1,S1)
   |some (none,t1,S1)=>opsV P call df ops rest t1 S1
structure Fp where
 rd:List Nat
 wr:List Nat
def yC(a b:List Nat):Bool:=a.all fun x=> !b.contains x
def j3(P:amF)(call:cx)(ops:List anp):List anp→Fr→VS→Option (Fr×VS×List Fp)
 | [],t,S=>some (t,S,[])
 |o::rest,t,S=>match jZ P call ops o t {S with rd:=[],wr:=[]}with
  |some (none,t1,S1)=>match j3 P call ops rest t1 {S1 with rd:=S1.rd++S.rd,wr:=S1.wr++S.wr}with
   |some (t2,S2,fP)=>some (t2,S2,⟨S1.rd,S1.wr⟩::fP)
   |none=>none
  |_=>none
def IL(f g:Fp):Bool:=yC f.wr g.rd&&yC f.wr g.wr&&yC g.wr f.rd
def je:List Edge→Nat
 | []=>0
 |e::l=>match aoA .any e with
  |true=>ap4 (Nat.shiftLeft 1 e.on) (je l)
  |false=>je l
def lF(m:Nat):Nat→List Nat→Nat
 |k+1,b::bs=>match amE (aq8 (apL m k) 1) 1 with
  |true=>ap4 b (lF m k bs)
  |false=>lF m k bs
 |_,_=>0
def qF:Nat→List Nat→List anp→List Nat
 |_,_,[]=>[]
 |k,bs,o::l=>(fun m=>m::qF (k+1) (m::bs) l) (ap4 (je o.after.toList) (lF (je o.after.toList) k bs))
def pD(ops:Array anp):List Nat:=qF 0 [] ops.toList
structure Ca where
 no:Nat
 bits:Nat
 fp:Fp
def oH:Nat→List Nat→List Fp→List Ca
 |i,m::ms,f::fs=>match f.rd,f.wr with
  | [],[]=>oH (i+1) ms fs
  |_,_=>⟨i,m,f⟩::oH (i+1) ms fs
 |_,_,_=>[]
def tZ:List Ca→Bool
 | []=>true
 |f::l=>l.all (fun g=>amE (aq8 (apL g.bits f.no) 1) 1||IL f.fp g.fp)&&tZ l
def yD(ops:Array anp):Nat→List (Nat×anp)→List Nat→List anp→Bool
 |j,prev,m::ms,p::ps=>p.after.toList.all (fun e=> !(aoA .any e)||amG e.on j)&&
  prev.all (fun q=>amE (aq8 (apL m q.1) 1) 1||q.2.apart ops p)&&yD ops (j+1) ((j,p)::prev) ms ps
 |_,_,_,_=>true
def Sj(ops:Array anp):Bool:=yD ops 0 [] (pD ops) ops.toList
def r5(ops:Array anp)(fP:List Fp):Bool:=Sj ops&&tZ (oH 0 (pD ops) fP)
def iter(f:Fr→VS→Option (bf×Fr×VS)):Nat→Fr→VS→Option (bf×Fr×VS)
 |0,_,_=>none
 |k+1,t,S=>match f t S with
  |some (.normal,t1,S1)=>iter f k t1 S1
  |r=>r
def cS(P:amF)(call:cx)(lf:Nat)(df:Bool):Code→Fr→VS→Option (bf×Fr×VS)
 | .skip,t,S=>some (.normal,t,S)
 | .region _ ops false,t,S=>opsV P call df ops.toList ops.toList t S
 | .region _ ops true,t,S=>match j3 P call ops.toList ops.toList t S with
  |some (t1,S1,fP)=>match r5 ops fP with
   |true=>some (.normal,t1,S1)
   |false=>none
  |none=>none
 | .seq a b,t,S=>match cS P call lf df a t S with
  |some (.normal,t1,S1)=>cS P call lf df b t1 S1
  |r=>r
 | .cond c a b,t,S=>match bK t c with
  | .bool true=>cS P call lf df a t S
  | .bool false=>cS P call lf df b t S
  |_=>none
 | .block id c,t,S=>match cS P call lf df c t S with
  |some (.exit j,t1,S1)=>match amE j id with
   |true=>some (.normal,t1,S1)
   |false=>some (.exit j,t1,S1)
  |r=>r
 | .loop c,t,S=>iter (cS P call lf df c) lf t S
 | .exit id,t,S=>some (.exit id,t,S)
 | .ret,t,S=>some (.ret,t,S)
 | .scope c,t,S=>cS P call lf df c t S
 | .label _,t,S=>some (.normal,t,S)
 |_,_,_=>none
def gG(P:amF)(t:Fr):List ResultVar→Rd (List amn)
 | []=>.done []
 | .tmp i::l=>(gG P t l).bind fun r=>.done (t.at i::r)
 | .cell a ty::l=>match t.at a with
  | .pointer (some ⟨b,off,none⟩)=>(pC P ty b off).bind fun v=>(gG P t l).bind fun r=>.done (v::r)
  |_=>.fail
def mg:List amn→amn
 | [v]=>v
 |vs=>.tuple vs.toArray
def ny(P:amF)(t:Fr)(fn:Func)(S:VS):Option (bL×VS):=match(gG P t fn.results.toList).run (gt S.mem)with
 |some (vs,l)=>some (.ret (mg vs),{S with rd:=l++S.rd})
 |none=>none
inductive Md where
 |ret
 |mh (v:amn)
def Cb(o:anp):Bool:=match o.op,o.guard with
 | .call ⟨.builtin .recover,_,_⟩,none=>true
 |_,_=>false
def IM:Md→amn
 | .ret=>.nilIface
 | .mh v=>v
def oI(P:amF):List anp→Fr→VS→Option (Fr×VS)
 | [],t,S=>some (t,S)
 |o::rest,t,S=>match o.guard with
  |some _=>none
  |none=>match jd P t S o with
   |some (.val v,S1)=>match put t o.dst v with
    |some t1=>oI P rest t1 S1
    |none=>none
   |_=>none
def jF(P:amF)(call:cx)(lf:Nat)(md:Md):Code→Fr→VS→Option (Md×bf×Fr×VS)
 | .seq a b,t,S=>match jF P call lf md a t S with
  |some (fk,.normal,t1,S1)=>(cS P call lf false b t1 S1).map fun r=>(fk,r)
  |r=>r
 | .region id ops false,t,S=>match ops.toList with
  |o::rest=>match Cb o with
   |true=>match put t o.dst (IM md)with
    |some t1=>match oI P rest t1 S with
     |some (t2,S2)=>some (.ret,.normal,t2,S2)
     |none=>none
    |none=>none
   |false=>(cS P call lf false (.region id ops false) t S).map fun r=>(md,r)
  | []=>none
 |c,t,S=>(cS P call lf false c t S).map fun r=>(md,r)
def r6(P:amF)(call:cx)(lf:Nat)(md:Md)(k:amY)(args:List amn)(S:VS):Option (Md×VS):=match P.funcs[k]?with
 |none=>none
 |some fn=>match fn.body with
  |none=>none
  |some c=>match Fr.of args fn.ntmps with
   |none=>none
   |some t0=>match jF P call lf md c t0 S with
    |some (fk,x,t,S1)=>match x,t.ds,t.base with
     | .normal,[],[]=>match ny P t fn S1 with
      |some (_,S2)=>some (fk,S2)
      |none=>none
     | .ret,[],[]=>match ny P t fn S1 with
      |some (_,S2)=>some (fk,S2)
      |none=>none
     |_,_,_=>none
    |none=>none
def nz(P:amF)(call:cx)(lf:Nat):List (amY×List amn)→Md→VS→Option (Md×VS)
 | [],md,S=>some (md,S)
 |(k,args)::l,md,S=>match r6 P call lf md k args S with
  |some (fk,S1)=>nz P call lf l fk S1
  |none=>none
def oJ(P:amF)(call:cx)(lf:Nat)(fn:Func)(md:Md)(t:Fr)(S:VS):Option (bL×VS):=match t.base with
 | []=>match nz P call lf t.ds md S with
  |some (.ret,S1)=>ny P t fn S1
  |some (.mh v,S1)=>some (.panic v,S1)
  |none=>none
 |_=>none
def lG(P:amF)(sp:cx→cx)(lf:Nat):Nat→cx
 |0,_,_,_=>none
 |d+1,f,args,S=>match P.funcs[f]?with
  |none=>none
  |some fn=>match fn.body with
   |none=>none
   |some c=>match Fr.of args fn.ntmps with
    |none=>none
    |some t0=>match cS P (sp (lG P sp lf d)) lf true c t0 S with
     |some (.normal,t,S1)=>oJ P (sp (lG P sp lf d)) lf fn .ret t S1
     |some (.ret,t,S1)=>oJ P (sp (lG P sp lf d)) lf fn .ret t S1
     |some (.panic v,t,S1)=>oJ P (sp (lG P sp lf d)) lf fn (.mh v) t S1
     |_=>none
def S0:VS:=⟨.nil,0,[],[]⟩
def Sk(P:amF)(sp:cx→cx)(lf d:Nat)(f:amY):Bool:=match lG P sp lf d f [] S0 with
 |some (.ret (.bool true),_)=>true
 |_=>false
def akH(P:amF)(lf d:Nat)(f:amY):Bool:=Sk P id lf d f
end Go.Proofs.Ytnlkkgpcikkpoaa.Vm
namespace Go.Proofs.Ytnlkkgpcikkpoaa.Vm
open Go.RowKit
theorem Tr.Cc{α:Type}(k n:Nat):Tr.get k (.nil:Tr α) n=none:=by cases k<;>rfl
theorem Tr.we{α:Type}:∀(k:Nat) (t:Tr α) (n m:Nat) (o:α),n<2^k→m<2^k→Tr.get k (Tr.set k t n o) m=if m=n then some o else Tr.get k t m
 |0,t,n,m,o,hn,hm=>by
  have h1:n=0:=by simpa using hn
  have h2:m=0:=by simpa using hm
  subst h1 h2
  cases t<;>simp[Tr.set,Tr.get]
 |k+1,t,n,m,o,hn,hm=>by
  have yE:n/2<2^k:=by rw[ar4]at hn;omega
  have Cd:m/2<2^k:=by rw[ar4]at hm;omega
  have key:∀t,Tr.get k (Tr.set k t (n/2) o) (m/2)=if m/2=n/2 then some o else Tr.get k t (m/2):=fun t=>Tr.we k t _ _ o yE Cd
  have yF:n%2=0∨n%2=1:=by omega
  have oK:m%2=0∨m%2=1:=by omega
  have e0:amE 0 0=true:=rfl
  have e1:amE 1 0=false:=rfl
  cases t with
  |nil=>
   rcases yF with lH|lH<;>rcases oK with cj|cj<;>simp only[Tr.set,Tr.get,lH,cj,e0,e1,key,Tr.Cc]
   ·by_cases e:m=n
    ·subst e;simp
    ·have:m/2≠n/2:=by omega
     simp[e,this]
   ·have:m≠n:=by omega
    simp[this]
   ·have:m≠n:=by omega
    simp[this]
   ·by_cases e:m=n
    ·subst e;simp
    ·have:m/2≠n/2:=by omega
     simp[e,this]
  |node l v r=>
   rcases yF with lH|lH<;>rcases oK with cj|cj<;>simp only[Tr.set,Tr.get,lH,cj,e0,e1,key]
   ·by_cases e:m=n
    ·subst e;simp
    ·have:m/2≠n/2:=by omega
     simp[e,this]
   ·have:m≠n:=by omega
    simp[this]
   ·have:m≠n:=by omega
    simp[this]
   ·by_cases e:m=n
    ·subst e;simp
    ·have:m/2≠n/2:=by omega
     simp[e,this]
theorem gW{n:Nat}:small n=true↔n<2^18:=by
 unfold small
 rw[show(2:Nat)^18=262144 from rfl]
 simp[amG]
 omega
def cG(g:Nat→Option ai)(x:Nat)(o:ai):Nat→Option ai:=fun y=>if y=x then some o else g y
theorem fg(g:Nat→Option ai)(x:Nat)(o:ai):cG g x o x=some o:=by simp[cG]
theorem dU{g:Nat→Option ai}{x y:Nat}(o:ai)(h:y≠x):cG g x o y=g y:=by simp[cG,h]
theorem wg{t:Tr ai}{x:Nat}{o:ai}(h:small x=true):gt (t.set 18 x o)=cG (gt t) x o:=by
 funext y
 unfold gt cG
 by_cases hy:small y=true
 ·simp only[hy]
  rw[Tr.we 18 _ _ _ _ (gW.1 h) (gW.1 hy)]
 ·have:y≠x:=by rintro rfl;exact hy h
  simp[hy,this]
theorem oL{t:Tr ai}{x:Nat}{o:ai}(h:gt t x=some o):small x=true:=by
 unfold gt at h
 cases hs:small x with
 |true=>rfl
 |false=>rw[hs]at h;cases h
theorem Rd.run_bind{α β:Type}(g:Nat→Option ai)(r:Rd α)(f:α→Rd β)(b:β)(l:List Nat):(r.bind f).run g=some (b,l)↔
 ∃a l1 l2,r.run g=some (a,l1)∧(f a).run g=some (b,l2)∧l=l1++l2:=by
 induction r generalizing l with
 |done a=>
  constructor
  ·intro h;exact⟨a,[],l,rfl,h,rfl⟩
  ·rintro⟨a',l1,l2,h1,h2,rfl⟩
   simp only[Rd.run,amr,amv]at h1
   obtain⟨rfl,rfl⟩:=h1
   exact h2
 |fail=>simp[Rd.bind,Rd.run]
 |read x k ih=>
  simp only[Rd.bind,Rd.run]
  cases hx:g x with
  |none=>simp
  |some o=>
   simp only[]
   constructor
   ·intro h
    cases hk:((k o).bind f).run g with
    |none=>rw[hk]at h;cases h
    |some p=>
     obtain⟨b',l'⟩:=p
     rw[hk]at h
     simp only[amr,amv]at h
     obtain⟨rfl,rfl⟩:=h
     obtain⟨a,l1,l2,h1,h2,rfl⟩:=(ih o l').1 hk
     exact⟨a,x::l1,l2,by rw[h1],h2,rfl⟩
   ·rintro⟨a,l1,l2,h1,h2,rfl⟩
    cases hk:(k o).run g with
    |none=>rw[hk]at h1;cases h1
    |some p=>
     obtain⟨a',l'⟩:=p
     rw[hk]at h1
     simp only[amr,amv]at h1
     obtain⟨rfl,rfl⟩:=h1
     rw[(ih o (l'++l2)).2 ⟨a',l',l2,hk,h2,rfl⟩]
     rfl
theorem Rd.run_read{α:Type}{g:Nat→Option ai}{x:Nat}{k:ai→Rd α}{a:α}{l:List Nat}(h:(Rd.read x k).run g=some (a,l)):
 ∃o l',g x=some o∧(k o).run g=some (a,l')∧l=x::l':=by
 simp only[Rd.run]at h
 cases hx:g x with
 |none=>rw[hx]at h;cases h
 |some o=>
  rw[hx]at h
  simp only[]at h
  cases hk:(k o).run g with
  |none=>rw[hk]at h;cases h
  |some p=>
   obtain⟨b,l'⟩:=p
   rw[hk]at h
   simp only[amr,amv]at h
   obtain⟨rfl,rfl⟩:=h
   exact⟨o,l',rfl,hk,rfl⟩
theorem Rd.yG{α:Type}{g g':Nat→Option ai}:∀{r:Rd α} {a:α} {l:List Nat},r.run g=some (a,l)→(∀x∈l,g' x=g x)→r.run g'=some (a,l):=by
 intro r
 induction r with
 |done a=>intro a l h _;exact h
 |fail=>intro a l h;cases h
 |read x k ih=>
  intro a l h hl
  obtain⟨o,l',h1,h2,rfl⟩:=Rd.run_read h
  have hx:g' x=some o:=by rw[hl x (by simp),h1]
  simp only[Rd.run,hx,ih o h2 (fun y hy=>hl y (by simp[hy]))]
theorem Rd.IP{α:Type}{g:Nat→Option ai}{x:Option α}{a:α}{l:List Nat}(h:(fB x).run g=some (a,l)):x=some a:=by
 cases x with
 |none=>cases h
 |some b=>simp[fB,Rd.run]at h;rw[h.1]
theorem Rd.yH{α:Type}{g:Nat→Option ai}:∀{r:Rd α} {a:α} {l:List Nat},r.run g=some (a,l)→∀x∈l,∃o,g x=some o:=by
 intro r
 induction r with
 |done a=>intro a l h x hx;simp[Rd.run]at h;rw[h.2]at hx;cases hx
 |fail=>intro a l h;cases h
 |read x k ih=>
  intro a l h y hy
  obtain⟨o,l',h1,h2,rfl⟩:=Rd.run_read h
  rcases List.mem_cons.1 hy with rfl|hy
  ·exact⟨o,h1⟩
  ·exact ih o h2 y hy
structure bP where
 aJ:Nat
 sh:Nat
 sz:Nat
 dn:Nat
abbrev Ren:=Nat→Option bP
def af:amn→Bool
 | .bool _| .int _ _| .float _ _| .complex _ _ _| .string _| .pointer none| .map none| .chan none| .nilFunc| .nilIface| .slice none 0 0=>true
 |_=>false
def Sl:Fn→Bool
 | .func _| .method _=>true
 |_=>false
def Ce(r:bP)(off cap bq:Nat):Prop:=bq=cap∨(cap≤bq∧r.sh+off+bq*r.sz≤r.dn)
inductive VR(ρ:Ren):amn→amn→Prop where
 |bH (v:amn) (h:af v=true):VR ρ v v
 |ptr (b off:Nat) (r:bP) (h:ρ b=some r):VR ρ (.pointer (some ⟨b,off,none⟩)) (.pointer (some ⟨r.aJ,r.sh+off,none⟩))
 |sl (b off len cap bq:Nat) (r:bP) (h:ρ b=some r) (hc:Ce r off cap bq):VR ρ (.slice (some ⟨b,off,none⟩) len cap) (.slice (some ⟨r.aJ,r.sh+off,none⟩) len bq)
 |dV (a:aoH) (a':Option aoH):VR ρ (.slice (some a) 0 0) (.slice a' 0 0)
 |lI (b off t:Nat):VR ρ (.pointer (some ⟨b,off,some t⟩)) (.pointer (some ⟨b,off,none⟩))
 |mj (b off t len cap:Nat):VR ρ (.slice (some ⟨b,off,some t⟩) len cap) (.slice (some ⟨b,off,none⟩) len cap)
 |map (b:Nat) (r:bP) (h:ρ b=some r):VR ρ (.map (some b)) (.map (some r.aJ))
 |func (fn:Fn) (f f' c c':Array amn) (h:Sl fn=true) (h1:f.toList.length=f'.toList.length)
  (h2:∀(i:Nat) (v v':amn),f.toList[i]?=some v→f'.toList[i]?=some v'→VR ρ v v') (h3:c.toList.length=c'.toList.length)
  (h4:∀(i:Nat) (v v':amn),c.toList[i]?=some v→c'.toList[i]?=some v'→VR ρ v v'):VR ρ (.func fn f c) (.func fn f' c')
 |iface (t:amz) (v v':amn) (h:VR ρ v v'):VR ρ (.iface t v) (.iface t v')
 |agg (c c':Array amn) (h1:c.toList.length=c'.toList.length)
  (h2:∀(i:Nat) (v v':amn),c.toList[i]?=some v→c'.toList[i]?=some v'→VR ρ v v'):VR ρ (.agg c) (.agg c')
 |tuple (c c':Array amn) (h1:c.toList.length=c'.toList.length)
  (h2:∀(i:Nat) (v v':amn),c.toList[i]?=some v→c'.toList[i]?=some v'→VR ρ v v'):VR ρ (.tuple c) (.tuple c')
structure LR(ρ:Ren)(l l':List amn):Prop where
 len:l.length=l'.length
 at_:∀(i:Nat) (v v':amn),l[i]?=some v→l'[i]?=some v'→VR ρ v v'
def Ren.le(ρ ρ':Ren):Prop:=∀x r,ρ x=some r→ρ' x=some r
theorem Ren.le_refl(ρ:Ren):ρ.le ρ:=fun _ _ h=>h
theorem Ren.le_trans{a b c:Ren}(h:a.le b)(k:b.le c):a.le c:=fun x r e=>k x r (h x r e)
theorem VR.mono{ρ ρ':Ren}(hl:ρ.le ρ'){v v':amn}(h:VR ρ v v'):VR ρ' v v':=by
 induction h with
 |bH v h=>exact .bH v h
 |ptr b off r h=>exact .ptr b off r (hl _ _ h)
 |sl b off len cap bq r h hc=>exact .sl b off len cap bq r (hl _ _ h) hc
 |dV a a'=>exact .dV a a'
 |lI b off t=>exact .lI b off t
 |mj b off t len cap=>exact .mj b off t len cap
 |map b r h=>exact .map b r (hl _ _ h)
 |func fn f f' c c' h h1 h2 h3 h4 Cf Cg=>exact .func fn f f' c c' h h1 Cf h3 Cg
 |iface t v v' h ih=>exact .iface t v v' ih
 |agg c c' h1 h2 ih=>exact .agg c c' h1 ih
 |tuple c c' h1 h2 ih=>exact .tuple c c' h1 ih
theorem LR.mono{ρ ρ':Ren}(hl:ρ.le ρ'){l l':List amn}(h:LR ρ l l'):LR ρ' l l':=⟨h.len,fun i v v' h1 h2=>(h.at_ i v v' h1 h2).mono hl⟩
theorem LR.nil(ρ:Ren):LR ρ [] []:=⟨rfl,fun i v v' h=>by simp at h⟩
theorem LR.cons{ρ:Ren}{v v':amn}{l l':List amn}(h:VR ρ v v')(hl:LR ρ l l'):LR ρ (v::l) (v'::l'):=
 ⟨by simp[hl.len],fun i u u' h1 h2=>by
  cases i with
  |zero=>simp at h1 h2;subst h1 h2;exact h
  |succ i=>simp at h1 h2;exact hl.at_ i u u' h1 h2⟩
theorem LR.head{ρ:Ren}{v v':amn}{l l':List amn}(h:LR ρ (v::l) (v'::l')):VR ρ v v':=h.at_ 0 v v' rfl rfl
theorem LR.tail{ρ:Ren}{v v':amn}{l l':List amn}(h:LR ρ (v::l) (v'::l')):LR ρ l l':=
 ⟨by simpa using h.len,fun i u u' h1 h2=>h.at_ (i+1) u u' (by simpa using h1) (by simpa using h2)⟩
theorem LR.kw{ρ:Ren}{l:List amn}(h:LR ρ [] l):l=[]:=by have:=h.len;cases l<;>simp_all
theorem LR.gq{ρ:Ren}{v:amn}{l l':List amn}(h:LR ρ (v::l) l'):∃v' r,l'=v'::r∧VR ρ v v'∧LR ρ l r:=by
 cases l' with
 |nil=>have:=h.len;simp at this
 |cons v' r=>exact⟨v',r,rfl,h.head,h.tail⟩
theorem LR.append{ρ:Ren}:∀{a a' b b':List amn},LR ρ a a'→LR ρ b b'→LR ρ (a++b) (a'++b')
 | [],a',b,b',h,hb=>by rw[h.kw];exact hb
 |v::a,a',b,b',h,hb=>by
  obtain⟨v',r,rfl,h1,h2⟩:=h.gq
  exact LR.cons h1 (h2.append hb)
theorem LR.drop{ρ:Ren}{l l':List amn}(h:LR ρ l l')(n:Nat):LR ρ (l.drop n) (l'.drop n):=
 ⟨by simp[h.len],fun i v v' h1 h2=>h.at_ (n+i) v v' (by simpa using h1) (by simpa using h2)⟩
theorem LR.take{ρ:Ren}{l l':List amn}(h:LR ρ l l')(n:Nat):LR ρ (l.take n) (l'.take n):=
 ⟨by simp[h.len],fun i v v' h1 h2=>by
  rw[anJ]at h1 h2
  split at h1
  ·rename_i hi;rw[if_pos hi]at h2;exact h.at_ i v v' h1 h2
  ·cases h1⟩
theorem LR.get{ρ:Ren}{l l':List amn}(h:LR ρ l l'){i:Nat}{v:amn}(hv:l[i]?=some v):∃v',l'[i]?=some v'∧VR ρ v v':=by
 have hi:i<l.length:=(amy.1 hv).1
 have e8:i<l'.length:=h.len▸hi
 exact⟨l'[i],amt e8,h.at_ i v _ hv (amt e8)⟩
theorem LR.map{ρ:Ren}{α:Type}(f f':α→amn):∀(l:List α),(∀a∈l,VR ρ (f a) (f' a))→LR ρ (l.map f) (l.map f')
 | [],_=>LR.nil ρ
 |a::l,h=>LR.cons (h a (by simp)) (LR.map f f' l fun b hb=>h b (by simp[hb]))
theorem VR.wh{ρ:Ren}{c c':Array amn}(h:LR ρ c.toList c'.toList):VR ρ (.agg c) (.agg c'):=.agg c c' h.len h.at_
theorem VR.Ch{ρ:Ren}{c c':Array amn}(h:LR ρ c.toList c'.toList):VR ρ (.tuple c) (.tuple c'):=.tuple c c' h.len h.at_
theorem VR.IQ{ρ:Ren}{l l':List amn}(h:LR ρ l l'):VR ρ (.agg l.toArray) (.agg l'.toArray):=.wh (by simpa using h)
theorem VR.yI{ρ:Ren}{l l':List amn}(h:LR ρ l l'):VR ρ (.tuple l.toArray) (.tuple l'.toArray):=.Ch (by simpa using h)
theorem VR.Ci{ρ:Ren}{c:Array amn}{v:amn}(h:VR ρ (.agg c) v):∃c',v=.agg c'∧LR ρ c.toList c'.toList:=by
 cases h with
 |bH _ h=>cases h
 |agg c c' h1 h2=>exact⟨c',rfl,h1,h2⟩
theorem VR.IR{ρ:Ren}{c:Array amn}{v:amn}(h:VR ρ (.tuple c) v):∃c',v=.tuple c'∧LR ρ c.toList c'.toList:=by
 cases h with
 |bH _ h=>cases h
 |tuple c c' h1 h2=>exact⟨c',rfl,h1,h2⟩
theorem VR.kx{ρ:Ren}{b off:Nat}{v:amn}(h:VR ρ (.pointer (some ⟨b,off,none⟩)) v):∃r,ρ b=some r∧v=.pointer (some ⟨r.aJ,r.sh+off,none⟩):=by
 cases h with
 |bH _ h=>cases h
 |ptr _ _ r h=>exact⟨r,h,rfl⟩
theorem VR.jo{ρ:Ren}{k:IntKind}{n:Int}{v:amn}(h:VR ρ (.int k n) v):v=.int k n:=by cases h;rfl
theorem VR.oM{ρ:Ren}{s:ByteArray}{v:amn}(h:VR ρ (.string s) v):v=.string s:=by cases h;rfl
theorem VR.ua{ρ:Ren}{b:Bool}{v:amn}(h:VR ρ (.bool b) v):v=.bool b:=by cases h;rfl
theorem VR.wj{ρ:Ren}{t:amz}{u v:amn}(h:VR ρ (.iface t u) v):∃u',v=.iface t u'∧VR ρ u u':=by
 cases h with
 |bH _ h=>cases h
 |iface _ _ u' h=>exact⟨u',rfl,h⟩
theorem VR.pE{ρ:Ren}{b:Nat}{v:amn}(h:VR ρ (.map (some b)) v):∃r,ρ b=some r∧v=.map (some r.aJ):=by
 cases h with
 |bH _ h=>cases h
 |map _ r h=>exact⟨r,h,rfl⟩
theorem VR.wl{ρ:Ren}{fn:Fn}{f c:Array amn}{v:amn}(h:VR ρ (.func fn f c) v):∃f' c',v=.func fn f' c'∧LR ρ f.toList f'.toList∧LR ρ c.toList c'.toList:=by
 cases h with
 |bH _ h=>cases h
 |func _ _ f' _ c' h h1 h2 h3 h4=>exact⟨f',c',rfl,⟨h1,h2⟩,⟨h3,h4⟩⟩
theorem VR.undef(ρ:Ren):VR ρ undef undef:=.tuple _ _ rfl fun i v v' h=>by simp at h
theorem VR.r7{ρ:Ren}{v u:amn}(h:af v=true)(r:VR ρ v u):u=v:=by
 cases r<;>first|rfl|cases h
theorem VR.cells{ρ:Ren}{v v':amn}(h:VR ρ v v'):LR ρ v.cells.toList v'.cells.toList:=by
 cases h with
 |bH _ h=>
  have:v.cells= #[v]:=by cases v<;>first|rfl|cases h
  rw[this]
  exact LR.cons (.bH v h) (LR.nil ρ)
 |agg c c' h1 h2=>exact⟨h1,h2⟩
 |ptr b off r h=>exact LR.cons (.ptr b off r h) (LR.nil ρ)
 |sl b off len cap bq r h hc=>exact LR.cons (.sl b off len cap bq r h hc) (LR.nil ρ)
 |dV a a'=>exact LR.cons (.dV a a') (LR.nil ρ)
 |lI b off t=>exact LR.cons (.lI b off t) (LR.nil ρ)
 |mj b off t len cap=>exact LR.cons (.mj b off t len cap) (LR.nil ρ)
 |map b r h=>exact LR.cons (.map b r h) (LR.nil ρ)
 |func fn f f' c c' h h1 h2 h3 h4=>exact LR.cons (.func fn f f' c c' h h1 h2 h3 h4) (LR.nil ρ)
 |iface t v v' h=>exact LR.cons (.iface t v v' h) (LR.nil ρ)
 |tuple c c' h1 h2=>exact LR.cons (.tuple c c' h1 h2) (LR.nil ρ)
theorem VR.yJ{ρ:Ren}{v v':amn}(h:VR ρ v v'):v'.oneCell'=v.oneCell':=by cases h<;>rfl
theorem qG(ρ:Ren):∀(d:Nat) (v:amn),flat d v=true→VR ρ v v:=by
 intro d
 induction d with
 |zero=>
  intro v h
  unfold flat at h
  split at h<;>first
   |exact .bH _ rfl
   |(simp only[amB,aoM]at h
     exact .func _ _ _ _ _ rfl rfl (fun i a b h1=>by rw[h.1]at h1;simp at h1) rfl (fun i a b h1=>by rw[h.2]at h1;simp at h1))
   |cases h
   |omega
 |succ d ih=>
  intro v h
  unfold flat at h
  split at h<;>first
   |exact .bH _ rfl
   |(simp only[amB,aoM]at h
     exact .func _ _ _ _ _ rfl rfl (fun i a b h1=>by rw[h.1]at h1;simp at h1) rfl (fun i a b h1=>by rw[h.2]at h1;simp at h1))
   |cases h
   |(rename_i e;cases e;exact .iface _ _ _ (ih _ h))
   |(rename_i e;cases e;refine .agg _ _ rfl fun i a b h1 h2=>?_;rw[h1]at h2;cases h2;exact ih _ (am1.1 h _ (am8 h1)))
   |(rename_i e;cases e;refine .tuple _ _ rfl fun i a b h1 h2=>?_;rw[h1]at h2;cases h2;exact ih _ (am1.1 h _ (am8 h1)))
theorem yK{l l':List amn}(hl:l.length=l'.length)(h:∀(i:Nat) (v v':amn),l[i]?=some v→l'[i]?=some v'→v'=v):l'=l:=by
 apply apq
 intro i
 by_cases hi:i<l.length
 ·have e8:i<l'.length:=hl▸hi
  rw[amt hi,amt e8,h i _ _ (amt hi) (amt e8)]
 ·rw[anH (by omega),anH (by omega)]
theorem wm(ρ:Ren):∀(d:Nat) (v v':amn),flat d v=true→VR ρ v v'→v'=v:=by
 intro d
 induction d with
 |zero=>
  intro v v' h hr
  cases hr with
  |bH=>rfl
  |func fn f f' c c' ho h1 h2 h3 h4=>
   cases fn with
   |func k=>
    simp only[flat,amB,aoM]at h
    have e1:f'=f:=by apply aof;rw[h.1]at h1⊢;cases hf:f'.toList<;>simp_all
    have e2:c'=c:=by apply aof;rw[h.2]at h3⊢;cases hf:c'.toList<;>simp_all
    rw[e1,e2]
   |_=>simp[flat]at h
  |_=>simp[flat]at h
 |succ d ih=>
  intro v v' h hr
  cases hr with
  |bH=>rfl
  |func fn f f' c c' ho h1 h2 h3 h4=>
   cases fn with
   |func k=>
    simp only[flat,amB,aoM]at h
    have e1:f'=f:=by apply aof;rw[h.1]at h1⊢;cases hf:f'.toList<;>simp_all
    have e2:c'=c:=by apply aof;rw[h.2]at h3⊢;cases hf:c'.toList<;>simp_all
    rw[e1,e2]
   |_=>simp[flat]at h
  |iface t v v' hv=>
   simp only[flat]at h
   rw[ih _ _ h hv]
  |agg c c' h1 h2=>
   simp only[flat]at h
   have:c'=c:=aof (yK h1 fun i a b ha hb=>ih _ _ (am1.1 h _ (am8 ha)) (h2 i a b ha hb))
   rw[this]
  |tuple c c' h1 h2=>
   simp only[flat]at h
   have:c'=c:=aof (yK h1 fun i a b ha hb=>ih _ _ (am1.1 h _ (am8 ha)) (h2 i a b ha hb))
   rw[this]
  |_=>simp[flat]at h
theorem ml{ρ:Ren}{v v':amn}(h:fl v=true)(r:VR ρ v v'):v'=v:=wm ρ 6 v v' h r
theorem mX{ρ:Ren}{v:amn}(h:fl v=true):VR ρ v v:=qG ρ 6 v h
theorem LR.wm{ρ:Ren}{l l':List amn}(h:l.all fl=true)(r:LR ρ l l'):l'=l:=
 yK r.len fun i v v' h1 h2=>ml (am1.1 h _ (am8 h1)) (r.at_ i v v' h1 h2)
theorem LR.qG{ρ:Ren}{l:List amn}(h:l.all fl=true):LR ρ l l:=
 ⟨rfl,fun i v v' h1 h2=>by rw[h1]at h2;cases h2;exact mX (am1.1 h _ (am8 h1))⟩
def ai.ro:ai→Bool
 | .cells _ _ r=>r
 | .rows _ _ _=>true
 |_=>false
def Live(o:ai)(r:bP):Bool:=match o with
 | .dead=>false
 | .rows _ _ _=>false
 | .abs _=>false
 | .cells c _ _=> !c.isEmpty|| !(amE r.dn 0)
 |_=>true
theorem nD{c:List amn}{el:amz}{ro:Bool}{r:bP}(h:c≠[]):Live (.cells c el ro) r=true:=by
 cases c with
 |nil=>exact absurd rfl h
 |cons v c=>rfl
theorem Cj{c:List amn}{el:amz}{ro:Bool}{r:bP}(h:Live (.cells c el ro) r=false):c=[]∧r.dn=0:=by
 simp only[Live,ap9,Bool.not_eq_false',aoM]at h
 exact⟨h.1,amI h.2⟩
structure fQ(K:Nat→Prop)(w w':amC):Prop where
 os:w'.os=w.os
 tape:w'.tape=w.tape
 output:w'.output=w.output
 size:w.heap.size≤w'.heap.size
 block:∀k,K k→w'.heap[k]?=w.heap[k]?
theorem fQ.refl(K:Nat→Prop)(w:amC):fQ K w w:=⟨rfl,rfl,rfl,amX _,fun _ _=>rfl⟩
theorem fQ.trans{K:Nat→Prop}{a b c:amC}(h:fQ K a b)(k:fQ K b c):fQ K a c:=
 ⟨k.os.trans h.os,k.tape.trans h.tape,k.output.trans h.output,Nat.le_trans h.size k.size,fun i hi=>(k.block i hi).trans (h.block i hi)⟩
theorem fQ.alloc{K:Nat→Prop}{a w:amC}(h:fQ K a w)(hB:∀k,K k→k<w.heap.size)(o:Obj):fQ K a (w.alloc o):=
 h.trans ⟨rfl,rfl,rfl,by simp,fun k hk=>ao7 _ _ _ (hB k hk)⟩
theorem fQ.below{w₀ w:amC}(h:fQ (fun k=>k<w₀.heap.size) w₀ w):Below w₀.heap.size w₀ w:=⟨h.os,h.tape,h.output,h.size,h.block⟩
def Env(B:Nat→Prop)(w₀:amC):Prop:=∀w,fQ B w₀ w→II w
theorem Env.next{B B':Nat→Prop}{w₀ w:amC}(h:Env B w₀)(hb:fQ B w₀ w)(hB:∀k,B k→B' k):Env B' w:=
 fun w' h'=>h w' (hb.trans ⟨h'.os,h'.tape,h'.output,h'.size,fun k hk=>h'.block k (hB k hk)⟩)
inductive SR(P:amF)(w₀:amC)(B:Nat→Prop):SV→amn→Prop where
 |val (v:amn) (h:af v=true):SR P w₀ B (.val v) v
 |nil (el:amz) (a:Option aoH):SR P w₀ B (.cells 0 [] el) (.slice a 0 0)
 |cells (n:Nat) (c:List amn) (el:amz) (b off cap:Nat) (c':Array amn) (bR:amz) (fr:Nat×Nat) (hB:B b) (hb:w₀.heap[b]?=some (.cells c' bR fr))
  (hc:∀(i:Nat) (v:amn),c[i]?=some v→af v=true∧c'[off+i]?=some v) (hl:off+c.length≤c'.size) (hn:n≤cap) (gD:∀s,bT P el=some s→off+cap*s≤c'.size):
  SR P w₀ B (.cells n c el) (.slice (some ⟨b,off,none⟩) n cap)
 |mY (size:Nat) (row:Nat→List SV) (a:Option aoH):SR P w₀ B (.rows 0 size row) (.slice a 0 0)
 |rows (n size:Nat) (row:Nat→List SV) (b off cap:Nat) (c':Array amn) (bR:amz) (fr:Nat×Nat) (hB:B b) (hb:w₀.heap[b]?=some (.cells c' bR fr)) (hl:off+n*size≤c'.size) (hn:n≤cap) (gD:off+cap*size≤c'.size)
  (hlen:∀i,i<n→(row i).length=size) (u:Nat→Nat→amn) (hu:∀i k,i<n→k<size→c'[off+i*size+k]?=some (u i k))
  (hr:∀(i k:Nat) (sv:SV),i<n→(row i)[k]?=some sv→SR P w₀ B sv (u i k)):SR P w₀ B (.rows n size row) (.slice (some ⟨b,off,none⟩) n cap)
structure mm(P:amF)(w₀:amC)(B:Nat→Prop)(r:bP)(n size:Nat)(row:Nat→List SV):Prop where
 aJ:B r.aJ
 sz:r.sz=size
 at_:∃(c':Array amn) (bR:amz) (fr:Nat×Nat),w₀.heap[r.aJ]?=some (.cells c' bR fr)∧c'.size=r.dn∧r.sh+n*size≤r.dn∧
  ∀i,i<n→(row i).length=size∧∀(k:Nat) (sv:SV),(row i)[k]?=some sv→∃v',c'[r.sh+i*size+k]?=some v'∧SR P w₀ B sv v'
structure mn(ρ:Ren)(e e':amW):Prop where
 key:VR ρ e.key e'.key
 val:VR ρ e.val e'.val
 born:e.born=e'.born
inductive OR(P:amF)(ρ:Ren)(r:bP):ai→Obj→Prop where
 |cells (c:List amn) (el bR:amz) (ro:Bool) (c':Array amn) (fr:Nat×Nat) (hp:c'.size=r.dn) (hs:r.sh+c.length≤r.dn)
  (he:ro=false→bR=el) (hz:∀n,bT P el=some n→r.sz=n) (hf:ro=false→fr.1=fr.2∨r.dn≤fr.1)
  (hc:∀(i:Nat) (v:amn),c[i]?=some v→∃v',c'[r.sh+i]?=some v'∧VR ρ v v'):OR P ρ r (.cells c el ro) (.cells c' bR fr)
 |map (es:List amW) (cH:Array amW) (clock:Nat) (h1:es.length=cH.toList.length)
  (h2:∀(i:Nat) (e e':amW),es[i]?=some e→cH.toList[i]?=some e'→mn ρ e e'):OR P ρ r (.map es clock) (.map cH clock)
 |kr (s:ByteArray) (pos:Nat):OR P ρ r (.kr s pos) (.stringIter s pos)
theorem OR.mono{P:amF}{ρ ρ':Ren}(hl:ρ.le ρ'){r:bP}{o:ai}{o':Obj}(h:OR P ρ r o o'):OR P ρ' r o o':=by
 cases h with
 |cells c el bR ro c' fr hp hs he hz hf hc=>exact .cells c el bR ro c' fr hp hs he hz hf fun i v hv=>let⟨v',h1,h2⟩:=hc i v hv;⟨v',h1,h2.mono hl⟩
 |map es cH clock h1 h2=>exact .map es cH clock h1 fun i e e' a b=>let q:=h2 i e e' a b;⟨q.key.mono hl,q.val.mono hl,q.born⟩
 |kr s pos=>exact .kr s pos
def nE(w:amC)(r:bP)(d:kU)(S:Nat→Prop):Prop:=∃L,BO d r.aJ r.sh r.sz r.dn L∧pB w r.aJ S L
theorem nE.frame{w w':amC}{r:bP}{d:kU}{S:Nat→Prop}(h:nE w r d S)(hs:∀k,S k→w'.heap[k]?=w.heap[k]?):nE w' r d S:=let⟨L,h1,h2⟩:=h;⟨L,h1,h2.frame hs⟩
theorem nE.row{w:amC}{r:bP}{d:kU}{S:Nat→Prop}(h:nE w r d S):∀k,S k→∃o,w.heap[k]?=some o∧yp o=true:=let⟨L,h1,h2⟩:=h;h2.row
def ub(B:Nat→Prop)(ρ:Ren)(g:Nat→Option ai)(w:amC):Prop:=
 ∃F:Nat→Nat→Prop,(∀x d,g x=some (.abs d)→∃r S,ρ x=some r∧nE w r d S∧∀k,S k→F x k)∧
  (∀x k,F x k→(∃d,g x=some (.abs d))∧k<w.heap.size∧¬B k∧∀y o r,g y=some o→ρ y=some r→Live o r=true→r.aJ≠k)∧(∀x y k,F x k→F y k→x=y)
theorem ub.none{B:Nat→Prop}{ρ:Ren}{g:Nat→Option ai}{w:amC}(h:∀x d,g x≠some (.abs d)):ub B ρ g w:=
 ⟨fun _ _=>False,fun x d hx=>absurd hx (h x d),fun _ _ h=>h.elim,fun _ _ _ h=>h.elim⟩
theorem ub.next{B B':Nat→Prop}{ρ ρ':Ren}{g g':Nat→Option ai}{w w':amC}(h:ub B ρ g w)(hle:∀x d,g' x=some (.abs d)→g x=some (.abs d)∧ρ' x=ρ x)
 (hb:∀k,k<w.heap.size→¬B k→(∀y o r,g y=some o→ρ y=some r→Live o r=true→r.aJ≠k)→w'.heap[k]?=w.heap[k]?∧¬B' k∧∀y o r,g' y=some o→ρ' y=some r→Live o r=true→r.aJ≠k)
 (cc:w.heap.size≤w'.heap.size):ub B' ρ' g' w':=by
 obtain⟨F,h1,h2,h3⟩:=h
 refine⟨fun x k=>F x k∧∃d,g' x=some (.abs d),fun x d hx=>?_,fun x k hk=>?_,fun x y k a b=>h3 x y k a.1 b.1⟩
 ·obtain⟨a,b⟩:=hle x d hx
  obtain⟨r,S,c,e,f⟩:=h1 x d a
  exact⟨r,S,by rw[b,c],e.frame fun k hk=>(by obtain⟨_,q2,q3,q4⟩:=h2 x k (f k hk);exact(hb k q2 q3 q4).1),fun k hk=>⟨f k hk,d,hx⟩⟩
 ·obtain⟨_,q2,q3,q4⟩:=h2 x k hk.1
  obtain⟨_,c,e⟩:=hb k q2 q3 q4
  exact⟨hk.2,aoS q2 cc,c,e⟩
structure WR(P:amF)(B:Nat→Prop)(w₀:amC)(ρ:Ren)(g:Nat→Option ai)(w:amC):Prop where
 below:fQ B w₀ w
 env:Env B w₀
 size:∀k,B k→k<w.heap.size
 live:∀x o r,g x=some o→ρ x=some r→Live o r=true→∃o',w.heap[r.aJ]?=some o'∧OR P ρ r o o'∧(o.ro=false→¬B r.aJ)
 inj:∀x y ox oy rx ry,g x=some ox→g y=some oy→ρ x=some rx→ρ y=some ry→Live ox rx=true→Live oy ry=true→(ox.ro=false∨oy.ro=false)→rx.aJ=ry.aJ→x=y
 fresh:∀x,g x=none→ρ x=none
 rows:∀x n size row,g x=some (.rows n size row)→∃r,ρ x=some r∧(0<n→mm P w₀ B r n size row)
 nil:∀x el ro r,g x=some (.cells [] el ro)→ρ x=some r→∀n,bT P el=some n→r.sz=n
 named:∀x o,g x=some o→o≠ .dead→∃r,ρ x=some r
 abs:ub B ρ g w
theorem OR.rows{P:amF}{ρ:Ren}{r:bP}{n size:Nat}{row:Nat→List SV}{o':Obj}(h:OR P ρ r (.rows n size row) o'):False:=by cases h
theorem OR.wo{P:amF}{ρ:Ren}{r:bP}{c:List amn}{el:amz}{ro:Bool}{o':Obj}(h:OR P ρ r (.cells c el ro) o'):∀n,bT P el=some n→r.sz=n:=by
 cases h with
 |cells _ _ _ _ _ _ _ _ _ hz _ _=>exact hz
section
variable {P:amF} {B:Nat→Prop} {w₀:amC} {ρ:Ren} {g:Nat→Option ai} {w:amC}
theorem WR.mem(h:WR P B w₀ ρ g w){x:Nat}{o:ai}(hx:g x=some o){r:bP}(hl:Live o r=true)(hr:ρ x=some r):
 ∃o',w.heap[r.aJ]?=some o'∧OR P ρ r o o'∧(o.ro=false→¬B r.aJ):=h.live x o r hx hr hl
theorem WR.same(h:WR P B w₀ ρ g w){w':amC}(hh:w'.heap=w.heap)(ho:w'.os=w.os)(ht:w'.tape=w.tape)(hu:w'.output=w.output):WR P B w₀ ρ g w' where
 env:=h.env
 below:=⟨ho.trans h.below.os,ht.trans h.below.tape,hu.trans h.below.output,by rw[hh];exact h.below.size,fun k hk=>by rw[hh];exact h.below.block k hk⟩
 size:=by rw[hh];exact h.size
 live:=by rw[hh];exact h.live
 inj:=h.inj
 fresh:=h.fresh
 rows:=h.rows
 nil:=h.nil
 named:=h.named
 abs:=h.abs.next (fun x d hx=>⟨hx,rfl⟩) (fun k _ a b=>⟨by rw[hh],a,b⟩) (by rw[hh];exact amX _)
theorem WR.drew(h:WR P B w₀ ρ g w):WR P B w₀ ρ g w.drew:=h.same rfl rfl rfl rfl
structure nG(w w':amC)(b:Nat)(o:Obj):Prop where
 os:w'.os=w.os
 tape:w'.tape=w.tape
 output:w'.output=w.output
 size:w'.heap.size=w.heap.size
 now:w'.heap[b]?=some o
 rest:∀k,k≠b→w'.heap[k]?=w.heap[k]?
theorem WR.change(h:WR P B w₀ ρ g w){x:Nat}{o o2:ai}(hx:g x=some o){r:bP}(hl:Live o r=true)(hr:ρ x=some r)(hB:¬B r.aJ)
 {w':amC}{o':Obj}(hc:nG w w' r.aJ o')(ho:OR P ρ r o2 o')(db:o.ro=false:=by rfl):WR P B w₀ ρ (cG g x o2) w' where
 env:=h.env
 below:=h.below.trans ⟨hc.os,hc.tape,hc.output,aoB hc.size.symm,fun k hk=>hc.rest k (fun e=>hB (e▸hk))⟩
 size:=by rw[hc.size];exact h.size
 live:=by
  intro y oy ry hy cm cT
  by_cases e:y=x
  ·subst e
   rw[fg]at hy
   cases hy
   rw[hr]at cm
   cases cm
   exact⟨o',hc.now,ho,fun _=>hB⟩
  ·rw[dU _ e]at hy
   obtain⟨Ck,h2,h3,h4⟩:=h.live y oy ry hy cm cT
   refine⟨Ck,?_,h3,h4⟩
   rw[hc.rest]
   ·exact h2
   ·intro e'
    exact e (h.inj y x oy o ry r hy hx cm hr cT hl (.inr db) e')
 inj:=by
  intro y z oy oz ry rz hy hz cm gX cT jG hd e
  have live:∀u ou ru,cG g x o2 u=some ou→ρ u=some ru→Live ou ru=true→∃Cm,g u=some Cm∧Live Cm ru=true∧(ou.ro=false→Cm.ro=false):=by
   intro u ou ru hu wq wu
   by_cases eu:u=x
   ·subst eu;rw[hr]at wq;cases wq;exact⟨o,hx,hl,fun _=>db⟩
   ·rw[dU _ eu]at hu;exact⟨ou,hu,wu,fun h=>h⟩
  obtain⟨Ck,j4,Sm,Sn⟩:=live y oy ry hy cm cT
  obtain⟨So,pF,Sp,Sq⟩:=live z oz rz hz gX jG
  exact h.inj y z Ck So ry rz j4 pF cm gX Sm Sp (hd.imp Sn Sq) e
 fresh:=by
  intro y hy
  by_cases e:y=x
  ·subst e;rw[fg]at hy;cases hy
  ·rw[dU _ e]at hy;exact h.fresh y hy
 rows:=by
  intro y n size row hy
  by_cases e:y=x
  ·subst e;rw[fg]at hy;cases hy;exact ho.rows.elim
  ·rw[dU _ e]at hy;exact h.rows y n size row hy
 nil:=by
  intro y el r8 ry hy cm
  by_cases e:y=x
  ·subst e;rw[fg]at hy;cases hy;rw[hr]at cm;cases cm;exact ho.wo
  ·rw[dU _ e]at hy;exact h.nil y el r8 ry hy cm
 named:=by
  intro y oy hy bt
  by_cases e:y=x
  ·subst e;exact⟨r,hr⟩
  ·rw[dU _ e]at hy;exact h.named y oy hy bt
 abs:=by
  refine h.abs.next (fun y d hy=>?_) (fun k k1 k2 k3=>⟨hc.rest k (fun e=>k3 x o r hx hr hl e.symm),k2,fun y oy ry hy cm cT=>?_⟩) (aoB hc.size.symm)
  ·by_cases e:y=x
   ·subst e;rw[fg]at hy;cases hy;cases ho
   ·rw[dU _ e]at hy;exact⟨hy,rfl⟩
  ·by_cases e:y=x
   ·subst e;rw[hr]at cm;cases cm;exact k3 _ o _ hx hr hl
   ·rw[dU _ e]at hy;exact k3 y oy ry hy cm cT
theorem WR.kill(h:WR P B w₀ ρ g w)(x:Nat){o:ai}(hx:g x=some o):WR P B w₀ ρ (cG g x .dead) w where
 env:=h.env
 below:=h.below
 size:=h.size
 live:=by
  intro y oy ry hy cm cT
  by_cases e:y=x
  ·subst e;rw[fg]at hy;cases hy;cases cT
  ·rw[dU _ e]at hy;exact h.live y oy ry hy cm cT
 inj:=by
  intro y z oy oz ry rz hy hz cm gX cT jG
  have key:∀u ou ru,cG g x .dead u=some ou→Live ou ru=true→g u=some ou:=by
   intro u ou ru hu wu
   by_cases eu:u=x
   ·subst eu;rw[fg]at hu;cases hu;cases wu
   ·rw[dU _ eu]at hu;exact hu
  exact h.inj y z oy oz ry rz (key y oy ry hy cT) (key z oz rz hz jG) cm gX cT jG
 fresh:=by
  intro y hy
  by_cases e:y=x
  ·subst e;rw[fg]at hy;cases hy
  ·rw[dU _ e]at hy;exact h.fresh y hy
 rows:=by
  intro y n size row hy
  by_cases e:y=x
  ·subst e;rw[fg]at hy;cases hy
  ·rw[dU _ e]at hy;exact h.rows y n size row hy
 nil:=by
  intro y el r8 ry hy cm
  by_cases e:y=x
  ·subst e;rw[fg]at hy;cases hy
  ·rw[dU _ e]at hy;exact h.nil y el r8 ry hy cm
 named:=by
  intro y oy hy bt
  by_cases e:y=x
  ·subst e;rw[fg]at hy;cases hy;exact absurd rfl bt
  ·rw[dU _ e]at hy;exact h.named y oy hy bt
 abs:=by
  refine h.abs.next (fun y d hy=>?_) (fun k k1 k2 k3=>⟨rfl,k2,fun y oy ry hy cm cT=>?_⟩) (amX _)
  ·by_cases e:y=x
   ·subst e;rw[fg]at hy;cases hy
   ·rw[dU _ e]at hy;exact⟨hy,rfl⟩
  ·by_cases e:y=x
   ·subst e;rw[fg]at hy;cases hy;cases cT
   ·rw[dU _ e]at hy;exact k3 y oy ry hy cm cT
def Ren.put(ρ:Ren)(x:Nat)(r:bP):Ren:=fun y=>if y=x then some r else ρ y
theorem Ren.ky(ρ:Ren)(x:Nat)(r:bP):ρ.put x r x=some r:=by simp[Ren.put]
theorem Ren.r9(ρ:Ren){x y:Nat}(r:bP)(h:y≠x):ρ.put x r y=ρ y:=by simp[Ren.put,h]
theorem Ren.jH{ρ:Ren}{x:Nat}(h:ρ x=none)(r:bP):ρ.le (ρ.put x r):=fun y s e=>by
 unfold Ren.put
 by_cases hy:y=x
 ·subst hy;rw[h]at e;cases e
 ·rw[if_neg hy,e]
theorem WR.put(h:WR P B w₀ ρ g w){n:Nat}(hn:g n=none){g':Nat→Option ai}(hg:∀y,y≠n→g' y=g y∨g' y=some .dead){o:ai}(gY:g' n=some o){r:bP}{w':amC}
 (hb:fQ B w w')(cc:w.heap.size≤w'.heap.size)
 (hold:∀y oy ry,y≠n→g' y=some oy→g y=some oy→ρ y=some ry→Live oy ry=true→w'.heap[ry.aJ]?=w.heap[ry.aJ]?)
 (uc:Live o r=true→∃o',w'.heap[r.aJ]?=some o'∧OR P (ρ.put n r) r o o'∧(o.ro=false→¬B r.aJ))
 (wv:Live o r=true→∀y oy ry,y≠n→g' y=some oy→g y=some oy→ρ y=some ry→Live oy ry=true→(oy.ro=false∨o.ro=false)→ry.aJ≠r.aJ)
 (yL:∀k,k<w.heap.size→¬B k→(∀y oy ry,g y=some oy→ρ y=some ry→Live oy ry=true→ry.aJ≠k)→w'.heap[k]?=w.heap[k]?∧(Live o r=true→r.aJ≠k))(Cn:∀d,o≠ .abs d)
 (Co:∀m size row,o=.rows m size row→0<m→mm P w₀ B r m size row)(sd:∀el ro,o=.cells [] el ro→∀k,bT P el=some k→r.sz=k):WR P B w₀ (ρ.put n r) g' w':=by
 have own:∀u ou ru,u≠n→g' u=some ou→Live ou ru=true→(ρ.put n r) u=some ru→g u=some ou∧ρ u=some ru:=by
  intro u ou ru hu h1 h2 h3
  rw[Ren.r9 _ _ hu]at h3
  rcases hg u hu with h4|h4
  ·rw[h4]at h1;exact⟨h1,h3⟩
  ·rw[h4]at h1;cases h1;cases h2
 exact
 {env:=h.env
  below:=h.below.trans hb
  size:=fun k hk=>aoS (h.size k hk) cc
  live:=by
   intro y oy ry hy cm cT
   by_cases e:y=n
   ·subst e
    rw[gY]at hy
    cases hy
    rw[Ren.ky]at cm
    cases cm
    exact uc cT
   ·obtain⟨h1,h2⟩:=own y oy ry e hy cT cm
    obtain⟨o',h3,h4,h5⟩:=h.live y oy ry h1 h2 cT
    exact⟨o',by rw[hold y oy ry e hy h1 h2 cT,h3],h4.mono (Ren.jH (h.fresh n hn) r),h5⟩
  inj:=by
   intro y z oy oz ry rz hy hz cm gX cT jG hd e
   by_cases ey:y=n
   ·by_cases ez:z=n
    ·rw[ey,ez]
    ·obtain⟨h1,h2⟩:=own z oz rz ez hz jG gX
     subst ey
     rw[gY]at hy
     cases hy
     rw[Ren.ky]at cm
     cases cm
     exact absurd e.symm (wv cT z oz rz ez hz h1 h2 jG hd.symm)
   ·obtain⟨h1,h2⟩:=own y oy ry ey hy cT cm
    by_cases ez:z=n
    ·subst ez
     rw[gY]at hz
     cases hz
     rw[Ren.ky]at gX
     cases gX
     exact absurd e (wv jG y oy ry ey hy h1 h2 cT hd)
    ·obtain⟨h3,h4⟩:=own z oz rz ez hz jG gX
     exact h.inj y z oy oz ry rz h1 h3 h2 h4 cT jG hd e
  fresh:=by
   intro y hy
   by_cases e:y=n
   ·subst e;rw[gY]at hy;cases hy
   ·rw[Ren.r9 _ _ e]
    rcases hg y e with h4|h4
    ·rw[h4]at hy;exact h.fresh y hy
    ·rw[h4]at hy;cases hy
  rows:=by
   intro y m size row hy
   by_cases e:y=n
   ·subst e;rw[gY]at hy;cases hy;exact⟨r,Ren.ky _ _ _,Co m size row rfl⟩
   ·rw[Ren.r9 _ _ e]
    rcases hg y e with h4|h4
    ·rw[h4]at hy;exact h.rows y m size row hy
    ·rw[h4]at hy;cases hy
  nil:=by
   intro y el r8 ry hy cm
   by_cases e:y=n
   ·subst e;rw[gY]at hy;cases hy;rw[Ren.ky]at cm;cases cm;exact sd el r8 rfl
   ·rw[Ren.r9 _ _ e]at cm
    rcases hg y e with h4|h4
    ·rw[h4]at hy;exact h.nil y el r8 ry hy cm
    ·rw[h4]at hy;cases hy
  named:=by
   intro y oy hy bt
   by_cases e:y=n
   ·subst e;exact⟨r,Ren.ky _ _ _⟩
   ·rw[Ren.r9 _ _ e]
    rcases hg y e with h4|h4
    ·rw[h4]at hy;exact h.named y oy hy bt
    ·rw[h4]at hy;cases hy;exact absurd rfl bt
  abs:=by
   refine h.abs.next (fun y d hy=>?_) (fun k k1 k2 k3=>⟨(yL k k1 k2 k3).1,k2,fun y oy ry hy cm cT=>?_⟩) cc
   ·by_cases e:y=n
    ·subst e;rw[gY]at hy;cases hy;exact absurd rfl (Cn d)
    ·rcases hg y e with h4|h4
     ·rw[h4]at hy;exact⟨hy,Ren.r9 _ _ e⟩
     ·rw[h4]at hy;cases hy
   ·by_cases e:y=n
    ·subst e;rw[gY]at hy;cases hy;rw[Ren.ky]at cm;cases cm;exact(yL k k1 k2 k3).2 cT
    ·obtain⟨h1,h2⟩:=own y oy ry e hy cT cm
     exact k3 y oy ry h1 h2 cT}
theorem WR.alloc(h:WR P B w₀ ρ g w){n:Nat}(hn:g n=none){o:ai}{o':Obj}{r:bP}(hb:r.aJ=w.heap.size)(ho:OR P (ρ.put n r) r o o'):
 WR P B w₀ (ρ.put n r) (cG g n o) (w.alloc o'):=by
 have hlt:∀y oy ry,g y=some oy→ρ y=some ry→Live oy ry=true→ry.aJ<w.heap.size:=fun y oy ry h1 h2 h3=>by
  obtain⟨o2,h5,_⟩:=h.live y oy ry h1 h2 h3
  exact(Array.getElem?_eq_some_iff.1 h5).1
 refine h.put hn (fun y hy=>.inl (dU _ hy)) (fg _ _ _) ((fQ.refl B w).alloc h.size o') (by simp) (fun y oy ry _ _ h1 h2 h3=>ao7 _ _ _ (hlt y oy ry h1 h2 h3))
  (fun _=>⟨o',by rw[hb];show(w.heap.push o')[w.heap.size]?=some o';simp,ho,fun _ hk=>by have:=h.size _ hk;omega⟩)
  (fun _ y oy ry _ _ h1 h2 h3 _ e=>by have:=hlt y oy ry h1 h2 h3;omega) (fun k k1 _ _=>⟨ao7 _ _ _ k1,fun _ e=>by omega⟩) (fun d e=>by subst e;cases ho) (fun m s q e=>by subst e;exact ho.rows.elim) (fun el ro e=>by subst e;exact ho.wo)
theorem WR.rename(h:WR P B w₀ ρ g w){n b:Nat}(hn:g n=none){ob:ai}(hb:g b=some ob){rb:bP}(se:Live ob rb=true)(Cp:ρ b=some rb)(hB:¬B rb.aJ)
 {w':amC}{o':Obj}(hc:nG w w' rb.aJ o'){o:ai}{r:bP}(hr:r.aJ=rb.aJ)(ho:OR P (ρ.put n r) r o o')(db:ob.ro=false:=by rfl):
 WR P B w₀ (ρ.put n r) (cG (cG g b .dead) n o) w':=by
 have bt:∀y oy ry,y≠n→cG (cG g b .dead) n o y=some oy→Live oy ry=true→y≠b:=fun y oy ry e h1 h2 eb=>by
  subst eb
  rw[dU _ e,fg]at h1
  cases h1
  cases h2
 have IT:∀y oy ry,y≠n→cG (cG g b .dead) n o y=some oy→g y=some oy→ρ y=some ry→Live oy ry=true→ry.aJ≠rb.aJ:=fun y oy ry e h0 h1 h2 h3 e'=>
  bt y oy ry e h0 h3 (h.inj y b oy ob ry rb h1 hb h2 Cp h3 se (.inr db) e')
 refine h.put hn (fun y hy=>?_) (fg _ _ _) ⟨hc.os,hc.tape,hc.output,aoB hc.size.symm,fun k hk=>hc.rest k (fun e=>hB (e▸hk))⟩ (aoB hc.size.symm)
  (fun y oy ry e h0 h1 h2 h3=>hc.rest _ (IT y oy ry e h0 h1 h2 h3)) (fun _=>⟨o',by rw[hr];exact hc.now,ho,fun _=>by rw[hr];exact hB⟩)
  (fun _ y oy ry e h0 h1 h2 h3 _=>by rw[hr];exact IT y oy ry e h0 h1 h2 h3) (fun k k1 _ k3=>⟨hc.rest k fun e=>k3 b ob rb hb Cp se e.symm,fun _=>by rw[hr];exact k3 b ob rb hb Cp se⟩) (fun d e=>by subst e;cases ho) (fun m s q e=>by subst e;exact ho.rows.elim) (fun el ro e=>by subst e;exact ho.wo)
 rw[dU _ hy]
 by_cases e:y=b
 ·right;rw[e,fg]
 ·left;rw[dU _ e]
end
theorem oN(b off j:Nat):(⟨b,off,none⟩:aoH).add j=⟨b,off+j,none⟩:=by
 unfold Addr.add
 by_cases h:j=0
 ·rw[if_pos h,h];rfl
 ·rw[if_neg h]
theorem Cq{w:amC}{b:Nat}{c:Array amn}{el:amz}{fr:Nat×Nat}(h:w.heap[b]?=some (.cells c el fr))(i:Nat):w.cell? ⟨b,i,none⟩=c[i]? :=by
 simp[World.cell?,h]
def pI(c:Array amn)(off:Nat):List amn→Array amn
 | []=>c
 |v::l=>pI (c.setIfInBounds off v) (off+1) l
theorem Cr(c:Array amn):∀(l:List amn) (off:Nat),(pI c off l).size=c.size:=by
 intro l
 induction l generalizing c with
 |nil=>intro off;rfl
 |cons v l ih=>intro off;simp[pI,ih]
theorem yM:∀(l:List amn) (c:Array amn) (off i:Nat),off+l.length≤c.size→
 (pI c off l)[i]?=if off≤i∧i<off+l.length then l[i-off]?else c[i]?
 | [],c,off,i,h=>by
  have:¬(off≤i∧i<off+([]:List amn).length):=fun hh=>by simp at hh;omega
  rw[if_neg this];rfl
 |v::l,c,off,i,h=>by
  simp only[am9]at h
  rw[pI,yM l _ (off+1) i (by simp;omega)]
  by_cases h1:off+1≤i∧i<off+1+l.length
  ·rw[if_pos h1,if_pos (by simp;omega)]
   rw[show i-off=(i-(off+1))+1 by omega]
   rfl
  ·rw[if_neg h1]
   by_cases h2:i=off
   ·subst h2
    rw[if_pos (by simp),Array.getElem?_setIfInBounds_self,if_pos (by omega)]
    simp
   ·rw[if_neg (by simp;omega)]
    simp[Array.getElem?_setIfInBounds_ne (Ne.symm h2)]
theorem Cs{P:amF}{w:amC}{b:Nat}{el:amz}{fr:Nat×Nat}:∀(vs:List amn) (w':amC) (c:Array amn) (off i:Nat),
 nG w w' b (.cells c el fr)→off+i+vs.length≤c.size→(fr.1=fr.2∨c.size≤fr.1)→(vs.all ano)=true→
 ∃w2,(storeCells ⟨b,off,none⟩ vs i).run P w'=.ok () w2∧nG w w2 b (.cells (pI c (off+i) vs) el fr)
 | [],w',c,off,i,hc,_,_,_=>⟨w',rfl,hc⟩
 |v::vs,w',c,off,i,hc,hl,hf,ho=>by
  simp only[am9]at hl
  simp only[List.all_cons,amB]at ho
  have sg:w'.cell? ⟨b,off+i,none⟩=some (c[off+i]'(by omega)):=by
   rw[Cq hc.now,Array.getElem?_eq_getElem]
  have nH:w'.frozen? ⟨b,off+i,none⟩=false:=by
   simp only[World.frozen?,hc.now]
   rcases hf with hf|hf
   ·obtain⟨lo,hi⟩:=fr
    simp only at hf
    subst hf
    simp only[Bool.and_eq_false_iff,decide_eq_false_iff_not]
    omega
   ·have:¬fr.1≤off+i:=by omega
    simp[this]
  have il:nG w (w'.setCell ⟨b,off+i,none⟩ v) b (.cells (c.setIfInBounds (off+i) v) el fr):=
   ⟨hc.os,hc.tape,hc.output,by rw[World.size_setCell,hc.size],by simp[World.setCell,aoV,hc.now],fun k hk=>by
    rw[Below.heap_setCell _ _ _ _ hk];exact hc.rest k hk⟩
  obtain⟨w2,hr,hw⟩:=Cs vs _ (c.setIfInBounds (off+i) v) off (i+1) il (by simp;omega) (by simpa using hf) ho.2
  refine⟨w2,?_,hw⟩
  show(aoN P (store ((⟨b,off,none⟩:aoH).add i) v>>=fun _=>storeCells ⟨b,off,none⟩ vs (i+1)) w')=_
  rw[amp,oN,run_store _ _ _ _ _ ho.1,sg]
  simp only[nH,anr,if_false,amo]
  exact hr
theorem nG.refl{w:amC}{b:Nat}{o:Obj}(h:w.heap[b]?=some o):nG w w b o:=⟨rfl,rfl,rfl,rfl,h,fun _ _=>rfl⟩
theorem yN{P:amF}{w:amC}{b:Nat}{c:Array amn}{el:amz}{fr:Nat×Nat}(hb:w.heap[b]?=some (.cells c el fr))(off n:Nat)(h:off+n≤c.size):
 (loadCells ⟨b,off,none⟩ n).run P w=.ok ((c.toList.drop off).take n).toArray w:=by
 have hlen:((c.toList.drop off).take n).length=n:=by simp;omega
 have:=run_loadCells_list (P:=P) w ⟨b,off,none⟩ ((c.toList.drop off).take n) (fun j v hj=>by
  rw[oN,Cq hb]
  rw[anJ]at hj
  split at hj
  ·simpa using hj
  ·cases hj)
 rwa[hlen]at this
end Go.Proofs.Ytnlkkgpcikkpoaa.Vm
namespace Go.Proofs.Ytnlkkgpcikkpoaa.Vm
open Go.RowKit
theorem Sr{α:Type}{P:amF}:∀{s:Sem α} {a:α},fY P s=some (.ok a)→∀w:amC,s.run P w=.ok a w:=by
 intro s
 induction s with
 |pure b=>intro a h w;simp[fY]at h;subst h;rfl
 |program k ih=>intro a h w;simp only[fY]at h;simp only[aoN];exact ih P h w
 |mark m k ih=>intro a h w;simp only[fY]at h;simp only[aoN];exact ih h w
 |halt x=>intro a h w;cases x<;>simp[fY]at h
 |_=>intro a h;simp[fY]at h
theorem Ss{α:Type}{P:amF}:∀{s:Sem α} {v:amn},fY P s=some (.error v)→∀w:amC,s.run P w=.halt (.panic v) w:=by
 intro s
 induction s with
 |pure b=>intro a h;simp[fY]at h
 |program k ih=>intro a h w;simp only[fY]at h;simp only[aoN];exact ih P h w
 |mark m k ih=>intro a h w;simp only[fY]at h;simp only[aoN];exact ih h w
 |halt x=>intro a h w;cases x<;>simp[fY]at h;subst h;rfl
 |_=>intro a h;simp[fY]at h
section
variable {P:amF}
theorem run_underlying{t:amz}{d:apY}(h:P.underlying t=some d)(w:amC):(underlying t).run P w=.ok d w:=by
 simp only[underlying,amp,aor,amo,h];rfl
theorem run_sizeOf{t:amz}{n:Nat}(h:bT P t=some n)(w:amC):(sizeOf t).run P w=.ok n w:=by
 unfold bT at h
 cases hi:P.info? t with
 |none=>rw[hi]at h;cases h
 |some i=>
  rw[hi]at h
  cases h
  simp only[sizeOf,typeInfo,amp,aor,amo,hi];rfl
theorem yO{t:amz}{b:Bool}(h:nu P t=some b)(w:amC):(isAgg t).run P w=.ok b w:=by
 unfold nu at h
 unfold isAgg
 cases hu:P.underlying t with
 |none=>rw[hu]at h;cases h
 |some d=>
  rw[hu]at h
  rw[amp,run_underlying hu,amo]
  cases d<;>simp at h<;>subst h<;>rfl
theorem mo{t:amz}{z:amn}(h:zeroOf P t=some z)(w:amC):(zeroValue t).run P w=.ok z w:=by
 unfold zeroOf at h
 cases hi:P.info? t with
 |none=>rw[hi]at h;cases h
 |some i=>
  rw[hi]at h
  simp only[zeroValue,typeInfo,amp,aor,amo,hi,am6]
  have:i.zero=some z:=h
  rw[this];rfl
end
inductive RR(ρ:Ren):jE→Result aoo→amC→Prop where
 |val (v v':amn) (w:amC) (h:VR ρ v v'):RR ρ (.val v) (.ok (.value v') w) w
 |skip (w:amC):RR ρ .skip (.ok .skip w) w
 |panic (v v':amn) (w:amC) (h:VR ρ v v'):RR ρ (.panic v) (.halt (.panic v') w) w
 |enter (f:amY) (l:List amn) (a:Array amn) (w:amC) (h:LR ρ l a.toList):RR ρ (.enter f l) (.ok (.enter f a) w) w
def ud(g:Nat→Option ai)(n:Nat)(out:bi):Nat→Option ai:=
 let g1:=out.ws.foldl (fun g (x,o)=>cG g x o) g
 match out.nw with
 |none=>g1
 |some o=>cG g1 n o
structure Fits(P:amF)(B:Nat→Prop)(w₀:amC)(ρ:Ren)(g:Nat→Option ai)(n:Nat)(out:bi)(nI:Result aoo):Prop where
 ex:∃ρ' w',ρ.le ρ'∧RR ρ' out.r nI w'∧WR P B w₀ ρ' (ud g n out) w'
section
variable {P:amF} {B:Nat→Prop} {w₀:amC} {ρ:Ren} {g:Nat→Option ai} {n:Nat} {w:amC}
theorem Fits.val(hw:WR P B w₀ ρ g w){v v':amn}(h:VR ρ v v'):Fits P B w₀ ρ g n ⟨.val v,[],none⟩ (.ok (.value v') w):=
 ⟨ρ,w,Ren.le_refl ρ,.val v v' w h,hw⟩
theorem Fits.dp(hw:WR P B w₀ ρ g w){v v':amn}{out:bi}{l:List Nat}(ho:(Vm.val v).run g=some (out,l))(h:VR ρ v v'):
 Fits P B w₀ ρ g n out (.ok (.value v') w):=by
 simp only[Vm.val,Rd.run,amr,amv]at ho
 obtain⟨rfl,rfl⟩:=ho
 exact Fits.val hw h
theorem nJ(hw:WR P B w₀ ρ g w){s:Sem aoo}{out:bi}{l:List Nat}(ho:(jY P s).run g=some (out,l)):
 Fits P B w₀ ρ g n out (s.run P w):=by
 unfold jY at ho
 split at ho
 ·rename_i v hp
  split at ho
  ·rename_i hf
   rw[Sr hp]
   exact Fits.dp hw ho (mX hf)
  ·cases ho
 ·rename_i v hp
  split at ho
  ·rename_i hf
   rw[Ss hp]
   simp only[Rd.run,amr,amv]at ho
   obtain⟨rfl,rfl⟩:=ho
   exact⟨ρ,w,Ren.le_refl ρ,.panic v v w (mX hf),hw⟩
  ·cases ho
 ·cases ho
theorem qH(hw:WR P B w₀ ρ g w){b:Nat}{c:List amn}{el:amz}{ro:Bool}(hb:g b=some (.cells c el ro)){r:bP}(hr:ρ b=some r)(kX:Live (.cells c el ro) r=true):
 ∃c' fr,(∃bR,w.heap[r.aJ]?=some (.cells c' bR fr)∧(ro=false→bR=el))∧c'.size=r.dn∧r.sh+c.length≤r.dn∧(∀n,bT P el=some n→r.sz=n)∧
  (ro=false→fr.1=fr.2∨r.dn≤fr.1)∧LR ρ c ((c'.toList.drop r.sh).take c.length)∧(ro=false→¬B r.aJ):=by
 obtain⟨o',h1,h2,h3⟩:=hw.mem hb kX hr
 cases h2 with
 |cells _ _ bR _ c' fr hp hs he hz hf hc=>
  refine⟨c',fr,⟨bR,h1,he⟩,hp,hs,hz,hf,⟨by simp;omega,fun i v v' hv fG=>?_⟩,h3⟩
  obtain⟨u,hu,hr⟩:=hc i v hv
  rw[anJ]at fG
  split at fG
  ·rw[anK]at fG
   have:c'.toList[r.sh+i]?=some u:=by simpa using hu
   rw[this]at fG
   cases fG
   exact hr
  ·cases fG
theorem IU(hw:WR P B w₀ ρ g w){b:Nat}{c:List amn}{el:amz}{ro:Bool}(hb:g b=some (.cells c el ro)){r:bP}(hr:ρ b=some r):∀n,bT P el=some n→r.sz=n:=by
 cases kX:Live (.cells c el ro) r with
 |true=>
  obtain⟨_,_,_,_,_,h,_⟩:=qH hw hb hr kX
  exact h
 |false=>
  obtain⟨rfl,_⟩:=Cj kX
  exact hw.nil b el ro r hb hr
theorem ue{c:List amn}{off n:Nat}{l:List amn}(h:cut c off n=some l):off+n≤c.length∧l=(c.drop off).take n:=by
 unfold cut at h
 split at h
 ·rename_i hb;cases h;exact⟨amS hb,rfl⟩
 ·cases h
theorem yP{c:List amn}{d:List amn}{sh off n:Nat}(hl:LR ρ c ((d.drop sh).take c.length))(h:off+n≤c.length):
 LR ρ ((c.drop off).take n) ((d.drop (sh+off)).take n):=by
 have h1:=(hl.drop off).take n
 rwa[List.drop_take,List.take_take,List.drop_drop,Nat.min_eq_left (by omega)]at h1
theorem ug(hw:WR P B w₀ ρ g w){t:amz}{b off:Nat}{v:amn}{l:List Nat}(h:(pC P t b off).run g=some (v,l)){r:bP}(hr:ρ b=some r):
 ∃v',(loadVar t ⟨r.aJ,r.sh+off,none⟩).run P w=.ok v' w∧VR ρ v v':=by
 obtain⟨o,l',hb,hk,rfl⟩:=Rd.run_read h
 split at hk
 ·rename_i c el ro
  split at hk
  ·rename_i si
   split at hk
   ·rename_i m hm
    split at hk
    ·rename_i cs pJ
     obtain⟨hle,rfl⟩:=ue pJ
     obtain⟨c',fr,⟨bR,h1,_⟩,hp,hs,hz,hf,hl,_⟩:=qH hw hb hr (nD (by intro e;rw[e]at hle;simp at hle))
     simp only[Rd.run,amr,amv]at hk
     obtain⟨rfl,rfl⟩:=hk
     refine⟨_,?_,VR.IQ (yP hl hle)⟩
     unfold loadVar
     rw[amp,yO si,amo]
     simp only[if_true,amp,run_sizeOf hm,amo,yN h1 (r.sh+off) (m+1) (by omega),am6]
    ·cases hk
   ·cases hk
  ·rename_i si
   split at hk
   ·rename_i u hu
    simp only[Rd.run,amr,amv]at hk
    obtain⟨rfl,rfl⟩:=hk
    obtain⟨c',fr,⟨bR,h1,_⟩,hp,hs,hz,hf,hl,_⟩:=qH hw hb hr (nD (by intro e;rw[e]at hu;cases hu))
    obtain⟨u',h2,h3⟩:=hl.get hu
    rw[anJ]at h2
    split at h2
    ·rw[anK]at h2
     refine⟨u',?_,h3⟩
     unfold loadVar
     rw[amp,yO si,amo]
     have sg:w.cell? ⟨r.aJ,r.sh+off,none⟩=some u':=by rw[Cq h1];simpa using h2
     simp only[anr,if_false,run_load,sg]
    ·cases h2
   ·cases hk
  ·cases hk
 ·cases hk
theorem WR.newRow(hw:WR P B w₀ ρ g w)(hn:g n=none){c:List amn}{t:amz}{c':Array amn}{fr:Nat×Nat}(hs:c.length≤c'.size)
 (hf:fr.1=fr.2∨c'.size≤fr.1)(hc:LR ρ c (c'.toList.take c.length)):
 WR P B w₀ (ρ.put n ⟨w.heap.size,0,(bT P t).getD 0,c'.size⟩) (cG g n (.cells c t false)) (w.alloc (.cells c' t fr)):=by
 refine hw.alloc hn rfl ?_
 refine .cells c t t false c' fr rfl (by simpa using hs) (fun _=>rfl) (fun m hm=>by simp[hm]) (fun _=>hf) fun i v hv=>?_
 obtain⟨v',h1,h2⟩:=hc.get hv
 rw[anJ]at h1
 split at h1
 ·exact⟨v',by simpa using h1,h2.mono (Ren.jH (hw.fresh n hn) _)⟩
 ·cases h1
theorem Fits.newRow(hw:WR P B w₀ ρ g w)(hn:g n=none){c:List amn}{t:amz}{c':Array amn}{v v':amn}(hs:c.length=c'.size)
 (hc:LR ρ c c'.toList)(hv:∀ρ':Ren,ρ' n=some ⟨w.heap.size,0,(bT P t).getD 0,c'.size⟩→VR ρ' v v'):
 Fits P B w₀ ρ g n ⟨.val v,[],some (.cells c t false)⟩ (.ok (.value v') (w.alloc (.cells c' t))):=
 ⟨_,_,Ren.jH (hw.fresh n hn) _,.val v v' _ (hv _ (Ren.ky _ _ _)),hw.newRow hn (aoB hs) (.inl rfl) (by rw[hs,anI (by simp)];exact hc)⟩
theorem LR.Ct{c c':Array amn}(h:LR ρ c.toList c'.toList):c.size=c'.size:=by have:=h.len;simpa using this
theorem sj{ob:ai}{v:amn}{out:bi}{l:List Nat}(h:(new ob v).run g=some (out,l)):out=⟨.val v,[],some ob⟩:=by
 simp only[new,Rd.run,amr,amv]at h
 exact h.1.symm
theorem Su(hw:WR P B w₀ ρ g w){t:amz}{out:bi}{l:List Nat}(hn:out.nw≠none→g n=none)(h:(BT P t n).run g=some (out,l)):
 Fits P B w₀ ρ g n out ((do let v ←asg t true (.tuple #[]);pure (anC v):Sem aoo).run P w):=by
 unfold BT at h
 split at h
 ·rename_i z hz
  split at h
  ·rename_i hf
   obtain rfl:=sj h
   replace hn:=hn (by simp)
   simp only[asg,amp,mo hz,amo,newVar,newRow,arF,am6]
   exact Fits.newRow hw hn (by simp) (mX hf).cells fun ρ' h'=>by simpa using VR.ptr (ρ:=ρ') n 0 _ h'
  ·cases h
 ·cases h
theorem Sv(hw:WR P B w₀ ρ g w){t:amz}{v v':amn}(hv:VR ρ v v'){out:bi}{l:List Nat}
 (hn:out.nw≠none→g n=none)(h:(new (.cells v.cells.toList t false) (.pointer (some ⟨n,0,none⟩))).run g=some (out,l)):
 Fits P B w₀ ρ g n out ((do let v ←ast t v';pure (anC v):Sem aoo).run P w):=by
 obtain rfl:=sj h
 replace hn:=hn (by simp)
 simp only[ast,amp,amo,newVar,newRow,arF,am6]
 exact Fits.newRow hw hn (by simpa using hv.cells.Ct) hv.cells fun ρ' h'=>by simpa using VR.ptr (ρ:=ρ') n 0 _ h'
theorem Sw(hw:WR P B w₀ ρ g w){t:amz}{a a':amn}(ha:VR ρ a a'){out:bi}{l:List Nat}(h:(rX P t a).run g=some (out,l)):
 Fits P B w₀ ρ g n out ((do let v ←ar6 t a';pure (anC v):Sem aoo).run P w):=by
 unfold rX at h
 split at h
 ·rename_i b off
  obtain⟨r,hr,rfl⟩:=ha.kx
  obtain⟨v,l1,l2,h1,h2,rfl⟩:=(Rd.run_bind _ _ _ _ _).1 h
  obtain⟨v',h3,h4⟩:=ug hw h1 hr
  simp only[ar6,ao6,amp,am6,amo,h3]
  exact Fits.dp hw h2 h4
 ·cases h
theorem Cu{c vs:List amn}{off:Nat}(h:off+vs.length≤c.length)(i:Nat):
 (amk c off vs)[i]?=if off≤i∧i<off+vs.length then vs[i-off]?else c[i]? :=by
 unfold amk
 have hl:(c.take off).length=off:=by simp;omega
 by_cases h1:i<off
 ·rw[if_neg (by omega),amQ,ane (by omega),anJ,if_pos h1]
 ·rw[amQ,am5 (by omega),hl]
  by_cases h2:i<off+vs.length
  ·rw[if_pos ⟨by omega,h2⟩,ane (by omega)]
  ·rw[if_neg (by omega),am5 (by omega),anK]
   congr 1
   omega
theorem nK{c vs:List amn}{off:Nat}(h:off+vs.length≤c.length):(amk c off vs).length=c.length:=by
 unfold amk;simp;omega
theorem LR.yJ{l l':List amn}(h:LR ρ l l')(ho:(l.all ano)=true):(l'.all ano)=true:=by
 rw[am1]at*
 intro v' fG
 obtain⟨i,hi⟩:=List.getElem?_of_mem fG
 have hlt:i<l'.length:=(amy.1 hi).1
 have IV:i<l.length:=h.len▸hlt
 rw[(h.at_ i _ v' (amt IV) hi).yJ]
 exact ho _ (List.getElem_mem IV)
theorem WR.store(hw:WR P B w₀ ρ g w){b:Nat}{c:List amn}{el:amz}(hb:g b=some (.cells c el false)){r:bP}(hr:ρ b=some r)
 {vs jp:List amn}(hv:LR ρ vs jp){off:Nat}(hle:off+vs.length≤c.length)(ho:(vs.all ano)=true):
 ∃w',(storeCells ⟨r.aJ,r.sh+off,none⟩ jp).run P w=.ok () w'∧WR P B w₀ ρ (cG g b (.cells (amk c off vs) el false)) w':=by
 by_cases bt:c=[]
 ·subst bt
  have Cv:vs=[]:=ant (by have:off+vs.length≤0:=hle;omega)
  subst Cv
  have:=hv.kw
  subst this
  refine⟨w,rfl,?_⟩
  have:cG g b (.cells (amk [] off []) el false)=g:=by
   funext x
   by_cases e:x=b
   ·subst e;rw[fg,hb];simp[amk]
   ·rw[dU _ e]
  rw[this]
  exact hw
 obtain⟨c',fr,⟨bR,h1,he⟩,hp,hs,hz,hf,hl,hB⟩:=qH hw hb hr (nD bt)
 obtain rfl:=he rfl
 replace hf:=hf rfl
 have hlen:=hv.len
 obtain⟨w',h2,h3⟩:=Cs (P:=P) jp w c' (r.sh+off) 0 (nG.refl h1) (by omega) (by rwa[hp]) (hv.yJ ho)
 refine⟨w',h2,hw.change hb (nD bt) hr (hB rfl) h3 ?_⟩
 refine .cells _ _ _ _ _ fr (by rw[Cr,hp]) (by rw[nK hle];exact hs) (fun _=>rfl) hz (fun _=>hf) fun i v hi=>?_
 rw[Cu hle]at hi
 rw[yM _ _ _ _ (by omega)]
 by_cases e9:off≤i∧i<off+vs.length
 ·rw[if_pos e9]at hi
  rw[if_pos (by omega)]
  obtain⟨v',h4,h5⟩:=hv.get hi
  refine⟨v',?_,h5⟩
  rw[show r.sh+i-(r.sh+off+0)=i-off by omega]
  exact h4
 ·rw[if_neg e9]at hi
  rw[if_neg (by omega)]
  obtain⟨v',h4,h5⟩:=hl.get hi
  rw[anJ]at h4
  split at h4
  ·exact⟨v',by simpa using h4,h5⟩
  ·cases h4
theorem Sx(hw:WR P B w₀ ρ g w){t:amz}{a a' x x':amn}(ha:VR ρ a a')(hx:VR ρ x x'){out:bi}{l:List Nat}(h:(rY P t a x).run g=some (out,l)):
 Fits P B w₀ ρ g n out ((do arf t a' x';pure Next.skip:Sem aoo).run P w):=by
 unfold rY at h
 split at h
 ·rename_i b off
  obtain⟨r,hr,rfl⟩:=ha.kx
  split at h
  ·rename_i size cc
   obtain⟨o,l',hb,hk,rfl⟩:=Rd.run_read h
   split at hk
   ·rename_i c el
    split at hk
    ·rename_i hc
     simp only[amB]at hc
     obtain⟨⟨h1,h2⟩,h3⟩:=hc
     have h1:=amI h1
     have h2:=amS h2
     simp only[Rd.run,amr,amv]at hk
     obtain⟨rfl,rfl⟩:=hk
     obtain⟨w',h4,h5⟩:=hw.store hb hr hx.cells (off:=off) (by simp;omega) h3
     refine⟨ρ,w',Ren.le_refl ρ,?_,h5⟩
     have Sy:x'.cells.size=size:=by rw[←hx.cells.Ct,h1]
     have jI:(arf t (.pointer (some ⟨r.aJ,r.sh+off,none⟩)) x').run P w=.ok () w':=by
      simp only[arf,ao6,storeVar,amp,am6,amo,run_sizeOf cc,Sy,ne_eq,not_true_eq_false,if_false,h4]
     rw[amp,jI]
     exact .skip w'
    ·cases hk
   ·cases hk
  ·cases h
 ·cases h
end
end Go.Proofs.Ytnlkkgpcikkpoaa.Vm
namespace Go.Proofs.Ytnlkkgpcikkpoaa.Vm
open Go.RowKit
section
variable {P:amF}
theorem yQ{t:amz}{cs:Array amn}{d k:Nat}{v:amn}(hk:bT P t=some k)
 (h:(nu P t=some true∧d+k≤cs.size∧v=.agg (cs.extract d (d+k)))∨(nu P t=some false∧cs[d]?=some v)){w:amC}:(part t cs d).run P w=.ok v w:=by
 unfold part
 rcases h with⟨h1,h2,rfl⟩|⟨h1,h2⟩
 ·rw[amp,yO h1,amo]
  simp only[if_true,amp,run_sizeOf hk,amo,am6]
 ·rw[amp,yO h1,amo]
  simp only[anr,if_false,h2,am6]
theorem IW{ft:amz}{cs:Array amn}{d:Nat}{v:amn}(h:yw P ft cs.toList d=some v)(w:amC):(part ft cs d).run P w=.ok v w:=by
 unfold yw at h
 split at h
 ·rename_i k mq hk
  split at h
  ·rename_i l pJ
   cases h
   obtain⟨hle,rfl⟩:=ue pJ
   rw[yQ hk (.inl ⟨mq,by simp at hle;omega,rfl⟩)]
   have:(cs.extract d (d+k))=((cs.toList.drop d).take k).toArray:=by
    apply aof
    simp[aox,aou]
   rw[this]
  ·cases h
 ·rename_i k mq hk
  exact yQ hk (.inr ⟨mq,by simpa using h⟩)
 ·cases h
theorem IX{d:Nat}{xs ys:Array amn}{F:apt→Option Bool}:∀(l:List apt) (r:Bool),v5 F l=some r→(∀f b,F f=some b→f.name≠ "_" ∧∃u v,(∀w:amC,(part f.type xs f.offset).run P w=.ok u w)∧(∀w:amC,(part f.type ys f.offset).run P w=.ok v w)∧∀w:amC,(apg d f.type u v).run P w=.ok b w)→
 ∀w:amC,(forIn l ((none:Option Bool),()) fun(f:apt) (__s:Option Bool×Unit)=>
     if f.name≠ "_" then do
      let __do_lift ←part f.type xs f.offset
      let __do_lift_1 ←part f.type ys f.offset
      let __do_lift ←apg d f.type __do_lift __do_lift_1
      if(!__do_lift)=true then(pure (ForInStep.done (some false,())):Sem (ForInStep (Option Bool×Unit)))
       else pure (arG (none,()))
     else pure (arG (none,()))).run P w=.ok (if r then(none,())else(some false,())) w
 | [],r,h,hF,w=>by
   simp only[v5,amr]at h
   subst h
   rfl
 |f::l,r,h,hF,w=>by
  unfold v5 at h
  split at h
  ·rename_i a b ha hb
   simp only[amr]at h
   subst h
   obtain⟨h1,u,v,h2,h3,h4⟩:=hF f a ha
   rw[List.forIn_cons]
   rw[if_pos h1]
   simp only[amp,h2,h3,h4,amo]
   cases a with
   |false=>rfl
   |true=>
    simp only[aqD,anr,if_false,am6,amo,Bool.true_and]
    exact IX l b hb hF w
  ·cases h
theorem Cw:∀(d:Nat) (t:amz) (x y:amn) (r:Bool),v7 P d t x y=some r→∀w:amC,(apg d t x y).run P w=.ok r w
 |0,t,x,y,r,h,w=>by cases h
 |d+1,t,x,y,r,h,w=>by
  unfold v7 at h
  unfold apg
  split at h
  ·rename_i ht
   split at h
   ·cases h
    rw[amp,run_underlying ht,amo]
    rfl
   ·cases h
  ·rename_i ht
   split at h
   ·split at h
    ·rename_i hk
     cases h
     have hk:=of_decide_eq_true hk
     rw[amp,run_underlying ht,amo]
     dsimp only
     rw[if_pos hk]
     rfl
    ·cases h
   ·cases h
  ·rename_i ht
   split at h
   ·cases h
    rw[amp,run_underlying ht,amo]
    rfl
   ·cases h
  ·rename_i fs ht
   split at h
   ·rename_i xs ys
    split at h
    ·cases h
    ·rename_i dw
     rw[amp,run_underlying ht,amo]
     dsimp only
     rw[amp,aor,amo]
     rw[dw]
     simp only[anr,if_false]
     rw[←Array.forIn_toList]
     rw[amp,IX (d:=d) fs.toList r h (fun f b hf=>?_) w,amo]
     ·cases r<;>rfl
     ·split at hf
      ·cases hf
      ·rename_i kY
       refine⟨by simpa using kY,?_⟩
       split at hf
       ·rename_i u v hu hv
        exact⟨u,v,IW hu,IW hv,Cw d f.type u v b hf⟩
       ·cases hf
   ·cases h
  ·cases h
theorem Sz{op:BinOp}{t:amz}{x y:anX}{a b:amn}{r:Bool}(h:BX P op t a b=some r)(w:amC):((do eqGuard op t x y a b;binOp op t a b):Sem amn).run P w=.ok (.bool r) w:=by
 unfold BX at h
 split at h
 ·rename_i xs ys
  split at h
  ·cases h
  ·rename_i hg
   have Cy:∀w:amC,(eqGuard .eql t x y (.agg xs) (.agg ys)).run P w=.ok () w:=fun w=>by
    unfold eqGuard
    simp only[aqD,anr,if_false]
    rw[amp,aor,amo,amp,aor,amo,hg]
    rfl
   have he:(ao8 t (.agg xs) (.agg ys)).run P w=.ok r w:=Cw 10000 t _ _ r h w
   rw[amp,Cy,amo]
   show(aoN P (do pure (.bool (←ao8 t (.agg xs) (.agg ys))):Sem amn) w)=_
   rw[amp,he]
   rfl
 ·rename_i xs ys
  split at h
  ·cases h
  ·rename_i hg
   have Cy:∀w:amC,(eqGuard .neq t x y (.agg xs) (.agg ys)).run P w=.ok () w:=fun w=>by
    unfold eqGuard
    simp only[aqD,anr,if_false]
    rw[amp,aor,amo,amp,aor,amo,hg]
    rfl
   obtain⟨q,hq,rfl⟩:=Option.map_eq_some_iff.1 h
   have he:(ao8 t (.agg xs) (.agg ys)).run P w=.ok q w:=Cw 10000 t _ _ q hq w
   rw[amp,Cy,amo]
   show(aoN P (do pure (.bool (!(←ao8 t (.agg xs) (.agg ys)))):Sem amn) w)=_
   rw[amp,he]
   rfl
 ·cases h
end
end Go.Proofs.Ytnlkkgpcikkpoaa.Vm
namespace Go.Proofs.Ytnlkkgpcikkpoaa.Vm
open Go.RowKit
section
variable {P:amF} {B:Nat→Prop} {w₀:amC} {ρ:Ren} {g:Nat→Option ai} {n:Nat} {w:amC}
theorem SA(hw:WR P B w₀ ρ g w){c c' a a' b b':amn}(hc:VR ρ c c')(ha:VR ρ a a')(hb:VR ρ b b'){out:bi}{l:List Nat}
 (h:(yy c a b).run g=some (out,l)):Fits P B w₀ ρ g n out ((do pure (anC (if←asBool c' then a' else b')):Sem aoo).run P w):=by
 unfold yy at h
 split at h
 ·rw[hc.ua];exact Fits.dp hw h ha
 ·rw[hc.ua];exact Fits.dp hw h hb
 ·cases h
theorem SB(hw:WR P B w₀ ρ g w){v v':amn}(hv:VR ρ v v'){out:bi}{l:List Nat}(h:(BW P v).run g=some (out,l))(e':anX→amn)(x:anX)(he:e' x=v')
 (o:anp)(ho:o.op=.nilCheck x):Fits P B w₀ ρ g n out ((execOp e' o).run P w):=by
 unfold execOp
 rw[ho]
 simp only[he]
 unfold BW at h
 split at h
 ·cases hv with
  |bH _ hs=>cases hs
  |ptr b off r hr=>exact Fits.dp hw h (.ptr b off r hr)
  |lI b off t=>exact Fits.dp hw h (.lI b off t)
 ·obtain⟨f',c',rfl,h1,h2⟩:=hv.wl
  exact Fits.dp hw h (.func _ _ _ _ _ rfl h1.len h1.at_ h2.len h2.at_)
 ·obtain⟨u',rfl,h1⟩:=hv.wj
  exact Fits.dp hw h (.iface _ _ _ h1)
 ·cases hv;exact nJ hw h
 ·cases hv;exact nJ hw h
 ·cases hv;exact nJ hw h
 ·cases h
theorem IY(t:amz)(x y:amn):ao8 t x y=apg (9999+1) t x y:=rfl
theorem IZ{t:amz}{x y:anX}{a b:amn}{r:Bool}(neg:Bool)(h1:binOp .eql t a b=(do pure (.bool (←ao8 t a b))))
 (h2:binOp .neq t a b=(do pure (.bool (!(←ao8 t a b)))))(hg:∀op,(eqGuard op t x y a b).run P w=.ok () w)(he:(ao8 t a b).run P w=.ok r w):
 ((do eqGuard (if neg then .neq else .eql) t x y a b;binOp (if neg then .neq else .eql) t a b):Sem amn).run P w=.ok (.bool (r != neg)) w:=by
 rw[amp,hg,amo]
 cases neg with
 |false=>simp only[anr,if_false];rw[h1,amp,he];simp
 |true=>simp only[if_true];rw[h2,amp,he];simp
theorem I0(hw:WR P B w₀ ρ g w){t:amz}{x y:anX}{a a' b b':amn}(ha:VR ρ a a')(hb:VR ρ b b')(neg:Bool){out:bi}{l:List Nat}
 (h:(tY P t a b neg).run g=some (out,l)):
 Fits P B w₀ ρ g n out ((do let v ←(do eqGuard (if neg then .neq else .eql) t x y a' b';binOp (if neg then .neq else .eql) t a' b');pure (anC v):Sem aoo).run P w):=by
 unfold tY at h
 split at h
 ·rename_i d hd
  split at h
  ·rename_i r hr
   have key:((do eqGuard (if neg then .neq else .eql) t x y a' b';binOp (if neg then .neq else .eql) t a' b'):Sem amn).run P w=.ok (.bool (r != neg)) w:=by
    unfold yu at hr
    split at hr<;>first
     |(cases hr;done)
     |(split at hr<;>first
        |(cases hr;done)
        |(rename_i gD
          simp only[amr]at hr
          subst hr
          cases ha<;>cases hb<;>first
           |exact IZ neg rfl rfl (fun op=>by unfold eqGuard;split<;>rfl) (by rw[IY];unfold apg;rw[amp,run_underlying hd,amo];rfl)
           |(cases gD;done)
           |(rename_i h1 h2;cases h1;done)
           |(rename_i h1 h2;cases h2;done)
           |(rename_i h1;cases h1;done)))
     |(simp only[amr]at hr
       subst hr
       cases ha<;>cases hb<;>first
        |exact IZ neg rfl rfl (fun op=>by unfold eqGuard;split<;>rfl) (by rw[IY];unfold apg;rw[amp,run_underlying hd,amo];rfl)
        |(rename_i h1 h2;cases h1;done)
        |(rename_i h1 h2;cases h2;done)
        |(rename_i h1;cases h1;done))
   rw[amp,key]
   exact Fits.dp hw h (.bH _ rfl)
  ·cases h
 ·cases h
theorem SC(hw:WR P B w₀ ρ g w){op:BinOp}{t:amz}{x y:anX}{a a' b b':amn}(ha:VR ρ a a')(hb:VR ρ b b'){out:bi}{l:List Nat}
 (h:(rZ P op t x y a b).run g=some (out,l)):
 Fits P B w₀ ρ g n out ((do let v ←(do eqGuard op t x y a' b';binOp op t a' b');pure (anC v):Sem aoo).run P w):=by
 unfold rZ at h
 split at h
 ·rename_i hf
  simp only[amB]at hf
  rw[ml hf.1 ha,ml hf.2 hb]
  split at h
  ·rename_i r hr
   rw[amp,Sz hr]
   exact Fits.dp hw h (.bH _ rfl)
  ·exact nJ hw h
 ·split at h
  ·exact I0 hw ha hb false h
  ·exact I0 hw ha hb true h
  ·cases h
theorem SD(hw:WR P B w₀ ρ g w){op:UnOp}{a a':amn}(ha:VR ρ a a'){out:bi}{l:List Nat}(h:(BZ P op a).run g=some (out,l)):
 Fits P B w₀ ρ g n out ((do let v ←Op.unary op a';pure (anC v):Sem aoo).run P w):=by
 unfold BZ at h
 split at h
 ·rename_i hf
  rw[ml hf ha]
  exact nJ hw h
 ·cases h
theorem SE(hw:WR P B w₀ ρ g w){t:amz}{a a':amn}(ha:VR ρ a a'){out:bi}{l:List Nat}(h:(B0 P t a).run g=some (out,l)):
 Fits P B w₀ ρ g n out ((do let v ←aqk t a';pure (anC v):Sem aoo).run P w):=by
 unfold B0 at h
 split at h
 ·cases h
 ·rename_i d hd hu
  have:(aqk t a').run P w=.ok (.iface t a') w:=by
   unfold aqk
   rw[amp,run_underlying hu,amo]
   split
   ·exact absurd rfl (hd _)
   ·rfl
  rw[amp,this]
  exact Fits.dp hw h (.iface _ _ _ ha)
 ·cases h
theorem SF(hw:WR P B w₀ ρ g w){fn:Fn}{f c:List amn}{f' c':Array amn}(hf:LR ρ f f'.toList)(hc:LR ρ c c'.toList){out:bi}{l:List Nat}
 (h:(B2 fn f c).run g=some (out,l)):Fits P B w₀ ρ g n out ((do let v ←Instr.makeFunc fn f' c';pure (anC v):Sem aoo).run P w):=by
 unfold B2 at h
 split at h<;>first
  |(cases h;done)
  |exact Fits.dp hw h (.func _ _ _ _ _ rfl (by simpa using hf.len) (by simpa using hf.at_) (by simpa using hc.len) (by simpa using hc.at_))
theorem SG(hw:WR P B w₀ ρ g w){x x':amn}(hx:VR ρ x x')(i:Nat){out:bi}{l:List Nat}(h:(B7 x i).run g=some (out,l)):
 Fits P B w₀ ρ g n out ((do let v ←arh x' i;pure (anC v):Sem aoo).run P w):=by
 unfold B7 at h
 split at h
 ·obtain⟨c',rfl,hl⟩:=hx.IR
  split at h
  ·rename_i v hv
   obtain⟨v',h1,h2⟩:=hl.get hv
   have Cz:c'[i]?=some v':=by simpa using h1
   have:(arh (.tuple c') i).run P w=.ok v' w:=by unfold arh;simp only[Cz];rfl
   rw[amp,this]
   exact Fits.dp hw h h2
  ·cases h
 ·cases h
theorem SH(hw:WR P B w₀ ρ g w){x x':amn}(hx:VR ρ x x')(xt at_:amz)(ok:Bool){out:bi}{l:List Nat}(h:(B8 P x at_ ok).run g=some (out,l)):
 Fits P B w₀ ρ g n out ((do let v ←aqI x' xt at_ ok;pure (anC v):Sem aoo).run P w):=by
 unfold B8 at h
 split at h
 ·cases h
 ·rename_i d t v hu hd
  obtain⟨u',rfl,h1⟩:=hx.wj
  split at h
  ·rename_i ht
   have ht:=amI ht
   subst ht
   have:(aqI (.iface t u') xt t ok).run P w=.ok (if ok then .tuple #[u',.bool true]else u') w:=by
    unfold aqI
    rw[amp,run_underlying hd,amo]
    split<;>simp_all
   rw[amp,this]
   cases ok with
   |true=>exact Fits.dp hw h (.yI (LR.cons h1 (LR.cons (.bH _ rfl) (LR.nil ρ))))
   |false=>exact Fits.dp hw h h1
  ·cases h
 ·cases h
theorem SI(hw:WR P B w₀ ρ g w){x x':amn}(hx:VR ρ x x'){out:bi}{l:List Nat}(h:(B9 P x).run g=some (out,l)):
 Fits P B w₀ ρ g n out ((do let v ←asf x';pure (anC v):Sem aoo).run P w):=by
 unfold B9 at h
 split at h
 ·rename_i hf
  rw[ml hf hx]
  exact nJ hw h
 ·cases h
theorem CA{s i off ft k:Nat}(h:vY P s i=some (off,ft,k)):
 ∃fs f,P.underlying s=some (.struct fs)∧fs[i]?=some f∧f.offset=off∧f.type=ft∧bT P ft=some k∧k≠0:=by
 unfold vY at h
 split at h
 ·rename_i fs hu
  split at h
  ·rename_i f hf
   split at h
   ·rename_i m hm
    simp only[amr,amv]at h
    obtain⟨rfl,rfl,rfl⟩:=h
    exact⟨fs,f,hu,hf,rfl,rfl,hm,by omega⟩
   ·cases h
  ·cases h
 ·cases h
theorem CB{f:apt}{k:Nat}(h:bT P f.type=some k)(hk:k≠0)(b off:Nat):(fieldPlace ⟨b,off,none⟩ f).run P w=.ok ⟨b,off+f.offset,none⟩ w:=by
 unfold fieldPlace
 rw[amp,run_sizeOf h,amo,if_neg hk,oN]
 rfl
theorem SJ(hw:WR P B w₀ ρ g w){s:amz}{x x':amn}(hx:VR ρ x x')(i:Nat){out:bi}{l:List Nat}(h:(B5 P s x i).run g=some (out,l)):
 Fits P B w₀ ρ g n out ((do let v ←ari s x' i;pure (anC v):Sem aoo).run P w):=by
 unfold B5 at h
 split at h
 ·rename_i b off d ft k hd
  obtain⟨r,hr,rfl⟩:=hx.kx
  obtain⟨fs,f,hu,hf,rfl,rfl,hk,gZ⟩:=CA hd
  have:(ari s (.pointer (some ⟨r.aJ,r.sh+off,none⟩)) i).run P w=.ok (.pointer (some ⟨r.aJ,r.sh+off+f.offset,none⟩)) w:=by
   unfold ari
   rw[amp,run_underlying hu,amo]
   simp only[hf]
   simp only[ao6,amp,am6,amo,CB hk gZ]
  rw[amp,this]
  exact Fits.dp hw h (by rw[aok];exact .ptr _ _ _ hr)
 ·cases h
theorem I1(hw:WR P B w₀ ρ g w){ft:amz}{cs:List amn}{g9:Array amn}(hl:LR ρ cs g9.toList){d k:Nat}(hk:bT P ft=some k){out:bi}{l:List Nat}
 (h:(yx P ft cs d k).run g=some (out,l)):Fits P B w₀ ρ g n out ((do let v ←part ft g9 d;pure (anC v):Sem aoo).run P w):=by
 unfold yx at h
 split at h
 ·rename_i si
  split at h
  ·rename_i c hc
   obtain⟨hle,rfl⟩:=ue hc
   have hs:=hl.len
   rw[amp,yQ hk (.inl ⟨si,by simp at hs;omega,rfl⟩)]
   refine Fits.dp hw h ?_
   have:(g9.extract d (d+k))=((g9.toList.drop d).take k).toArray:=by
    apply aof
    simp[aox,aou]
   rw[this]
   exact .IQ ((hl.drop d).take k)
  ·cases h
 ·rename_i si
  split at h
  ·rename_i v hv
   obtain⟨v',h1,h2⟩:=hl.get hv
   rw[amp,yQ hk (.inr ⟨si,by simpa using h1⟩)]
   exact Fits.dp hw h h2
  ·cases h
 ·cases h
theorem SK(hw:WR P B w₀ ρ g w){s:amz}{x x':amn}(hx:VR ρ x x')(i:Nat){out:bi}{l:List Nat}(h:(B6 P s x i).run g=some (out,l)):
 Fits P B w₀ ρ g n out ((do let v ←ary s x' i;pure (anC v):Sem aoo).run P w):=by
 unfold B6 at h
 split at h
 ·rename_i cs d ft k hd
  obtain⟨c',rfl,hl⟩:=hx.Ci
  obtain⟨fs,f,hu,hf,rfl,rfl,hk,gZ⟩:=CA hd
  have:=I1 (n:=n) hw hl hk h
  have e:(ary s (.agg c') i).run P w=(part f.type c' f.offset).run P w:=by
   unfold ary
   rw[amp,run_underlying hu,amo]
   simp only[hf,asAgg,amp,am6,amo]
  rw[amp,e]
  rwa[amp]at this
 ·cases h
theorem oO{v:amn}{i:Nat}(h:oF v=some i):∃k,v=.int k (i:Int):=by
 unfold oF at h
 split at h
 ·rename_i k m;cases h;exact⟨k,rfl⟩
 ·cases h
theorem I2(hw:WR P B w₀ ρ g w){t:amz}{x x' i i':amn}(hx:VR ρ x x')(hi:VR ρ i i'){out:bi}{l:List Nat}(h:(r4 P t x i).run g=some (out,l)):
 Fits P B w₀ ρ g n out ((do let v ←ao0 t x' i';pure (anC v):Sem aoo).run P w):=by
 unfold r4 at h
 split at h
 ·rename_i k el b off j hu hj
  obtain⟨ik,rfl⟩:=oO hj
  obtain⟨r,hr,rfl⟩:=hx.kx
  rw[hi.jo]
  split at h
  ·rename_i size hs hlt
   have hlt:j<k:=by simp[amG]at hlt;omega
   have:(ao0 t (.pointer (some ⟨r.aJ,r.sh+off,none⟩)) (.int ik j)).run P w=.ok (.pointer (some ⟨r.aJ,r.sh+off+j*size,none⟩)) w:=by
    unfold ao0
    simp only[asIntOf,amp,am6,amo,run_underlying hu,ao6]
    rw[if_pos ⟨by omega,by omega⟩]
    simp only[amp,run_sizeOf hs,amo,am6,oN,aoK]
   rw[amp,this]
   exact Fits.dp hw h (by rw[aok];exact .ptr _ _ _ hr)
  ·cases h
 ·rename_i el b off len cap j hu hj
  obtain⟨ik,rfl⟩:=oO hj
  rw[hi.jo]
  split at h
  ·rename_i size hs hlt
   have hlt:j<len:=by simp[amG]at hlt;omega
   cases hx with
   |bH _ h=>cases h
   |dV=>omega
   |sl _ _ _ _ bq r hr hc=>
    have:(ao0 t (.slice (some ⟨r.aJ,r.sh+off,none⟩) len bq) (.int ik j)).run P w=.ok (.pointer (some ⟨r.aJ,r.sh+off+j*size,none⟩)) w:=by
     unfold ao0
     simp only[asIntOf,amp,am6,amo,run_underlying hu,ao6]
     rw[if_pos ⟨by omega,by omega⟩]
     simp only[amp,run_sizeOf hs,amo,am6,oN,aoK]
    rw[amp,this]
    exact Fits.dp hw h (by rw[aok];exact .ptr _ _ _ hr)
  ·cases h
 ·cases h
theorem SL(hw:WR P B w₀ ρ g w){t:amz}{x x' i i':amn}(hx:VR ρ x x')(hi:VR ρ i i'){out:bi}{l:List Nat}(h:(v9 P t x i).run g=some (out,l)):
 Fits P B w₀ ρ g n out ((do let v ←apA t x' i';pure (anC v):Sem aoo).run P w):=by
 unfold v9 at h
 split at h
 ·split at h
  ·rename_i hf
   rw[hx.oM,ml hf hi]
   exact nJ hw h
  ·cases h
 ·obtain⟨c',rfl,hl⟩:=hx.Ci
  split at h
  ·rename_i k el j hu hj
   obtain⟨ik,rfl⟩:=oO hj
   rw[hi.jo]
   split at h
   ·rename_i size hs hlt
    have hlt:j<k:=by simp[amG]at hlt;omega
    have:=I1 (n:=n) hw hl hs h
    have e:(apA t (.agg c') (.int ik j)).run P w=(part el c' (j*size)).run P w:=by
     unfold apA
     simp only[asIntOf,amp,am6,amo,run_underlying hu]
     rw[if_pos ⟨by omega,by omega⟩]
     simp only[amp,run_sizeOf hs,amo,aoK]
    rw[amp,e]
    rwa[amp]at this
   ·cases h
  ·cases h
 ·cases h
end
end Go.Proofs.Ytnlkkgpcikkpoaa.Vm
namespace Go.Proofs.Ytnlkkgpcikkpoaa.Vm
open Go.RowKit
theorem SM(a:Array Obj)(x:Obj)(f:Obj→Obj):(a.push x).modify a.size f=a.push (f x):=by
 apply Array.ext_getElem?
 intro i
 rw[aoV,aql,aql]
 by_cases h:i=a.size
 ·subst h;simp
 ·have:¬a.size=i:=fun e=>h e.symm
  simp[h,this]
theorem SN(w:amC)(c:Array amn)(el:amz)(k:Nat):(w.alloc (.cells c el)).freeze ⟨w.heap.size,k,none⟩ 1=w.alloc (.cells c el (k,k+1)):=by
 unfold ar7 ash
 simp only[arH,if_false]
 rw[SM]
 rfl
section
variable {P:amF} {B:Nat→Prop} {w₀:amC} {ρ:Ren} {g:Nat→Option ai} {n:Nat} {w:amC}
theorem SO(w:amC)(c:Array amn)(el:amz):(w.alloc (.cells c el)).shape? w.heap.size=some (el,c.size):=by
 unfold ar8 ash
 simp only[aql,if_true]
theorem uh(el:amz)(arr:Array amn)(w:amC):(newRow el arr).run P w=.ok ⟨w.heap.size,0,none⟩ (w.alloc (.cells arr el)):=rfl
theorem SP(el:amz)(arr:Array amn)(w:amC):(markStringish ⟨w.heap.size,0,none⟩).run P (w.alloc (.cells arr el))=.ok () (w.alloc (.cells arr el (arr.size,arr.size+1))):=by
 unfold markStringish
 rw[amp,run_shape,amo,SO]
 simp only[run_freeze]
 rw[SN]
theorem SQ(el:amz)(s:ByteArray):∃bq,s.size≤bq∧(aqy el s).run P w=.ok (.slice (some ⟨w.heap.size,0,none⟩) s.size bq)
 (w.drew.alloc (.cells ((s.data.map fun b=>amu .u8 b.toNat)++aoy (bq-s.size) (.int .u8 0)) el (bq,bq+1))):=by
 refine⟨(apG s.size 0 el).cut (w.tape w.drawn (.appendCap s.size 0 el)),by simp[arm],?_⟩
 generalize hq:(apG s.size 0 el).cut (w.tape w.drawn (.appendCap s.size 0 el))=bq
 have hle:s.size≤bq:=by rw[←hq];simp[arm]
 unfold aqy
 rw[amp,run_choose,if_neg (by simp[Question.forced]),hq,amo]
 dsimp only
 generalize mr:((s.data.map fun b=>amu .u8 b.toNat)++aoy (bq-s.size) (amu .u8 0))=arr
 have cc:arr.size=bq:=by
  rw[←mr,aqF,arQ,aq9]
  have:s.data.size=s.size:=rfl
  omega
 rw[amp,uh,amo,amp]
 have:=SP (P:=P) el arr w.drew
 rw[World.size_drew]at this
 show((markStringish ⟨w.heap.size,0,none⟩).run P (w.drew.alloc (.cells arr el))).andThen _=_
 rw[this,cc]
 rfl
theorem SS(s:ByteArray):LR ρ (s.data.toList.map fun b=>amu .u8 b.toNat) (s.data.toList.map fun b=>amu .u8 b.toNat):=LR.map _ _ _ fun b _=>.bH _ rfl
theorem I3{b:Nat}{o:ai}(h:g b=some o):cG g b o=g:=by
 funext y
 by_cases e:y=b
 ·subst e;rw[fg,h]
 ·rw[dU _ e]
theorem I4:∀{c:List amn} {l:List UInt8},bytesOf c=some l→∃ns:List Int,c=ns.map (amu .u8)∧l=ns.map fun n=>ao5 n.toNat
 | [],l,h=>by simp[bytesOf]at h;exact⟨[],rfl,by simp[h]⟩
 |v::c,l,h=>by
  unfold bytesOf at h
  split at h
  ·rename_i e;cases e
  ·rename_i m c' e
   cases e
   split at h
   ·rename_i r hr
    cases h
    obtain⟨ns,h1,h2⟩:=I4 hr
    exact⟨m::ns,by simp[h1],by simp[h2]⟩
   ·cases h
  ·cases h
theorem SU{src dst el:amz}{d:apY}{s:ByteArray}(hs:P.underlying src=some d)(hd:P.underlying dst=some (.slice el))(he:P.underlying el=some (.int .u8)):
 (convert src dst (.string s)).run P w=(aqy el s).run P w:=by
 unfold convert
 rw[amp,run_underlying hs,amo,amp,run_underlying hd,amo]
 cases d<;>simp only[amp,run_underlying he,amo]
theorem SW{w:amC}{b m:Nat}{c:Array amn}{el:amz}{fr:Nat×Nat}(h:w.heap[b]?=some (.cells c el fr)):
 nG w (w.freeze ⟨b,m,none⟩ 1) b (.cells c el (if fr.1==fr.2 then(m,m+1)else(min fr.1 m,max fr.2 (m+1)))):=by
 unfold ar7
 simp only[arH,if_false]
 refine⟨rfl,rfl,rfl,by simp,?_,fun k hk=>?_⟩
 ·simp only[aoV,if_true,h,Option.map_some]
 ·simp only[aoV]
  rw[if_neg (fun e=>hk e.symm)]
theorem SX{b off:Nat}{c:Array amn}{el:amz}{fr:Nat×Nat}(h:w.heap[b]?=some (.cells c el fr)):
 (markStringish ⟨b,off,none⟩).run P w=.ok () (w.freeze ⟨b,c.size,none⟩ 1):=by
 unfold markStringish
 rw[amp,run_shape,amo]
 have:w.shape? b=some (el,c.size):=by unfold ar8;simp only[h]
 simp only[this,run_freeze]
theorem SY{src el:amz}{a:aoH}{len cap:Nat}(hs:P.underlying src=some (.slice el))(he:P.underlying el=some (.int .u8)):
 (convert src src (.slice (some a) len cap)).run P w=((do markStringish a;pure (Value.slice (some a) len cap)):Sem amn).run P w:=by
 unfold convert
 rw[amp,run_underlying hs,amo,amp,run_underlying hs,amo]
 simp only[beq_self_eq_true]
 rw[amp,run_underlying he,amo]
theorem SZ(hw:WR P B w₀ ρ g w){src dst:amz}{x x':amn}(hx:VR ρ x x'){out:bi}{l:List Nat}(hn:out.nw≠none→g n=none)(h:(v8 P src dst x n).run g=some (out,l)):
 Fits P B w₀ ρ g n out ((do let v ←convert src dst x';pure (anC v):Sem aoo).run P w):=by
 unfold v8 at h
 split at h
 ·rename_i d el s hs hd
  split at h
  ·rename_i he h1
   obtain rfl:=sj h
   replace hn:=hn (by simp)
   rw[hx.oM,amp,SU hs hd he]
   obtain⟨bq,hle,hr⟩:=SQ (P:=P) (w:=w) el s
   rw[hr,amo]
   generalize mr:((s.data.map fun b=>amu .u8 b.toNat)++aoy (bq-s.size) (amu .u8 0))=arr
   have fR:s.data.size=s.size:=rfl
   have cc:arr.size=bq:=by
    rw[←mr,aqF,arQ,aq9]
    omega
   have mZ:(s.data.toList.map fun b=>amu .u8 b.toNat).length=s.size:=by simp[fR]
   have hz:(bT P el).getD 0=1:=by rw[h1];rfl
   refine⟨ρ.put n ⟨w.drew.heap.size,0,(bT P el).getD 0,arr.size⟩,_,Ren.jH (hw.fresh n hn) _,.val _ _ _ ?_,hw.drew.newRow hn (by rw[mZ,cc];exact hle) (.inr (by rw[cc];exact amX _)) ?_⟩
   ·have:=VR.sl (ρ:=ρ.put n ⟨w.drew.heap.size,0,(bT P el).getD 0,arr.size⟩) n 0 s.size s.size bq _ (Ren.ky _ _ _) (.inr ⟨hle,by simp[hz,cc]⟩)
    simpa using this
   ·rw[←mr,mZ,Array.toList_append,List.take_append_of_le_length (by simp[fR]),anI (by simp[fR]),Array.toList_map]
    exact SS s
  ·cases h
 ·rename_i el e2 b off len cap hs hd
  split at h
  ·rename_i he sk
   have sk:=amI sk
   subst sk
   rw[hs]at hd
   cases hd
   split at h
   ·cases h
   ·rename_i gD
    obtain⟨o,l',hb,hk,rfl⟩:=Rd.run_read h
    split at hk
    ·rename_i cv cr ce
     generalize iU:cv::cr=c at hb
     cases hx with
     |bH _ h=>cases h
     |sl _ _ _ _ bq r hr hc=>
      obtain⟨c',fr,⟨bR,h1,I5⟩,hp,jf,hz,hf,hl,hB⟩:=qH hw hb hr (nD (by rw[←iU];simp))
      obtain rfl:=I5 rfl
      replace hf:=hf rfl
      have S4:=SW (m:=c'.size) h1
      have S5:OR P ρ r (.cells c bR false) (.cells c' bR (if fr.1==fr.2 then(c'.size,c'.size+1)else(min fr.1 c'.size,max fr.2 (c'.size+1)))):=by
       refine .cells _ _ _ _ _ _ hp jf (fun _=>rfl) hz (fun _=>?_) fun i v hv=>?_
       ·right
        split
        ·exact aoB hp.symm
        ·rename_i bt
         rcases hf with hf|hf
         ·rw[hf]at bt;simp at bt
         ·simp only;omega
       ·obtain⟨v',h2,h3⟩:=hl.get hv
        rw[anJ]at h2
        split at h2
        ·exact⟨v',by simpa using h2,h3⟩
        ·cases h2
      have dG:=hw.change hb (nD (by rw[←iU];simp)) hr (hB rfl) S4 S5
      rw[I3 hb]at dG
      rw[amp,SY hs he,amp,SX h1,amo,am6,amo,am6]
      exact Fits.dp dG hk (.sl _ _ _ _ _ _ hr hc)
    ·cases hk
  ·cases h
 ·rename_i el len cap hs hd
  split at h
  ·rename_i he
   cases hx
   rw[amp,apa w src dst _ none _ _ hs he hd]
   exact Fits.dp hw h (.bH _ rfl)
  ·rename_i b off he
   obtain⟨o,l',hb,hk,rfl⟩:=Rd.run_read h
   split at hk
   ·rename_i c ce ro
    split at hk
    ·rename_i bs pK
     obtain⟨cs,pJ,CC⟩:=Option.bind_eq_some_iff.1 pK
     obtain⟨hle,rfl⟩:=ue pJ
     obtain⟨ns,h1,rfl⟩:=I4 CC
     have key:(∃a',ns=[]∧x'=.slice a' 0 0)∨∃a' bq,x'=.slice (some a') len bq∧(loadCells a' len).run P w=.ok (ns.map (amu .u8)).toArray w:=by
      cases hx with
      |bH _ h=>cases h
      |dV _ a'=>
       exact .inl ⟨a',by simp at h1;exact h1,rfl⟩
      |sl _ _ _ _ bq r hr hc=>
       refine .inr ⟨_,bq,rfl,?_⟩
       by_cases hlen:len=0
       ·subst hlen
        have:ns=[]:=by simp at h1;exact h1
        subst this
        rfl
       obtain⟨c',fr,⟨bR,h2,I5⟩,hp,jf,hz,hf,hl,hB⟩:=qH hw hb hr (nD (by intro e;rw[e]at hle;simp at hle;omega))
       rw[yN h2 _ _ (by omega)]
       have h3:=yP hl hle
       rw[h1]at h3
       rw[LR.wm (by simp[fl,flat]) h3]
     rcases key with⟨a',rfl,rfl⟩|⟨a',bq,rfl,S6⟩
     ·cases a' with
      |none=>
       rw[amp,apa w src dst _ none _ _ hs he hd]
       exact Fits.dp hw hk (.bH _ rfl)
      |some a'=>
       rw[amp,apa w src dst _ _ _ _ hs he hd,arv w a' 0 0 [] rfl,amo,arC]
       exact Fits.dp hw hk (.bH _ rfl)
     rw[amp,apa w src dst _ _ _ _ hs he hd,arv w a' len bq ns S6,amo,arC]
     refine Fits.dp hw hk ?_
     have:(ByteArray.mk (ByteArray.empty.data++(ns.map fun n=>ao5 n.toNat).toArray))=⟨(ns.map fun n=>ao5 n.toNat).toArray⟩:=by
      congr 1
      exact Array.empty_append ..
     rw[this]
     exact .bH _ rfl
    ·cases hk
   ·cases hk
  ·cases h
 ·split at h
  ·rename_i hf
   rw[ml hf hx]
   exact nJ hw h
  ·cases h
end
end Go.Proofs.Ytnlkkgpcikkpoaa.Vm
namespace Go.Proofs.Ytnlkkgpcikkpoaa.Vm
open Go.RowKit
section
variable {P:amF} {B:Nat→Prop} {w₀:amC} {ρ:Ren} {g:Nat→Option ai} {n:Nat} {w:amC}
theorem Fits.I6(hw:WR P B w₀ ρ g w)(hn:g n=none):
 Fits P B w₀ ρ g n ⟨.val (.map (some n)),[],some (.map [] 0)⟩ (.ok (.value (.map (some w.heap.size))) (w.alloc (.map #[] 0))):=by
 refine⟨ρ.put n ⟨w.heap.size,0,0,0⟩,_,Ren.jH (hw.fresh n hn) _,.val _ _ _ (.map n _ (Ren.ky _ _ _)),hw.alloc hn rfl ?_⟩
 exact .map [] #[] 0 rfl fun i e e' h=>by simp at h
theorem S7(hw:WR P B w₀ ρ g w){t:amz}{r r':Option amn}(hr:∀v,r=some v→∃v',r'=some v'∧VR ρ v v')(ww:r=none→r'=none)
 {out:bi}{l:List Nat}(hn:out.nw≠none→g n=none)(h:(B3 P t r n).run g=some (out,l)):
 Fits P B w₀ ρ g n out ((do let v ←arX t r';pure (anC v):Sem aoo).run P w):=by
 unfold B3 at h
 split at h
 ·rw[ww rfl]
  obtain rfl:=sj h
  exact Fits.I6 hw (hn (by simp))
 ·obtain⟨v',rfl,hv⟩:=hr _ rfl
  rw[hv.jo]
  split at h
  ·rename_i hu
   obtain rfl:=sj h
   replace hn:=hn (by simp)
   rw[amp]
   unfold arX
   simp only[amp,run_underlying hu,amo,asInt,asIntOf,am6,arF]
   exact Fits.I6 hw hn
  ·cases h
 ·cases h
theorem yR(z:List amn)(k:Nat):(eU z k).length=k*z.length:=by
 induction k with
 |zero=>simp[eU]
 |succ k ih=>simp[eU,ih,aqa];omega
theorem CD(z:List amn):∀(k i:Nat),i<k*z.length→(eU z k)[i]?=z[i%z.length]?
 |0,i,h=>by simp at h
 |k+1,i,h=>by
  rw[aqa]at h
  have e:eU z (k+1)=z++eU z k:=rfl
  rw[e]
  by_cases hi:i<z.length
  ·rw[ane hi,Nat.mod_eq_of_lt hi]
  ·have ih:=CD z k (i-z.length) (by omega)
   rw[am5 (by omega),ih]
   congr 1
   rw[Nat.mod_eq_sub_mod (a:=i) (by omega)]
theorem CE(z:amn)(k:Nat):((aqw (k*z.cells.size)).map fun i=>z.cells[i%z.cells.size]!)=(eU z.cells.toList k).toArray:=by
 apply aof
 apply apq
 intro i
 have hlen:z.cells.toList.length=z.cells.size:=by simp
 have wx:(eU z.cells.toList k).length=k*z.cells.size:=by rw[yR,hlen]
 by_cases hi:i<k*z.cells.size
 ·have h1:=CD z.cells.toList k i (by rw[hlen];exact hi)
  rw[hlen]at h1
  have S8:0<z.cells.size:=by
   rcases Nat.eq_zero_or_pos z.cells.size with h0|h0
   ·rw[h0]at hi;simp at hi
   ·exact h0
  have hm:i%z.cells.size<z.cells.size:=Nat.mod_lt _ S8
  show _=(eU z.cells.toList k)[i]?
  rw[h1]
  simp[hi,getElem!_pos,hm]
 ·show _=(eU z.cells.toList k)[i]?
  rw[anH (l:=eU z.cells.toList k) (by rw[wx];omega),anH (by simp;omega)]
theorem wy{z:amn}(h:fl z=true):LR ρ z.cells.toList z.cells.toList:=(mX h).cells
theorem LR.eU{z z':List amn}(h:LR ρ z z'):∀k,LR ρ (eU z k) (eU z' k)
 |0=>LR.nil ρ
 |k+1=>h.append (LR.eU h k)
theorem I7(k:IntKind)(i:Int):(asInt (.int k i)).run P w=.ok i w:=rfl
theorem S9(hw:WR P B w₀ ρ g w){t:amz}{a a' b b':amn}(ha:VR ρ a a')(hb:VR ρ b b'){out:bi}{l:List Nat}
 (hn:out.nw≠none→g n=none)(h:(B4 P t a b n).run g=some (out,l)):Fits P B w₀ ρ g n out ((do let v ←aqS t a' b';pure (anC v):Sem aoo).run P w):=by
 unfold B4 at h
 split at h
 ·rename_i el i c hu hi hc
  obtain⟨ki,rfl⟩:=oO hi
  obtain⟨kc,rfl⟩:=oO hc
  rw[ha.jo,hb.jo]
  split at h
  ·rename_i size z bytes hs hz pM
   split at h
   ·rename_i fS
    simp only[amB]at fS
    obtain⟨⟨⟨⟨hf,h1⟩,h2⟩,h3⟩,h4⟩:=fS
    have h1:=amS h1
    have h2:=amS h2
    have h3:=amS h3
    have h4:=amI h4
    obtain rfl:=sj h
    replace hn:=hn (by simp)
    have Ta:∃inf,P.info? el=some inf∧inf.bytes=bytes:=by
     cases nL:P.info? el with
     |none=>rw[nL]at pM;cases pM
     |some inf=>rw[nL]at pM;cases pM;exact⟨inf,rfl,rfl⟩
    obtain⟨inf,nL,rfl⟩:=Ta
    have wi:amA.wrap (i:Int)=i:=arR _ (by omega)
    have wc:amA.wrap (c:Int)=c:=arR _ (by omega)
    have Tb:inf.bytes*c≤1000000000000:=Nat.mul_le_mul h3 h2
    have jI:(aqS t (.int ki i) (.int kc c)).run P w=.ok (.slice (some ⟨w.heap.size,0,none⟩) i c) (w.alloc (.cells (eU z.cells.toList c).toArray el)):=by
     unfold aqS
     rw[amp,run_underlying hu,amo]
     dsimp only
     rw[amp,I7,amo,amp,I7,amo]
     simp only[typeInfo,amp,aor,amo,nL,am6,wi,wc]
     have hp:(inf.bytes:Int)*(c:Int)≤1000000000000:=by rw[←Int.natCast_mul];omega
     generalize hq:(inf.bytes:Int)*(c:Int)=q at hp⊢
     have qI:(decide ((c:Int)<0)||decide (q>2^48))=false:=by
      rw[ap9,decide_eq_false_iff_not,decide_eq_false_iff_not]
      exact⟨by omega,by omega⟩
     have il:decide ((i:Int)<0)=false:=decide_eq_false_iff_not.2 (by omega)
     have Tc:decide ((i:Int)>(c:Int))=false:=decide_eq_false_iff_not.2 (by omega)
     have Td:¬(((decide ((c:Int)<0)||decide (q>2^48))=true∨(i:Int)<0)∨(i:Int)>(c:Int)):=by
      rw[qI];rintro((h|h)|h)
      ·cases h
      ·omega
      ·omega
     rw[if_neg (by first|exact Td|(simp only[Bool.or_eq_true,decide_eq_true_eq];omega))]
     have hlen:(eU z.cells.toList c).toArray=(aqw (c*size)).map fun i=>z.cells[i%z.cells.size]! :=by rw[←h4];exact(CE z c).symm
     simp only[run_askRoom,amo,aoK,amp,run_sizeOf hs]
     by_cases h0:c*size=0
     ·simp only[h0,if_true,am6,amo,uh]
      rw[hlen,h0]
      have e:∀f:Nat→amn,arW f (aqw 0)= #[]:=fun f=>by apply aof;simp
      rw[e]
      first|rfl|(rw[e];rfl)|(simp only[e];rfl)|skip
     ·simp only[h0,if_false,amp,mo hz,am6,amo,uh]
      rw[hlen]
    rw[amp,jI,amo]
    have hlen:(eU z.cells.toList c).length=c*size:=by rw[yR,←h4];simp
    refine Fits.newRow hw hn (by simp) (by simpa using(wy hf).eU c) fun ρ' h'=>?_
    simpa using VR.sl (ρ:=ρ') n 0 i c c _ h' (.inl rfl)
   ·cases h
  ·cases h
 ·cases h
end
end Go.Proofs.Ytnlkkgpcikkpoaa.Vm
namespace Go.Proofs.Ytnlkkgpcikkpoaa.Vm
open Go.RowKit
section
variable {P:amF} {B:Nat→Prop} {w₀:amC} {ρ:Ren} {g:Nat→Option ai} {n:Nat} {w:amC}
theorem I8(off:Nat):∀(vs:List amn) (k:Nat) (c:Array amn),
 (vs.zipIdx k).foldl (fun(cs:Array amn) (x:amn×Nat)=>cs.setIfInBounds (off+x.2) x.1) c=pI c (off+k) vs
 | [],k,c=>rfl
 |v::vs,k,c=>by
  rw[List.zipIdx_cons,List.foldl_cons,I8 off vs (k+1)]
  rfl
theorem Te(off:Nat)(vs:Array amn)(c:Array amn):
 vs.zipIdx.foldl (fun(cs:Array amn) (x:amn×Nat)=>cs.setIfInBounds (off+x.2) x.1) c=pI c off vs.toList:=by
 rw[←Array.foldl_toList,Array.toList_zipIdx,I8]
 rfl
theorem LR.splice{c:List amn}{c':Array amn}(h:LR ρ c c'.toList){vs jp:List amn}(hv:LR ρ vs jp){off:Nat}(hle:off+vs.length≤c.length):
 LR ρ (amk c off vs) (pI c' off jp).toList:=by
 have hl:=h.len
 have CF:=hv.len
 refine⟨by rw[nK hle];simpa[Cr]using hl,fun i v v' h1 h2=>?_⟩
 rw[Cu hle]at h1
 rw[Array.getElem?_toList,yM _ _ _ _ (by simp at hl;omega)]at h2
 by_cases e9:off≤i∧i<off+vs.length
 ·rw[if_pos e9]at h1
  rw[if_pos (by omega)]at h2
  exact hv.at_ _ _ _ h1 h2
 ·rw[if_neg e9]at h1
  rw[if_neg (by omega)]at h2
  exact h.at_ i v v' h1 (by simpa using h2)
inductive PR(ρ:Ren):List (Nat×amn)→List (Nat×amn)→Prop where
 |nil:PR ρ [] []
 |cons (i:Nat) (v v':amn) (l l':List (Nat×amn)) (h:VR ρ v v') (hl:PR ρ l l'):PR ρ ((i,v)::l) ((i,v')::l')
theorem PR.map{e e':anX→amn}:∀(l:List (Nat×anX)),(∀x∈l,VR ρ (e x.2) (e' x.2))→PR ρ (l.map fun x=>(x.1,e x.2)) (l.map fun x=>(x.1,e' x.2))
 | [],_=>.nil
 |(i,x)::l,h=>.cons _ _ _ _ _ (h (i,x) (by simp)) (PR.map l fun y hy=>h y (by simp[hy]))
theorem CG{pl:Nat→Option (Nat×Nat)}:∀{parts mu:List (Nat×amn)},PR ρ parts mu→∀{c:List amn} {c':Array amn} {out:List amn},LR ρ c c'.toList→
 rW pl c parts=some out→∃pN,arI pl c' mu=some pN∧LR ρ out pN.toList:=by
 intro parts mu hp
 induction hp with
 |nil=>intro c c' out hc h;simp[rW]at h;subst h;exact⟨c',rfl,hc⟩
 |cons i v v' l l' hv hl ih=>
  intro c c' out hc h
  unfold rW at h
  unfold arI
  cases oP:pl i with
  |none=>rw[oP]at h;cases h
  |some p=>
   obtain⟨off,k⟩:=p
   rw[oP]at h
   simp only[]at h⊢
   split at h
   ·rename_i fS
    simp only[amB]at fS
    obtain⟨h1,h2⟩:=fS
    have h1:=amI h1
    have h2:=amS h2
    have hs:=hv.cells.Ct
    have ef:=hc.len
    simp only[Array.length_toList]at ef
    rw[if_neg (by simp;omega)]
    have:=Te off v'.cells c'
    rw[this]
    exact ih (hc.splice hv.cells (by simp;omega)) h
   ·cases h
theorem run_places{fs:List apt}:∀{ps:List (Nat×Nat)},places P fs=some ps→(fs.mapM (m:=Sem) fun f=>do pure (f.offset,←sizeOf f.type)).run P w=.ok ps w:=by
 induction fs with
 |nil=>intro ps h;simp[places]at h;subst h;rfl
 |cons f fs ih=>
  intro ps h
  unfold places at h
  split at h
  ·rename_i k r hk hr
   cases h
   rw[List.mapM_cons,amp,amp,run_sizeOf hk,amo,am6,amo,amp,ih hr,amo]
   rfl
  ·cases h
theorem Tf{fs:Array apt}{ps:List (Nat×Nat)}(h:places P fs.toList=some ps):(fs.mapM (m:=Sem) fun f=>do pure (f.offset,←sizeOf f.type)).run P w=.ok ps.toArray w:=by
 rw[Array.mapM_eq_mapM_toList,Sem.run_map,run_places h]
 rfl
theorem Tg(hw:WR P B w₀ ρ g w){t:amz}{parts:List (Nat×amn)}{mu:Array (Nat×amn)}(hp:PR ρ parts mu.toList){out:bi}{l:List Nat}
 (h:(BU P t parts).run g=some (out,l)):Fits P B w₀ ρ g n out ((do let v ←aqx t mu;pure (anC v):Sem aoo).run P w):=by
 unfold BU at h
 split at h
 ·rename_i z fs hz hu
  split at h
  ·rename_i ps jq hf
   split at h
   ·rename_i cs wz
    have Th:LR ρ z.cells.toList z.cells.toList:=wy hf
    obtain⟨pN,h1,h2⟩:=CG hp Th wz
    have:(aqx t mu).run P w=.ok (.agg pN) w:=by
     unfold aqx
     rw[amp,mo hz,amo]
     dsimp only
     rw[amp,run_underlying hu,amo]
     dsimp only
     rw[amp,Tf jq,amo]
     have Cz:arI (fun x=>ps.toArray[x]?) z.cells mu.toList=some pN:=by
      have:(fun i:Nat=>ps.toArray[i]?)=(fun i:Nat=>ps[i]?):=by funext i;simp
      rw[this];exact h1
     rw[Cz]
     rfl
    rw[amp,this]
    exact Fits.dp hw h (.wh (by simpa using h2))
   ·cases h
  ·cases h
 ·rename_i z k el hz hu
  split at h
  ·rename_i size hs hf
   split at h
   ·rename_i cs wz
    obtain⟨pN,h1,h2⟩:=CG hp (wy hf) wz
    have:(aqx t mu).run P w=.ok (.agg pN) w:=by
     unfold aqx
     rw[amp,mo hz,amo]
     dsimp only
     rw[amp,run_underlying hu,amo]
     dsimp only
     rw[amp,run_sizeOf hs,amo,h1]
     rfl
    rw[amp,this]
    exact Fits.dp hw h (.wh (by simpa using h2))
   ·cases h
  ·cases h
 ·cases h
theorem Ti(hw:WR P B w₀ ρ g w){t:amz}{len:Nat}{parts:List (Nat×amn)}{mu:Array (Nat×amn)}(hp:PR ρ parts mu.toList){out:bi}{l:List Nat}
 (hn:out.nw≠none→g n=none)(h:(BV P t len parts n).run g=some (out,l)):Fits P B w₀ ρ g n out ((do let v ←aqJ t len mu;pure (anC v):Sem aoo).run P w):=by
 unfold BV at h
 split at h
 ·rename_i el hu
  split at h
  ·rename_i size z hs hz
   split at h
   ·rename_i fS
    simp only[amB]at fS
    obtain⟨⟨hf,h1⟩,h2⟩:=fS
    have h1:=amS h1
    have h2:=amI h2
    split at h
    ·rename_i cs wz
     obtain rfl:=sj h
     replace hn:=hn (by simp)
     have wx:LR ρ (eU z.cells.toList len) ((eU z.cells.toList len).toArray).toList:=by simpa using(wy hf).eU len
     obtain⟨pN,h3,h4⟩:=CG hp wx wz
     have hzero:(eU z.cells.toList len).toArray=(aqw (len*size)).map fun i=>z.cells[i%z.cells.size]! :=by rw[←h2];exact(CE z len).symm
     have jI:(aqJ t len mu).run P w=.ok (.slice (some ⟨w.heap.size,0,none⟩) len len) (w.alloc (.cells pN el)):=by
      unfold aqJ
      rw[amp,run_underlying hu,amo]
      dsimp only
      rw[amp,run_sizeOf hs,amo,if_neg (by omega)]
      by_cases h0:len*size=0
      ·have e:∀f:Nat→amn,arW f (aqw 0)= #[]:=fun f=>by apply aof;simp
       have e2:(eU z.cells.toList len).toArray= #[]:=by rw[hzero,h0,e]
       rw[e2]at h3
       simp only[h0,if_true,amp,am6,amo,e,h3,uh]
      ·rw[hzero]at h3
       simp only[h0,if_false,amp,mo hz,am6,amo,h3,uh]
     rw[amp,jI,amo]
     have wA:=h4.len
     refine Fits.newRow hw hn (by simpa using wA) h4 fun ρ' h'=>?_
     simpa using VR.sl (ρ:=ρ') n 0 len len len _ h' (.inl rfl)
    ·cases h
   ·cases h
  ·cases h
 ·cases h
theorem yS{k:IntKind}{i m:Nat}(code:BoundsCode)(h:i≤m):(apu (.int k i) m code).run P w=.ok i w:=by
 unfold apu
 simp only[asIntOf,amp,am6,amo]
 rw[if_pos ⟨by omega,by omega⟩]
 simp
theorem CH{isSlice:Bool}{len cap l h:Nat}{lo hi:Option amn}(mv:nv 0 lo=some l)(oQ:nv len hi=some h)(h1:l≤h)(h2:h≤cap):
 (arw isSlice len cap lo hi none).run P w=.ok (l,h,cap) w:=by
 unfold arw
 cases hi with
 |none=>
  simp only[nv,amr]at oQ
  subst oQ
  cases lo with
  |none=>
   simp only[nv,amr]at mv
   subst mv
   simp
  |some v=>
   obtain⟨k,rfl⟩:=oO mv
   simp only[amp,am6,amo,arn,anr,if_false,yS _ h1]
 |some u=>
  obtain⟨ku,rfl⟩:=oO oQ
  cases lo with
  |none=>
   simp only[nv,amr]at mv
   subst mv
   simp only[amp,am6,amo,yS _ h2]
  |some v=>
   obtain⟨k,rfl⟩:=oO mv
   simp only[amp,am6,amo,arn,anr,if_false,yS _ h1,yS _ h2]
theorem yT{d m:Nat}{o o':Option amn}(hr:∀v,o=some v→∃v',o'=some v'∧VR ρ v v')(ww:o=none→o'=none)(h:nv d o=some m):o'=o:=by
 cases o with
 |none=>exact ww rfl
 |some v=>
  obtain⟨v',rfl,hv⟩:=hr v rfl
  obtain⟨k,rfl⟩:=oO h
  rw[hv.jo]
theorem CI{o o':Option amn}(hr:∀v,o=some v→∃v',o'=some v'∧VR ρ v v')(ww:o=none→o'=none)(h:o.all fl=true):o'=o:=by
 cases o with
 |none=>exact ww rfl
 |some v=>
  obtain⟨v',rfl,hv⟩:=hr v rfl
  rw[ml (by simpa using h) hv]
structure pO(ρ:Ren)(o o':Option amn):Prop where
 some_:∀v,o=some v→∃v',o'=some v'∧VR ρ v v'
 none_:o=none→o'=none
theorem pO.map{e e':anX→amn}(x:Option anX)(h:∀y,x=some y→VR ρ (e y) (e' y)):pO ρ (x.map e) (x.map e'):=by
 cases x with
 |none=>exact⟨by simp,by simp⟩
 |some y=>exact⟨fun v hv=>by simp at hv;subst hv;exact⟨_,rfl,h y rfl⟩,by simp⟩
theorem Tj(hw:WR P B w₀ ρ g w){t:amz}{x x':amn}(hx:VR ρ x x'){lo I9 hi e8 mx Ja:Option amn}(mv:pO ρ lo I9)(oQ:pO ρ hi e8)(yU:pO ρ mx Ja)
 {out:bi}{l:List Nat}(h:(qD P t x lo hi mx).run g=some (out,l)):Fits P B w₀ ρ g n out ((do let v ←aow t x' I9 e8 Ja;pure (anC v):Sem aoo).run P w):=by
 unfold qD at h
 split at h
 ·rename_i hf
  split at h
  ·rename_i fC
   simp only[amB]at fC
   rw[ml hf hx,CI mv.some_ mv.none_ fC.1.1,CI oQ.some_ oQ.none_ fC.1.2,CI yU.some_ yU.none_ fC.2]
   exact nJ hw h
  ·cases h
 ·split at h
  ·rename_i el b off len cap hu _
   rw[yU.none_ rfl]
   split at h
   ·rename_i i j size e8 j5 hs
    rw[yT mv.some_ mv.none_ e8,yT oQ.some_ oQ.none_ j5]
    split at h
    ·rename_i fS
     simp only[amB]at fS
     have h1:=amS fS.1
     have h2:=amS fS.2
     obtain⟨o,l',hb,hk,rfl⟩:=Rd.run_read h
     split at hk
     ·rename_i c eb ro
      split at hk
      ·rename_i sb CJ
       split at hk
       ·rename_i hle
        have hle:=amS hle
        have Tk:(i=0→j=0→(aow t (.slice none len 0) lo hi none).run P w=.ok (.slice none 0 0) w):=by
         intro ui sq
         subst ui sq
         unfold aow
         rw[amp,run_underlying hu,amo]
         dsimp only
         unfold arz
         rw[amp,run_underlying hu,amo]
         dsimp only
         rw[amp,CH e8 j5 h1 (amX _),amo]
         dsimp only
         try rw[amp,run_sizeOf hs,amo]
         try rfl
        have key:∀(a:aoH) (bq:Nat),j≤bq→(aow t (.slice (some a) len bq) lo hi none).run P w=.ok (.slice (if bq=i then some a else some (a.add (i*size))) (j-i) (bq-i)) w:=by
         intro a bq gD
         unfold aow
         rw[amp,run_underlying hu,amo]
         dsimp only
         unfold arz
         rw[amp,run_underlying hu,amo]
         dsimp only
         rw[amp,CH e8 j5 h1 gD,amo]
         dsimp only
         rw[amp,run_sizeOf hs,amo]
         rfl
        cases hx with
        |bH _ h=>cases h
        |dV _ a'=>
         have ui:i=0:=by omega
         have sq:j=0:=by omega
         cases a' with
         |none=>
          rw[amp,Tk ui sq,amo]
          subst ui sq
          refine Fits.dp hw hk ?_
          simpa using VR.dV (ρ:=ρ) ⟨b,off+0*size,none⟩ none
         |some a'=>
          rw[amp,key a' 0 h2,amo]
          subst ui sq
          refine Fits.dp hw hk ?_
          simpa using VR.dV (ρ:=ρ) ⟨b,off+0*size,none⟩ (some a')
        |sl _ _ _ _ bq r hr hc=>
         have iU:cap≤bq:=by rcases hc with hc|hc<;>omega
         rw[amp,key _ bq (by omega),amo]
         refine Fits.dp hw hk ?_
         by_cases Jb:bq=i
         ·rw[if_pos Jb]
          have e1:j-i=0:=by omega
          have e2:cap-i=0:=by omega
          have e3:bq-i=0:=by omega
          rw[e1,e2,e3]
          exact .dV _ _
         ·rw[if_neg Jb,oN,aok]
          refine .sl _ _ _ _ _ r hr ?_
          rcases hc with hc|⟨qI,il⟩
          ·left;omega
          ·right
           refine⟨by omega,?_⟩
           have cc:r.sz=sb:=IU hw hb hr sb CJ
           rw[cc]at il⊢
           have:i*size+(bq-i)*sb≤bq*sb:=by
            have h3:i*size≤i*sb:=Nat.mul_le_mul_left _ hle
            have h4:i*sb+(bq-i)*sb=bq*sb:=by rw[←Nat.add_mul];congr 1;omega
            omega
           omega
       ·cases hk
      ·cases hk
     ·cases hk
    ·cases h
   ·cases h
  ·rename_i k el b off hu _
   rw[yU.none_ rfl]
   obtain⟨r,hr,rfl⟩:=hx.kx
   split at h
   ·rename_i i j size e8 j5 hs
    rw[yT mv.some_ mv.none_ e8,yT oQ.some_ oQ.none_ j5]
    split at h
    ·rename_i fS
     simp only[amB]at fS
     have h1:=amS fS.1
     have h2:=amS fS.2
     have key:(aow t (.pointer (some ⟨r.aJ,r.sh+off,none⟩)) lo hi none).run P w=.ok (.slice (some (if k=i then⟨r.aJ,r.sh+off,none⟩else(⟨r.aJ,r.sh+off,none⟩:aoH).add (i*size))) (j-i) (k-i)) w:=by
      unfold aow
      rw[amp,run_underlying hu,amo]
      dsimp only
      simp only[ao6,amp,am6,amo,CH e8 j5 h1 h2,run_sizeOf hs]
     rw[amp,key,amo]
     refine Fits.dp hw h ?_
     by_cases CK:k=i
     ·subst CK
      have e:amE k k=true:=Nat.beq_refl k
      simp only[e,if_true,Nat.add_zero]
      exact .sl _ _ _ _ _ r hr (.inl rfl)
     ·have e:amE k i=false:=by
       cases hb:amE k i with
       |false=>rfl
       |true=>exact absurd (amI hb) CK
      simp only[e,anr,if_false,CK,oN,aok]
      exact .sl _ _ _ _ _ r hr (.inl rfl)
    ·cases h
   ·cases h
  ·cases h
end
end Go.Proofs.Ytnlkkgpcikkpoaa.Vm
namespace Go.Proofs.Ytnlkkgpcikkpoaa.Vm
open Go.RowKit
section
variable {P:amF} {B:Nat→Prop} {w₀:amC} {ρ:Ren} {g:Nat→Option ai} {w:amC}
theorem WR.wB(h:WR P B w₀ ρ g w){n:Nat}(hn:g n=none){o:ai}{r:bP}(hl:Live o r=false)
 (Co:∀m size row,o=.rows m size row→0<m→mm P w₀ B r m size row)(sd:∀el ro,o=.cells [] el ro→∀k,bT P el=some k→r.sz=k)(Cn:∀d,o≠ .abs d:=by intro d e;cases e):WR P B w₀ (ρ.put n r) (cG g n o) w:=
 h.put hn (fun y hy=>.inl (dU _ hy)) (fg _ _ _) (fQ.refl B w) (amX _) (fun y oy ry _ _ h1 h2 h3=>rfl) (fun e=>by rw[hl]at e;cases e) (fun e=>by rw[hl]at e;cases e) (fun k _ _ _=>⟨rfl,fun e=>by rw[hl]at e;cases e⟩) Cn Co sd
theorem WR.Jc(h:WR P B w₀ ρ g w){n:Nat}(hn:g n=none){c:List amn}{el:amz}{r:bP}(hz:∀k,bT P el=some k→r.sz=k)
 (hc:c≠[]∨r.dn≠0→B r.aJ∧∃(c':Array amn) (bR:amz) (fr:Nat×Nat),w.heap[r.aJ]?=some (.cells c' bR fr)∧c'.size=r.dn∧r.sh+c.length≤r.dn∧
  ∀(i:Nat) (v:amn),c[i]?=some v→∃v',c'[r.sh+i]?=some v'∧VR (ρ.put n r) v v'):WR P B w₀ (ρ.put n r) (cG g n (.cells c el true)) w:=by
 have nM:Live (.cells c el true) r=true→B r.aJ∧∃(c':Array amn) (bR:amz) (fr:Nat×Nat),w.heap[r.aJ]?=some (.cells c' bR fr)∧c'.size=r.dn∧r.sh+c.length≤r.dn∧
  ∀(i:Nat) (v:amn),c[i]?=some v→∃v',c'[r.sh+i]?=some v'∧VR (ρ.put n r) v v':=fun hl=>by
  refine hc ?_
  by_cases bt:c=[]
  ·right
   intro e
   subst bt
   simp[Live,e]at hl
  ·exact .inl bt
 refine h.put hn (fun y hy=>.inl (dU _ hy)) (fg _ _ _) (fQ.refl B w) (amX _) (fun y oy ry _ _ h1 h2 h3=>rfl) (fun hl=>?_) (fun hl y oy ry e h0 h1 h2 h3 hd e'=>?_) (fun k _ k2 _=>⟨rfl,fun hl e=>k2 (e▸(nM hl).1)⟩) (fun d e=>by cases e) (fun m s q e=>by cases e) (fun bR ro e=>by cases e;exact hz)
 ·obtain⟨hB,c',bR,fr,hb,hp,hs,iU⟩:=nM hl
  exact⟨_,hb,.cells c el bR true c' fr hp hs (fun e=>by cases e) hz (fun e=>by cases e) iU,fun e=>by cases e⟩
 ·obtain⟨hB,_⟩:=nM hl
  obtain⟨_,_,_,h6⟩:=h.live y oy ry h1 h2 h3
  rcases hd with hd|hd
  ·exact h6 hd (e'▸hB)
  ·cases hd
def im(g:Nat→Option ai):Nat→List ai→Nat→Option ai
 |_,[]=>g
 |k,o::l=>im (cG g k o) (k+1) l
theorem Jd(g:Nat→Option ai):∀(k:Nat) (l l':List ai),im g k (l++l')=im (im g k l) (k+l.length) l'
 |k,[],l'=>rfl
 |k,o::l,l'=>by
  show im (cG g k o) (k+1) (l++l')=_
  rw[Jd]
  simp only[am9]
  rw[show k+1+l.length=k+(l.length+1)by omega]
  rfl
theorem yV{k x:Nat}{l:List ai}{g:Nat→Option ai}(h:x<k∨k+l.length≤x):im g k l x=g x:=by
 induction l generalizing k g with
 |nil=>rfl
 |cons o l ih=>
  show im (cG g k o) (k+1) l x=_
  rw[ih (by simp only[am9]at h;omega),dU _ (by simp only[am9]at h;omega)]
theorem qJ:∀l:List SV,(fZ l).length=kv l
 | []=>rfl
 | .val _::l=>qJ l
 | .cells _ _ _::l=>by show(fZ l).length+1=_;rw[qJ l];rfl
 | .rows _ _ _::l=>by show(fZ l).length+1=_;rw[qJ l];rfl
structure gd(P:amF)(w₀:amC)(B:Nat→Prop)(l:List SV)(l':List amn):Prop where
 len:l.length=l'.length
 at_:∀(i:Nat) (s:SV) (v:amn),l[i]?=some s→l'[i]?=some v→SR P w₀ B s v
theorem gd.tail{s:SV}{v:amn}{l:List SV}{l':List amn}(h:gd P w₀ B (s::l) (v::l')):gd P w₀ B l l':=
 ⟨by simpa using h.len,fun i a b h1 h2=>h.at_ (i+1) a b (by simpa using h1) (by simpa using h2)⟩
theorem SR.Tl{n:Nat}{c:List amn}{el:amz}{v:amn}(h:SR P w₀ B (.cells n c el) v)(hb:fQ B w₀ w):
 ∃r:bP,(∀k,bT P el=some k→r.sz=k)∧(∀(ρ:Ren) (x:Nat),ρ x=some r→VR ρ (.slice (some ⟨x,0,none⟩) n n) v)∧
  (c≠[]∨r.dn≠0→B r.aJ∧∃(c':Array amn) (bR:amz) (fr:Nat×Nat),w.heap[r.aJ]?=some (.cells c' bR fr)∧c'.size=r.dn∧r.sh+c.length≤r.dn∧
   ∀(ρ:Ren) (i:Nat) (v:amn),c[i]?=some v→∃v',c'[r.sh+i]?=some v'∧VR ρ v v'):=by
 cases h with
 |nil _ a=>exact⟨⟨0,0,(bT P el).getD 0,0⟩,fun k hk=>by simp[hk],fun ρ x _=>.dV _ _,fun hc=>by rcases hc with hc|hc<;>exact absurd rfl hc⟩
 |cells _ _ _ b off cap c' bR fr hB gH hc hl hn gD=>
  refine⟨⟨b,off,(bT P el).getD 0,c'.size⟩,fun k hk=>by simp[hk],fun ρ x hx=>?_,fun _=>⟨hB,c',bR,fr,(hb.block b hB).trans gH,rfl,hl,fun ρ i v hv=>?_⟩⟩
  ·refine .sl x 0 n n cap _ hx ?_
   right
   refine⟨hn,?_⟩
   dsimp only
   cases hs:bT P el with
   |none=>simp;omega
   |some s=>have:=gD s hs;simpa using this
  ·obtain⟨h1,h2⟩:=hc i v hv
   exact⟨v,h2,.bH v h1⟩
theorem SR.Tm{n size:Nat}{row:Nat→List SV}{v:amn}(h:SR P w₀ B (.rows n size row) v):
 ∃r:bP,(0<n→mm P w₀ B r n size row)∧(∀(ρ:Ren) (x:Nat),ρ x=some r→VR ρ (.slice (some ⟨x,0,none⟩) n n) v):=by
 cases h with
 |mY _ _ a=>exact⟨⟨0,0,0,0⟩,fun h=>absurd h (by omega),fun ρ x _=>.dV _ _⟩
 |rows _ _ _ b off cap c' bR fr hB gH hl hn gD hlen u hu hr=>
  refine⟨⟨b,off,size,c'.size⟩,fun _=>⟨hB,rfl,c',bR,fr,gH,rfl,hl,fun i hi=>⟨hlen i hi,fun k sv hk=>?_⟩⟩,fun ρ x hx=>.sl x 0 n n cap _ hx (.inr ⟨hn,gD⟩)⟩
  have uj:k<size:=by rw[←hlen i hi];exact(amy.1 hk).1
  exact⟨_,hu i k hi uj,hr i k sv hi hk⟩
theorem wC:∀{l:List SV} {l':List amn} {k:Nat} {g:Nat→Option ai} {ρ:Ren},gd P w₀ B l l'→WR P B w₀ ρ g w→(∀j,j<kv l→g (k+j)=none)→
 ∃ρ',ρ.le ρ'∧WR P B w₀ ρ' (im g k (fZ l)) w∧LR ρ' (lE l k) l'
 | [],l',k,g,ρ,hs,hw,hf=>by
  have:l'=[]:=by have:=hs.len;exact ant (by simpa using this.symm)
  subst this
  exact⟨ρ,Ren.le_refl ρ,hw,LR.nil ρ⟩
 |s::l,[],k,g,ρ,hs,hw,hf=>by have:=hs.len;simp at this
 | .val v::l,v'::l',k,g,ρ,hs,hw,hf=>by
  obtain⟨ρ',h1,h2,h3⟩:=wC (k:=k) hs.tail hw hf
  have h0:=hs.at_ 0 _ _ rfl rfl
  cases h0 with
  |val _ hv=>exact⟨ρ',h1,h2,LR.cons (.bH v hv) h3⟩
 | .cells n c el::l,v'::l',k,g,ρ,hs,hw,hf=>by
  obtain⟨r,h1,h2,h3⟩:=(hs.at_ 0 _ _ rfl rfl).Tl hw.below
  have hk:g k=none:=hf 0 (by simp[kv])
  have gE:=hw.Jc hk h1 fun bt=>let⟨a,c',bR,fr,b1,b2,b3,b4⟩:=h3 bt;⟨a,c',bR,fr,b1,b2,b3,b4 _⟩
  obtain⟨ρ',h4,h5,h6⟩:=wC (k:=k+1) hs.tail gE fun j hj=>by
   rw[dU _ (by omega),show k+1+j=k+(j+1)by omega]
   exact hf (j+1) (by simp only[kv];omega)
  exact⟨ρ',Ren.le_trans (Ren.jH (hw.fresh k hk) r) h4,h5,LR.cons (h2 _ _ (h4 _ _ (Ren.ky _ _ _))) h6⟩
 | .rows n size row::l,v'::l',k,g,ρ,hs,hw,hf=>by
  obtain⟨r,h1,h2⟩:=(hs.at_ 0 _ _ rfl rfl).Tm
  have hk:g k=none:=hf 0 (by simp[kv])
  have gE:=hw.wB hk (o:=.rows n size row) (r:=r) rfl (fun m s q e hm=>by cases e;exact h1 hm) (fun el r8 e=>by cases e)
  obtain⟨ρ',h4,h5,h6⟩:=wC (k:=k+1) hs.tail gE fun j hj=>by
   rw[dU _ (by omega),show k+1+j=k+(j+1)by omega]
   exact hf (j+1) (by simp only[kv];omega)
  exact⟨ρ',Ren.le_trans (Ren.jH (hw.fresh k hk) r) h4,h5,LR.cons (h2 _ _ (h4 _ _ (Ren.ky _ _ _))) h6⟩
end
end Go.Proofs.Ytnlkkgpcikkpoaa.Vm
