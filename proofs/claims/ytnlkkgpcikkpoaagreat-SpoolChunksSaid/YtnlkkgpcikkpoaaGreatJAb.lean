/- Part of the proof: Va. -/
import Derived.Orders
import Derived.Tactics2
import Derived.Laws.World
import Derived.Laws.Sem
import Derived.Below
import Derived.Test.YtnlkkgpcikkpoaaGreatJAa
import Derived.Laws.Cells
import Derived.Laws.BytesString
import Derived.Laws.BytesArg
import Derived.Laws.Slices
import Derived.IntWalk
open Array renaming ext'→aq8,getElem?_modify→arU,getElem?_push→atr,map→avh,range→atE,replicate→aru,size_append→atO,size_map→avb,size_replicate→aup,toList_extract→ars
open Bool renaming and_eq_true→apt,false_eq_true→aqi,not_true→asV,or_eq_false_iff→atc,true_and→arJ
open ForInStep renaming yield→at6
open Go renaming Addr→arE,Field→asI,FuncId→apQ,MapEntry→apM,Next→ark,Oper→aqh,Operand→aqM,Program→apu,TypeDesc→asY,TypeId→apq,Value→ape,World→aps,foldl_push_bytes→auX,run_bytesToString→auP,run_convert_bytes_string→asa,run_newObj→auZ,run_program→arl
open Go.Conv renaming stringToBytes→atH
open Go.Instr renaming alloc→avK,box→av3,build→atF,buildSlice→atU,extract→auv,field→auU,fieldAt→auw,fill→au2,index→asy,indexAt→arZ,loadAt→avt,makeInterface→atq,makeMap→avi,makeSlice→at7,panic→avJ,slice→auV,sliceAt→arr,sliceBound→ass,sliceBounds→auQ,storeAt→auu,sureAddr→ar7,typeAssert→atT
open Go.IntKind renaming i64→apr
open Go.IntWalk renaming i64_in→avc
open Go.Next renaming value→aqs
open Go.Op renaming equal→ar8,equalIn→arM
open Go.Question renaming appendCap→asD,cut→auE
open Go.Region renaming binds→arv
open Go.Result renaming andThen_ok→apf
open Go.RowKit.Below renaming heap_alloc→arK
open Go.Sem renaming run→arL,run_bind→apg,run_pure→apY
open Go.Value renaming int→apm,oneCell'→aqg
open Go.World renaming alloc→avL,freeze→avu,shape?→avv
open Int renaming toNat_natCast→arI
open List renaming all_eq_true→apR,append_assoc→apK,eq_nil_of_length_eq_zero→aqf,ext_getElem?→asn,extract_eq_take_drop→arp,forIn_cons→au0,getElem?_append_left→ap5,getElem?_append_right→apZ,getElem?_drop→aqz,getElem?_eq_getElem→apl,getElem?_eq_none→aqr,getElem?_eq_some_iff→app,getElem?_take→aqx,isEmpty_iff→arA,length_cons→ap1,mem_of_getElem?→apX,range'→atD,take_of_length_le→aqy
open Nat renaming add_assoc→arf,beq→apw,ble→apG,blt→apy,eq_of_beq_eq_true→apz,land→auo,le_of_ble_eq_true→apL,le_of_eq→arw,le_refl→apI,lor→as7,lt_of_lt_of_le→arC,min→atu,one_ne_zero→au1,pow_succ→avr,shiftRight→asJ,succ_mul→atd
open Option renaming isSome_none→auF
open Option.some renaming injEq→api
open Prod.mk renaming injEq→apn
open Std.Legacy renaming Range→av6
open Std.Legacy.Range renaming forIn_eq_forIn_range'→auB,size→avU
open UInt8 renaming ofNat→ar6
set_option linter.unusedVariables false
set_option linter.unusedSimpArgs false
set_option maxRecDepth 100000
namespace Go.Proofs.YtnlkkgpcikkpoaaGreat.Vm
inductive SV where
 |val (v:ape)
 |cells (n:Nat) (c:List ape) (elem:apq)
 |rows (n size:Nat) (row:Nat→List SV)
inductive ag where
 |cells (c:List ape) (elem:apq) (ro:Bool)
 |map (es:List apM) (clock:Nat)
 |kX (s:ByteArray) (pos:Nat)
 |dead
 |rows (n size:Nat) (row:Nat→List SV)
 |abs (d:lD)
inductive Tr(α:Type) where
 |nil
 |node (l:Tr α) (v:Option α) (r:Tr α)
def Tr.get{α:Type}:Nat→Tr α→Nat→Option α
 |0,.node _ v _,_=>v
 |0,.nil,_=>none
 |_+1,.nil,_=>none
 |k+1,.node l _ r,n=>match apw (n%2) 0 with
  |true=>l.get k (n/2)
  |false=>r.get k (n/2)
def Tr.set{α:Type}:Nat→Tr α→Nat→α→Tr α
 |0,_,_,o=>.node .nil (some o) .nil
 |k+1,.nil,n,o=>match apw (n%2) 0 with
  |true=>.node (Tr.set k .nil (n/2) o) none .nil
  |false=>.node .nil none (Tr.set k .nil (n/2) o)
 |k+1,.node l v r,n,o=>match apw (n%2) 0 with
  |true=>.node (Tr.set k l (n/2) o) v r
  |false=>.node l v (Tr.set k r (n/2) o)
def small(n:Nat):Bool:=apy n 262144
def gt(t:Tr ag)(n:Nat):Option ag:=match small n with
 |true=>t.get 18 n
 |false=>none
structure VS where
 mem:Tr ag
 next:Nat
 rd:List Nat
 wr:List Nat
inductive Rd(α:Type) where
 |done (a:α)
 |fail
 |read (x:Nat) (k:ag→Rd α)
def Rd.run{α:Type}(g:Nat→Option ag):Rd α→Option (α×List Nat)
 | .done a=>some (a,[])
 | .fail=>none
 | .read x k=>match g x with
  |none=>none
  |some o=>match(k o).run g with
   |none=>none
   |some (a,l)=>some (a,x::l)
def Rd.bind{α β:Type}:Rd α→(α→Rd β)→Rd β
 | .done a,f=>f a
 | .fail,_=>.fail
 | .read x k,f=>.read x fun o=>(k o).bind f
def fO{α:Type}:Option α→Rd α
 |some a=>.done a
 |none=>.fail
inductive j6 where
 |val (v:ape)
 |skip
 |enter (f:apQ) (args:List ape)
 |panic (v:ape)
 |defer (d:Deferred)
structure bi where
 r:j6
 ws:List (Nat×ag)
 nw:Option ag
def flat:Nat→ape→Bool
 |_,.bool _|_,.int _ _|_,.float _ _|_,.complex _ _ _|_,.string _|_,.pointer none|_,.map none|_,.chan none|_,.nilFunc|_,.nilIface=>true
 |_,.slice none 0 0=>true
 |_,.func (.func _) f c=>f.toList.isEmpty&&c.toList.isEmpty
 |d+1,.iface _ v=>flat d v
 |d+1,.agg cs=>cs.toList.all (flat d)
 |d+1,.tuple cs=>cs.toList.all (flat d)
 |_,_=>false
abbrev fl(v:ape):Bool:=flat 6 v
def gG{α:Type}(P:apu):Sem α→Option (Except ape α)
 | .pure a=>some (.ok a)
 | .program k=>gG P (k P)
 | .mark _ k=>gG P k
 | .halt (.panic v)=>some (.error v)
 |_=>none
structure Fr where
 t:Tr ape
 n:Nat
 ds:List (apQ×List ape)
 base:List Deferred
def Fr.at(f:Fr)(i:Nat):ape:=match apy i f.n with
 |true=>match f.t.get 10 i with
  |some v=>v
  |none=>undef
 |false=>undef
def Fr.set(f:Fr)(i:Nat)(v:ape):Option Fr:=match f with
 |⟨t,n,ds,base⟩=>match apy i n with
  |true=>some ⟨t.set 10 i v,n,ds,base⟩
  |false=>none
theorem Fr.ri(f:Fr)(i:Nat)(v:ape):f.set i v=match apy i f.n with
 |true=>some {f with t:=f.t.set 10 i v}
 |false=>none:=by cases f;rfl
def Fr.rj:List ape→Nat→Tr ape→Tr ape
 | [],_,t=>t
 |v::l,i,t=>Fr.rj l (i+1) (t.set 10 i v)
def Fr.of(args:List ape)(n:Nat):Option Fr:=match apG args.length n&&apG n 1024 with
 |true=>some ⟨Fr.rj args 0 .nil,n,[],[]⟩
 |false=>none
def bL(t:Fr):aqM→ape
 | .tmp i=>t.at i
 | .const v=>v
 | .global g=>.pointer (some ⟨g,0,none⟩)
 | .func f=>.func (.func f) #[] #[]
def pd:aqM→Bool
 | .global _=>false
 | .const v=>fl v
 |_=>true
section
variable (P:apu)
def bR(t:apq):Option Nat:=(P.info? t).map (·.size)
def oe(t:apq):Option Bool:=match P.underlying t with
 |some (.struct _)|some (.array _ _)=>some true
 |some _=>some false
 |none=>none
def val(v:ape):Rd bi:=.done ⟨.val v,[],none⟩
def new(ob:ag)(v:ape):Rd bi:=.done ⟨.val v,[],some ob⟩
def cut(c:List ape)(off n:Nat):Option (List ape):=match apG (off+n) c.length with
 |true=>some ((c.drop off).take n)
 |false=>none
def a8(c:List ape)(off:Nat)(vs:List ape):List ape:=c.take off++vs++c.drop (off+vs.length)
def qd(t:apq)(b off:Nat):Rd ape:=.read b fun
 | .cells c _ _=>match oe P t with
  |some true=>match bR P t with
   |some (n+1)=>match cut c off (n+1)with
    |some l=>.done (.agg l.toArray)
    |none=>.fail
   |_=>.fail
  |some false=>match c[off]?with
   |some v=>.done v
   |none=>.fail
  |none=>.fail
 |_=>.fail
def rk(size:Nat):ape→Nat→Rd (List ape)
 | .slice (some ⟨b,off,none⟩) _ _,n=>.read b fun
  | .cells c _ _=>fO (cut c off (n*size))
  |_=>.fail
 | .slice none _ _,_=>.done []
 | .string s,n=>.done ((s.data.toList.take n).map fun b=>.int .u8 b.toNat)
 |_,_=>.fail
def bytesOf:List ape→Option (List UInt8)
 | []=>some []
 | .int .u8 n::l=>match bytesOf l with
  |some r=>some (ar6 n.toNat::r)
  |none=>none
 |_::_=>none
def tc(size:Nat→Option (Nat×Nat))(cells:List ape):List (Nat×ape)→Option (List ape)
 | []=>some cells
 |(i,v)::rest=>match size i with
  |none=>none
  |some (off,n)=>match apw v.cells.size n&&apG (off+n) cells.length with
   |true=>tc size (a8 cells off v.cells.toList) rest
   |false=>none
def uS(P:apu):List asI→Option (List (Nat×Nat))
 | []=>some []
 |f::l=>match bR P f.type,uS P l with
  |some n,some r=>some ((f.offset,n)::r)
  |_,_=>none
def e8(zero:List ape):Nat→List ape
 |0=>[]
 |n+1=>zero++e8 zero n
def zeroOf(t:apq):Option ape:=(P.info? t).bind (·.zero)
def rl:ape→Option Nat
 | .slice _ n _=>some n
 | .string s=>some s.size
 |_=>none
def pe:ape→Option Nat
 | .int _ (.ofNat n)=>some n
 |_=>none
def og(d:Nat):Option ape→Option Nat
 |none=>some d
 |some v=>pe v
def uT(elem:apq)(size len k:Nat)(base:Option arE)(xs:List ape)(n:Nat):Rd bi:=match base with
 |none=>match len with
  |0=>.done ⟨.val (.slice (some ⟨n,0,none⟩) k k),[],some (.cells xs elem false)⟩
  |_=>.fail
 |some ⟨b,off,none⟩=>.read b fun
  | .cells c el false=>match apw (off+len*size) c.length&&apw el elem with
   |true=>.done ⟨.val (.slice (some ⟨n,0,none⟩) (len+k) (len+k)),[(b,.dead)],some (.cells (c.drop off++xs) elem false)⟩
   |false=>.fail
  |_=>.fail
 |_=>.fail
def xa(size len cap k:Nat)(base:Option arE)(xs:List ape):Rd bi:=match base with
 |some ⟨b,off,none⟩=>.read b fun
  | .cells c el false=>match apG (len+k) cap&&apG (off+len*size+xs.length) c.length with
   |true=>.done ⟨.val (.slice (some ⟨b,off,none⟩) (len+k) cap),[(b,.cells (a8 c (off+len*size) xs) el false)],none⟩
   |false=>.fail
  |_=>.fail
 |_=>.fail
def full(len cap:Nat):Bool:=match cap with
 |0=>true
 |c+1=>apG (c+1) len
def isInt:asY→Bool
 | .int _=>true
 |_=>false
def xc(argTypes:List apq)(args:List ape)(n:Nat):Rd bi:=
 match argTypes,args with
 |sT::xT::_,.slice base len cap::x::_=>match P.underlying sT,P.underlying xT with
  |some (.slice elem),some xd=>match bR P elem,rl x,zeroOf P elem,(P.info? elem).map (·.bytes)with
   |some size,some k,some z,some bytes=>match !isInt xd&&apG bytes 1000000&&apw z.cells.size size&&apy 0 size with
    |false=>.fail
    |true=>(rk size x k).bind fun xs=>match apG (len+k) 1000000&&xs.all aqg&&apw xs.length (k*size)with
     |false=>.fail
     |true=>match full len cap with
      |true=>uT elem size len k base xs n
      |false=>xa size len cap k base xs
   |_,_,_,_=>.fail
  |_,_=>.fail
 |_,_=>.fail
def copyV(argTypes:List apq)(args:List ape):Rd bi:=
 match argTypes,args with
 |dT::_,.slice base len _::x::_=>match P.underlying dT with
  |some (.slice elem)=>match bR P elem,rl x with
   |some size,some k=>(rk size x (atu k len)).bind fun xs=>
    match base with
    |none=>val (.int .i64 (atu k len))
    |some ⟨b,off,none⟩=>.read b fun
     | .cells c el false=>match apG (off+xs.length) c.length&&xs.all aqg with
      |true=>.done ⟨.val (.int .i64 (atu k len)),[(b,.cells (a8 c off xs) el false)],none⟩
      |false=>.fail
     |_=>.fail
    |_=>.fail
   |_,_=>.fail
  |_=>.fail
 |_,_=>.fail
def fh(k:ape):List apM→Nat→Option (Option (Nat×ape))
 | [],_=>some none
 |e::es,i=>match k,e.key with
  | .int a x,.int b y=>match a==b with
   |true=>if x==y then some (some (i,e.val))else fh k es (i+1)
   |false=>none
  | .string x,.string y=>if x==y then some (some (i,e.val))else fh k es (i+1)
  |_,_=>none
def pf(P:apu)(t:apq)(k:ape):Bool:=match P.underlying t,k with
 |some (.int _),.int _ _=>true
 |some .string,.string _=>true
 |_,_=>false
def Dd(t:apq)(x k:ape)(ok:Bool):Rd bi:=
 match P.underlying t with
 |some (.map kt et)=>match pf P kt k,zeroOf P et with
  |true,some z=>
   let tell (r:Option (Nat×ape)):Rd bi:=match r with
    |some (_,v)=>val (if ok then .tuple #[v,.bool true]else v)
    |none=>val (if ok then .tuple #[z,.bool false]else z)
   match x with
   | .map none=>match fl z with
    |true=>tell none
    |false=>.fail
   | .map (some r)=>.read r fun
    | .map es _=>match fh k es 0,fl z with
     |some f,true=>tell f
     |_,_=>.fail
    |_=>.fail
   |_=>.fail
  |_,_=>.fail
 |_=>.fail
def xe(t:apq)(x k v:ape):Rd bi:=
 match P.underlying t with
 |some (.map kt _)=>match pf P kt k,x with
  |true,.map (some r)=>.read r fun
   | .map es clock=>match fh k es 0 with
    |some (some (i,_))=>.done ⟨.skip,[(r,.map (es.modify i fun e=>{e with key:=k,val:=v}) clock)],none⟩
    |some none=>.done ⟨.skip,[(r,.map (es++[{key:=k,val:=v,born:=clock}]) (clock+1))],none⟩
    |none=>.fail
   |_=>.fail
  |_,_=>.fail
 |_=>.fail
def xf(argTypes:List apq)(args:List ape):Rd bi:=
 match argTypes,args with
 |t::_,.map (some r)::k::_=>match P.underlying t with
  |some (.map kt _)=>match pf P kt k with
   |true=>.read r fun
    | .map es clock=>match fh k es 0 with
     |some (some (i,_))=>.done ⟨.val (.tuple #[]),[(r,.map (es.eraseIdx i) clock)],none⟩
     |some none=>.done ⟨.val (.tuple #[]),[(r,.map es clock)],none⟩
     |none=>.fail
    |_=>.fail
   |false=>.fail
  |_=>.fail
 |_,_=>.fail
def De(argTypes:List apq)(args:List ape):Rd bi:=
 match argTypes,args with
 |t::_,x::_=>match P.underlying t,x with
  |some (.slice _),.slice _ n _=>val (.int .i64 n)
  |some (.map _ _),.map none=>val (.int .i64 0)
  |some (.map _ _),.map (some r)=>.read r fun
   | .map es _=>val (.int .i64 es.length)
   |_=>.fail
  |some (.array n _),_=>val (.int .i64 n)
  |some (.pointer a),_=>match P.underlying a with
   |some (.array n _)=>val (.int .i64 n)
   |_=>.fail
  |_,_=>.fail
 |_,_=>.fail
inductive Pl where
 |val (v:ape)
 |var (b off:Nat)
def xg(s:apq)(i:Nat):Option (Nat×apq×Nat):=match P.underlying s with
 |some (.struct fs)=>match fs[i]?with
  |some f=>match bR P f.type with
   |some (n+1)=>some (f.offset,f.type,n+1)
   |_=>none
  |none=>none
 |_=>none
def zr(t:apq):Pl→Rd ape
 | .val v=>.done v
 | .var b o=>qd P t b o
def uU:List FieldStep→apq→Pl→Rd (apq×Pl)
 | [],t,x=>.done (t,x)
 |s::rest,t,x=>match xg P s.struct s.index with
  |none=>.fail
  |some (off,ft,n)=>match s.deref with
   |true=>(zr P t x).bind fun
    | .pointer (some ⟨b,o,none⟩)=>uU rest ft (.var b (o+off))
    |_=>.fail
   |false=>match x with
    | .var b o=>uU rest ft (.var b (o+off))
    | .val _=>.fail
def Df(t:apq)(x:Pl)(ptr:Bool):Rd ape:=match P.underlying t,ptr,x with
 |some (.pointer _),true,.val v=>.done v
 |some (.pointer _),true,.var b o=>qd P t b o
 |some (.pointer e),false,.val (.pointer (some ⟨b,o,none⟩))=>qd P e b o
 |some (.pointer _),false,_=>.fail
 |some _,true,.var b o=>.done (.pointer (some ⟨b,o,none⟩))
 |some _,false,.val v=>.done v
 |some _,false,.var b o=>qd P t b o
 |_,_,_=>.fail
def zt:Nat→apq→ape→String→Rd (apQ×ape)
 |0,_,_,_=>.fail
 |d+1,t,v,name=>match(P.info? t).bind (·.methods.find? (·.name==name))with
  |none=>.fail
  |some m=>(uU P m.path.toList t (.val v)).bind fun(xt,x)=>match m.func with
   |none=>(zr P xt x).bind fun
    | .iface t' v'=>zt d t' v' name
    |_=>.fail
   |some (f,ptr)=>(Df P xt x ptr).bind fun r=>.done (f,r)
def zu:asY→ape→ape→Option Bool
 | .pointer _,.pointer none,.pointer (some _)=>some false
 | .pointer _,.pointer (some _),.pointer none=>some false
 | .slice _,.slice none _ _,.slice (some _) _ c=>match apy 0 c with
  |true=>some false
  |false=>none
 | .slice _,.slice (some _) _ c,.slice none _ _=>match apy 0 c with
  |true=>some false
  |false=>none
 | .map _ _,.map none,.map (some _)=>some false
 | .map _ _,.map (some _),.map none=>some false
 | .func _ _ _,.nilFunc,.func _ _ _=>some false
 | .func _ _ _,.func _ _ _,.nilFunc=>some false
 | .interface _,.nilIface,.iface _ _=>some false
 | .interface _,.iface _ _,.nilIface=>some false
 |_,_,_=>none
def ky(s:Sem ark):Rd bi:=match gG P s with
 |some (.ok (.value v))=>match fl v with
  |true=>val v
  |false=>.fail
 |some (.error v)=>match fl v with
  |true=>.done ⟨.panic v,[],none⟩
  |false=>.fail
 |_=>.fail
def enter(f:apQ)(args:List ape):Rd bi:=match P.funcs[f]?with
 |some fn=>match fn.body with
  |some _=>.done ⟨.enter f args,[],none⟩
  |none=>match args.all fl with
   |true=>ky P (callFunc f args.toArray)
   |false=>.fail
 |none=>.fail
def zv(recv:ape)(name:String)(args:List ape):Rd bi:=match recv with
 | .iface t v=>(zt P 9 t v name).bind fun(f,r)=>enter P f (r::args)
 |_=>.fail
def Uh:Builtin→Bool
 | .len| .min| .max=>true
 |_=>false
def Ui(b:Builtin)(argTypes:Array apq)(type:apq)(uV:Array Bool)(args:List ape):Rd bi:=
 ky P (builtin b argTypes type uV args.toArray)
def xh(argTypes:List apq)(args:List ape):Rd bi:=
 match argTypes,args with
 |t::_,x::_=>match P.underlying t,x with
  |some _,.slice none _ _=>val (.tuple #[])
  |some _,.slice _ 0 _=>val (.tuple #[])
  |some (.slice el),.slice (some ⟨b,off,none⟩) k _=>match bR P el,zeroOf P el with
   |some size,some z=>.read b fun
    | .cells c ce false=>match fl z&&apw z.cells.size size&&apG (off+k*size) c.length&&z.cells.toList.all aqg with
     |true=>.done ⟨.val (.tuple #[]),[(b,.cells (a8 c off (e8 z.cells.toList k)) ce false)],none⟩
     |false=>.fail
    |_=>.fail
   |_,_=>.fail
  |_,_=>.fail
 |_,_=>.fail
def Dg(b:Builtin)(argTypes:Array apq)(type:apq)(uV:Array Bool)(args:List ape)(n:Nat):Rd bi:=
 match Uh b&&args.all fl with
 |true=>Ui P b argTypes type uV args
 |false=>match b with
  | .append=>xc P argTypes.toList args n
  | .copy=>copyV P argTypes.toList args
  | .len=>De P argTypes.toList args
  | .delete=>xf P argTypes.toList args
  | .clear=>xh P argTypes.toList args
  |_=>.fail
def Kk(f:ape)(args:List ape):Rd bi:=match f with
 | .func (.func k) first captured=>enter P k (first.toList++args++captured.toList)
 | .func (.method name) first captured=>match first.toList++args with
  |recv::rest=>zv P recv name rest
  | []=>.fail
 |_=>.fail
def rp(c:Call)(e:aqM→ape)(type:apq)(n:Nat):Rd bi:=
 match c.callee with
 | .builtin b=>Dg P b c.argTypes type (c.args.map fun| .const _=>true|_=>false) (c.args.toList.map e) n
 | .invoke recv name=>zv P (e recv) name (c.args.toList.map e)
 | .value f=>Kk P (e f) (c.args.toList.map e)
def Dh(t:apq)(n:Nat):Rd bi:=match zeroOf P t with
 |some z=>match fl z with
  |true=>new (.cells z.cells.toList t false) (.pointer (some ⟨n,0,none⟩))
  |false=>.fail
 |none=>.fail
def Di(t:apq)(parts:List (Nat×ape)):Rd bi:=match zeroOf P t,P.underlying t with
 |some z,some (.struct fs)=>match uS P fs.toList,fl z with
  |some ps,true=>match tc (fun i=>ps[i]?) z.cells.toList parts with
   |some l=>val (.agg l.toArray)
   |none=>.fail
  |_,_=>.fail
 |some z,some (.array _ el)=>match bR P el,fl z with
  |some size,true=>match tc (fun i=>some (i*size,size)) z.cells.toList parts with
   |some l=>val (.agg l.toArray)
   |none=>.fail
  |_,_=>.fail
 |_,_=>.fail
def Dj(t:apq)(len:Nat)(parts:List (Nat×ape))(n:Nat):Rd bi:=match P.underlying t with
 |some (.slice el)=>match bR P el,zeroOf P el with
  |some size,some z=>match fl z&&apG (len*size) 1000000&&apw z.cells.size size with
   |true=>match tc (fun i=>some (i*size,size)) (e8 z.cells.toList len) parts with
    |some l=>new (.cells l el false) (.slice (some ⟨n,0,none⟩) len len)
    |none=>.fail
   |false=>.fail
  |_,_=>.fail
 |_=>.fail
def td(t:apq):ape→Rd bi
 | .pointer (some ⟨b,off,none⟩)=>(qd P t b off).bind val
 |_=>.fail
def te(t:apq)(a x:ape):Rd bi:=match a with
 | .pointer (some ⟨b,off,none⟩)=>match bR P t with
  |some size=>.read b fun
   | .cells c el false=>match apw x.cells.size size&&apG (off+size) c.length&&x.cells.toList.all aqg with
    |true=>.done ⟨.skip,[(b,.cells (a8 c off x.cells.toList) el false)],none⟩
    |false=>.fail
   |_=>.fail
  |none=>.fail
 |_=>.fail
def Dk:ape→Rd bi
 | .pointer (some a)=>val (.pointer (some a))
 | .func (.func k) f c=>val (.func (.func k) f c)
 | .iface t v=>val (.iface t v)
 | .pointer none| .nilIface| .nilFunc=>ky P (runtimePanic .nilDeref)
 |_=>.fail
def uW(t:apq)(a b:ape)(neg:Bool):Rd bi:=match P.underlying t with
 |some d=>match zu d a b with
  |some r=>val (.bool (r != neg))
  |none=>.fail
 |none=>.fail
def uX(ft:apq)(cs:List ape)(d:Nat):Option ape:=match oe P ft,bR P ft with
 |some true,some k=>match cut cs d k with
  |some l=>some (.agg l.toArray)
  |none=>none
 |some false,some _=>cs[d]?
 |_,_=>none
def qe{α:Type}(f:α→Option Bool):List α→Option Bool
 | []=>some true
 |x::l=>match f x,qe f l with
  |some a,some b=>some (a&&b)
  |_,_=>none
def uY:Nat→apq→ape→ape→Option Bool
 |0,_,_,_=>none
 |d+1,t,x,y=>match P.underlying t with
  |some .bool=>match x,y with
   | .bool a,.bool b=>some (a==b)
   |_,_=>none
  |some (.int _)=>match x,y with
   | .int k a,.int k' b=>match decide (k=k')with
    |true=>some (a==b)
    |false=>none
   |_,_=>none
  |some .string=>match x,y with
   | .string a,.string b=>some (a==b)
   |_,_=>none
  |some (.struct fs)=>match x,y with
   | .agg xs,.agg ys=>match P.stoodInHeld t with
    |true=>none
    |false=>qe (fun f=>match decide (f.name= "_")with
     |true=>none
     |false=>match uX P f.type xs.toList f.offset,uX P f.type ys.toList f.offset with
      |some a,some b=>uY d f.type a b
      |_,_=>none) fs.toList
   |_,_=>none
  |some (.array n e)=>match x,y,bR P e with
   | .agg xs,.agg ys,some k=>qe (fun i=>match uX P e xs.toList (i*k),uX P e ys.toList (i*k)with
     |some a,some b=>uY d e a b
     |_,_=>none) (atD 0 n)
   |_,_,_=>none
  |_=>none
def Dl(op:BinOp)(t:apq)(a b:ape):Option Bool:=match op,a,b with
 | .eql,.agg _,.agg _=>match P.eqGuardType P.depth t with
  |true=>none
  |false=>uY P 10000 t a b
 | .neq,.agg _,.agg _=>match P.eqGuardType P.depth t with
  |true=>none
  |false=>(uY P 10000 t a b).map (!·)
 |_,_,_=>none
def tf(op:BinOp)(t:apq)(x y:aqM)(a b:ape):Rd bi:=match fl a&&fl b with
 |true=>match Dl P op t a b with
  |some r=>val (.bool r)
  |none=>ky P (do let v ←(do eqGuard op t x y a b;binOp op t a b);pure (.value v))
 |false=>match op with
  | .eql=>uW P t a b false
  | .neq=>uW P t a b true
  |_=>.fail
def Dm(op:UnOp)(a:ape):Rd bi:=match fl a with
 |true=>ky P (do let v ←Op.unary op a;pure (.value v))
 |false=>.fail
def xj(src dst:apq)(x:ape)(n:Nat):Rd bi:=match P.underlying src,P.underlying dst,x with
 |some _,some (.slice el),.string s=>match P.underlying el,bR P el with
  |some (.int .u8),some 1=>new (.cells (s.data.toList.map fun b=>.int .u8 b.toNat) el false) (.slice (some ⟨n,0,none⟩) s.size s.size)
  |_,_=>.fail
 |some (.slice el),some (.slice _),.slice (some ⟨b,off,none⟩) len cap=>match P.underlying el,apw src dst with
  |some (.int .u8),true=>match cap with
   |0=>.fail
   |_+1=>.read b fun
    | .cells (_::_) _ false=>val (.slice (some ⟨b,off,none⟩) len cap)
    |_=>.fail
  |_,_=>.fail
 |some (.slice el),some .string,.slice a len cap=>match P.underlying el,a with
  |some (.int .u8),none=>val (.string .empty)
  |some (.int .u8),some ⟨b,off,none⟩=>.read b fun
   | .cells c _ _=>match(cut c off len).bind bytesOf with
    |some l=>val (.string ⟨l.toArray⟩)
    |none=>.fail
   |_=>.fail
  |_,_=>.fail
 |_,_,_=>match fl x with
  |true=>ky P (do let v ←convert src dst x;pure (.value v))
  |false=>.fail
def Dn(t:apq)(x:ape):Rd bi:=match P.underlying t with
 |some (.interface _)=>.fail
 |some _=>val (.iface t x)
 |none=>.fail
def Dp(fn:Fn)(first captured:List ape):Rd bi:=match fn with
 | .func _| .method _=>val (.func fn first.toArray captured.toArray)
 |_=>.fail
def Dq(t:apq)(h:Option ape)(n:Nat):Rd bi:=match h with
 |none=>new (.map [] 0) (.map (some n))
 |some (.int _ _)=>match P.underlying t with
  |some (.map _ _)=>new (.map [] 0) (.map (some n))
  |_=>.fail
 |_=>.fail
def Dr(t:apq)(l c:ape)(n:Nat):Rd bi:=match P.underlying t,pe l,pe c with
 |some (.slice el),some l,some c=>match bR P el,zeroOf P el,(P.info? el).map (·.bytes)with
  |some size,some z,some bytes=>match fl z&&apG l c&&apG c 1000000&&apG bytes 1000000&&apw z.cells.size size with
   |true=>new (.cells (e8 z.cells.toList c) el false) (.slice (some ⟨n,0,none⟩) l c)
   |false=>.fail
  |_,_,_=>.fail
 |_,_,_=>.fail
def rq(t:apq)(x:ape)(lo hi mx:Option ape):Rd bi:=match fl x with
 |true=>match lo.all fl&&hi.all fl&&mx.all fl with
  |true=>ky P (do let v ←arr t x lo hi mx;pure (.value v))
  |false=>.fail
 |false=>match P.underlying t,x,mx with
  |some (.slice el),.slice (some ⟨b,off,none⟩) len cap,none=>match og 0 lo,og len hi,bR P el with
   |some l,some h,some size=>match apG l h&&apG h cap with
    |true=>.read b fun
     | .cells c eb ro=>match bR P eb with
      |some sb=>match apG size sb with
       |true=>val (.slice (some ⟨b,off+l*size,none⟩) (h-l) (cap-l))
       |false=>.fail
      |none=>.fail
     |_=>.fail
    |false=>.fail
   |_,_,_=>.fail
  |some (.array k el),.pointer (some ⟨b,off,none⟩),none=>match og 0 lo,og k hi,bR P el with
   |some l,some h,some size=>match apG l h&&apG h k with
    |true=>val (.slice (some ⟨b,off+(if apw k l then 0 else l*size),none⟩) (h-l) (k-l))
    |false=>.fail
   |_,_,_=>.fail
  |_,_,_=>.fail
def Ds(s:apq)(x:ape)(f:Nat):Rd bi:=match x,xg P s f with
 | .pointer (some ⟨b,off,none⟩),some (d,_,_)=>val (.pointer (some ⟨b,off+d,none⟩))
 |_,_=>.fail
def zw(ft:apq)(cs:List ape)(d k:Nat):Rd bi:=match oe P ft with
 |some true=>match cut cs d k with
  |some l=>val (.agg l.toArray)
  |none=>.fail
 |some false=>match cs[d]?with
  |some v=>val v
  |none=>.fail
 |none=>.fail
def Dt(s:apq)(x:ape)(f:Nat):Rd bi:=match x,xg P s f with
 | .agg cs,some (d,ft,k)=>zw P ft cs.toList d k
 |_,_=>.fail
def tg(t:apq)(x i:ape):Rd bi:=match P.underlying t,x,pe i with
 |some (.array k el),.pointer (some ⟨b,off,none⟩),some i=>match bR P el,apy i k with
  |some size,true=>val (.pointer (some ⟨b,off+i*size,none⟩))
  |_,_=>.fail
 |some (.slice el),.slice (some ⟨b,off,none⟩) len _,some i=>match bR P el,apy i len with
  |some size,true=>val (.pointer (some ⟨b,off+i*size,none⟩))
  |_,_=>.fail
 |_,_,_=>.fail
def xk(t:apq)(x i:ape):Rd bi:=match x with
 | .string s=>match fl i with
  |true=>ky P (do let v ←asy t (.string s) i;pure (.value v))
  |false=>.fail
 | .agg cs=>match P.underlying t,pe i with
  |some (.array k el),some i=>match bR P el,apy i k with
   |some size,true=>zw P el cs.toList (i*size) size
   |_,_=>.fail
  |_,_=>.fail
 |_=>.fail
def Du(x:ape)(i:Nat):Rd bi:=match x with
 | .tuple vs=>match vs.toList[i]?with
  |some v=>val v
  |none=>.fail
 |_=>.fail
def Dv(x:ape)(at_:apq)(ok:Bool):Rd bi:=match P.underlying at_,x with
 |some (.interface _),_=>.fail
 |some _,.iface t v=>match apw t at_ with
  |true=>val (if ok then .tuple #[v,.bool true]else v)
  |false=>.fail
 |_,_=>.fail
def zx(c a b:ape):Rd bi:=match c with
 | .bool true=>val a
 | .bool false=>val b
 |_=>.fail
def Dw(x:ape):Rd bi:=match fl x with
 |true=>ky P (do let v ←avJ x;pure (.value v))
 |false=>.fail
end
def zy(op:Op):apu→(aqM→ape)→Nat→apq→Rd bi:=match op with
 | .move x| .assign x=>fun P e n ty=>val (e x)
 | .pick c a b=>fun P e n ty=>zx (e c) (e a) (e b)
 | .alloc t=>fun P e n ty=>Dh P t n
 | .box t x=>fun P e n ty=>new (.cells (e x).cells.toList t false) (.pointer (some ⟨n,0,none⟩))
 | .build t parts=>fun P e n ty=>Di P t (parts.toList.map fun(i,x)=>(i,e x))
 | .buildSlice t len parts=>fun P e n ty=>Dj P t len (parts.toList.map fun(i,x)=>(i,e x)) n
 | .load t a=>fun P e n ty=>td P t (e a)
 | .store t a x=>fun P e n ty=>te P t (e a) (e x)
 | .nilCheck x=>fun P e n ty=>Dk P (e x)
 | .binOp op t x y _=>fun P e n ty=>tf P op t x y (e x) (e y)
 | .unOp op _ x=>fun P e n ty=>Dm P op (e x)
 | .convert src dst x=>fun P e n ty=>xj P src dst (e x) n
 | .makeInterface t x=>fun P e n ty=>Dn P t (e x)
 | .makeFunc fn first captured=>fun P e n ty=>Dp fn (first.toList.map e) (captured.toList.map e)
 | .makeMap t r=>fun P e n ty=>Dq P t (r.map e) n
 | .makeSlice t l c=>fun P e n ty=>Dr P t (e l) (e c) n
 | .slice t x lo hi mx=>fun P e n ty=>rq P t (e x) (lo.map e) (hi.map e) (mx.map e)
 | .fieldAddr s x f=>fun P e n ty=>Ds P s (e x) f
 | .field s x f=>fun P e n ty=>Dt P s (e x) f
 | .indexAddr t x i=>fun P e n ty=>tg P t (e x) (e i)
 | .index t x i=>fun P e n ty=>xk P t (e x) (e i)
 | .lookup t x k ok=>fun P e n ty=>Dd P t (e x) (e k) ok
 | .mapUpdate t m k x| .insert t m k x=>fun P e n ty=>xe P t (e m) (e k) (e x)
 | .extract t i=>fun P e n ty=>Du (e t) i
 | .typeAssert x _ at_ ok=>fun P e n ty=>Dv P (e x) at_ ok
 | .call c=>fun P e n ty=>rp P c e ty n
 | .panic x=>fun P e n ty=>Dw P (e x)
 |_=>fun _ _ _ _=>.fail
def ev(P:apu)(e:aqM→ape)(n:Nat)(o:aqh):Rd bi:=zy o.op P e n o.type
def zz(S:VS)(l:List Nat)(out:bi):Option (j6×VS):=
 let S1:VS:=out.ws.foldl (fun S (x,o)=>{S with mem:=S.mem.set 18 x o,wr:=x::S.wr}) {S with rd:=l++S.rd}
 match out.ws.all fun(x,_)=>l.contains x with
 |false=>none
 |true=>match out.nw with
  |none=>some (out.r,S1)
  |some o=>match small S.next,gt S.mem S.next with
   |true,none=>some (out.r,{S1 with mem:=S1.mem.set 18 S.next o,next:=S.next+1,wr:=S.next::S1.wr})
   |_,_=>none
def nz(P:apu)(t:Fr)(S:VS)(o:aqh):Option (j6×VS):=
 match o.op.operands.toList.all pd with
 |false=>none
 |true=>match(ev P (bL t) S.next o).run (gt S.mem)with
  |none=>none
  |some (out,l)=>zz S l out
def mo:List SV→Nat→List ape
 | [],_=>[]
 | .val v::l,k=>v::mo l k
 | .cells n _ _::l,k=>.slice (some ⟨k,0,none⟩) n n::mo l (k+1)
 | .rows n _ _::l,k=>.slice (some ⟨k,0,none⟩) n n::mo l (k+1)
def gH:List SV→List ag
 | []=>[]
 | .val _::l=>gH l
 | .cells _ c el::l=>.cells c el true::gH l
 | .rows n s r::l=>.rows n s r::gH l
def kY:List SV→Nat
 | []=>0
 | .val _::l=>kY l
 |_::l=>kY l+1
def rA:List ag→VS→Option VS
 | [],S=>some S
 |o::l,S=>match small S.next,gt S.mem S.next with
  |true,none=>rA l {S with mem:=S.mem.set 18 S.next o,next:=S.next+1,wr:=S.next::S.wr}
  |_,_=>none
def xl(S:VS)(b:Nat)(el:apq)(l:List SV):Option (j6×VS):=
 match rA (gH l++[.cells (mo l S.next) el true]) {S with rd:=b::S.rd}with
 |some S1=>some (.val (.pointer (some ⟨S.next+kY l,0,none⟩)),S1)
 |none=>none
structure View where
 b:Nat
 el:apq
 n:Nat
 size:Nat
 row:Nat→List SV
 len:Nat
 i:ape
def lE(P:apu)(t:Fr)(S:VS)(o:aqh):Option View:=match o.op with
 | .indexAddr ty x i=>match bL t x with
  | .slice (some ⟨b,off,none⟩) len _=>match gt S.mem b with
   |some (.rows n size row)=>match off with
    |0=>match P.underlying ty with
     |some (.slice el)=>match bR P el with
      |some s=>match apw s size with
       |true=>some ⟨b,el,n,size,row,len,bL t i⟩
       |false=>none
      |none=>none
     |_=>none
    |_+1=>none
   |_=>none
  |_=>none
 |_=>none
def jy(P:apu)(t:Fr)(S:VS)(o:aqh):Option (j6×VS):=match lE P t S o with
 |some V=>match o.op.operands.toList.all pd,pe V.i with
  |true,some k=>match apy k V.n&&apy k V.len with
   |true=>xl S V.b V.el (V.row k)
   |false=>none
  |_,_=>none
 |none=>nz P t S o
inductive bd where
 |normal
 |exit (id:Nat)
 |ret
 |panic (v:ape)
inductive bx where
 |ret (v:ape)
 |panic (v:ape)
abbrev cB:=apQ→List ape→VS→Option (bx×VS)
def put(t:Fr)(d:Option Tmp)(v:ape):Option Fr:=match d with
 |some d=>t.set d v
 |none=>some t
def lF(ops:List aqh)(t:Fr)(j:Nat):Option Bool:=match(ops[j]?).bind (·.dst)with
 |some d=>match t.at d with
  | .bool b=>some b
  |_=>none
 |none=>none
def kA(P:apu)(call:cB)(ops:List aqh)(o:aqh)(t:Fr)(S:VS):Option (Option ape×Fr×VS):=
 match Region.wanted o (lF ops t)with
 |false=>(put t o.dst undef).map fun t1=>(none,t1,S)
 |true=>match jy P t S o with
  |none=>none
  |some (r,S1)=>match r with
   | .val v=>(put t o.dst v).map fun t1=>(none,t1,S1)
   | .skip=>(put t o.dst undef).map fun t1=>(none,t1,S1)
   | .panic v=>some (some v,t,S1)
   | .defer _=>none
   | .enter f args=>match call f args S1 with
    |none=>none
    |some (.ret v,S2)=>(put t o.dst v).map fun t1=>(none,t1,S2)
    |some (.panic v,S2)=>some (some v,t,S2)
def xm(o:aqh):Option Call:=match o.op with
 | .defer c=>some c
 |_=>none
def zA(P:apu)(t:Fr)(o:aqh)(c:Call):Option Fr:=match o.guard,c.callee with
 |none,.value f=>match pd f&&c.args.toList.all pd,bL t f with
  |true,.func (.func k) first captured=>match(P.funcs[k]?).bind (·.body)with
   |some _=>put {t with ds:=(k,(first.toList++c.args.toList.map (bL t))++captured.toList)::t.ds} o.dst undef
   |none=>none
  |_,_=>none
 |_,_=>none
def opsV(P:apu)(call:cB)(df:Bool)(ops:List aqh):List aqh→Fr→VS→Option (bd×Fr×VS)
 | [],t,S=>some (.normal,t,S)
 |o::rest,t,S=>match xm o with
  |some c=>match df with
   |true=>match zA P t o c with
    |some t1=>opsV P call df ops rest t1 S
    |none=>none
   |false=>none
  |none=>match kA P call ops o t S with
   |none=>none
   |some (some v,t1,S1)=>some (.panic v,t1,S1)
   |some (none,t1,S1)=>opsV P call df ops rest t1 S1
structure Fp where
 rd:List Nat
 wr:List Nat
def zB(a b:List Nat):Bool:=a.all fun x=> !b.contains x
def kC(P:apu)(call:cB)(ops:List aqh):List aqh→Fr→VS→Option (Fr×VS×List Fp)
 | [],t,S=>some (t,S,[])
 |o::rest,t,S=>match kA P call ops o t {S with rd:=[],wr:=[]}with
  |some (none,t1,S1)=>match kC P call ops rest t1 {S1 with rd:=S1.rd++S.rd,wr:=S1.wr++S.wr}with
   |some (t2,S2,gr)=>some (t2,S2,⟨S1.rd,S1.wr⟩::gr)
   |none=>none
  |_=>none
def Kl(f g:Fp):Bool:=zB f.wr g.rd&&zB f.wr g.wr&&zB g.wr f.rd
def jz:List Edge→Nat
 | []=>0
 |e::l=>match arv .any e with
  |true=>as7 (Nat.shiftLeft 1 e.on) (jz l)
  |false=>jz l
def mq(m:Nat):Nat→List Nat→Nat
 |k+1,b::bs=>match apw (auo (asJ m k) 1) 1 with
  |true=>as7 b (mq m k bs)
  |false=>mq m k bs
 |_,_=>0
def rB:Nat→List Nat→List aqh→List Nat
 |_,_,[]=>[]
 |k,bs,o::l=>(fun m=>m::rB (k+1) (m::bs) l) (as7 (jz o.after.toList) (mq (jz o.after.toList) k bs))
def qf(ops:Array aqh):List Nat:=rB 0 [] ops.toList
structure Dx where
 no:Nat
 bits:Nat
 fp:Fp
def pg:Nat→List Nat→List Fp→List Dx
 |i,m::ms,f::fs=>match f.rd,f.wr with
  | [],[]=>pg (i+1) ms fs
  |_,_=>⟨i,m,f⟩::pg (i+1) ms fs
 |_,_,_=>[]
def uZ:List Dx→Bool
 | []=>true
 |f::l=>l.all (fun g=>apw (auo (asJ g.bits f.no) 1) 1||Kl f.fp g.fp)&&uZ l
def zC(ops:Array aqh):Nat→List (Nat×aqh)→List Nat→List aqh→Bool
 |j,prev,m::ms,p::ps=>p.after.toList.all (fun e=> !(arv .any e)||apy e.on j)&&
  prev.all (fun q=>apw (auo (asJ m q.1) 1) 1||q.2.apart ops p)&&zC ops (j+1) ((j,p)::prev) ms ps
 |_,_,_,_=>true
def Uj(ops:Array aqh):Bool:=zC ops 0 [] (qf ops) ops.toList
def th(ops:Array aqh)(gr:List Fp):Bool:=Uj ops&&uZ (pg 0 (qf ops) gr)
def iter(f:Fr→VS→Option (bd×Fr×VS)):Nat→Fr→VS→Option (bd×Fr×VS)
 |0,_,_=>none
 |k+1,t,S=>match f t S with
  |some (.normal,t1,S1)=>iter f k t1 S1
  |r=>r
def dg(P:apu)(call:cB)(lf:Nat)(df:Bool):Code→Fr→VS→Option (bd×Fr×VS)
 | .skip,t,S=>some (.normal,t,S)
 | .region _ ops false,t,S=>opsV P call df ops.toList ops.toList t S
 | .region _ ops true,t,S=>match kC P call ops.toList ops.toList t S with
  |some (t1,S1,gr)=>match th ops gr with
   |true=>some (.normal,t1,S1)
   |false=>none
  |none=>none
 | .seq a b,t,S=>match dg P call lf df a t S with
  |some (.normal,t1,S1)=>dg P call lf df b t1 S1
  |r=>r
 | .cond c a b,t,S=>match bL t c with
  | .bool true=>dg P call lf df a t S
  | .bool false=>dg P call lf df b t S
  |_=>none
 | .block id c,t,S=>match dg P call lf df c t S with
  |some (.exit j,t1,S1)=>match apw j id with
   |true=>some (.normal,t1,S1)
   |false=>some (.exit j,t1,S1)
  |r=>r
 | .loop c,t,S=>iter (dg P call lf df c) lf t S
 | .exit id,t,S=>some (.exit id,t,S)
 | .ret,t,S=>some (.ret,t,S)
 | .scope c,t,S=>dg P call lf df c t S
 | .label _,t,S=>some (.normal,t,S)
 |_,_,_=>none
def hI(P:apu)(t:Fr):List ResultVar→Rd (List ape)
 | []=>.done []
 | .tmp i::l=>(hI P t l).bind fun r=>.done (t.at i::r)
 | .cell a ty::l=>match t.at a with
  | .pointer (some ⟨b,off,none⟩)=>(qd P ty b off).bind fun v=>(hI P t l).bind fun r=>.done (v::r)
  |_=>.fail
def mU:List ape→ape
 | [v]=>v
 |vs=>.tuple vs.toArray
def oh(P:apu)(t:Fr)(fn:Func)(S:VS):Option (bx×VS):=match(hI P t fn.results.toList).run (gt S.mem)with
 |some (vs,l)=>some (.ret (mU vs),{S with rd:=l++S.rd})
 |none=>none
inductive Md where
 |ret
 |mV (v:ape)
def Dy(o:aqh):Bool:=match o.op,o.guard with
 | .call ⟨.builtin .recover,_,_⟩,none=>true
 |_,_=>false
def Km:Md→ape
 | .ret=>.nilIface
 | .mV v=>v
def ph(P:apu):List aqh→Fr→VS→Option (Fr×VS)
 | [],t,S=>some (t,S)
 |o::rest,t,S=>match o.guard with
  |some _=>none
  |none=>match jy P t S o with
   |some (.val v,S1)=>match put t o.dst v with
    |some t1=>ph P rest t1 S1
    |none=>none
   |_=>none
def j7(P:apu)(call:cB)(lf:Nat)(md:Md):Code→Fr→VS→Option (Md×bd×Fr×VS)
 | .seq a b,t,S=>match j7 P call lf md a t S with
  |some (fB,.normal,t1,S1)=>(dg P call lf false b t1 S1).map fun r=>(fB,r)
  |r=>r
 | .region id ops false,t,S=>match ops.toList with
  |o::rest=>match Dy o with
   |true=>match put t o.dst (Km md)with
    |some t1=>match ph P rest t1 S with
     |some (t2,S2)=>some (.ret,.normal,t2,S2)
     |none=>none
    |none=>none
   |false=>(dg P call lf false (.region id ops false) t S).map fun r=>(md,r)
  | []=>none
 |c,t,S=>(dg P call lf false c t S).map fun r=>(md,r)
def ti(P:apu)(call:cB)(lf:Nat)(md:Md)(k:apQ)(args:List ape)(S:VS):Option (Md×VS):=match P.funcs[k]?with
 |none=>none
 |some fn=>match fn.body with
  |none=>none
  |some c=>match Fr.of args fn.ntmps with
   |none=>none
   |some t0=>match j7 P call lf md c t0 S with
    |some (fB,x,t,S1)=>match x,t.ds,t.base with
     | .normal,[],[]=>match oh P t fn S1 with
      |some (_,S2)=>some (fB,S2)
      |none=>none
     | .ret,[],[]=>match oh P t fn S1 with
      |some (_,S2)=>some (fB,S2)
      |none=>none
     |_,_,_=>none
    |none=>none
def ol(P:apu)(call:cB)(lf:Nat):List (apQ×List ape)→Md→VS→Option (Md×VS)
 | [],md,S=>some (md,S)
 |(k,args)::l,md,S=>match ti P call lf md k args S with
  |some (fB,S1)=>ol P call lf l fB S1
  |none=>none
def pj(P:apu)(call:cB)(lf:Nat)(fn:Func)(md:Md)(t:Fr)(S:VS):Option (bx×VS):=match t.base with
 | []=>match ol P call lf t.ds md S with
  |some (.ret,S1)=>oh P t fn S1
  |some (.mV v,S1)=>some (.panic v,S1)
  |none=>none
 |_=>none
def mr(P:apu)(sp:cB→cB)(lf:Nat):Nat→cB
 |0,_,_,_=>none
 |d+1,f,args,S=>match P.funcs[f]?with
  |none=>none
  |some fn=>match fn.body with
   |none=>none
   |some c=>match Fr.of args fn.ntmps with
    |none=>none
    |some t0=>match dg P (sp (mr P sp lf d)) lf true c t0 S with
     |some (.normal,t,S1)=>pj P (sp (mr P sp lf d)) lf fn .ret t S1
     |some (.ret,t,S1)=>pj P (sp (mr P sp lf d)) lf fn .ret t S1
     |some (.panic v,t,S1)=>pj P (sp (mr P sp lf d)) lf fn (.mV v) t S1
     |_=>none
def S0:VS:=⟨.nil,0,[],[]⟩
def Uk(P:apu)(sp:cB→cB)(lf d:Nat)(f:apQ):Bool:=match mr P sp lf d f [] S0 with
 |some (.ret (.bool true),_)=>true
 |_=>false
def anv(P:apu)(lf d:Nat)(f:apQ):Bool:=Uk P id lf d f
end Go.Proofs.YtnlkkgpcikkpoaaGreat.Vm
namespace Go.Proofs.YtnlkkgpcikkpoaaGreat.Vm
open Go.RowKit
theorem Tr.Dz{α:Type}(k n:Nat):Tr.get k (.nil:Tr α) n=none:=by cases k<;>rfl
theorem Tr.xn{α:Type}:∀(k:Nat) (t:Tr α) (n m:Nat) (o:α),n<2^k→m<2^k→Tr.get k (Tr.set k t n o) m=if m=n then some o else Tr.get k t m
 |0,t,n,m,o,hn,hm=>by
  have h1:n=0:=by simpa using hn
  have h2:m=0:=by simpa using hm
  subst h1 h2
  cases t<;>simp[Tr.set,Tr.get]
 |k+1,t,n,m,o,hn,hm=>by
  have zD:n/2<2^k:=by rw[avr]at hn;omega
  have DA:m/2<2^k:=by rw[avr]at hm;omega
  have key:∀t,Tr.get k (Tr.set k t (n/2) o) (m/2)=if m/2=n/2 then some o else Tr.get k t (m/2):=fun t=>Tr.xn k t _ _ o zD DA
  have zE:n%2=0∨n%2=1:=by omega
  have pk:m%2=0∨m%2=1:=by omega
  have e0:apw 0 0=true:=rfl
  have e1:apw 1 0=false:=rfl
  cases t with
  |nil=>
   rcases zE with mu|mu<;>rcases pk with cq|cq<;>simp only[Tr.set,Tr.get,mu,cq,e0,e1,key,Tr.Dz]
   ·by_cases e:m=n
    ·subst e;simp
    ·have:m/2≠n/2:=by omega
     simp[e,this]
   ·have:m≠n:=by omega
    simp[this]
   ·have:m≠n:=by omega
    simp[this]
   ·by_cases e:m=n
    ·subst e;simp
    ·have:m/2≠n/2:=by omega
     simp[e,this]
  |node l v r=>
   rcases zE with mu|mu<;>rcases pk with cq|cq<;>simp only[Tr.set,Tr.get,mu,cq,e0,e1,key]
   ·by_cases e:m=n
    ·subst e;simp
    ·have:m/2≠n/2:=by omega
     simp[e,this]
   ·have:m≠n:=by omega
    simp[this]
   ·have:m≠n:=by omega
    simp[this]
   ·by_cases e:m=n
    ·subst e;simp
    ·have:m/2≠n/2:=by omega
     simp[e,this]
theorem gX{n:Nat}:small n=true↔n<2^18:=by
 unfold small
 rw[show(2:Nat)^18=262144 from rfl]
 simp[apy]
 omega
def cJ(g:Nat→Option ag)(x:Nat)(o:ag):Nat→Option ag:=fun y=>if y=x then some o else g y
theorem e9(g:Nat→Option ag)(x:Nat)(o:ag):cJ g x o x=some o:=by simp[cJ]
theorem dV{g:Nat→Option ag}{x y:Nat}(o:ag)(h:y≠x):cJ g x o y=g y:=by simp[cJ,h]
theorem xo{t:Tr ag}{x:Nat}{o:ag}(h:small x=true):gt (t.set 18 x o)=cJ (gt t) x o:=by
 funext y
 unfold gt cJ
 by_cases hy:small y=true
 ·simp only[hy]
  rw[Tr.xn 18 _ _ _ _ (gX.1 h) (gX.1 hy)]
 ·have:y≠x:=by rintro rfl;exact hy h
  simp[hy,this]
theorem po{t:Tr ag}{x:Nat}{o:ag}(h:gt t x=some o):small x=true:=by
 unfold gt at h
 cases hs:small x with
 |true=>rfl
 |false=>rw[hs]at h;cases h
theorem Rd.run_bind{α β:Type}(g:Nat→Option ag)(r:Rd α)(f:α→Rd β)(b:β)(l:List Nat):(r.bind f).run g=some (b,l)↔
 ∃a l1 l2,r.run g=some (a,l1)∧(f a).run g=some (b,l2)∧l=l1++l2:=by
 induction r generalizing l with
 |done a=>
  constructor
  ·intro h;exact⟨a,[],l,rfl,h,rfl⟩
  ·rintro⟨a',l1,l2,h1,h2,rfl⟩
   simp only[Rd.run,api,apn]at h1
   obtain⟨rfl,rfl⟩:=h1
   exact h2
 |fail=>simp[Rd.bind,Rd.run]
 |read x k ih=>
  simp only[Rd.bind,Rd.run]
  cases hx:g x with
  |none=>simp
  |some o=>
   simp only[]
   constructor
   ·intro h
    cases hk:((k o).bind f).run g with
    |none=>rw[hk]at h;cases h
    |some p=>
     obtain⟨b',l'⟩:=p
     rw[hk]at h
     simp only[api,apn]at h
     obtain⟨rfl,rfl⟩:=h
     obtain⟨a,l1,l2,h1,h2,rfl⟩:=(ih o l').1 hk
     exact⟨a,x::l1,l2,by rw[h1],h2,rfl⟩
   ·rintro⟨a,l1,l2,h1,h2,rfl⟩
    cases hk:(k o).run g with
    |none=>rw[hk]at h1;cases h1
    |some p=>
     obtain⟨a',l'⟩:=p
     rw[hk]at h1
     simp only[api,apn]at h1
     obtain⟨rfl,rfl⟩:=h1
     rw[(ih o (l'++l2)).2 ⟨a',l',l2,hk,h2,rfl⟩]
     rfl
theorem Rd.run_read{α:Type}{g:Nat→Option ag}{x:Nat}{k:ag→Rd α}{a:α}{l:List Nat}(h:(Rd.read x k).run g=some (a,l)):
 ∃o l',g x=some o∧(k o).run g=some (a,l')∧l=x::l':=by
 simp only[Rd.run]at h
 cases hx:g x with
 |none=>rw[hx]at h;cases h
 |some o=>
  rw[hx]at h
  simp only[]at h
  cases hk:(k o).run g with
  |none=>rw[hk]at h;cases h
  |some p=>
   obtain⟨b,l'⟩:=p
   rw[hk]at h
   simp only[api,apn]at h
   obtain⟨rfl,rfl⟩:=h
   exact⟨o,l',rfl,hk,rfl⟩
theorem Rd.zG{α:Type}{g g':Nat→Option ag}:∀{r:Rd α} {a:α} {l:List Nat},r.run g=some (a,l)→(∀x∈l,g' x=g x)→r.run g'=some (a,l):=by
 intro r
 induction r with
 |done a=>intro a l h _;exact h
 |fail=>intro a l h;cases h
 |read x k ih=>
  intro a l h hl
  obtain⟨o,l',h1,h2,rfl⟩:=Rd.run_read h
  have hx:g' x=some o:=by rw[hl x (by simp),h1]
  simp only[Rd.run,hx,ih o h2 (fun y hy=>hl y (by simp[hy]))]
theorem Rd.Kn{α:Type}{g:Nat→Option ag}{x:Option α}{a:α}{l:List Nat}(h:(fO x).run g=some (a,l)):x=some a:=by
 cases x with
 |none=>cases h
 |some b=>simp[fO,Rd.run]at h;rw[h.1]
theorem Rd.zH{α:Type}{g:Nat→Option ag}:∀{r:Rd α} {a:α} {l:List Nat},r.run g=some (a,l)→∀x∈l,∃o,g x=some o:=by
 intro r
 induction r with
 |done a=>intro a l h x hx;simp[Rd.run]at h;rw[h.2]at hx;cases hx
 |fail=>intro a l h;cases h
 |read x k ih=>
  intro a l h y hy
  obtain⟨o,l',h1,h2,rfl⟩:=Rd.run_read h
  rcases List.mem_cons.1 hy with rfl|hy
  ·exact⟨o,h1⟩
  ·exact ih o h2 y hy
structure bN where
 aI:Nat
 sh:Nat
 sz:Nat
 dy:Nat
abbrev Ren:=Nat→Option bN
def af:ape→Bool
 | .bool _| .int _ _| .float _ _| .complex _ _ _| .string _| .pointer none| .map none| .chan none| .nilFunc| .nilIface| .slice none 0 0=>true
 |_=>false
def Ul:Fn→Bool
 | .func _| .method _=>true
 |_=>false
def DB(r:bN)(off cap bw:Nat):Prop:=bw=cap∨(cap≤bw∧r.sh+off+bw*r.sz≤r.dy)
inductive VR(ρ:Ren):ape→ape→Prop where
 |bG (v:ape) (h:af v=true):VR ρ v v
 |ptr (b off:Nat) (r:bN) (h:ρ b=some r):VR ρ (.pointer (some ⟨b,off,none⟩)) (.pointer (some ⟨r.aI,r.sh+off,none⟩))
 |sl (b off len cap bw:Nat) (r:bN) (h:ρ b=some r) (hc:DB r off cap bw):VR ρ (.slice (some ⟨b,off,none⟩) len cap) (.slice (some ⟨r.aI,r.sh+off,none⟩) len bw)
 |eh (a:arE) (a':Option arE):VR ρ (.slice (some a) 0 0) (.slice a' 0 0)
 |mv (b off t:Nat):VR ρ (.pointer (some ⟨b,off,some t⟩)) (.pointer (some ⟨b,off,none⟩))
 |mW (b off t len cap:Nat):VR ρ (.slice (some ⟨b,off,some t⟩) len cap) (.slice (some ⟨b,off,none⟩) len cap)
 |map (b:Nat) (r:bN) (h:ρ b=some r):VR ρ (.map (some b)) (.map (some r.aI))
 |func (fn:Fn) (f f' c c':Array ape) (h:Ul fn=true) (h1:f.toList.length=f'.toList.length)
  (h2:∀(i:Nat) (v v':ape),f.toList[i]?=some v→f'.toList[i]?=some v'→VR ρ v v') (h3:c.toList.length=c'.toList.length)
  (h4:∀(i:Nat) (v v':ape),c.toList[i]?=some v→c'.toList[i]?=some v'→VR ρ v v'):VR ρ (.func fn f c) (.func fn f' c')
 |iface (t:apq) (v v':ape) (h:VR ρ v v'):VR ρ (.iface t v) (.iface t v')
 |agg (c c':Array ape) (h1:c.toList.length=c'.toList.length)
  (h2:∀(i:Nat) (v v':ape),c.toList[i]?=some v→c'.toList[i]?=some v'→VR ρ v v'):VR ρ (.agg c) (.agg c')
 |tuple (c c':Array ape) (h1:c.toList.length=c'.toList.length)
  (h2:∀(i:Nat) (v v':ape),c.toList[i]?=some v→c'.toList[i]?=some v'→VR ρ v v'):VR ρ (.tuple c) (.tuple c')
structure LR(ρ:Ren)(l l':List ape):Prop where
 len:l.length=l'.length
 at_:∀(i:Nat) (v v':ape),l[i]?=some v→l'[i]?=some v'→VR ρ v v'
def Ren.le(ρ ρ':Ren):Prop:=∀x r,ρ x=some r→ρ' x=some r
theorem Ren.le_refl(ρ:Ren):ρ.le ρ:=fun _ _ h=>h
theorem Ren.le_trans{a b c:Ren}(h:a.le b)(k:b.le c):a.le c:=fun x r e=>k x r (h x r e)
theorem VR.mono{ρ ρ':Ren}(hl:ρ.le ρ'){v v':ape}(h:VR ρ v v'):VR ρ' v v':=by
 induction h with
 |bG v h=>exact .bG v h
 |ptr b off r h=>exact .ptr b off r (hl _ _ h)
 |sl b off len cap bw r h hc=>exact .sl b off len cap bw r (hl _ _ h) hc
 |eh a a'=>exact .eh a a'
 |mv b off t=>exact .mv b off t
 |mW b off t len cap=>exact .mW b off t len cap
 |map b r h=>exact .map b r (hl _ _ h)
 |func fn f f' c c' h h1 h2 h3 h4 DC DD=>exact .func fn f f' c c' h h1 DC h3 DD
 |iface t v v' h ih=>exact .iface t v v' ih
 |agg c c' h1 h2 ih=>exact .agg c c' h1 ih
 |tuple c c' h1 h2 ih=>exact .tuple c c' h1 ih
theorem LR.mono{ρ ρ':Ren}(hl:ρ.le ρ'){l l':List ape}(h:LR ρ l l'):LR ρ' l l':=⟨h.len,fun i v v' h1 h2=>(h.at_ i v v' h1 h2).mono hl⟩
theorem LR.nil(ρ:Ren):LR ρ [] []:=⟨rfl,fun i v v' h=>by simp at h⟩
theorem LR.cons{ρ:Ren}{v v':ape}{l l':List ape}(h:VR ρ v v')(hl:LR ρ l l'):LR ρ (v::l) (v'::l'):=
 ⟨by simp[hl.len],fun i u u' h1 h2=>by
  cases i with
  |zero=>simp at h1 h2;subst h1 h2;exact h
  |succ i=>simp at h1 h2;exact hl.at_ i u u' h1 h2⟩
theorem LR.head{ρ:Ren}{v v':ape}{l l':List ape}(h:LR ρ (v::l) (v'::l')):VR ρ v v':=h.at_ 0 v v' rfl rfl
theorem LR.tail{ρ:Ren}{v v':ape}{l l':List ape}(h:LR ρ (v::l) (v'::l')):LR ρ l l':=
 ⟨by simpa using h.len,fun i u u' h1 h2=>h.at_ (i+1) u u' (by simpa using h1) (by simpa using h2)⟩
theorem LR.kD{ρ:Ren}{l:List ape}(h:LR ρ [] l):l=[]:=by have:=h.len;cases l<;>simp_all
theorem LR.gI{ρ:Ren}{v:ape}{l l':List ape}(h:LR ρ (v::l) l'):∃v' r,l'=v'::r∧VR ρ v v'∧LR ρ l r:=by
 cases l' with
 |nil=>have:=h.len;simp at this
 |cons v' r=>exact⟨v',r,rfl,h.head,h.tail⟩
theorem LR.append{ρ:Ren}:∀{a a' b b':List ape},LR ρ a a'→LR ρ b b'→LR ρ (a++b) (a'++b')
 | [],a',b,b',h,hb=>by rw[h.kD];exact hb
 |v::a,a',b,b',h,hb=>by
  obtain⟨v',r,rfl,h1,h2⟩:=h.gI
  exact LR.cons h1 (h2.append hb)
theorem LR.drop{ρ:Ren}{l l':List ape}(h:LR ρ l l')(n:Nat):LR ρ (l.drop n) (l'.drop n):=
 ⟨by simp[h.len],fun i v v' h1 h2=>h.at_ (n+i) v v' (by simpa using h1) (by simpa using h2)⟩
theorem LR.take{ρ:Ren}{l l':List ape}(h:LR ρ l l')(n:Nat):LR ρ (l.take n) (l'.take n):=
 ⟨by simp[h.len],fun i v v' h1 h2=>by
  rw[aqx]at h1 h2
  split at h1
  ·rename_i hi;rw[if_pos hi]at h2;exact h.at_ i v v' h1 h2
  ·cases h1⟩
theorem LR.get{ρ:Ren}{l l':List ape}(h:LR ρ l l'){i:Nat}{v:ape}(hv:l[i]?=some v):∃v',l'[i]?=some v'∧VR ρ v v':=by
 have hi:i<l.length:=(app.1 hv).1
 have fj:i<l'.length:=h.len▸hi
 exact⟨l'[i],apl fj,h.at_ i v _ hv (apl fj)⟩
theorem LR.map{ρ:Ren}{α:Type}(f f':α→ape):∀(l:List α),(∀a∈l,VR ρ (f a) (f' a))→LR ρ (l.map f) (l.map f')
 | [],_=>LR.nil ρ
 |a::l,h=>LR.cons (h a (by simp)) (LR.map f f' l fun b hb=>h b (by simp[hb]))
theorem VR.xp{ρ:Ren}{c c':Array ape}(h:LR ρ c.toList c'.toList):VR ρ (.agg c) (.agg c'):=.agg c c' h.len h.at_
theorem VR.DE{ρ:Ren}{c c':Array ape}(h:LR ρ c.toList c'.toList):VR ρ (.tuple c) (.tuple c'):=.tuple c c' h.len h.at_
theorem VR.Ko{ρ:Ren}{l l':List ape}(h:LR ρ l l'):VR ρ (.agg l.toArray) (.agg l'.toArray):=.xp (by simpa using h)
theorem VR.zI{ρ:Ren}{l l':List ape}(h:LR ρ l l'):VR ρ (.tuple l.toArray) (.tuple l'.toArray):=.DE (by simpa using h)
theorem VR.DF{ρ:Ren}{c:Array ape}{v:ape}(h:VR ρ (.agg c) v):∃c',v=.agg c'∧LR ρ c.toList c'.toList:=by
 cases h with
 |bG _ h=>cases h
 |agg c c' h1 h2=>exact⟨c',rfl,h1,h2⟩
theorem VR.Kp{ρ:Ren}{c:Array ape}{v:ape}(h:VR ρ (.tuple c) v):∃c',v=.tuple c'∧LR ρ c.toList c'.toList:=by
 cases h with
 |bG _ h=>cases h
 |tuple c c' h1 h2=>exact⟨c',rfl,h1,h2⟩
theorem VR.kE{ρ:Ren}{b off:Nat}{v:ape}(h:VR ρ (.pointer (some ⟨b,off,none⟩)) v):∃r,ρ b=some r∧v=.pointer (some ⟨r.aI,r.sh+off,none⟩):=by
 cases h with
 |bG _ h=>cases h
 |ptr _ _ r h=>exact⟨r,h,rfl⟩
theorem VR.jL{ρ:Ren}{k:IntKind}{n:Int}{v:ape}(h:VR ρ (.int k n) v):v=.int k n:=by cases h;rfl
theorem VR.pq{ρ:Ren}{s:ByteArray}{v:ape}(h:VR ρ (.string s) v):v=.string s:=by cases h;rfl
theorem VR.u0{ρ:Ren}{b:Bool}{v:ape}(h:VR ρ (.bool b) v):v=.bool b:=by cases h;rfl
theorem VR.xq{ρ:Ren}{t:apq}{u v:ape}(h:VR ρ (.iface t u) v):∃u',v=.iface t u'∧VR ρ u u':=by
 cases h with
 |bG _ h=>cases h
 |iface _ _ u' h=>exact⟨u',rfl,h⟩
theorem VR.qg{ρ:Ren}{b:Nat}{v:ape}(h:VR ρ (.map (some b)) v):∃r,ρ b=some r∧v=.map (some r.aI):=by
 cases h with
 |bG _ h=>cases h
 |map _ r h=>exact⟨r,h,rfl⟩
theorem VR.xr{ρ:Ren}{fn:Fn}{f c:Array ape}{v:ape}(h:VR ρ (.func fn f c) v):∃f' c',v=.func fn f' c'∧LR ρ f.toList f'.toList∧LR ρ c.toList c'.toList:=by
 cases h with
 |bG _ h=>cases h
 |func _ _ f' _ c' h h1 h2 h3 h4=>exact⟨f',c',rfl,⟨h1,h2⟩,⟨h3,h4⟩⟩
theorem VR.undef(ρ:Ren):VR ρ undef undef:=.tuple _ _ rfl fun i v v' h=>by simp at h
theorem VR.tj{ρ:Ren}{v u:ape}(h:af v=true)(r:VR ρ v u):u=v:=by
 cases r<;>first|rfl|cases h
theorem VR.cells{ρ:Ren}{v v':ape}(h:VR ρ v v'):LR ρ v.cells.toList v'.cells.toList:=by
 cases h with
 |bG _ h=>
  have:v.cells= #[v]:=by cases v<;>first|rfl|cases h
  rw[this]
  exact LR.cons (.bG v h) (LR.nil ρ)
 |agg c c' h1 h2=>exact⟨h1,h2⟩
 |ptr b off r h=>exact LR.cons (.ptr b off r h) (LR.nil ρ)
 |sl b off len cap bw r h hc=>exact LR.cons (.sl b off len cap bw r h hc) (LR.nil ρ)
 |eh a a'=>exact LR.cons (.eh a a') (LR.nil ρ)
 |mv b off t=>exact LR.cons (.mv b off t) (LR.nil ρ)
 |mW b off t len cap=>exact LR.cons (.mW b off t len cap) (LR.nil ρ)
 |map b r h=>exact LR.cons (.map b r h) (LR.nil ρ)
 |func fn f f' c c' h h1 h2 h3 h4=>exact LR.cons (.func fn f f' c c' h h1 h2 h3 h4) (LR.nil ρ)
 |iface t v v' h=>exact LR.cons (.iface t v v' h) (LR.nil ρ)
 |tuple c c' h1 h2=>exact LR.cons (.tuple c c' h1 h2) (LR.nil ρ)
theorem VR.zJ{ρ:Ren}{v v':ape}(h:VR ρ v v'):v'.oneCell'=v.oneCell':=by cases h<;>rfl
theorem rC(ρ:Ren):∀(d:Nat) (v:ape),flat d v=true→VR ρ v v:=by
 intro d
 induction d with
 |zero=>
  intro v h
  unfold flat at h
  split at h<;>first
   |exact .bG _ rfl
   |(simp only[apt,arA]at h
     exact .func _ _ _ _ _ rfl rfl (fun i a b h1=>by rw[h.1]at h1;simp at h1) rfl (fun i a b h1=>by rw[h.2]at h1;simp at h1))
   |cases h
   |omega
 |succ d ih=>
  intro v h
  unfold flat at h
  split at h<;>first
   |exact .bG _ rfl
   |(simp only[apt,arA]at h
     exact .func _ _ _ _ _ rfl rfl (fun i a b h1=>by rw[h.1]at h1;simp at h1) rfl (fun i a b h1=>by rw[h.2]at h1;simp at h1))
   |cases h
   |(rename_i e;cases e;exact .iface _ _ _ (ih _ h))
   |(rename_i e;cases e;refine .agg _ _ rfl fun i a b h1 h2=>?_;rw[h1]at h2;cases h2;exact ih _ (apR.1 h _ (apX h1)))
   |(rename_i e;cases e;refine .tuple _ _ rfl fun i a b h1 h2=>?_;rw[h1]at h2;cases h2;exact ih _ (apR.1 h _ (apX h1)))
theorem zK{l l':List ape}(hl:l.length=l'.length)(h:∀(i:Nat) (v v':ape),l[i]?=some v→l'[i]?=some v'→v'=v):l'=l:=by
 apply asn
 intro i
 by_cases hi:i<l.length
 ·have fj:i<l'.length:=hl▸hi
  rw[apl hi,apl fj,h i _ _ (apl hi) (apl fj)]
 ·rw[aqr (by omega),aqr (by omega)]
theorem xu(ρ:Ren):∀(d:Nat) (v v':ape),flat d v=true→VR ρ v v'→v'=v:=by
 intro d
 induction d with
 |zero=>
  intro v v' h hr
  cases hr with
  |bG=>rfl
  |func fn f f' c c' ho h1 h2 h3 h4=>
   cases fn with
   |func k=>
    simp only[flat,apt,arA]at h
    have e1:f'=f:=by apply aq8;rw[h.1]at h1⊢;cases hf:f'.toList<;>simp_all
    have e2:c'=c:=by apply aq8;rw[h.2]at h3⊢;cases hf:c'.toList<;>simp_all
    rw[e1,e2]
   |_=>simp[flat]at h
  |_=>simp[flat]at h
 |succ d ih=>
  intro v v' h hr
  cases hr with
  |bG=>rfl
  |func fn f f' c c' ho h1 h2 h3 h4=>
   cases fn with
   |func k=>
    simp only[flat,apt,arA]at h
    have e1:f'=f:=by apply aq8;rw[h.1]at h1⊢;cases hf:f'.toList<;>simp_all
    have e2:c'=c:=by apply aq8;rw[h.2]at h3⊢;cases hf:c'.toList<;>simp_all
    rw[e1,e2]
   |_=>simp[flat]at h
  |iface t v v' hv=>
   simp only[flat]at h
   rw[ih _ _ h hv]
  |agg c c' h1 h2=>
   simp only[flat]at h
   have:c'=c:=aq8 (zK h1 fun i a b ha hb=>ih _ _ (apR.1 h _ (apX ha)) (h2 i a b ha hb))
   rw[this]
  |tuple c c' h1 h2=>
   simp only[flat]at h
   have:c'=c:=aq8 (zK h1 fun i a b ha hb=>ih _ _ (apR.1 h _ (apX ha)) (h2 i a b ha hb))
   rw[this]
  |_=>simp[flat]at h
theorem mX{ρ:Ren}{v v':ape}(h:fl v=true)(r:VR ρ v v'):v'=v:=xu ρ 6 v v' h r
theorem nD{ρ:Ren}{v:ape}(h:fl v=true):VR ρ v v:=rC ρ 6 v h
theorem LR.xu{ρ:Ren}{l l':List ape}(h:l.all fl=true)(r:LR ρ l l'):l'=l:=
 zK r.len fun i v v' h1 h2=>mX (apR.1 h _ (apX h1)) (r.at_ i v v' h1 h2)
theorem LR.rC{ρ:Ren}{l:List ape}(h:l.all fl=true):LR ρ l l:=
 ⟨rfl,fun i v v' h1 h2=>by rw[h1]at h2;cases h2;exact nD (apR.1 h _ (apX h1))⟩
def ag.ro:ag→Bool
 | .cells _ _ r=>r
 | .rows _ _ _=>true
 |_=>false
def Live(o:ag)(r:bN):Bool:=match o with
 | .dead=>false
 | .rows _ _ _=>false
 | .abs _=>false
 | .cells c _ _=> !c.isEmpty|| !(apw r.dy 0)
 |_=>true
theorem om{c:List ape}{el:apq}{ro:Bool}{r:bN}(h:c≠[]):Live (.cells c el ro) r=true:=by
 cases c with
 |nil=>exact absurd rfl h
 |cons v c=>rfl
theorem DG{c:List ape}{el:apq}{ro:Bool}{r:bN}(h:Live (.cells c el ro) r=false):c=[]∧r.dy=0:=by
 simp only[Live,atc,Bool.not_eq_false',arA]at h
 exact⟨h.1,apz h.2⟩
structure gu(K:Nat→Prop)(w w':aps):Prop where
 os:w'.os=w.os
 tape:w'.tape=w.tape
 output:w'.output=w.output
 size:w.heap.size≤w'.heap.size
 block:∀k,K k→w'.heap[k]?=w.heap[k]?
theorem gu.refl(K:Nat→Prop)(w:aps):gu K w w:=⟨rfl,rfl,rfl,apI _,fun _ _=>rfl⟩
theorem gu.trans{K:Nat→Prop}{a b c:aps}(h:gu K a b)(k:gu K b c):gu K a c:=
 ⟨k.os.trans h.os,k.tape.trans h.tape,k.output.trans h.output,Nat.le_trans h.size k.size,fun i hi=>(k.block i hi).trans (h.block i hi)⟩
theorem gu.alloc{K:Nat→Prop}{a w:aps}(h:gu K a w)(hB:∀k,K k→k<w.heap.size)(o:Obj):gu K a (w.alloc o):=
 h.trans ⟨rfl,rfl,rfl,by simp,fun k hk=>arK _ _ _ (hB k hk)⟩
theorem gu.below{w₀ w:aps}(h:gu (fun k=>k<w₀.heap.size) w₀ w):Below w₀.heap.size w₀ w:=⟨h.os,h.tape,h.output,h.size,h.block⟩
def Env(B:Nat→Prop)(w₀:aps):Prop:=∀w,gu B w₀ w→Ki w
theorem Env.next{B B':Nat→Prop}{w₀ w:aps}(h:Env B w₀)(hb:gu B w₀ w)(hB:∀k,B k→B' k):Env B' w:=
 fun w' h'=>h w' (hb.trans ⟨h'.os,h'.tape,h'.output,h'.size,fun k hk=>h'.block k (hB k hk)⟩)
inductive SR(P:apu)(w₀:aps)(B:Nat→Prop):SV→ape→Prop where
 |val (v:ape) (h:af v=true):SR P w₀ B (.val v) v
 |nil (el:apq) (a:Option arE):SR P w₀ B (.cells 0 [] el) (.slice a 0 0)
 |cells (n:Nat) (c:List ape) (el:apq) (b off cap:Nat) (c':Array ape) (bU:apq) (fr:Nat×Nat) (hB:B b) (hb:w₀.heap[b]?=some (.cells c' bU fr))
  (hc:∀(i:Nat) (v:ape),c[i]?=some v→af v=true∧c'[off+i]?=some v) (hl:off+c.length≤c'.size) (hn:n≤cap) (gY:∀s,bR P el=some s→off+cap*s≤c'.size):
  SR P w₀ B (.cells n c el) (.slice (some ⟨b,off,none⟩) n cap)
 |nE (size:Nat) (row:Nat→List SV) (a:Option arE):SR P w₀ B (.rows 0 size row) (.slice a 0 0)
 |rows (n size:Nat) (row:Nat→List SV) (b off cap:Nat) (c':Array ape) (bU:apq) (fr:Nat×Nat) (hB:B b) (hb:w₀.heap[b]?=some (.cells c' bU fr)) (hl:off+n*size≤c'.size) (hn:n≤cap) (gY:off+cap*size≤c'.size)
  (hlen:∀i,i<n→(row i).length=size) (u:Nat→Nat→ape) (hu:∀i k,i<n→k<size→c'[off+i*size+k]?=some (u i k))
  (hr:∀(i k:Nat) (sv:SV),i<n→(row i)[k]?=some sv→SR P w₀ B sv (u i k)):SR P w₀ B (.rows n size row) (.slice (some ⟨b,off,none⟩) n cap)
structure mY(P:apu)(w₀:aps)(B:Nat→Prop)(r:bN)(n size:Nat)(row:Nat→List SV):Prop where
 aI:B r.aI
 sz:r.sz=size
 at_:∃(c':Array ape) (bU:apq) (fr:Nat×Nat),w₀.heap[r.aI]?=some (.cells c' bU fr)∧c'.size=r.dy∧r.sh+n*size≤r.dy∧
  ∀i,i<n→(row i).length=size∧∀(k:Nat) (sv:SV),(row i)[k]?=some sv→∃v',c'[r.sh+i*size+k]?=some v'∧SR P w₀ B sv v'
structure mZ(ρ:Ren)(e e':apM):Prop where
 key:VR ρ e.key e'.key
 val:VR ρ e.val e'.val
 born:e.born=e'.born
inductive OR(P:apu)(ρ:Ren)(r:bN):ag→Obj→Prop where
 |cells (c:List ape) (el bU:apq) (ro:Bool) (c':Array ape) (fr:Nat×Nat) (hp:c'.size=r.dy) (hs:r.sh+c.length≤r.dy)
  (he:ro=false→bU=el) (hz:∀n,bR P el=some n→r.sz=n) (hf:ro=false→fr.1=fr.2∨r.dy≤fr.1)
  (hc:∀(i:Nat) (v:ape),c[i]?=some v→∃v',c'[r.sh+i]?=some v'∧VR ρ v v'):OR P ρ r (.cells c el ro) (.cells c' bU fr)
 |map (es:List apM) (cN:Array apM) (clock:Nat) (h1:es.length=cN.toList.length)
  (h2:∀(i:Nat) (e e':apM),es[i]?=some e→cN.toList[i]?=some e'→mZ ρ e e'):OR P ρ r (.map es clock) (.map cN clock)
 |kX (s:ByteArray) (pos:Nat):OR P ρ r (.kX s pos) (.stringIter s pos)
theorem OR.mono{P:apu}{ρ ρ':Ren}(hl:ρ.le ρ'){r:bN}{o:ag}{o':Obj}(h:OR P ρ r o o'):OR P ρ' r o o':=by
 cases h with
 |cells c el bU ro c' fr hp hs he hz hf hc=>exact .cells c el bU ro c' fr hp hs he hz hf fun i v hv=>let⟨v',h1,h2⟩:=hc i v hv;⟨v',h1,h2.mono hl⟩
 |map es cN clock h1 h2=>exact .map es cN clock h1 fun i e e' a b=>let q:=h2 i e e' a b;⟨q.key.mono hl,q.val.mono hl,q.born⟩
 |kX s pos=>exact .kX s pos
def oq(w:aps)(r:bN)(d:lD)(S:Nat→Prop):Prop:=∃L,Dc d r.aI r.sh r.sz r.dy L∧qc w r.aI S L
theorem oq.frame{w w':aps}{r:bN}{d:lD}{S:Nat→Prop}(h:oq w r d S)(hs:∀k,S k→w'.heap[k]?=w.heap[k]?):oq w' r d S:=let⟨L,h1,h2⟩:=h;⟨L,h1,h2.frame hs⟩
theorem oq.row{w:aps}{r:bN}{d:lD}{S:Nat→Prop}(h:oq w r d S):∀k,S k→∃o,w.heap[k]?=some o∧zq o=true:=let⟨L,h1,h2⟩:=h;h2.row
def u5(B:Nat→Prop)(ρ:Ren)(g:Nat→Option ag)(w:aps):Prop:=
 ∃F:Nat→Nat→Prop,(∀x d,g x=some (.abs d)→∃r S,ρ x=some r∧oq w r d S∧∀k,S k→F x k)∧
  (∀x k,F x k→(∃d,g x=some (.abs d))∧k<w.heap.size∧¬B k∧∀y o r,g y=some o→ρ y=some r→Live o r=true→r.aI≠k)∧(∀x y k,F x k→F y k→x=y)
theorem u5.none{B:Nat→Prop}{ρ:Ren}{g:Nat→Option ag}{w:aps}(h:∀x d,g x≠some (.abs d)):u5 B ρ g w:=
 ⟨fun _ _=>False,fun x d hx=>absurd hx (h x d),fun _ _ h=>h.elim,fun _ _ _ h=>h.elim⟩
theorem u5.next{B B':Nat→Prop}{ρ ρ':Ren}{g g':Nat→Option ag}{w w':aps}(h:u5 B ρ g w)(hle:∀x d,g' x=some (.abs d)→g x=some (.abs d)∧ρ' x=ρ x)
 (hb:∀k,k<w.heap.size→¬B k→(∀y o r,g y=some o→ρ y=some r→Live o r=true→r.aI≠k)→w'.heap[k]?=w.heap[k]?∧¬B' k∧∀y o r,g' y=some o→ρ' y=some r→Live o r=true→r.aI≠k)
 (cf:w.heap.size≤w'.heap.size):u5 B' ρ' g' w':=by
 obtain⟨F,h1,h2,h3⟩:=h
 refine⟨fun x k=>F x k∧∃d,g' x=some (.abs d),fun x d hx=>?_,fun x k hk=>?_,fun x y k a b=>h3 x y k a.1 b.1⟩
 ·obtain⟨a,b⟩:=hle x d hx
  obtain⟨r,S,c,e,f⟩:=h1 x d a
  exact⟨r,S,by rw[b,c],e.frame fun k hk=>(by obtain⟨_,q2,q3,q4⟩:=h2 x k (f k hk);exact(hb k q2 q3 q4).1),fun k hk=>⟨f k hk,d,hx⟩⟩
 ·obtain⟨_,q2,q3,q4⟩:=h2 x k hk.1
  obtain⟨_,c,e⟩:=hb k q2 q3 q4
  exact⟨hk.2,arC q2 cf,c,e⟩
structure WR(P:apu)(B:Nat→Prop)(w₀:aps)(ρ:Ren)(g:Nat→Option ag)(w:aps):Prop where
 below:gu B w₀ w
 env:Env B w₀
 size:∀k,B k→k<w.heap.size
 live:∀x o r,g x=some o→ρ x=some r→Live o r=true→∃o',w.heap[r.aI]?=some o'∧OR P ρ r o o'∧(o.ro=false→¬B r.aI)
 inj:∀x y ox oy rx ry,g x=some ox→g y=some oy→ρ x=some rx→ρ y=some ry→Live ox rx=true→Live oy ry=true→(ox.ro=false∨oy.ro=false)→rx.aI=ry.aI→x=y
 fresh:∀x,g x=none→ρ x=none
 rows:∀x n size row,g x=some (.rows n size row)→∃r,ρ x=some r∧(0<n→mY P w₀ B r n size row)
 nil:∀x el ro r,g x=some (.cells [] el ro)→ρ x=some r→∀n,bR P el=some n→r.sz=n
 named:∀x o,g x=some o→o≠ .dead→∃r,ρ x=some r
 abs:u5 B ρ g w
theorem OR.rows{P:apu}{ρ:Ren}{r:bN}{n size:Nat}{row:Nat→List SV}{o':Obj}(h:OR P ρ r (.rows n size row) o'):False:=by cases h
theorem OR.xv{P:apu}{ρ:Ren}{r:bN}{c:List ape}{el:apq}{ro:Bool}{o':Obj}(h:OR P ρ r (.cells c el ro) o'):∀n,bR P el=some n→r.sz=n:=by
 cases h with
 |cells _ _ _ _ _ _ _ _ _ hz _ _=>exact hz
section
variable {P:apu} {B:Nat→Prop} {w₀:aps} {ρ:Ren} {g:Nat→Option ag} {w:aps}
theorem WR.mem(h:WR P B w₀ ρ g w){x:Nat}{o:ag}(hx:g x=some o){r:bN}(hl:Live o r=true)(hr:ρ x=some r):
 ∃o',w.heap[r.aI]?=some o'∧OR P ρ r o o'∧(o.ro=false→¬B r.aI):=h.live x o r hx hr hl
theorem WR.same(h:WR P B w₀ ρ g w){w':aps}(hh:w'.heap=w.heap)(ho:w'.os=w.os)(ht:w'.tape=w.tape)(hu:w'.output=w.output):WR P B w₀ ρ g w' where
 env:=h.env
 below:=⟨ho.trans h.below.os,ht.trans h.below.tape,hu.trans h.below.output,by rw[hh];exact h.below.size,fun k hk=>by rw[hh];exact h.below.block k hk⟩
 size:=by rw[hh];exact h.size
 live:=by rw[hh];exact h.live
 inj:=h.inj
 fresh:=h.fresh
 rows:=h.rows
 nil:=h.nil
 named:=h.named
 abs:=h.abs.next (fun x d hx=>⟨hx,rfl⟩) (fun k _ a b=>⟨by rw[hh],a,b⟩) (by rw[hh];exact apI _)
theorem WR.drew(h:WR P B w₀ ρ g w):WR P B w₀ ρ g w.drew:=h.same rfl rfl rfl rfl
structure ot(w w':aps)(b:Nat)(o:Obj):Prop where
 os:w'.os=w.os
 tape:w'.tape=w.tape
 output:w'.output=w.output
 size:w'.heap.size=w.heap.size
 now:w'.heap[b]?=some o
 rest:∀k,k≠b→w'.heap[k]?=w.heap[k]?
theorem WR.change(h:WR P B w₀ ρ g w){x:Nat}{o o2:ag}(hx:g x=some o){r:bN}(hl:Live o r=true)(hr:ρ x=some r)(hB:¬B r.aI)
 {w':aps}{o':Obj}(hc:ot w w' r.aI o')(ho:OR P ρ r o2 o')(dh:o.ro=false:=by rfl):WR P B w₀ ρ (cJ g x o2) w' where
 env:=h.env
 below:=h.below.trans ⟨hc.os,hc.tape,hc.output,arw hc.size.symm,fun k hk=>hc.rest k (fun e=>hB (e▸hk))⟩
 size:=by rw[hc.size];exact h.size
 live:=by
  intro y oy ry hy ct di
  by_cases e:y=x
  ·subst e
   rw[e9]at hy
   cases hy
   rw[hr]at ct
   cases ct
   exact⟨o',hc.now,ho,fun _=>hB⟩
  ·rw[dV _ e]at hy
   obtain⟨DH,h2,h3,h4⟩:=h.live y oy ry hy ct di
   refine⟨DH,?_,h3,h4⟩
   rw[hc.rest]
   ·exact h2
   ·intro e'
    exact e (h.inj y x oy o ry r hy hx ct hr di hl (.inr dh) e')
 inj:=by
  intro y z oy oz ry rz hy hz ct iy di j8 hd e
  have live:∀u ou ru,cJ g x o2 u=some ou→ρ u=some ru→Live ou ru=true→∃DI,g u=some DI∧Live DI ru=true∧(ou.ro=false→DI.ro=false):=by
   intro u ou ru hu xw xx
   by_cases eu:u=x
   ·subst eu;rw[hr]at xw;cases xw;exact⟨o,hx,hl,fun _=>dh⟩
   ·rw[dV _ eu]at hu;exact⟨ou,hu,xx,fun h=>h⟩
  obtain⟨DH,kF,Um,Un⟩:=live y oy ry hy ct di
  obtain⟨Uo,qh,Up,Uq⟩:=live z oz rz hz iy j8
  exact h.inj y z DH Uo ry rz kF qh ct iy Um Up (hd.imp Un Uq) e
 fresh:=by
  intro y hy
  by_cases e:y=x
  ·subst e;rw[e9]at hy;cases hy
  ·rw[dV _ e]at hy;exact h.fresh y hy
 rows:=by
  intro y n size row hy
  by_cases e:y=x
  ·subst e;rw[e9]at hy;cases hy;exact ho.rows.elim
  ·rw[dV _ e]at hy;exact h.rows y n size row hy
 nil:=by
  intro y el tk ry hy ct
  by_cases e:y=x
  ·subst e;rw[e9]at hy;cases hy;rw[hr]at ct;cases ct;exact ho.xv
  ·rw[dV _ e]at hy;exact h.nil y el tk ry hy ct
 named:=by
  intro y oy hy bk
  by_cases e:y=x
  ·subst e;exact⟨r,hr⟩
  ·rw[dV _ e]at hy;exact h.named y oy hy bk
 abs:=by
  refine h.abs.next (fun y d hy=>?_) (fun k k1 k2 k3=>⟨hc.rest k (fun e=>k3 x o r hx hr hl e.symm),k2,fun y oy ry hy ct di=>?_⟩) (arw hc.size.symm)
  ·by_cases e:y=x
   ·subst e;rw[e9]at hy;cases hy;cases ho
   ·rw[dV _ e]at hy;exact⟨hy,rfl⟩
  ·by_cases e:y=x
   ·subst e;rw[hr]at ct;cases ct;exact k3 _ o _ hx hr hl
   ·rw[dV _ e]at hy;exact k3 y oy ry hy ct di
theorem WR.kill(h:WR P B w₀ ρ g w)(x:Nat){o:ag}(hx:g x=some o):WR P B w₀ ρ (cJ g x .dead) w where
 env:=h.env
 below:=h.below
 size:=h.size
 live:=by
  intro y oy ry hy ct di
  by_cases e:y=x
  ·subst e;rw[e9]at hy;cases hy;cases di
  ·rw[dV _ e]at hy;exact h.live y oy ry hy ct di
 inj:=by
  intro y z oy oz ry rz hy hz ct iy di j8
  have key:∀u ou ru,cJ g x .dead u=some ou→Live ou ru=true→g u=some ou:=by
   intro u ou ru hu xx
   by_cases eu:u=x
   ·subst eu;rw[e9]at hu;cases hu;cases xx
   ·rw[dV _ eu]at hu;exact hu
  exact h.inj y z oy oz ry rz (key y oy ry hy di) (key z oz rz hz j8) ct iy di j8
 fresh:=by
  intro y hy
  by_cases e:y=x
  ·subst e;rw[e9]at hy;cases hy
  ·rw[dV _ e]at hy;exact h.fresh y hy
 rows:=by
  intro y n size row hy
  by_cases e:y=x
  ·subst e;rw[e9]at hy;cases hy
  ·rw[dV _ e]at hy;exact h.rows y n size row hy
 nil:=by
  intro y el tk ry hy ct
  by_cases e:y=x
  ·subst e;rw[e9]at hy;cases hy
  ·rw[dV _ e]at hy;exact h.nil y el tk ry hy ct
 named:=by
  intro y oy hy bk
  by_cases e:y=x
  ·subst e;rw[e9]at hy;cases hy;exact absurd rfl bk
  ·rw[dV _ e]at hy;exact h.named y oy hy bk
 abs:=by
  refine h.abs.next (fun y d hy=>?_) (fun k k1 k2 k3=>⟨rfl,k2,fun y oy ry hy ct di=>?_⟩) (apI _)
  ·by_cases e:y=x
   ·subst e;rw[e9]at hy;cases hy
   ·rw[dV _ e]at hy;exact⟨hy,rfl⟩
  ·by_cases e:y=x
   ·subst e;rw[e9]at hy;cases hy;cases di
   ·rw[dV _ e]at hy;exact k3 y oy ry hy ct di
def Ren.put(ρ:Ren)(x:Nat)(r:bN):Ren:=fun y=>if y=x then some r else ρ y
theorem Ren.kG(ρ:Ren)(x:Nat)(r:bN):ρ.put x r x=some r:=by simp[Ren.put]
theorem Ren.qi(ρ:Ren){x y:Nat}(r:bN)(h:y≠x):ρ.put x r y=ρ y:=by simp[Ren.put,h]
theorem Ren.j9{ρ:Ren}{x:Nat}(h:ρ x=none)(r:bN):ρ.le (ρ.put x r):=fun y s e=>by
 unfold Ren.put
 by_cases hy:y=x
 ·subst hy;rw[h]at e;cases e
 ·rw[if_neg hy,e]
theorem WR.put(h:WR P B w₀ ρ g w){n:Nat}(hn:g n=none){g':Nat→Option ag}(hg:∀y,y≠n→g' y=g y∨g' y=some .dead){o:ag}(iz:g' n=some o){r:bN}{w':aps}
 (hb:gu B w w')(cf:w.heap.size≤w'.heap.size)
 (hold:∀y oy ry,y≠n→g' y=some oy→g y=some oy→ρ y=some ry→Live oy ry=true→w'.heap[ry.aI]?=w.heap[ry.aI]?)
 (u6:Live o r=true→∃o',w'.heap[r.aI]?=some o'∧OR P (ρ.put n r) r o o'∧(o.ro=false→¬B r.aI))
 (xy:Live o r=true→∀y oy ry,y≠n→g' y=some oy→g y=some oy→ρ y=some ry→Live oy ry=true→(oy.ro=false∨o.ro=false)→ry.aI≠r.aI)
 (zL:∀k,k<w.heap.size→¬B k→(∀y oy ry,g y=some oy→ρ y=some ry→Live oy ry=true→ry.aI≠k)→w'.heap[k]?=w.heap[k]?∧(Live o r=true→r.aI≠k))(DJ:∀d,o≠ .abs d)
 (DK:∀m size row,o=.rows m size row→0<m→mY P w₀ B r m size row)(qj:∀el ro,o=.cells [] el ro→∀k,bR P el=some k→r.sz=k):WR P B w₀ (ρ.put n r) g' w':=by
 have own:∀u ou ru,u≠n→g' u=some ou→Live ou ru=true→(ρ.put n r) u=some ru→g u=some ou∧ρ u=some ru:=by
  intro u ou ru hu h1 h2 h3
  rw[Ren.qi _ _ hu]at h3
  rcases hg u hu with h4|h4
  ·rw[h4]at h1;exact⟨h1,h3⟩
  ·rw[h4]at h1;cases h1;cases h2
 exact
 {env:=h.env
  below:=h.below.trans hb
  size:=fun k hk=>arC (h.size k hk) cf
  live:=by
   intro y oy ry hy ct di
   by_cases e:y=n
   ·subst e
    rw[iz]at hy
    cases hy
    rw[Ren.kG]at ct
    cases ct
    exact u6 di
   ·obtain⟨h1,h2⟩:=own y oy ry e hy di ct
    obtain⟨o',h3,h4,h5⟩:=h.live y oy ry h1 h2 di
    exact⟨o',by rw[hold y oy ry e hy h1 h2 di,h3],h4.mono (Ren.j9 (h.fresh n hn) r),h5⟩
  inj:=by
   intro y z oy oz ry rz hy hz ct iy di j8 hd e
   by_cases ey:y=n
   ·by_cases ez:z=n
    ·rw[ey,ez]
    ·obtain⟨h1,h2⟩:=own z oz rz ez hz j8 iy
     subst ey
     rw[iz]at hy
     cases hy
     rw[Ren.kG]at ct
     cases ct
     exact absurd e.symm (xy di z oz rz ez hz h1 h2 j8 hd.symm)
   ·obtain⟨h1,h2⟩:=own y oy ry ey hy di ct
    by_cases ez:z=n
    ·subst ez
     rw[iz]at hz
     cases hz
     rw[Ren.kG]at iy
     cases iy
     exact absurd e (xy j8 y oy ry ey hy h1 h2 di hd)
    ·obtain⟨h3,h4⟩:=own z oz rz ez hz j8 iy
     exact h.inj y z oy oz ry rz h1 h3 h2 h4 di j8 hd e
  fresh:=by
   intro y hy
   by_cases e:y=n
   ·subst e;rw[iz]at hy;cases hy
   ·rw[Ren.qi _ _ e]
    rcases hg y e with h4|h4
    ·rw[h4]at hy;exact h.fresh y hy
    ·rw[h4]at hy;cases hy
  rows:=by
   intro y m size row hy
   by_cases e:y=n
   ·subst e;rw[iz]at hy;cases hy;exact⟨r,Ren.kG _ _ _,DK m size row rfl⟩
   ·rw[Ren.qi _ _ e]
    rcases hg y e with h4|h4
    ·rw[h4]at hy;exact h.rows y m size row hy
    ·rw[h4]at hy;cases hy
  nil:=by
   intro y el tk ry hy ct
   by_cases e:y=n
   ·subst e;rw[iz]at hy;cases hy;rw[Ren.kG]at ct;cases ct;exact qj el tk rfl
   ·rw[Ren.qi _ _ e]at ct
    rcases hg y e with h4|h4
    ·rw[h4]at hy;exact h.nil y el tk ry hy ct
    ·rw[h4]at hy;cases hy
  named:=by
   intro y oy hy bk
   by_cases e:y=n
   ·subst e;exact⟨r,Ren.kG _ _ _⟩
   ·rw[Ren.qi _ _ e]
    rcases hg y e with h4|h4
    ·rw[h4]at hy;exact h.named y oy hy bk
    ·rw[h4]at hy;cases hy;exact absurd rfl bk
  abs:=by
   refine h.abs.next (fun y d hy=>?_) (fun k k1 k2 k3=>⟨(zL k k1 k2 k3).1,k2,fun y oy ry hy ct di=>?_⟩) cf
   ·by_cases e:y=n
    ·subst e;rw[iz]at hy;cases hy;exact absurd rfl (DJ d)
    ·rcases hg y e with h4|h4
     ·rw[h4]at hy;exact⟨hy,Ren.qi _ _ e⟩
     ·rw[h4]at hy;cases hy
   ·by_cases e:y=n
    ·subst e;rw[iz]at hy;cases hy;rw[Ren.kG]at ct;cases ct;exact(zL k k1 k2 k3).2 di
    ·obtain⟨h1,h2⟩:=own y oy ry e hy di ct
     exact k3 y oy ry h1 h2 di}
theorem WR.alloc(h:WR P B w₀ ρ g w){n:Nat}(hn:g n=none){o:ag}{o':Obj}{r:bN}(hb:r.aI=w.heap.size)(ho:OR P (ρ.put n r) r o o'):
 WR P B w₀ (ρ.put n r) (cJ g n o) (w.alloc o'):=by
 have hlt:∀y oy ry,g y=some oy→ρ y=some ry→Live oy ry=true→ry.aI<w.heap.size:=fun y oy ry h1 h2 h3=>by
  obtain⟨o2,h5,_⟩:=h.live y oy ry h1 h2 h3
  exact(Array.getElem?_eq_some_iff.1 h5).1
 refine h.put hn (fun y hy=>.inl (dV _ hy)) (e9 _ _ _) ((gu.refl B w).alloc h.size o') (by simp) (fun y oy ry _ _ h1 h2 h3=>arK _ _ _ (hlt y oy ry h1 h2 h3))
  (fun _=>⟨o',by rw[hb];show(w.heap.push o')[w.heap.size]?=some o';simp,ho,fun _ hk=>by have:=h.size _ hk;omega⟩)
  (fun _ y oy ry _ _ h1 h2 h3 _ e=>by have:=hlt y oy ry h1 h2 h3;omega) (fun k k1 _ _=>⟨arK _ _ _ k1,fun _ e=>by omega⟩) (fun d e=>by subst e;cases ho) (fun m s q e=>by subst e;exact ho.rows.elim) (fun el ro e=>by subst e;exact ho.xv)
theorem WR.rename(h:WR P B w₀ ρ g w){n b:Nat}(hn:g n=none){ob:ag}(hb:g b=some ob){rb:bN}(tl:Live ob rb=true)(DL:ρ b=some rb)(hB:¬B rb.aI)
 {w':aps}{o':Obj}(hc:ot w w' rb.aI o'){o:ag}{r:bN}(hr:r.aI=rb.aI)(ho:OR P (ρ.put n r) r o o')(dh:ob.ro=false:=by rfl):
 WR P B w₀ (ρ.put n r) (cJ (cJ g b .dead) n o) w':=by
 have bk:∀y oy ry,y≠n→cJ (cJ g b .dead) n o y=some oy→Live oy ry=true→y≠b:=fun y oy ry e h1 h2 eb=>by
  subst eb
  rw[dV _ e,e9]at h1
  cases h1
  cases h2
 have Kq:∀y oy ry,y≠n→cJ (cJ g b .dead) n o y=some oy→g y=some oy→ρ y=some ry→Live oy ry=true→ry.aI≠rb.aI:=fun y oy ry e h0 h1 h2 h3 e'=>
  bk y oy ry e h0 h3 (h.inj y b oy ob ry rb h1 hb h2 DL h3 tl (.inr dh) e')
 refine h.put hn (fun y hy=>?_) (e9 _ _ _) ⟨hc.os,hc.tape,hc.output,arw hc.size.symm,fun k hk=>hc.rest k (fun e=>hB (e▸hk))⟩ (arw hc.size.symm)
  (fun y oy ry e h0 h1 h2 h3=>hc.rest _ (Kq y oy ry e h0 h1 h2 h3)) (fun _=>⟨o',by rw[hr];exact hc.now,ho,fun _=>by rw[hr];exact hB⟩)
  (fun _ y oy ry e h0 h1 h2 h3 _=>by rw[hr];exact Kq y oy ry e h0 h1 h2 h3) (fun k k1 _ k3=>⟨hc.rest k fun e=>k3 b ob rb hb DL tl e.symm,fun _=>by rw[hr];exact k3 b ob rb hb DL tl⟩) (fun d e=>by subst e;cases ho) (fun m s q e=>by subst e;exact ho.rows.elim) (fun el ro e=>by subst e;exact ho.xv)
 rw[dV _ hy]
 by_cases e:y=b
 ·right;rw[e,e9]
 ·left;rw[dV _ e]
end
theorem pr(b off j:Nat):(⟨b,off,none⟩:arE).add j=⟨b,off+j,none⟩:=by
 unfold Addr.add
 by_cases h:j=0
 ·rw[if_pos h,h];rfl
 ·rw[if_neg h]
theorem DM{w:aps}{b:Nat}{c:Array ape}{el:apq}{fr:Nat×Nat}(h:w.heap[b]?=some (.cells c el fr))(i:Nat):w.cell? ⟨b,i,none⟩=c[i]? :=by
 simp[World.cell?,h]
def qk(c:Array ape)(off:Nat):List ape→Array ape
 | []=>c
 |v::l=>qk (c.setIfInBounds off v) (off+1) l
theorem DN(c:Array ape):∀(l:List ape) (off:Nat),(qk c off l).size=c.size:=by
 intro l
 induction l generalizing c with
 |nil=>intro off;rfl
 |cons v l ih=>intro off;simp[qk,ih]
theorem zM:∀(l:List ape) (c:Array ape) (off i:Nat),off+l.length≤c.size→
 (qk c off l)[i]?=if off≤i∧i<off+l.length then l[i-off]?else c[i]?
 | [],c,off,i,h=>by
  have:¬(off≤i∧i<off+([]:List ape).length):=fun hh=>by simp at hh;omega
  rw[if_neg this];rfl
 |v::l,c,off,i,h=>by
  simp only[ap1]at h
  rw[qk,zM l _ (off+1) i (by simp;omega)]
  by_cases h1:off+1≤i∧i<off+1+l.length
  ·rw[if_pos h1,if_pos (by simp;omega)]
   rw[show i-off=(i-(off+1))+1 by omega]
   rfl
  ·rw[if_neg h1]
   by_cases h2:i=off
   ·subst h2
    rw[if_pos (by simp),Array.getElem?_setIfInBounds_self,if_pos (by omega)]
    simp
   ·rw[if_neg (by simp;omega)]
    simp[Array.getElem?_setIfInBounds_ne (Ne.symm h2)]
theorem DP{P:apu}{w:aps}{b:Nat}{el:apq}{fr:Nat×Nat}:∀(vs:List ape) (w':aps) (c:Array ape) (off i:Nat),
 ot w w' b (.cells c el fr)→off+i+vs.length≤c.size→(fr.1=fr.2∨c.size≤fr.1)→(vs.all aqg)=true→
 ∃w2,(storeCells ⟨b,off,none⟩ vs i).run P w'=.ok () w2∧ot w w2 b (.cells (qk c (off+i) vs) el fr)
 | [],w',c,off,i,hc,_,_,_=>⟨w',rfl,hc⟩
 |v::vs,w',c,off,i,hc,hl,hf,ho=>by
  simp only[ap1]at hl
  simp only[List.all_cons,apt]at ho
  have pt:w'.cell? ⟨b,off+i,none⟩=some (c[off+i]'(by omega)):=by
   rw[DM hc.now,Array.getElem?_eq_getElem]
  have m5:w'.frozen? ⟨b,off+i,none⟩=false:=by
   simp only[World.frozen?,hc.now]
   rcases hf with hf|hf
   ·obtain⟨lo,hi⟩:=fr
    simp only at hf
    subst hf
    simp only[Bool.and_eq_false_iff,decide_eq_false_iff_not]
    omega
   ·have:¬fr.1≤off+i:=by omega
    simp[this]
  have iU:ot w (w'.setCell ⟨b,off+i,none⟩ v) b (.cells (c.setIfInBounds (off+i) v) el fr):=
   ⟨hc.os,hc.tape,hc.output,by rw[World.size_setCell,hc.size],by simp[World.setCell,arU,hc.now],fun k hk=>by
    rw[Below.heap_setCell _ _ _ _ hk];exact hc.rest k hk⟩
  obtain⟨w2,hr,hw⟩:=DP vs _ (c.setIfInBounds (off+i) v) off (i+1) iU (by simp;omega) (by simpa using hf) ho.2
  refine⟨w2,?_,hw⟩
  show(arL P (store ((⟨b,off,none⟩:arE).add i) v>>=fun _=>storeCells ⟨b,off,none⟩ vs (i+1)) w')=_
  rw[apg,pr,run_store _ _ _ _ _ ho.1,pt]
  simp only[m5,aqi,if_false,apf]
  exact hr
theorem ot.refl{w:aps}{b:Nat}{o:Obj}(h:w.heap[b]?=some o):ot w w b o:=⟨rfl,rfl,rfl,rfl,h,fun _ _=>rfl⟩
theorem zN{P:apu}{w:aps}{b:Nat}{c:Array ape}{el:apq}{fr:Nat×Nat}(hb:w.heap[b]?=some (.cells c el fr))(off n:Nat)(h:off+n≤c.size):
 (loadCells ⟨b,off,none⟩ n).run P w=.ok ((c.toList.drop off).take n).toArray w:=by
 have hlen:((c.toList.drop off).take n).length=n:=by simp;omega
 have:=run_loadCells_list (P:=P) w ⟨b,off,none⟩ ((c.toList.drop off).take n) (fun j v hj=>by
  rw[pr,DM hb]
  rw[aqx]at hj
  split at hj
  ·simpa using hj
  ·cases hj)
 rwa[hlen]at this
end Go.Proofs.YtnlkkgpcikkpoaaGreat.Vm
namespace Go.Proofs.YtnlkkgpcikkpoaaGreat.Vm
open Go.RowKit
theorem Ur{α:Type}{P:apu}:∀{s:Sem α} {a:α},gG P s=some (.ok a)→∀w:aps,s.run P w=.ok a w:=by
 intro s
 induction s with
 |pure b=>intro a h w;simp[gG]at h;subst h;rfl
 |program k ih=>intro a h w;simp only[gG]at h;simp only[arL];exact ih P h w
 |mark m k ih=>intro a h w;simp only[gG]at h;simp only[arL];exact ih h w
 |halt x=>intro a h w;cases x<;>simp[gG]at h
 |_=>intro a h;simp[gG]at h
theorem Us{α:Type}{P:apu}:∀{s:Sem α} {v:ape},gG P s=some (.error v)→∀w:aps,s.run P w=.halt (.panic v) w:=by
 intro s
 induction s with
 |pure b=>intro a h;simp[gG]at h
 |program k ih=>intro a h w;simp only[gG]at h;simp only[arL];exact ih P h w
 |mark m k ih=>intro a h w;simp only[gG]at h;simp only[arL];exact ih h w
 |halt x=>intro a h w;cases x<;>simp[gG]at h;subst h;rfl
 |_=>intro a h;simp[gG]at h
section
variable {P:apu}
theorem run_underlying{t:apq}{d:asY}(h:P.underlying t=some d)(w:aps):(underlying t).run P w=.ok d w:=by
 simp only[underlying,apg,arl,apf,h];rfl
theorem run_sizeOf{t:apq}{n:Nat}(h:bR P t=some n)(w:aps):(sizeOf t).run P w=.ok n w:=by
 unfold bR at h
 cases hi:P.info? t with
 |none=>rw[hi]at h;cases h
 |some i=>
  rw[hi]at h
  cases h
  simp only[sizeOf,typeInfo,apg,arl,apf,hi];rfl
theorem zO{t:apq}{b:Bool}(h:oe P t=some b)(w:aps):(isAgg t).run P w=.ok b w:=by
 unfold oe at h
 unfold isAgg
 cases hu:P.underlying t with
 |none=>rw[hu]at h;cases h
 |some d=>
  rw[hu]at h
  rw[apg,run_underlying hu,apf]
  cases d<;>simp at h<;>subst h<;>rfl
theorem m6{t:apq}{z:ape}(h:zeroOf P t=some z)(w:aps):(zeroValue t).run P w=.ok z w:=by
 unfold zeroOf at h
 cases hi:P.info? t with
 |none=>rw[hi]at h;cases h
 |some i=>
  rw[hi]at h
  simp only[zeroValue,typeInfo,apg,arl,apf,hi,apY]
  have:i.zero=some z:=h
  rw[this];rfl
end
inductive RR(ρ:Ren):j6→Result ark→aps→Prop where
 |val (v v':ape) (w:aps) (h:VR ρ v v'):RR ρ (.val v) (.ok (.value v') w) w
 |skip (w:aps):RR ρ .skip (.ok .skip w) w
 |panic (v v':ape) (w:aps) (h:VR ρ v v'):RR ρ (.panic v) (.halt (.panic v') w) w
 |enter (f:apQ) (l:List ape) (a:Array ape) (w:aps) (h:LR ρ l a.toList):RR ρ (.enter f l) (.ok (.enter f a) w) w
def u7(g:Nat→Option ag)(n:Nat)(out:bi):Nat→Option ag:=
 let g1:=out.ws.foldl (fun g (x,o)=>cJ g x o) g
 match out.nw with
 |none=>g1
 |some o=>cJ g1 n o
structure Fits(P:apu)(B:Nat→Prop)(w₀:aps)(ρ:Ren)(g:Nat→Option ag)(n:Nat)(out:bi)(ow:Result ark):Prop where
 ex:∃ρ' w',ρ.le ρ'∧RR ρ' out.r ow w'∧WR P B w₀ ρ' (u7 g n out) w'
section
variable {P:apu} {B:Nat→Prop} {w₀:aps} {ρ:Ren} {g:Nat→Option ag} {n:Nat} {w:aps}
theorem Fits.val(hw:WR P B w₀ ρ g w){v v':ape}(h:VR ρ v v'):Fits P B w₀ ρ g n ⟨.val v,[],none⟩ (.ok (.value v') w):=
 ⟨ρ,w,Ren.le_refl ρ,.val v v' w h,hw⟩
theorem Fits.dE(hw:WR P B w₀ ρ g w){v v':ape}{out:bi}{l:List Nat}(ho:(Vm.val v).run g=some (out,l))(h:VR ρ v v'):
 Fits P B w₀ ρ g n out (.ok (.value v') w):=by
 simp only[Vm.val,Rd.run,api,apn]at ho
 obtain⟨rfl,rfl⟩:=ho
 exact Fits.val hw h
theorem oA(hw:WR P B w₀ ρ g w){s:Sem ark}{out:bi}{l:List Nat}(ho:(ky P s).run g=some (out,l)):
 Fits P B w₀ ρ g n out (s.run P w):=by
 unfold ky at ho
 split at ho
 ·rename_i v hp
  split at ho
  ·rename_i hf
   rw[Ur hp]
   exact Fits.dE hw ho (nD hf)
  ·cases ho
 ·rename_i v hp
  split at ho
  ·rename_i hf
   rw[Us hp]
   simp only[Rd.run,api,apn]at ho
   obtain⟨rfl,rfl⟩:=ho
   exact⟨ρ,w,Ren.le_refl ρ,.panic v v w (nD hf),hw⟩
  ·cases ho
 ·cases ho
theorem rD(hw:WR P B w₀ ρ g w){b:Nat}{c:List ape}{el:apq}{ro:Bool}(hb:g b=some (.cells c el ro)){r:bN}(hr:ρ b=some r)(lG:Live (.cells c el ro) r=true):
 ∃c' fr,(∃bU,w.heap[r.aI]?=some (.cells c' bU fr)∧(ro=false→bU=el))∧c'.size=r.dy∧r.sh+c.length≤r.dy∧(∀n,bR P el=some n→r.sz=n)∧
  (ro=false→fr.1=fr.2∨r.dy≤fr.1)∧LR ρ c ((c'.toList.drop r.sh).take c.length)∧(ro=false→¬B r.aI):=by
 obtain⟨o',h1,h2,h3⟩:=hw.mem hb lG hr
 cases h2 with
 |cells _ _ bU _ c' fr hp hs he hz hf hc=>
  refine⟨c',fr,⟨bU,h1,he⟩,hp,hs,hz,hf,⟨by simp;omega,fun i v v' hv fY=>?_⟩,h3⟩
  obtain⟨u,hu,hr⟩:=hc i v hv
  rw[aqx]at fY
  split at fY
  ·rw[aqz]at fY
   have:c'.toList[r.sh+i]?=some u:=by simpa using hu
   rw[this]at fY
   cases fY
   exact hr
  ·cases fY
theorem Kr(hw:WR P B w₀ ρ g w){b:Nat}{c:List ape}{el:apq}{ro:Bool}(hb:g b=some (.cells c el ro)){r:bN}(hr:ρ b=some r):∀n,bR P el=some n→r.sz=n:=by
 cases lG:Live (.cells c el ro) r with
 |true=>
  obtain⟨_,_,_,_,_,h,_⟩:=rD hw hb hr lG
  exact h
 |false=>
  obtain⟨rfl,_⟩:=DG lG
  exact hw.nil b el ro r hb hr
theorem u9{c:List ape}{off n:Nat}{l:List ape}(h:cut c off n=some l):off+n≤c.length∧l=(c.drop off).take n:=by
 unfold cut at h
 split at h
 ·rename_i hb;cases h;exact⟨apL hb,rfl⟩
 ·cases h
theorem zP{c:List ape}{d:List ape}{sh off n:Nat}(hl:LR ρ c ((d.drop sh).take c.length))(h:off+n≤c.length):
 LR ρ ((c.drop off).take n) ((d.drop (sh+off)).take n):=by
 have h1:=(hl.drop off).take n
 rwa[List.drop_take,List.take_take,List.drop_drop,Nat.min_eq_left (by omega)]at h1
theorem va(hw:WR P B w₀ ρ g w){t:apq}{b off:Nat}{v:ape}{l:List Nat}(h:(qd P t b off).run g=some (v,l)){r:bN}(hr:ρ b=some r):
 ∃v',(loadVar t ⟨r.aI,r.sh+off,none⟩).run P w=.ok v' w∧VR ρ v v':=by
 obtain⟨o,l',hb,hk,rfl⟩:=Rd.run_read h
 split at hk
 ·rename_i c el ro
  split at hk
  ·rename_i tm
   split at hk
   ·rename_i m hm
    split at hk
    ·rename_i cs ql
     obtain⟨hle,rfl⟩:=u9 ql
     obtain⟨c',fr,⟨bU,h1,_⟩,hp,hs,hz,hf,hl,_⟩:=rD hw hb hr (om (by intro e;rw[e]at hle;simp at hle))
     simp only[Rd.run,api,apn]at hk
     obtain⟨rfl,rfl⟩:=hk
     refine⟨_,?_,VR.Ko (zP hl hle)⟩
     unfold loadVar
     rw[apg,zO tm,apf]
     simp only[if_true,apg,run_sizeOf hm,apf,zN h1 (r.sh+off) (m+1) (by omega),apY]
    ·cases hk
   ·cases hk
  ·rename_i tm
   split at hk
   ·rename_i u hu
    simp only[Rd.run,api,apn]at hk
    obtain⟨rfl,rfl⟩:=hk
    obtain⟨c',fr,⟨bU,h1,_⟩,hp,hs,hz,hf,hl,_⟩:=rD hw hb hr (om (by intro e;rw[e]at hu;cases hu))
    obtain⟨u',h2,h3⟩:=hl.get hu
    rw[aqx]at h2
    split at h2
    ·rw[aqz]at h2
     refine⟨u',?_,h3⟩
     unfold loadVar
     rw[apg,zO tm,apf]
     have pt:w.cell? ⟨r.aI,r.sh+off,none⟩=some u':=by rw[DM h1];simpa using h2
     simp only[aqi,if_false,run_load,pt]
    ·cases h2
   ·cases hk
  ·cases hk
 ·cases hk
theorem WR.newRow(hw:WR P B w₀ ρ g w)(hn:g n=none){c:List ape}{t:apq}{c':Array ape}{fr:Nat×Nat}(hs:c.length≤c'.size)
 (hf:fr.1=fr.2∨c'.size≤fr.1)(hc:LR ρ c (c'.toList.take c.length)):
 WR P B w₀ (ρ.put n ⟨w.heap.size,0,(bR P t).getD 0,c'.size⟩) (cJ g n (.cells c t false)) (w.alloc (.cells c' t fr)):=by
 refine hw.alloc hn rfl ?_
 refine .cells c t t false c' fr rfl (by simpa using hs) (fun _=>rfl) (fun m hm=>by simp[hm]) (fun _=>hf) fun i v hv=>?_
 obtain⟨v',h1,h2⟩:=hc.get hv
 rw[aqx]at h1
 split at h1
 ·exact⟨v',by simpa using h1,h2.mono (Ren.j9 (hw.fresh n hn) _)⟩
 ·cases h1
theorem Fits.newRow(hw:WR P B w₀ ρ g w)(hn:g n=none){c:List ape}{t:apq}{c':Array ape}{v v':ape}(hs:c.length=c'.size)
 (hc:LR ρ c c'.toList)(hv:∀ρ':Ren,ρ' n=some ⟨w.heap.size,0,(bR P t).getD 0,c'.size⟩→VR ρ' v v'):
 Fits P B w₀ ρ g n ⟨.val v,[],some (.cells c t false)⟩ (.ok (.value v') (w.alloc (.cells c' t))):=
 ⟨_,_,Ren.j9 (hw.fresh n hn) _,.val v v' _ (hv _ (Ren.kG _ _ _)),hw.newRow hn (arw hs) (.inl rfl) (by rw[hs,aqy (by simp)];exact hc)⟩
theorem LR.DQ{c c':Array ape}(h:LR ρ c.toList c'.toList):c.size=c'.size:=by have:=h.len;simpa using this
theorem tp{ob:ag}{v:ape}{out:bi}{l:List Nat}(h:(new ob v).run g=some (out,l)):out=⟨.val v,[],some ob⟩:=by
 simp only[new,Rd.run,api,apn]at h
 exact h.1.symm
theorem Ut(hw:WR P B w₀ ρ g w){t:apq}{out:bi}{l:List Nat}(hn:out.nw≠none→g n=none)(h:(Dh P t n).run g=some (out,l)):
 Fits P B w₀ ρ g n out ((do let v ←avK t true (.tuple #[]);pure (aqs v):Sem ark).run P w):=by
 unfold Dh at h
 split at h
 ·rename_i z hz
  split at h
  ·rename_i hf
   obtain rfl:=tp h
   replace hn:=hn (by simp)
   simp only[avK,apg,m6 hz,apf,newVar,newRow,auZ,apY]
   exact Fits.newRow hw hn (by simp) (nD hf).cells fun ρ' h'=>by simpa using VR.ptr (ρ:=ρ') n 0 _ h'
  ·cases h
 ·cases h
theorem Uu(hw:WR P B w₀ ρ g w){t:apq}{v v':ape}(hv:VR ρ v v'){out:bi}{l:List Nat}
 (hn:out.nw≠none→g n=none)(h:(new (.cells v.cells.toList t false) (.pointer (some ⟨n,0,none⟩))).run g=some (out,l)):
 Fits P B w₀ ρ g n out ((do let v ←av3 t v';pure (aqs v):Sem ark).run P w):=by
 obtain rfl:=tp h
 replace hn:=hn (by simp)
 simp only[av3,apg,apf,newVar,newRow,auZ,apY]
 exact Fits.newRow hw hn (by simpa using hv.cells.DQ) hv.cells fun ρ' h'=>by simpa using VR.ptr (ρ:=ρ') n 0 _ h'
theorem Uv(hw:WR P B w₀ ρ g w){t:apq}{a a':ape}(ha:VR ρ a a'){out:bi}{l:List Nat}(h:(td P t a).run g=some (out,l)):
 Fits P B w₀ ρ g n out ((do let v ←avt t a';pure (aqs v):Sem ark).run P w):=by
 unfold td at h
 split at h
 ·rename_i b off
  obtain⟨r,hr,rfl⟩:=ha.kE
  obtain⟨v,l1,l2,h1,h2,rfl⟩:=(Rd.run_bind _ _ _ _ _).1 h
  obtain⟨v',h3,h4⟩:=va hw h1 hr
  simp only[avt,ar7,apg,apY,apf,h3]
  exact Fits.dE hw h2 h4
 ·cases h
theorem DU{c vs:List ape}{off:Nat}(h:off+vs.length≤c.length)(i:Nat):
 (a8 c off vs)[i]?=if off≤i∧i<off+vs.length then vs[i-off]?else c[i]? :=by
 unfold a8
 have hl:(c.take off).length=off:=by simp;omega
 by_cases h1:i<off
 ·rw[if_neg (by omega),apK,ap5 (by omega),aqx,if_pos h1]
 ·rw[apK,apZ (by omega),hl]
  by_cases h2:i<off+vs.length
  ·rw[if_pos ⟨by omega,h2⟩,ap5 (by omega)]
  ·rw[if_neg (by omega),apZ (by omega),aqz]
   congr 1
   omega
theorem oB{c vs:List ape}{off:Nat}(h:off+vs.length≤c.length):(a8 c off vs).length=c.length:=by
 unfold a8;simp;omega
theorem LR.zJ{l l':List ape}(h:LR ρ l l')(ho:(l.all aqg)=true):(l'.all aqg)=true:=by
 rw[apR]at*
 intro v' fY
 obtain⟨i,hi⟩:=List.getElem?_of_mem fY
 have hlt:i<l'.length:=(app.1 hi).1
 have Ks:i<l.length:=h.len▸hlt
 rw[(h.at_ i _ v' (apl Ks) hi).zJ]
 exact ho _ (List.getElem_mem Ks)
theorem WR.store(hw:WR P B w₀ ρ g w){b:Nat}{c:List ape}{el:apq}(hb:g b=some (.cells c el false)){r:bN}(hr:ρ b=some r)
 {vs jM:List ape}(hv:LR ρ vs jM){off:Nat}(hle:off+vs.length≤c.length)(ho:(vs.all aqg)=true):
 ∃w',(storeCells ⟨r.aI,r.sh+off,none⟩ jM).run P w=.ok () w'∧WR P B w₀ ρ (cJ g b (.cells (a8 c off vs) el false)) w':=by
 by_cases bk:c=[]
 ·subst bk
  have DV:vs=[]:=aqf (by have:off+vs.length≤0:=hle;omega)
  subst DV
  have:=hv.kD
  subst this
  refine⟨w,rfl,?_⟩
  have:cJ g b (.cells (a8 [] off []) el false)=g:=by
   funext x
   by_cases e:x=b
   ·subst e;rw[e9,hb];simp[a8]
   ·rw[dV _ e]
  rw[this]
  exact hw
 obtain⟨c',fr,⟨bU,h1,he⟩,hp,hs,hz,hf,hl,hB⟩:=rD hw hb hr (om bk)
 obtain rfl:=he rfl
 replace hf:=hf rfl
 have hlen:=hv.len
 obtain⟨w',h2,h3⟩:=DP (P:=P) jM w c' (r.sh+off) 0 (ot.refl h1) (by omega) (by rwa[hp]) (hv.zJ ho)
 refine⟨w',h2,hw.change hb (om bk) hr (hB rfl) h3 ?_⟩
 refine .cells _ _ _ _ _ fr (by rw[DN,hp]) (by rw[oB hle];exact hs) (fun _=>rfl) hz (fun _=>hf) fun i v hi=>?_
 rw[DU hle]at hi
 rw[zM _ _ _ _ (by omega)]
 by_cases fk:off≤i∧i<off+vs.length
 ·rw[if_pos fk]at hi
  rw[if_pos (by omega)]
  obtain⟨v',h4,h5⟩:=hv.get hi
  refine⟨v',?_,h5⟩
  rw[show r.sh+i-(r.sh+off+0)=i-off by omega]
  exact h4
 ·rw[if_neg fk]at hi
  rw[if_neg (by omega)]
  obtain⟨v',h4,h5⟩:=hl.get hi
  rw[aqx]at h4
  split at h4
  ·exact⟨v',by simpa using h4,h5⟩
  ·cases h4
theorem Uw(hw:WR P B w₀ ρ g w){t:apq}{a a' x x':ape}(ha:VR ρ a a')(hx:VR ρ x x'){out:bi}{l:List Nat}(h:(te P t a x).run g=some (out,l)):
 Fits P B w₀ ρ g n out ((do auu t a' x';pure Next.skip:Sem ark).run P w):=by
 unfold te at h
 split at h
 ·rename_i b off
  obtain⟨r,hr,rfl⟩:=ha.kE
  split at h
  ·rename_i size cf
   obtain⟨o,l',hb,hk,rfl⟩:=Rd.run_read h
   split at hk
   ·rename_i c el
    split at hk
    ·rename_i hc
     simp only[apt]at hc
     obtain⟨⟨h1,h2⟩,h3⟩:=hc
     have h1:=apz h1
     have h2:=apL h2
     simp only[Rd.run,api,apn]at hk
     obtain⟨rfl,rfl⟩:=hk
     obtain⟨w',h4,h5⟩:=hw.store hb hr hx.cells (off:=off) (by simp;omega) h3
     refine⟨ρ,w',Ren.le_refl ρ,?_,h5⟩
     have Ux:x'.cells.size=size:=by rw[←hx.cells.DQ,h1]
     have ka:(auu t (.pointer (some ⟨r.aI,r.sh+off,none⟩)) x').run P w=.ok () w':=by
      simp only[auu,ar7,storeVar,apg,apY,apf,run_sizeOf cf,Ux,ne_eq,not_true_eq_false,if_false,h4]
     rw[apg,ka]
     exact .skip w'
    ·cases hk
   ·cases hk
  ·cases h
 ·cases h
end
end Go.Proofs.YtnlkkgpcikkpoaaGreat.Vm
namespace Go.Proofs.YtnlkkgpcikkpoaaGreat.Vm
open Go.RowKit
section
variable {P:apu}
theorem zQ{t:apq}{cs:Array ape}{d k:Nat}{v:ape}(hk:bR P t=some k)
 (h:(oe P t=some true∧d+k≤cs.size∧v=.agg (cs.extract d (d+k)))∨(oe P t=some false∧cs[d]?=some v)){w:aps}:(part t cs d).run P w=.ok v w:=by
 unfold part
 rcases h with⟨h1,h2,rfl⟩|⟨h1,h2⟩
 ·rw[apg,zO h1,apf]
  simp only[if_true,apg,run_sizeOf hk,apf,apY]
 ·rw[apg,zO h1,apf]
  simp only[aqi,if_false,h2,apY]
theorem zR{ft:apq}{cs:Array ape}{d:Nat}{v:ape}(h:uX P ft cs.toList d=some v)(w:aps):(part ft cs d).run P w=.ok v w:=by
 unfold uX at h
 split at h
 ·rename_i k m7 hk
  split at h
  ·rename_i l ql
   cases h
   obtain⟨hle,rfl⟩:=u9 ql
   rw[zQ hk (.inl ⟨m7,by simp at hle;omega,rfl⟩)]
   have:(cs.extract d (d+k))=((cs.toList.drop d).take k).toArray:=by
    apply aq8
    simp[ars,arp]
   rw[this]
  ·cases h
 ·rename_i k m7 hk
  exact zQ hk (.inr ⟨m7,by simpa using h⟩)
 ·cases h
theorem Kt{d:Nat}{xs ys:Array ape}{F:asI→Option Bool}:∀(l:List asI) (r:Bool),qe F l=some r→(∀f b,F f=some b→f.name≠ "_" ∧∃u v,(∀w:aps,(part f.type xs f.offset).run P w=.ok u w)∧(∀w:aps,(part f.type ys f.offset).run P w=.ok v w)∧∀w:aps,(arM d f.type u v).run P w=.ok b w)→
 ∀w:aps,(forIn l ((none:Option Bool),()) fun(f:asI) (__s:Option Bool×Unit)=>
     if f.name≠ "_" then do
      let __do_lift ←part f.type xs f.offset
      let __do_lift_1 ←part f.type ys f.offset
      let __do_lift ←arM d f.type __do_lift __do_lift_1
      if(!__do_lift)=true then(pure (ForInStep.done (some false,())):Sem (ForInStep (Option Bool×Unit)))
       else pure (at6 (none,()))
     else pure (at6 (none,()))).run P w=.ok (if r then(none,())else(some false,())) w
 | [],r,h,hF,w=>by
   simp only[qe,api]at h
   subst h
   rfl
 |f::l,r,h,hF,w=>by
  unfold qe at h
  split at h
  ·rename_i a b ha hb
   simp only[api]at h
   subst h
   obtain⟨h1,u,v,h2,h3,h4⟩:=hF f a ha
   rw[au0]
   rw[if_pos h1]
   simp only[apg,h2,h3,h4,apf]
   cases a with
   |false=>rfl
   |true=>
    simp only[asV,aqi,if_false,apY,apf,arJ]
    exact Kt l b hb hF w
  ·cases h
theorem Ku{d k:Nat}{e:apq}{xs ys:Array ape}{F:Nat→Option Bool}:∀(l:List Nat) (r:Bool),qe F l=some r→(∀i b,F i=some b→∃u v,(∀w:aps,(part e xs (i*k)).run P w=.ok u w)∧(∀w:aps,(part e ys (i*k)).run P w=.ok v w)∧∀w:aps,(arM d e u v).run P w=.ok b w)→
 ∀w:aps,(forIn l ((none:Option Bool),()) fun(i:Nat) (__s:Option Bool×Unit)=>do
        let __do_lift ←part e xs (i*k)
        let __do_lift_1 ←part e ys (i*k)
        let __do_lift ←arM d e __do_lift __do_lift_1
        if(!__do_lift)=true then(pure (ForInStep.done (some false,())):Sem (ForInStep (Option Bool×Unit)))
         else pure (at6 (none,()))).run P w=.ok (if r then(none,())else(some false,())) w
 | [],r,h,hF,w=>by
   simp only[qe,api]at h
   subst h
   rfl
 |i::l,r,h,hF,w=>by
  unfold qe at h
  split at h
  ·rename_i a b ha hb
   simp only[api]at h
   subst h
   obtain⟨u,v,h2,h3,h4⟩:=hF i a ha
   rw[au0]
   simp only[apg,h2,h3,h4,apf]
   cases a with
   |false=>rfl
   |true=>
    simp only[asV,aqi,if_false,apY,apf,arJ]
    exact Ku l b hb hF w
  ·cases h
theorem zS:∀(d:Nat) (t:apq) (x y:ape) (r:Bool),uY P d t x y=some r→∀w:aps,(arM d t x y).run P w=.ok r w
 |0,t,x,y,r,h,w=>by cases h
 |d+1,t,x,y,r,h,w=>by
  unfold uY at h
  unfold arM
  split at h
  ·rename_i ht
   split at h
   ·cases h
    rw[apg,run_underlying ht,apf]
    rfl
   ·cases h
  ·rename_i ht
   split at h
   ·split at h
    ·rename_i hk
     cases h
     have hk:=of_decide_eq_true hk
     rw[apg,run_underlying ht,apf]
     dsimp only
     rw[if_pos hk]
     rfl
    ·cases h
   ·cases h
  ·rename_i ht
   split at h
   ·cases h
    rw[apg,run_underlying ht,apf]
    rfl
   ·cases h
  ·rename_i fs ht
   split at h
   ·rename_i xs ys
    split at h
    ·cases h
    ·rename_i cP
     rw[apg,run_underlying ht,apf]
     dsimp only
     rw[apg,arl,apf]
     rw[cP]
     simp only[aqi,if_false]
     rw[←Array.forIn_toList]
     rw[apg,Kt (d:=d) fs.toList r h (fun f b hf=>?_) w,apf]
     ·cases r<;>rfl
     ·split at hf
      ·cases hf
      ·rename_i lH
       refine⟨by simpa using lH,?_⟩
       split at hf
       ·rename_i u v hu hv
        exact⟨u,v,zR hu,zR hv,zS d f.type u v b hf⟩
       ·cases hf
   ·cases h
  ·rename_i n e ht
   split at h
   ·rename_i xs ys k hk
    rw[apg,run_underlying ht,apf]
    dsimp only
    rw[apg,run_sizeOf hk,apf]
    rw[auB]
    have hz:(⟨0,n,1,Nat.one_pos⟩:av6).size=n:=by simp[avU]
    rw[hz]
    rw[apg,Ku (d:=d) (atD 0 n) r h (fun i b hf=>?_) w,apf]
    ·cases r<;>rfl
    ·split at hf
     ·rename_i u v hu hv
      exact⟨u,v,zR hu,zR hv,zS d e u v b hf⟩
     ·cases hf
   ·cases h
  ·cases h
theorem Uy{op:BinOp}{t:apq}{x y:aqM}{a b:ape}{r:Bool}(h:Dl P op t a b=some r)(w:aps):((do eqGuard op t x y a b;binOp op t a b):Sem ape).run P w=.ok (.bool r) w:=by
 unfold Dl at h
 split at h
 ·rename_i xs ys
  split at h
  ·cases h
  ·rename_i hg
   have DW:∀w:aps,(eqGuard .eql t x y (.agg xs) (.agg ys)).run P w=.ok () w:=fun w=>by
    unfold eqGuard
    simp only[asV,aqi,if_false]
    rw[apg,arl,apf,apg,arl,apf,hg]
    rfl
   have he:(ar8 t (.agg xs) (.agg ys)).run P w=.ok r w:=zS 10000 t _ _ r h w
   rw[apg,DW,apf]
   show(arL P (do pure (.bool (←ar8 t (.agg xs) (.agg ys))):Sem ape) w)=_
   rw[apg,he]
   rfl
 ·rename_i xs ys
  split at h
  ·cases h
  ·rename_i hg
   have DW:∀w:aps,(eqGuard .neq t x y (.agg xs) (.agg ys)).run P w=.ok () w:=fun w=>by
    unfold eqGuard
    simp only[asV,aqi,if_false]
    rw[apg,arl,apf,apg,arl,apf,hg]
    rfl
   obtain⟨q,hq,rfl⟩:=Option.map_eq_some_iff.1 h
   have he:(ar8 t (.agg xs) (.agg ys)).run P w=.ok q w:=zS 10000 t _ _ q hq w
   rw[apg,DW,apf]
   show(arL P (do pure (.bool (!(←ar8 t (.agg xs) (.agg ys)))):Sem ape) w)=_
   rw[apg,he]
   rfl
 ·cases h
end
end Go.Proofs.YtnlkkgpcikkpoaaGreat.Vm
namespace Go.Proofs.YtnlkkgpcikkpoaaGreat.Vm
open Go.RowKit
section
variable {P:apu} {B:Nat→Prop} {w₀:aps} {ρ:Ren} {g:Nat→Option ag} {n:Nat} {w:aps}
theorem Uz(hw:WR P B w₀ ρ g w){c c' a a' b b':ape}(hc:VR ρ c c')(ha:VR ρ a a')(hb:VR ρ b b'){out:bi}{l:List Nat}
 (h:(zx c a b).run g=some (out,l)):Fits P B w₀ ρ g n out ((do pure (aqs (if←asBool c' then a' else b')):Sem ark).run P w):=by
 unfold zx at h
 split at h
 ·rw[hc.u0];exact Fits.dE hw h ha
 ·rw[hc.u0];exact Fits.dE hw h hb
 ·cases h
theorem UA(hw:WR P B w₀ ρ g w){v v':ape}(hv:VR ρ v v'){out:bi}{l:List Nat}(h:(Dk P v).run g=some (out,l))(e':aqM→ape)(x:aqM)(he:e' x=v')
 (o:aqh)(ho:o.op=.nilCheck x):Fits P B w₀ ρ g n out ((execOp e' o).run P w):=by
 unfold execOp
 rw[ho]
 simp only[he]
 unfold Dk at h
 split at h
 ·cases hv with
  |bG _ hs=>cases hs
  |ptr b off r hr=>exact Fits.dE hw h (.ptr b off r hr)
  |mv b off t=>exact Fits.dE hw h (.mv b off t)
 ·obtain⟨f',c',rfl,h1,h2⟩:=hv.xr
  exact Fits.dE hw h (.func _ _ _ _ _ rfl h1.len h1.at_ h2.len h2.at_)
 ·obtain⟨u',rfl,h1⟩:=hv.xq
  exact Fits.dE hw h (.iface _ _ _ h1)
 ·cases hv;exact oA hw h
 ·cases hv;exact oA hw h
 ·cases hv;exact oA hw h
 ·cases h
theorem Kv(t:apq)(x y:ape):ar8 t x y=arM (9999+1) t x y:=rfl
theorem Kw{t:apq}{x y:aqM}{a b:ape}{r:Bool}(neg:Bool)(h1:binOp .eql t a b=(do pure (.bool (←ar8 t a b))))
 (h2:binOp .neq t a b=(do pure (.bool (!(←ar8 t a b)))))(hg:∀op,(eqGuard op t x y a b).run P w=.ok () w)(he:(ar8 t a b).run P w=.ok r w):
 ((do eqGuard (if neg then .neq else .eql) t x y a b;binOp (if neg then .neq else .eql) t a b):Sem ape).run P w=.ok (.bool (r != neg)) w:=by
 rw[apg,hg,apf]
 cases neg with
 |false=>simp only[aqi,if_false];rw[h1,apg,he];simp
 |true=>simp only[if_true];rw[h2,apg,he];simp
theorem Kx(hw:WR P B w₀ ρ g w){t:apq}{x y:aqM}{a a' b b':ape}(ha:VR ρ a a')(hb:VR ρ b b')(neg:Bool){out:bi}{l:List Nat}
 (h:(uW P t a b neg).run g=some (out,l)):
 Fits P B w₀ ρ g n out ((do let v ←(do eqGuard (if neg then .neq else .eql) t x y a' b';binOp (if neg then .neq else .eql) t a' b');pure (aqs v):Sem ark).run P w):=by
 unfold uW at h
 split at h
 ·rename_i d hd
  split at h
  ·rename_i r hr
   have key:((do eqGuard (if neg then .neq else .eql) t x y a' b';binOp (if neg then .neq else .eql) t a' b'):Sem ape).run P w=.ok (.bool (r != neg)) w:=by
    unfold zu at hr
    split at hr<;>first
     |(cases hr;done)
     |(split at hr<;>first
        |(cases hr;done)
        |(rename_i gY
          simp only[api]at hr
          subst hr
          cases ha<;>cases hb<;>first
           |exact Kw neg rfl rfl (fun op=>by unfold eqGuard;split<;>rfl) (by rw[Kv];unfold arM;rw[apg,run_underlying hd,apf];rfl)
           |(cases gY;done)
           |(rename_i h1 h2;cases h1;done)
           |(rename_i h1 h2;cases h2;done)
           |(rename_i h1;cases h1;done)))
     |(simp only[api]at hr
       subst hr
       cases ha<;>cases hb<;>first
        |exact Kw neg rfl rfl (fun op=>by unfold eqGuard;split<;>rfl) (by rw[Kv];unfold arM;rw[apg,run_underlying hd,apf];rfl)
        |(rename_i h1 h2;cases h1;done)
        |(rename_i h1 h2;cases h2;done)
        |(rename_i h1;cases h1;done))
   rw[apg,key]
   exact Fits.dE hw h (.bG _ rfl)
  ·cases h
 ·cases h
theorem UB(hw:WR P B w₀ ρ g w){op:BinOp}{t:apq}{x y:aqM}{a a' b b':ape}(ha:VR ρ a a')(hb:VR ρ b b'){out:bi}{l:List Nat}
 (h:(tf P op t x y a b).run g=some (out,l)):
 Fits P B w₀ ρ g n out ((do let v ←(do eqGuard op t x y a' b';binOp op t a' b');pure (aqs v):Sem ark).run P w):=by
 unfold tf at h
 split at h
 ·rename_i hf
  simp only[apt]at hf
  rw[mX hf.1 ha,mX hf.2 hb]
  split at h
  ·rename_i r hr
   rw[apg,Uy hr]
   exact Fits.dE hw h (.bG _ rfl)
  ·exact oA hw h
 ·split at h
  ·exact Kx hw ha hb false h
  ·exact Kx hw ha hb true h
  ·cases h
theorem UC(hw:WR P B w₀ ρ g w){op:UnOp}{a a':ape}(ha:VR ρ a a'){out:bi}{l:List Nat}(h:(Dm P op a).run g=some (out,l)):
 Fits P B w₀ ρ g n out ((do let v ←Op.unary op a';pure (aqs v):Sem ark).run P w):=by
 unfold Dm at h
 split at h
 ·rename_i hf
  rw[mX hf ha]
  exact oA hw h
 ·cases h
theorem UD(hw:WR P B w₀ ρ g w){t:apq}{a a':ape}(ha:VR ρ a a'){out:bi}{l:List Nat}(h:(Dn P t a).run g=some (out,l)):
 Fits P B w₀ ρ g n out ((do let v ←atq t a';pure (aqs v):Sem ark).run P w):=by
 unfold Dn at h
 split at h
 ·cases h
 ·rename_i d hd hu
  have:(atq t a').run P w=.ok (.iface t a') w:=by
   unfold atq
   rw[apg,run_underlying hu,apf]
   split
   ·exact absurd rfl (hd _)
   ·rfl
  rw[apg,this]
  exact Fits.dE hw h (.iface _ _ _ ha)
 ·cases h
theorem UE(hw:WR P B w₀ ρ g w){fn:Fn}{f c:List ape}{f' c':Array ape}(hf:LR ρ f f'.toList)(hc:LR ρ c c'.toList){out:bi}{l:List Nat}
 (h:(Dp fn f c).run g=some (out,l)):Fits P B w₀ ρ g n out ((do let v ←Instr.makeFunc fn f' c';pure (aqs v):Sem ark).run P w):=by
 unfold Dp at h
 split at h<;>first
  |(cases h;done)
  |exact Fits.dE hw h (.func _ _ _ _ _ rfl (by simpa using hf.len) (by simpa using hf.at_) (by simpa using hc.len) (by simpa using hc.at_))
theorem UF(hw:WR P B w₀ ρ g w){x x':ape}(hx:VR ρ x x')(i:Nat){out:bi}{l:List Nat}(h:(Du x i).run g=some (out,l)):
 Fits P B w₀ ρ g n out ((do let v ←auv x' i;pure (aqs v):Sem ark).run P w):=by
 unfold Du at h
 split at h
 ·obtain⟨c',rfl,hl⟩:=hx.Kp
  split at h
  ·rename_i v hv
   obtain⟨v',h1,h2⟩:=hl.get hv
   have tq:c'[i]?=some v':=by simpa using h1
   have:(auv (.tuple c') i).run P w=.ok v' w:=by unfold auv;simp only[tq];rfl
   rw[apg,this]
   exact Fits.dE hw h h2
  ·cases h
 ·cases h
theorem UG(hw:WR P B w₀ ρ g w){x x':ape}(hx:VR ρ x x')(xt at_:apq)(ok:Bool){out:bi}{l:List Nat}(h:(Dv P x at_ ok).run g=some (out,l)):
 Fits P B w₀ ρ g n out ((do let v ←atT x' xt at_ ok;pure (aqs v):Sem ark).run P w):=by
 unfold Dv at h
 split at h
 ·cases h
 ·rename_i d t v hu hd
  obtain⟨u',rfl,h1⟩:=hx.xq
  split at h
  ·rename_i ht
   have ht:=apz ht
   subst ht
   have:(atT (.iface t u') xt t ok).run P w=.ok (if ok then .tuple #[u',.bool true]else u') w:=by
    unfold atT
    rw[apg,run_underlying hd,apf]
    split<;>simp_all
   rw[apg,this]
   cases ok with
   |true=>exact Fits.dE hw h (.zI (LR.cons h1 (LR.cons (.bG _ rfl) (LR.nil ρ))))
   |false=>exact Fits.dE hw h h1
  ·cases h
 ·cases h
theorem UH(hw:WR P B w₀ ρ g w){x x':ape}(hx:VR ρ x x'){out:bi}{l:List Nat}(h:(Dw P x).run g=some (out,l)):
 Fits P B w₀ ρ g n out ((do let v ←avJ x';pure (aqs v):Sem ark).run P w):=by
 unfold Dw at h
 split at h
 ·rename_i hf
  rw[mX hf hx]
  exact oA hw h
 ·cases h
theorem DX{s i off ft k:Nat}(h:xg P s i=some (off,ft,k)):
 ∃fs f,P.underlying s=some (.struct fs)∧fs[i]?=some f∧f.offset=off∧f.type=ft∧bR P ft=some k∧k≠0:=by
 unfold xg at h
 split at h
 ·rename_i fs hu
  split at h
  ·rename_i f hf
   split at h
   ·rename_i m hm
    simp only[api,apn]at h
    obtain⟨rfl,rfl,rfl⟩:=h
    exact⟨fs,f,hu,hf,rfl,rfl,hm,by omega⟩
   ·cases h
  ·cases h
 ·cases h
theorem DY{f:asI}{k:Nat}(h:bR P f.type=some k)(hk:k≠0)(b off:Nat):(fieldPlace ⟨b,off,none⟩ f).run P w=.ok ⟨b,off+f.offset,none⟩ w:=by
 unfold fieldPlace
 rw[apg,run_sizeOf h,apf,if_neg hk,pr]
 rfl
theorem UI(hw:WR P B w₀ ρ g w){s:apq}{x x':ape}(hx:VR ρ x x')(i:Nat){out:bi}{l:List Nat}(h:(Ds P s x i).run g=some (out,l)):
 Fits P B w₀ ρ g n out ((do let v ←auw s x' i;pure (aqs v):Sem ark).run P w):=by
 unfold Ds at h
 split at h
 ·rename_i b off d ft k hd
  obtain⟨r,hr,rfl⟩:=hx.kE
  obtain⟨fs,f,hu,hf,rfl,rfl,hk,iB⟩:=DX hd
  have:(auw s (.pointer (some ⟨r.aI,r.sh+off,none⟩)) i).run P w=.ok (.pointer (some ⟨r.aI,r.sh+off+f.offset,none⟩)) w:=by
   unfold auw
   rw[apg,run_underlying hu,apf]
   simp only[hf]
   simp only[ar7,apg,apY,apf,DY hk iB]
  rw[apg,this]
  exact Fits.dE hw h (by rw[arf];exact .ptr _ _ _ hr)
 ·cases h
theorem Ky(hw:WR P B w₀ ρ g w){ft:apq}{cs:List ape}{iC:Array ape}(hl:LR ρ cs iC.toList){d k:Nat}(hk:bR P ft=some k){out:bi}{l:List Nat}
 (h:(zw P ft cs d k).run g=some (out,l)):Fits P B w₀ ρ g n out ((do let v ←part ft iC d;pure (aqs v):Sem ark).run P w):=by
 unfold zw at h
 split at h
 ·rename_i tm
  split at h
  ·rename_i c hc
   obtain⟨hle,rfl⟩:=u9 hc
   have hs:=hl.len
   rw[apg,zQ hk (.inl ⟨tm,by simp at hs;omega,rfl⟩)]
   refine Fits.dE hw h ?_
   have:(iC.extract d (d+k))=((iC.toList.drop d).take k).toArray:=by
    apply aq8
    simp[ars,arp]
   rw[this]
   exact .Ko ((hl.drop d).take k)
  ·cases h
 ·rename_i tm
  split at h
  ·rename_i v hv
   obtain⟨v',h1,h2⟩:=hl.get hv
   rw[apg,zQ hk (.inr ⟨tm,by simpa using h1⟩)]
   exact Fits.dE hw h h2
  ·cases h
 ·cases h
theorem UJ(hw:WR P B w₀ ρ g w){s:apq}{x x':ape}(hx:VR ρ x x')(i:Nat){out:bi}{l:List Nat}(h:(Dt P s x i).run g=some (out,l)):
 Fits P B w₀ ρ g n out ((do let v ←auU s x' i;pure (aqs v):Sem ark).run P w):=by
 unfold Dt at h
 split at h
 ·rename_i cs d ft k hd
  obtain⟨c',rfl,hl⟩:=hx.DF
  obtain⟨fs,f,hu,hf,rfl,rfl,hk,iB⟩:=DX hd
  have:=Ky (n:=n) hw hl hk h
  have e:(auU s (.agg c') i).run P w=(part f.type c' f.offset).run P w:=by
   unfold auU
   rw[apg,run_underlying hu,apf]
   simp only[hf,asAgg,apg,apY,apf]
  rw[apg,e]
  rwa[apg]at this
 ·cases h
theorem pu{v:ape}{i:Nat}(h:pe v=some i):∃k,v=.int k (i:Int):=by
 unfold pe at h
 split at h
 ·rename_i k m;cases h;exact⟨k,rfl⟩
 ·cases h
theorem Kz(hw:WR P B w₀ ρ g w){t:apq}{x x' i i':ape}(hx:VR ρ x x')(hi:VR ρ i i'){out:bi}{l:List Nat}(h:(tg P t x i).run g=some (out,l)):
 Fits P B w₀ ρ g n out ((do let v ←arZ t x' i';pure (aqs v):Sem ark).run P w):=by
 unfold tg at h
 split at h
 ·rename_i k el b off j hu hj
  obtain⟨ik,rfl⟩:=pu hj
  obtain⟨r,hr,rfl⟩:=hx.kE
  rw[hi.jL]
  split at h
  ·rename_i size hs hlt
   have hlt:j<k:=by simp[apy]at hlt;omega
   have:(arZ t (.pointer (some ⟨r.aI,r.sh+off,none⟩)) (.int ik j)).run P w=.ok (.pointer (some ⟨r.aI,r.sh+off+j*size,none⟩)) w:=by
    unfold arZ
    simp only[asIntOf,apg,apY,apf,run_underlying hu,ar7]
    rw[if_pos ⟨by omega,by omega⟩]
    simp only[apg,run_sizeOf hs,apf,apY,pr,arI]
   rw[apg,this]
   exact Fits.dE hw h (by rw[arf];exact .ptr _ _ _ hr)
  ·cases h
 ·rename_i el b off len cap j hu hj
  obtain⟨ik,rfl⟩:=pu hj
  rw[hi.jL]
  split at h
  ·rename_i size hs hlt
   have hlt:j<len:=by simp[apy]at hlt;omega
   cases hx with
   |bG _ h=>cases h
   |eh=>omega
   |sl _ _ _ _ bw r hr hc=>
    have:(arZ t (.slice (some ⟨r.aI,r.sh+off,none⟩) len bw) (.int ik j)).run P w=.ok (.pointer (some ⟨r.aI,r.sh+off+j*size,none⟩)) w:=by
     unfold arZ
     simp only[asIntOf,apg,apY,apf,run_underlying hu,ar7]
     rw[if_pos ⟨by omega,by omega⟩]
     simp only[apg,run_sizeOf hs,apf,apY,pr,arI]
    rw[apg,this]
    exact Fits.dE hw h (by rw[arf];exact .ptr _ _ _ hr)
  ·cases h
 ·cases h
theorem UK(hw:WR P B w₀ ρ g w){t:apq}{x x' i i':ape}(hx:VR ρ x x')(hi:VR ρ i i'){out:bi}{l:List Nat}(h:(xk P t x i).run g=some (out,l)):
 Fits P B w₀ ρ g n out ((do let v ←asy t x' i';pure (aqs v):Sem ark).run P w):=by
 unfold xk at h
 split at h
 ·split at h
  ·rename_i hf
   rw[hx.pq,mX hf hi]
   exact oA hw h
  ·cases h
 ·obtain⟨c',rfl,hl⟩:=hx.DF
  split at h
  ·rename_i k el j hu hj
   obtain⟨ik,rfl⟩:=pu hj
   rw[hi.jL]
   split at h
   ·rename_i size hs hlt
    have hlt:j<k:=by simp[apy]at hlt;omega
    have:=Ky (n:=n) hw hl hs h
    have e:(asy t (.agg c') (.int ik j)).run P w=(part el c' (j*size)).run P w:=by
     unfold asy
     simp only[asIntOf,apg,apY,apf,run_underlying hu]
     rw[if_pos ⟨by omega,by omega⟩]
     simp only[apg,run_sizeOf hs,apf,arI]
    rw[apg,e]
    rwa[apg]at this
   ·cases h
  ·cases h
 ·cases h
end
end Go.Proofs.YtnlkkgpcikkpoaaGreat.Vm
namespace Go.Proofs.YtnlkkgpcikkpoaaGreat.Vm
open Go.RowKit
theorem UL(a:Array Obj)(x:Obj)(f:Obj→Obj):(a.push x).modify a.size f=a.push (f x):=by
 apply Array.ext_getElem?
 intro i
 rw[arU,atr,atr]
 by_cases h:i=a.size
 ·subst h;simp
 ·have:¬a.size=i:=fun e=>h e.symm
  simp[h,this]
theorem UM(w:aps)(c:Array ape)(el:apq)(k:Nat):(w.alloc (.cells c el)).freeze ⟨w.heap.size,k,none⟩ 1=w.alloc (.cells c el (k,k+1)):=by
 unfold avu avL
 simp only[au1,if_false]
 rw[UL]
 rfl
section
variable {P:apu} {B:Nat→Prop} {w₀:aps} {ρ:Ren} {g:Nat→Option ag} {n:Nat} {w:aps}
theorem UN(w:aps)(c:Array ape)(el:apq):(w.alloc (.cells c el)).shape? w.heap.size=some (el,c.size):=by
 unfold avv avL
 simp only[atr,if_true]
theorem vb(el:apq)(lI:Array ape)(w:aps):(newRow el lI).run P w=.ok ⟨w.heap.size,0,none⟩ (w.alloc (.cells lI el)):=rfl
theorem UO(el:apq)(lI:Array ape)(w:aps):(markStringish ⟨w.heap.size,0,none⟩).run P (w.alloc (.cells lI el))=.ok () (w.alloc (.cells lI el (lI.size,lI.size+1))):=by
 unfold markStringish
 rw[apg,run_shape,apf,UN]
 simp only[run_freeze]
 rw[UM]
theorem UP(el:apq)(s:ByteArray):∃bw,s.size≤bw∧(atH el s).run P w=.ok (.slice (some ⟨w.heap.size,0,none⟩) s.size bw)
 (w.drew.alloc (.cells ((s.data.map fun b=>apm .u8 b.toNat)++aru (bw-s.size) (.int .u8 0)) el (bw,bw+1))):=by
 refine⟨(asD s.size 0 el).cut (w.tape w.drawn (.appendCap s.size 0 el)),by simp[auE],?_⟩
 generalize hq:(asD s.size 0 el).cut (w.tape w.drawn (.appendCap s.size 0 el))=bw
 have hle:s.size≤bw:=by rw[←hq];simp[auE]
 unfold atH
 rw[apg,run_choose,if_neg (by simp[Question.forced]),hq,apf]
 dsimp only
 generalize m8:((s.data.map fun b=>apm .u8 b.toNat)++aru (bw-s.size) (apm .u8 0))=lI
 have cf:lI.size=bw:=by
  rw[←m8,atO,avb,aup]
  have:s.data.size=s.size:=rfl
  omega
 rw[apg,vb,apf,apg]
 have:=UO (P:=P) el lI w.drew
 rw[World.size_drew]at this
 show((markStringish ⟨w.heap.size,0,none⟩).run P (w.drew.alloc (.cells lI el))).andThen _=_
 rw[this,cf]
 rfl
theorem UQ(s:ByteArray):LR ρ (s.data.toList.map fun b=>apm .u8 b.toNat) (s.data.toList.map fun b=>apm .u8 b.toNat):=LR.map _ _ _ fun b _=>.bG _ rfl
theorem KA{b:Nat}{o:ag}(h:g b=some o):cJ g b o=g:=by
 funext y
 by_cases e:y=b
 ·subst e;rw[e9,h]
 ·rw[dV _ e]
theorem KB:∀{c:List ape} {l:List UInt8},bytesOf c=some l→∃ns:List Int,c=ns.map (apm .u8)∧l=ns.map fun n=>ar6 n.toNat
 | [],l,h=>by simp[bytesOf]at h;exact⟨[],rfl,by simp[h]⟩
 |v::c,l,h=>by
  unfold bytesOf at h
  split at h
  ·rename_i e;cases e
  ·rename_i m c' e
   cases e
   split at h
   ·rename_i r hr
    cases h
    obtain⟨ns,h1,h2⟩:=KB hr
    exact⟨m::ns,by simp[h1],by simp[h2]⟩
   ·cases h
  ·cases h
theorem UR{src dst el:apq}{d:asY}{s:ByteArray}(hs:P.underlying src=some d)(hd:P.underlying dst=some (.slice el))(he:P.underlying el=some (.int .u8)):
 (convert src dst (.string s)).run P w=(atH el s).run P w:=by
 unfold convert
 rw[apg,run_underlying hs,apf,apg,run_underlying hd,apf]
 cases d<;>simp only[apg,run_underlying he,apf]
theorem US{w:aps}{b m:Nat}{c:Array ape}{el:apq}{fr:Nat×Nat}(h:w.heap[b]?=some (.cells c el fr)):
 ot w (w.freeze ⟨b,m,none⟩ 1) b (.cells c el (if fr.1==fr.2 then(m,m+1)else(min fr.1 m,max fr.2 (m+1)))):=by
 unfold avu
 simp only[au1,if_false]
 refine⟨rfl,rfl,rfl,by simp,?_,fun k hk=>?_⟩
 ·simp only[arU,if_true,h,Option.map_some]
 ·simp only[arU]
  rw[if_neg (fun e=>hk e.symm)]
theorem UT{b off:Nat}{c:Array ape}{el:apq}{fr:Nat×Nat}(h:w.heap[b]?=some (.cells c el fr)):
 (markStringish ⟨b,off,none⟩).run P w=.ok () (w.freeze ⟨b,c.size,none⟩ 1):=by
 unfold markStringish
 rw[apg,run_shape,apf]
 have:w.shape? b=some (el,c.size):=by unfold avv;simp only[h]
 simp only[this,run_freeze]
theorem UU{src el:apq}{a:arE}{len cap:Nat}(hs:P.underlying src=some (.slice el))(he:P.underlying el=some (.int .u8)):
 (convert src src (.slice (some a) len cap)).run P w=((do markStringish a;pure (Value.slice (some a) len cap)):Sem ape).run P w:=by
 unfold convert
 rw[apg,run_underlying hs,apf,apg,run_underlying hs,apf]
 simp only[beq_self_eq_true]
 rw[apg,run_underlying he,apf]
theorem UW(hw:WR P B w₀ ρ g w){src dst:apq}{x x':ape}(hx:VR ρ x x'){out:bi}{l:List Nat}(hn:out.nw≠none→g n=none)(h:(xj P src dst x n).run g=some (out,l)):
 Fits P B w₀ ρ g n out ((do let v ←convert src dst x';pure (aqs v):Sem ark).run P w):=by
 unfold xj at h
 split at h
 ·rename_i d el s hs hd
  split at h
  ·rename_i he h1
   obtain rfl:=tp h
   replace hn:=hn (by simp)
   rw[hx.pq,apg,UR hs hd he]
   obtain⟨bw,hle,hr⟩:=UP (P:=P) (w:=w) el s
   rw[hr,apf]
   generalize m8:((s.data.map fun b=>apm .u8 b.toNat)++aru (bw-s.size) (apm .u8 0))=lI
   have gv:s.data.size=s.size:=rfl
   have cf:lI.size=bw:=by
    rw[←m8,atO,avb,aup]
    omega
   have nG:(s.data.toList.map fun b=>apm .u8 b.toNat).length=s.size:=by simp[gv]
   have hz:(bR P el).getD 0=1:=by rw[h1];rfl
   refine⟨ρ.put n ⟨w.drew.heap.size,0,(bR P el).getD 0,lI.size⟩,_,Ren.j9 (hw.fresh n hn) _,.val _ _ _ ?_,hw.drew.newRow hn (by rw[nG,cf];exact hle) (.inr (by rw[cf];exact apI _)) ?_⟩
   ·have:=VR.sl (ρ:=ρ.put n ⟨w.drew.heap.size,0,(bR P el).getD 0,lI.size⟩) n 0 s.size s.size bw _ (Ren.kG _ _ _) (.inr ⟨hle,by simp[hz,cf]⟩)
    simpa using this
   ·rw[←m8,nG,Array.toList_append,List.take_append_of_le_length (by simp[gv]),aqy (by simp[gv]),Array.toList_map]
    exact UQ s
  ·cases h
 ·rename_i el e2 b off len cap hs hd
  split at h
  ·rename_i he tt
   have tt:=apz tt
   subst tt
   rw[hs]at hd
   cases hd
   split at h
   ·cases h
   ·rename_i gY
    obtain⟨o,l',hb,hk,rfl⟩:=Rd.run_read h
    split at hk
    ·rename_i cv cr ce
     generalize jr:cv::cr=c at hb
     cases hx with
     |bG _ h=>cases h
     |sl _ _ _ _ bw r hr hc=>
      obtain⟨c',fr,⟨bU,h1,KC⟩,hp,jd,hz,hf,hl,hB⟩:=rD hw hb hr (om (by rw[←jr];simp))
      obtain rfl:=KC rfl
      replace hf:=hf rfl
      have UX:=US (m:=c'.size) h1
      have UY:OR P ρ r (.cells c bU false) (.cells c' bU (if fr.1==fr.2 then(c'.size,c'.size+1)else(min fr.1 c'.size,max fr.2 (c'.size+1)))):=by
       refine .cells _ _ _ _ _ _ hp jd (fun _=>rfl) hz (fun _=>?_) fun i v hv=>?_
       ·right
        split
        ·exact arw hp.symm
        ·rename_i bk
         rcases hf with hf|hf
         ·rw[hf]at bk;simp at bk
         ·simp only;omega
       ·obtain⟨v',h2,h3⟩:=hl.get hv
        rw[aqx]at h2
        split at h2
        ·exact⟨v',by simpa using h2,h3⟩
        ·cases h2
      have dG:=hw.change hb (om (by rw[←jr];simp)) hr (hB rfl) UX UY
      rw[KA hb]at dG
      rw[apg,UU hs he,apg,UT h1,apf,apY,apf,apY]
      exact Fits.dE dG hk (.sl _ _ _ _ _ _ hr hc)
    ·cases hk
  ·cases h
 ·rename_i el len cap hs hd
  split at h
  ·rename_i he
   cases hx
   rw[apg,asa w src dst _ none _ _ hs he hd]
   exact Fits.dE hw h (.bG _ rfl)
  ·rename_i b off he
   obtain⟨o,l',hb,hk,rfl⟩:=Rd.run_read h
   split at hk
   ·rename_i c ce ro
    split at hk
    ·rename_i bs qn
     obtain⟨cs,ql,DZ⟩:=Option.bind_eq_some_iff.1 qn
     obtain⟨hle,rfl⟩:=u9 ql
     obtain⟨ns,h1,rfl⟩:=KB DZ
     have key:(∃a',ns=[]∧x'=.slice a' 0 0)∨∃a' bw,x'=.slice (some a') len bw∧(loadCells a' len).run P w=.ok (ns.map (apm .u8)).toArray w:=by
      cases hx with
      |bG _ h=>cases h
      |eh _ a'=>
       exact .inl ⟨a',by simp at h1;exact h1,rfl⟩
      |sl _ _ _ _ bw r hr hc=>
       refine .inr ⟨_,bw,rfl,?_⟩
       by_cases hlen:len=0
       ·subst hlen
        have:ns=[]:=by simp at h1;exact h1
        subst this
        rfl
       obtain⟨c',fr,⟨bU,h2,KC⟩,hp,jd,hz,hf,hl,hB⟩:=rD hw hb hr (om (by intro e;rw[e]at hle;simp at hle;omega))
       rw[zN h2 _ _ (by omega)]
       have h3:=zP hl hle
       rw[h1]at h3
       rw[LR.xu (by simp[fl,flat]) h3]
     rcases key with⟨a',rfl,rfl⟩|⟨a',bw,rfl,UZ⟩
     ·cases a' with
      |none=>
       rw[apg,asa w src dst _ none _ _ hs he hd]
       exact Fits.dE hw hk (.bG _ rfl)
      |some a'=>
       rw[apg,asa w src dst _ _ _ _ hs he hd,auP w a' 0 0 [] rfl,apf,auX]
       exact Fits.dE hw hk (.bG _ rfl)
     rw[apg,asa w src dst _ _ _ _ hs he hd,auP w a' len bw ns UZ,apf,auX]
     refine Fits.dE hw hk ?_
     have:(ByteArray.mk (ByteArray.empty.data++(ns.map fun n=>ar6 n.toNat).toArray))=⟨(ns.map fun n=>ar6 n.toNat).toArray⟩:=by
      congr 1
      exact Array.empty_append ..
     rw[this]
     exact .bG _ rfl
    ·cases hk
   ·cases hk
  ·cases h
 ·split at h
  ·rename_i hf
   rw[mX hf hx]
   exact oA hw h
  ·cases h
end
end Go.Proofs.YtnlkkgpcikkpoaaGreat.Vm
namespace Go.Proofs.YtnlkkgpcikkpoaaGreat.Vm
open Go.RowKit
section
variable {P:apu} {B:Nat→Prop} {w₀:aps} {ρ:Ren} {g:Nat→Option ag} {n:Nat} {w:aps}
theorem Fits.KD(hw:WR P B w₀ ρ g w)(hn:g n=none):
 Fits P B w₀ ρ g n ⟨.val (.map (some n)),[],some (.map [] 0)⟩ (.ok (.value (.map (some w.heap.size))) (w.alloc (.map #[] 0))):=by
 refine⟨ρ.put n ⟨w.heap.size,0,0,0⟩,_,Ren.j9 (hw.fresh n hn) _,.val _ _ _ (.map n _ (Ren.kG _ _ _)),hw.alloc hn rfl ?_⟩
 exact .map [] #[] 0 rfl fun i e e' h=>by simp at h
theorem U0(hw:WR P B w₀ ρ g w){t:apq}{r r':Option ape}(hr:∀v,r=some v→∃v',r'=some v'∧VR ρ v v')(xz:r=none→r'=none)
 {out:bi}{l:List Nat}(hn:out.nw≠none→g n=none)(h:(Dq P t r n).run g=some (out,l)):
 Fits P B w₀ ρ g n out ((do let v ←avi t r';pure (aqs v):Sem ark).run P w):=by
 unfold Dq at h
 split at h
 ·rw[xz rfl]
  obtain rfl:=tp h
  exact Fits.KD hw (hn (by simp))
 ·obtain⟨v',rfl,hv⟩:=hr _ rfl
  rw[hv.jL]
  split at h
  ·rename_i hu
   obtain rfl:=tp h
   replace hn:=hn (by simp)
   rw[apg]
   unfold avi
   simp only[apg,run_underlying hu,apf,asInt,asIntOf,apY,auZ]
   exact Fits.KD hw hn
  ·cases h
 ·cases h
theorem zT(z:List ape)(k:Nat):(e8 z k).length=k*z.length:=by
 induction k with
 |zero=>simp[e8]
 |succ k ih=>simp[e8,ih,atd];omega
theorem D1(z:List ape):∀(k i:Nat),i<k*z.length→(e8 z k)[i]?=z[i%z.length]?
 |0,i,h=>by simp at h
 |k+1,i,h=>by
  rw[atd]at h
  have e:e8 z (k+1)=z++e8 z k:=rfl
  rw[e]
  by_cases hi:i<z.length
  ·rw[ap5 hi,Nat.mod_eq_of_lt hi]
  ·have ih:=D1 z k (i-z.length) (by omega)
   rw[apZ (by omega),ih]
   congr 1
   rw[Nat.mod_eq_sub_mod (a:=i) (by omega)]
theorem D2(z:ape)(k:Nat):((atE (k*z.cells.size)).map fun i=>z.cells[i%z.cells.size]!)=(e8 z.cells.toList k).toArray:=by
 apply aq8
 apply asn
 intro i
 have hlen:z.cells.toList.length=z.cells.size:=by simp
 have xA:(e8 z.cells.toList k).length=k*z.cells.size:=by rw[zT,hlen]
 by_cases hi:i<k*z.cells.size
 ·have h1:=D1 z.cells.toList k i (by rw[hlen];exact hi)
  rw[hlen]at h1
  have U1:0<z.cells.size:=by
   rcases Nat.eq_zero_or_pos z.cells.size with h0|h0
   ·rw[h0]at hi;simp at hi
   ·exact h0
  have hm:i%z.cells.size<z.cells.size:=Nat.mod_lt _ U1
  show _=(e8 z.cells.toList k)[i]?
  rw[h1]
  simp[hi,getElem!_pos,hm]
 ·show _=(e8 z.cells.toList k)[i]?
  rw[aqr (l:=e8 z.cells.toList k) (by rw[xA];omega),aqr (by simp;omega)]
theorem xB{z:ape}(h:fl z=true):LR ρ z.cells.toList z.cells.toList:=(nD h).cells
theorem LR.e8{z z':List ape}(h:LR ρ z z'):∀k,LR ρ (e8 z k) (e8 z' k)
 |0=>LR.nil ρ
 |k+1=>h.append (LR.e8 h k)
theorem KE(k:IntKind)(i:Int):(asInt (.int k i)).run P w=.ok i w:=rfl
theorem U2(hw:WR P B w₀ ρ g w){t:apq}{a a' b b':ape}(ha:VR ρ a a')(hb:VR ρ b b'){out:bi}{l:List Nat}
 (hn:out.nw≠none→g n=none)(h:(Dr P t a b n).run g=some (out,l)):Fits P B w₀ ρ g n out ((do let v ←at7 t a' b';pure (aqs v):Sem ark).run P w):=by
 unfold Dr at h
 split at h
 ·rename_i el i c hu hi hc
  obtain⟨ki,rfl⟩:=pu hi
  obtain⟨kc,rfl⟩:=pu hc
  rw[ha.jL,hb.jL]
  split at h
  ·rename_i size z bytes hs hz qo
   split at h
   ·rename_i gy
    simp only[apt]at gy
    obtain⟨⟨⟨⟨hf,h1⟩,h2⟩,h3⟩,h4⟩:=gy
    have h1:=apL h1
    have h2:=apL h2
    have h3:=apL h3
    have h4:=apz h4
    obtain rfl:=tp h
    replace hn:=hn (by simp)
    have U3:∃inf,P.info? el=some inf∧inf.bytes=bytes:=by
     cases oC:P.info? el with
     |none=>rw[oC]at qo;cases qo
     |some inf=>rw[oC]at qo;cases qo;exact⟨inf,rfl,rfl⟩
    obtain⟨inf,oC,rfl⟩:=U3
    have wi:apr.wrap (i:Int)=i:=avc _ (by omega)
    have wc:apr.wrap (c:Int)=c:=avc _ (by omega)
    have U4:inf.bytes*c≤1000000000000:=Nat.mul_le_mul h3 h2
    have ka:(at7 t (.int ki i) (.int kc c)).run P w=.ok (.slice (some ⟨w.heap.size,0,none⟩) i c) (w.alloc (.cells (e8 z.cells.toList c).toArray el)):=by
     unfold at7
     rw[apg,run_underlying hu,apf]
     dsimp only
     rw[apg,KE,apf,apg,KE,apf]
     simp only[typeInfo,apg,arl,apf,oC,apY,wi,wc]
     have hp:(inf.bytes:Int)*(c:Int)≤1000000000000:=by rw[←Int.natCast_mul];omega
     generalize hq:(inf.bytes:Int)*(c:Int)=q at hp⊢
     have rE:(decide ((c:Int)<0)||decide (q>2^48))=false:=by
      rw[atc,decide_eq_false_iff_not,decide_eq_false_iff_not]
      exact⟨by omega,by omega⟩
     have iU:decide ((i:Int)<0)=false:=decide_eq_false_iff_not.2 (by omega)
     have U5:decide ((i:Int)>(c:Int))=false:=decide_eq_false_iff_not.2 (by omega)
     have U6:¬(((decide ((c:Int)<0)||decide (q>2^48))=true∨(i:Int)<0)∨(i:Int)>(c:Int)):=by
      rw[rE];rintro((h|h)|h)
      ·cases h
      ·omega
      ·omega
     rw[if_neg (by first|exact U6|(simp only[Bool.or_eq_true,decide_eq_true_eq];omega))]
     have hlen:(e8 z.cells.toList c).toArray=(atE (c*size)).map fun i=>z.cells[i%z.cells.size]! :=by rw[←h4];exact(D2 z c).symm
     simp only[run_askRoom,apf,arI,apg,run_sizeOf hs]
     by_cases h0:c*size=0
     ·simp only[h0,if_true,apY,apf,vb]
      rw[hlen,h0]
      have e:∀f:Nat→ape,avh f (atE 0)= #[]:=fun f=>by apply aq8;simp
      rw[e]
      first|rfl|(rw[e];rfl)|(simp only[e];rfl)|skip
     ·simp only[h0,if_false,apg,m6 hz,apY,apf,vb]
      rw[hlen]
    rw[apg,ka,apf]
    have hlen:(e8 z.cells.toList c).length=c*size:=by rw[zT,←h4];simp
    refine Fits.newRow hw hn (by simp) (by simpa using(xB hf).e8 c) fun ρ' h'=>?_
    simpa using VR.sl (ρ:=ρ') n 0 i c c _ h' (.inl rfl)
   ·cases h
  ·cases h
 ·cases h
end
end Go.Proofs.YtnlkkgpcikkpoaaGreat.Vm
namespace Go.Proofs.YtnlkkgpcikkpoaaGreat.Vm
open Go.RowKit
section
variable {P:apu} {B:Nat→Prop} {w₀:aps} {ρ:Ren} {g:Nat→Option ag} {n:Nat} {w:aps}
theorem KF(off:Nat):∀(vs:List ape) (k:Nat) (c:Array ape),
 (vs.zipIdx k).foldl (fun(cs:Array ape) (x:ape×Nat)=>cs.setIfInBounds (off+x.2) x.1) c=qk c (off+k) vs
 | [],k,c=>rfl
 |v::vs,k,c=>by
  rw[List.zipIdx_cons,List.foldl_cons,KF off vs (k+1)]
  rfl
theorem U7(off:Nat)(vs:Array ape)(c:Array ape):
 vs.zipIdx.foldl (fun(cs:Array ape) (x:ape×Nat)=>cs.setIfInBounds (off+x.2) x.1) c=qk c off vs.toList:=by
 rw[←Array.foldl_toList,Array.toList_zipIdx,KF]
 rfl
theorem LR.splice{c:List ape}{c':Array ape}(h:LR ρ c c'.toList){vs jM:List ape}(hv:LR ρ vs jM){off:Nat}(hle:off+vs.length≤c.length):
 LR ρ (a8 c off vs) (qk c' off jM).toList:=by
 have hl:=h.len
 have D3:=hv.len
 refine⟨by rw[oB hle];simpa[DN]using hl,fun i v v' h1 h2=>?_⟩
 rw[DU hle]at h1
 rw[Array.getElem?_toList,zM _ _ _ _ (by simp at hl;omega)]at h2
 by_cases fk:off≤i∧i<off+vs.length
 ·rw[if_pos fk]at h1
  rw[if_pos (by omega)]at h2
  exact hv.at_ _ _ _ h1 h2
 ·rw[if_neg fk]at h1
  rw[if_neg (by omega)]at h2
  exact h.at_ i v v' h1 (by simpa using h2)
inductive PR(ρ:Ren):List (Nat×ape)→List (Nat×ape)→Prop where
 |nil:PR ρ [] []
 |cons (i:Nat) (v v':ape) (l l':List (Nat×ape)) (h:VR ρ v v') (hl:PR ρ l l'):PR ρ ((i,v)::l) ((i,v')::l')
theorem PR.map{e e':aqM→ape}:∀(l:List (Nat×aqM)),(∀x∈l,VR ρ (e x.2) (e' x.2))→PR ρ (l.map fun x=>(x.1,e x.2)) (l.map fun x=>(x.1,e' x.2))
 | [],_=>.nil
 |(i,x)::l,h=>.cons _ _ _ _ _ (h (i,x) (by simp)) (PR.map l fun y hy=>h y (by simp[hy]))
theorem D4{pl:Nat→Option (Nat×Nat)}:∀{parts m9:List (Nat×ape)},PR ρ parts m9→∀{c:List ape} {c':Array ape} {out:List ape},LR ρ c c'.toList→
 tc pl c parts=some out→∃qp,au2 pl c' m9=some qp∧LR ρ out qp.toList:=by
 intro parts m9 hp
 induction hp with
 |nil=>intro c c' out hc h;simp[tc]at h;subst h;exact⟨c',rfl,hc⟩
 |cons i v v' l l' hv hl ih=>
  intro c c' out hc h
  unfold tc at h
  unfold au2
  cases pv:pl i with
  |none=>rw[pv]at h;cases h
  |some p=>
   obtain⟨off,k⟩:=p
   rw[pv]at h
   simp only[]at h⊢
   split at h
   ·rename_i gy
    simp only[apt]at gy
    obtain⟨h1,h2⟩:=gy
    have h1:=apz h1
    have h2:=apL h2
    have hs:=hv.cells.DQ
    have eN:=hc.len
    simp only[Array.length_toList]at eN
    rw[if_neg (by simp;omega)]
    have:=U7 off v'.cells c'
    rw[this]
    exact ih (hc.splice hv.cells (by simp;omega)) h
   ·cases h
theorem run_places{fs:List asI}:∀{ps:List (Nat×Nat)},uS P fs=some ps→(fs.mapM (m:=Sem) fun f=>do pure (f.offset,←sizeOf f.type)).run P w=.ok ps w:=by
 induction fs with
 |nil=>intro ps h;simp[uS]at h;subst h;rfl
 |cons f fs ih=>
  intro ps h
  unfold uS at h
  split at h
  ·rename_i k r hk hr
   cases h
   rw[List.mapM_cons,apg,apg,run_sizeOf hk,apf,apY,apf,apg,ih hr,apf]
   rfl
  ·cases h
theorem U8{fs:Array asI}{ps:List (Nat×Nat)}(h:uS P fs.toList=some ps):(fs.mapM (m:=Sem) fun f=>do pure (f.offset,←sizeOf f.type)).run P w=.ok ps.toArray w:=by
 rw[Array.mapM_eq_mapM_toList,Sem.run_map,run_places h]
 rfl
theorem U9(hw:WR P B w₀ ρ g w){t:apq}{parts:List (Nat×ape)}{m9:Array (Nat×ape)}(hp:PR ρ parts m9.toList){out:bi}{l:List Nat}
 (h:(Di P t parts).run g=some (out,l)):Fits P B w₀ ρ g n out ((do let v ←atF t m9;pure (aqs v):Sem ark).run P w):=by
 unfold Di at h
 split at h
 ·rename_i z fs hz hu
  split at h
  ·rename_i ps jN hf
   split at h
   ·rename_i cs xC
    have Va:LR ρ z.cells.toList z.cells.toList:=xB hf
    obtain⟨qp,h1,h2⟩:=D4 hp Va xC
    have:(atF t m9).run P w=.ok (.agg qp) w:=by
     unfold atF
     rw[apg,m6 hz,apf]
     dsimp only
     rw[apg,run_underlying hu,apf]
     dsimp only
     rw[apg,U8 jN,apf]
     have tq:au2 (fun x=>ps.toArray[x]?) z.cells m9.toList=some qp:=by
      have:(fun i:Nat=>ps.toArray[i]?)=(fun i:Nat=>ps[i]?):=by funext i;simp
      rw[this];exact h1
     rw[tq]
     rfl
    rw[apg,this]
    exact Fits.dE hw h (.xp (by simpa using h2))
   ·cases h
  ·cases h
 ·rename_i z k el hz hu
  split at h
  ·rename_i size hs hf
   split at h
   ·rename_i cs xC
    obtain⟨qp,h1,h2⟩:=D4 hp (xB hf) xC
    have:(atF t m9).run P w=.ok (.agg qp) w:=by
     unfold atF
     rw[apg,m6 hz,apf]
     dsimp only
     rw[apg,run_underlying hu,apf]
     dsimp only
     rw[apg,run_sizeOf hs,apf,h1]
     rfl
    rw[apg,this]
    exact Fits.dE hw h (.xp (by simpa using h2))
   ·cases h
  ·cases h
 ·cases h
theorem Vb(hw:WR P B w₀ ρ g w){t:apq}{len:Nat}{parts:List (Nat×ape)}{m9:Array (Nat×ape)}(hp:PR ρ parts m9.toList){out:bi}{l:List Nat}
 (hn:out.nw≠none→g n=none)(h:(Dj P t len parts n).run g=some (out,l)):Fits P B w₀ ρ g n out ((do let v ←atU t len m9;pure (aqs v):Sem ark).run P w):=by
 unfold Dj at h
 split at h
 ·rename_i el hu
  split at h
  ·rename_i size z hs hz
   split at h
   ·rename_i gy
    simp only[apt]at gy
    obtain⟨⟨hf,h1⟩,h2⟩:=gy
    have h1:=apL h1
    have h2:=apz h2
    split at h
    ·rename_i cs xC
     obtain rfl:=tp h
     replace hn:=hn (by simp)
     have xA:LR ρ (e8 z.cells.toList len) ((e8 z.cells.toList len).toArray).toList:=by simpa using(xB hf).e8 len
     obtain⟨qp,h3,h4⟩:=D4 hp xA xC
     have hzero:(e8 z.cells.toList len).toArray=(atE (len*size)).map fun i=>z.cells[i%z.cells.size]! :=by rw[←h2];exact(D2 z len).symm
     have ka:(atU t len m9).run P w=.ok (.slice (some ⟨w.heap.size,0,none⟩) len len) (w.alloc (.cells qp el)):=by
      unfold atU
      rw[apg,run_underlying hu,apf]
      dsimp only
      rw[apg,run_sizeOf hs,apf,if_neg (by omega)]
      by_cases h0:len*size=0
      ·have e:∀f:Nat→ape,avh f (atE 0)= #[]:=fun f=>by apply aq8;simp
       have e2:(e8 z.cells.toList len).toArray= #[]:=by rw[hzero,h0,e]
       rw[e2]at h3
       simp only[h0,if_true,apg,apY,apf,e,h3,vb]
      ·rw[hzero]at h3
       simp only[h0,if_false,apg,m6 hz,apY,apf,h3,vb]
     rw[apg,ka,apf]
     have tu:=h4.len
     refine Fits.newRow hw hn (by simpa using tu) h4 fun ρ' h'=>?_
     simpa using VR.sl (ρ:=ρ') n 0 len len len _ h' (.inl rfl)
    ·cases h
   ·cases h
  ·cases h
 ·cases h
theorem zU{k:IntKind}{i m:Nat}(code:BoundsCode)(h:i≤m):(ass (.int k i) m code).run P w=.ok i w:=by
 unfold ass
 simp only[asIntOf,apg,apY,apf]
 rw[if_pos ⟨by omega,by omega⟩]
 simp
theorem D5{isSlice:Bool}{len cap l h:Nat}{lo hi:Option ape}(na:og 0 lo=some l)(pw:og len hi=some h)(h1:l≤h)(h2:h≤cap):
 (auQ isSlice len cap lo hi none).run P w=.ok (l,h,cap) w:=by
 unfold auQ
 cases hi with
 |none=>
  simp only[og,api]at pw
  subst pw
  cases lo with
  |none=>
   simp only[og,api]at na
   subst na
   simp
  |some v=>
   obtain⟨k,rfl⟩:=pu na
   simp only[apg,apY,apf,auF,aqi,if_false,zU _ h1]
 |some u=>
  obtain⟨ku,rfl⟩:=pu pw
  cases lo with
  |none=>
   simp only[og,api]at na
   subst na
   simp only[apg,apY,apf,zU _ h2]
  |some v=>
   obtain⟨k,rfl⟩:=pu na
   simp only[apg,apY,apf,auF,aqi,if_false,zU _ h1,zU _ h2]
theorem zV{d m:Nat}{o o':Option ape}(hr:∀v,o=some v→∃v',o'=some v'∧VR ρ v v')(xz:o=none→o'=none)(h:og d o=some m):o'=o:=by
 cases o with
 |none=>exact xz rfl
 |some v=>
  obtain⟨v',rfl,hv⟩:=hr v rfl
  obtain⟨k,rfl⟩:=pu h
  rw[hv.jL]
theorem D6{o o':Option ape}(hr:∀v,o=some v→∃v',o'=some v'∧VR ρ v v')(xz:o=none→o'=none)(h:o.all fl=true):o'=o:=by
 cases o with
 |none=>exact xz rfl
 |some v=>
  obtain⟨v',rfl,hv⟩:=hr v rfl
  rw[mX (by simpa using h) hv]
structure qq(ρ:Ren)(o o':Option ape):Prop where
 some_:∀v,o=some v→∃v',o'=some v'∧VR ρ v v'
 none_:o=none→o'=none
theorem qq.map{e e':aqM→ape}(x:Option aqM)(h:∀y,x=some y→VR ρ (e y) (e' y)):qq ρ (x.map e) (x.map e'):=by
 cases x with
 |none=>exact⟨by simp,by simp⟩
 |some y=>exact⟨fun v hv=>by simp at hv;subst hv;exact⟨_,rfl,h y rfl⟩,by simp⟩
theorem Vc(hw:WR P B w₀ ρ g w){t:apq}{x x':ape}(hx:VR ρ x x'){lo KG hi fj mx KH:Option ape}(na:qq ρ lo KG)(pw:qq ρ hi fj)(zW:qq ρ mx KH)
 {out:bi}{l:List Nat}(h:(rq P t x lo hi mx).run g=some (out,l)):Fits P B w₀ ρ g n out ((do let v ←arr t x' KG fj KH;pure (aqs v):Sem ark).run P w):=by
 unfold rq at h
 split at h
 ·rename_i hf
  split at h
  ·rename_i fP
   simp only[apt]at fP
   rw[mX hf hx,D6 na.some_ na.none_ fP.1.1,D6 pw.some_ pw.none_ fP.1.2,D6 zW.some_ zW.none_ fP.2]
   exact oA hw h
  ·cases h
 ·split at h
  ·rename_i el b off len cap hu _
   rw[zW.none_ rfl]
   split at h
   ·rename_i i j size fj kH hs
    rw[zV na.some_ na.none_ fj,zV pw.some_ pw.none_ kH]
    split at h
    ·rename_i gy
     simp only[apt]at gy
     have h1:=apL gy.1
     have h2:=apL gy.2
     obtain⟨o,l',hb,hk,rfl⟩:=Rd.run_read h
     split at hk
     ·rename_i c eb ro
      split at hk
      ·rename_i sb D7
       split at hk
       ·rename_i hle
        have hle:=apL hle
        have Vd:(i=0→j=0→(arr t (.slice none len 0) lo hi none).run P w=.ok (.slice none 0 0) w):=by
         intro vc tw
         subst vc tw
         unfold arr
         rw[apg,run_underlying hu,apf]
         dsimp only
         unfold auV
         rw[apg,run_underlying hu,apf]
         dsimp only
         rw[apg,D5 fj kH h1 (apI _),apf]
         dsimp only
         try rw[apg,run_sizeOf hs,apf]
         try rfl
        have key:∀(a:arE) (bw:Nat),j≤bw→(arr t (.slice (some a) len bw) lo hi none).run P w=.ok (.slice (if bw=i then some a else some (a.add (i*size))) (j-i) (bw-i)) w:=by
         intro a bw gY
         unfold arr
         rw[apg,run_underlying hu,apf]
         dsimp only
         unfold auV
         rw[apg,run_underlying hu,apf]
         dsimp only
         rw[apg,D5 fj kH h1 gY,apf]
         dsimp only
         rw[apg,run_sizeOf hs,apf]
         rfl
        cases hx with
        |bG _ h=>cases h
        |eh _ a'=>
         have vc:i=0:=by omega
         have tw:j=0:=by omega
         cases a' with
         |none=>
          rw[apg,Vd vc tw,apf]
          subst vc tw
          refine Fits.dE hw hk ?_
          simpa using VR.eh (ρ:=ρ) ⟨b,off+0*size,none⟩ none
         |some a'=>
          rw[apg,key a' 0 h2,apf]
          subst vc tw
          refine Fits.dE hw hk ?_
          simpa using VR.eh (ρ:=ρ) ⟨b,off+0*size,none⟩ (some a')
        |sl _ _ _ _ bw r hr hc=>
         have jr:cap≤bw:=by rcases hc with hc|hc<;>omega
         rw[apg,key _ bw (by omega),apf]
         refine Fits.dE hw hk ?_
         by_cases KI:bw=i
         ·rw[if_pos KI]
          have e1:j-i=0:=by omega
          have e2:cap-i=0:=by omega
          have e3:bw-i=0:=by omega
          rw[e1,e2,e3]
          exact .eh _ _
         ·rw[if_neg KI,pr,arf]
          refine .sl _ _ _ _ _ r hr ?_
          rcases hc with hc|⟨rE,iU⟩
          ·left;omega
          ·right
           refine⟨by omega,?_⟩
           have cf:r.sz=sb:=Kr hw hb hr sb D7
           rw[cf]at iU⊢
           have:i*size+(bw-i)*sb≤bw*sb:=by
            have h3:i*size≤i*sb:=Nat.mul_le_mul_left _ hle
            have h4:i*sb+(bw-i)*sb=bw*sb:=by rw[←Nat.add_mul];congr 1;omega
            omega
           omega
       ·cases hk
      ·cases hk
     ·cases hk
    ·cases h
   ·cases h
  ·rename_i k el b off hu _
   rw[zW.none_ rfl]
   obtain⟨r,hr,rfl⟩:=hx.kE
   split at h
   ·rename_i i j size fj kH hs
    rw[zV na.some_ na.none_ fj,zV pw.some_ pw.none_ kH]
    split at h
    ·rename_i gy
     simp only[apt]at gy
     have h1:=apL gy.1
     have h2:=apL gy.2
     have key:(arr t (.pointer (some ⟨r.aI,r.sh+off,none⟩)) lo hi none).run P w=.ok (.slice (some (if k=i then⟨r.aI,r.sh+off,none⟩else(⟨r.aI,r.sh+off,none⟩:arE).add (i*size))) (j-i) (k-i)) w:=by
      unfold arr
      rw[apg,run_underlying hu,apf]
      dsimp only
      simp only[ar7,apg,apY,apf,D5 fj kH h1 h2,run_sizeOf hs]
     rw[apg,key,apf]
     refine Fits.dE hw h ?_
     by_cases D8:k=i
     ·subst D8
      have e:apw k k=true:=Nat.beq_refl k
      simp only[e,if_true,Nat.add_zero]
      exact .sl _ _ _ _ _ r hr (.inl rfl)
     ·have e:apw k i=false:=by
       cases hb:apw k i with
       |false=>rfl
       |true=>exact absurd (apz hb) D8
      simp only[e,aqi,if_false,D8,pr,arf]
      exact .sl _ _ _ _ _ r hr (.inl rfl)
    ·cases h
   ·cases h
  ·cases h
end
end Go.Proofs.YtnlkkgpcikkpoaaGreat.Vm
namespace Go.Proofs.YtnlkkgpcikkpoaaGreat.Vm
open Go.RowKit
section
variable {P:apu} {B:Nat→Prop} {w₀:aps} {ρ:Ren} {g:Nat→Option ag} {w:aps}
theorem WR.xD(h:WR P B w₀ ρ g w){n:Nat}(hn:g n=none){o:ag}{r:bN}(hl:Live o r=false)
 (DK:∀m size row,o=.rows m size row→0<m→mY P w₀ B r m size row)(qj:∀el ro,o=.cells [] el ro→∀k,bR P el=some k→r.sz=k)(DJ:∀d,o≠ .abs d:=by intro d e;cases e):WR P B w₀ (ρ.put n r) (cJ g n o) w:=
 h.put hn (fun y hy=>.inl (dV _ hy)) (e9 _ _ _) (gu.refl B w) (apI _) (fun y oy ry _ _ h1 h2 h3=>rfl) (fun e=>by rw[hl]at e;cases e) (fun e=>by rw[hl]at e;cases e) (fun k _ _ _=>⟨rfl,fun e=>by rw[hl]at e;cases e⟩) DJ DK qj
theorem WR.KJ(h:WR P B w₀ ρ g w){n:Nat}(hn:g n=none){c:List ape}{el:apq}{r:bN}(hz:∀k,bR P el=some k→r.sz=k)
 (hc:c≠[]∨r.dy≠0→B r.aI∧∃(c':Array ape) (bU:apq) (fr:Nat×Nat),w.heap[r.aI]?=some (.cells c' bU fr)∧c'.size=r.dy∧r.sh+c.length≤r.dy∧
  ∀(i:Nat) (v:ape),c[i]?=some v→∃v',c'[r.sh+i]?=some v'∧VR (ρ.put n r) v v'):WR P B w₀ (ρ.put n r) (cJ g n (.cells c el true)) w:=by
 have lJ:Live (.cells c el true) r=true→B r.aI∧∃(c':Array ape) (bU:apq) (fr:Nat×Nat),w.heap[r.aI]?=some (.cells c' bU fr)∧c'.size=r.dy∧r.sh+c.length≤r.dy∧
  ∀(i:Nat) (v:ape),c[i]?=some v→∃v',c'[r.sh+i]?=some v'∧VR (ρ.put n r) v v':=fun hl=>by
  refine hc ?_
  by_cases bk:c=[]
  ·right
   intro e
   subst bk
   simp[Live,e]at hl
  ·exact .inl bk
 refine h.put hn (fun y hy=>.inl (dV _ hy)) (e9 _ _ _) (gu.refl B w) (apI _) (fun y oy ry _ _ h1 h2 h3=>rfl) (fun hl=>?_) (fun hl y oy ry e h0 h1 h2 h3 hd e'=>?_) (fun k _ k2 _=>⟨rfl,fun hl e=>k2 (e▸(lJ hl).1)⟩) (fun d e=>by cases e) (fun m s q e=>by cases e) (fun bU ro e=>by cases e;exact hz)
 ·obtain⟨hB,c',bU,fr,hb,hp,hs,jr⟩:=lJ hl
  exact⟨_,hb,.cells c el bU true c' fr hp hs (fun e=>by cases e) hz (fun e=>by cases e) jr,fun e=>by cases e⟩
 ·obtain⟨hB,_⟩:=lJ hl
  obtain⟨_,_,_,h6⟩:=h.live y oy ry h1 h2 h3
  rcases hd with hd|hd
  ·exact h6 hd (e'▸hB)
  ·cases hd
def iV(g:Nat→Option ag):Nat→List ag→Nat→Option ag
 |_,[]=>g
 |k,o::l=>iV (cJ g k o) (k+1) l
theorem KK(g:Nat→Option ag):∀(k:Nat) (l l':List ag),iV g k (l++l')=iV (iV g k l) (k+l.length) l'
 |k,[],l'=>rfl
 |k,o::l,l'=>by
  show iV (cJ g k o) (k+1) (l++l')=_
  rw[KK]
  simp only[ap1]
  rw[show k+1+l.length=k+(l.length+1)by omega]
  rfl
theorem zX{k x:Nat}{l:List ag}{g:Nat→Option ag}(h:x<k∨k+l.length≤x):iV g k l x=g x:=by
 induction l generalizing k g with
 |nil=>rfl
 |cons o l ih=>
  show iV (cJ g k o) (k+1) l x=_
  rw[ih (by simp only[ap1]at h;omega),dV _ (by simp only[ap1]at h;omega)]
theorem rF:∀l:List SV,(gH l).length=kY l
 | []=>rfl
 | .val _::l=>rF l
 | .cells _ _ _::l=>by show(gH l).length+1=_;rw[rF l];rfl
 | .rows _ _ _::l=>by show(gH l).length+1=_;rw[rF l];rfl
structure gz(P:apu)(w₀:aps)(B:Nat→Prop)(l:List SV)(l':List ape):Prop where
 len:l.length=l'.length
 at_:∀(i:Nat) (s:SV) (v:ape),l[i]?=some s→l'[i]?=some v→SR P w₀ B s v
theorem gz.tail{s:SV}{v:ape}{l:List SV}{l':List ape}(h:gz P w₀ B (s::l) (v::l')):gz P w₀ B l l':=
 ⟨by simpa using h.len,fun i a b h1 h2=>h.at_ (i+1) a b (by simpa using h1) (by simpa using h2)⟩
theorem SR.Ve{n:Nat}{c:List ape}{el:apq}{v:ape}(h:SR P w₀ B (.cells n c el) v)(hb:gu B w₀ w):
 ∃r:bN,(∀k,bR P el=some k→r.sz=k)∧(∀(ρ:Ren) (x:Nat),ρ x=some r→VR ρ (.slice (some ⟨x,0,none⟩) n n) v)∧
  (c≠[]∨r.dy≠0→B r.aI∧∃(c':Array ape) (bU:apq) (fr:Nat×Nat),w.heap[r.aI]?=some (.cells c' bU fr)∧c'.size=r.dy∧r.sh+c.length≤r.dy∧
   ∀(ρ:Ren) (i:Nat) (v:ape),c[i]?=some v→∃v',c'[r.sh+i]?=some v'∧VR ρ v v'):=by
 cases h with
 |nil _ a=>exact⟨⟨0,0,(bR P el).getD 0,0⟩,fun k hk=>by simp[hk],fun ρ x _=>.eh _ _,fun hc=>by rcases hc with hc|hc<;>exact absurd rfl hc⟩
 |cells _ _ _ b off cap c' bU fr hB hJ hc hl hn gY=>
  refine⟨⟨b,off,(bR P el).getD 0,c'.size⟩,fun k hk=>by simp[hk],fun ρ x hx=>?_,fun _=>⟨hB,c',bU,fr,(hb.block b hB).trans hJ,rfl,hl,fun ρ i v hv=>?_⟩⟩
  ·refine .sl x 0 n n cap _ hx ?_
   right
   refine⟨hn,?_⟩
   dsimp only
   cases hs:bR P el with
   |none=>simp;omega
   |some s=>have:=gY s hs;simpa using this
  ·obtain⟨h1,h2⟩:=hc i v hv
   exact⟨v,h2,.bG v h1⟩
theorem SR.Vf{n size:Nat}{row:Nat→List SV}{v:ape}(h:SR P w₀ B (.rows n size row) v):
 ∃r:bN,(0<n→mY P w₀ B r n size row)∧(∀(ρ:Ren) (x:Nat),ρ x=some r→VR ρ (.slice (some ⟨x,0,none⟩) n n) v):=by
 cases h with
 |nE _ _ a=>exact⟨⟨0,0,0,0⟩,fun h=>absurd h (by omega),fun ρ x _=>.eh _ _⟩
 |rows _ _ _ b off cap c' bU fr hB hJ hl hn gY hlen u hu hr=>
  refine⟨⟨b,off,size,c'.size⟩,fun _=>⟨hB,rfl,c',bU,fr,hJ,rfl,hl,fun i hi=>⟨hlen i hi,fun k sv hk=>?_⟩⟩,fun ρ x hx=>.sl x 0 n n cap _ hx (.inr ⟨hn,gY⟩)⟩
  have vd:k<size:=by rw[←hlen i hi];exact(app.1 hk).1
  exact⟨_,hu i k hi vd,hr i k sv hi hk⟩
theorem xE:∀{l:List SV} {l':List ape} {k:Nat} {g:Nat→Option ag} {ρ:Ren},gz P w₀ B l l'→WR P B w₀ ρ g w→(∀j,j<kY l→g (k+j)=none)→
 ∃ρ',ρ.le ρ'∧WR P B w₀ ρ' (iV g k (gH l)) w∧LR ρ' (mo l k) l'
 | [],l',k,g,ρ,hs,hw,hf=>by
  have:l'=[]:=by have:=hs.len;exact aqf (by simpa using this.symm)
  subst this
  exact⟨ρ,Ren.le_refl ρ,hw,LR.nil ρ⟩
 |s::l,[],k,g,ρ,hs,hw,hf=>by have:=hs.len;simp at this
 | .val v::l,v'::l',k,g,ρ,hs,hw,hf=>by
  obtain⟨ρ',h1,h2,h3⟩:=xE (k:=k) hs.tail hw hf
  have h0:=hs.at_ 0 _ _ rfl rfl
  cases h0 with
  |val _ hv=>exact⟨ρ',h1,h2,LR.cons (.bG v hv) h3⟩
 | .cells n c el::l,v'::l',k,g,ρ,hs,hw,hf=>by
  obtain⟨r,h1,h2,h3⟩:=(hs.at_ 0 _ _ rfl rfl).Ve hw.below
  have hk:g k=none:=hf 0 (by simp[kY])
  have gZ:=hw.KJ hk h1 fun bk=>let⟨a,c',bU,fr,b1,b2,b3,b4⟩:=h3 bk;⟨a,c',bU,fr,b1,b2,b3,b4 _⟩
  obtain⟨ρ',h4,h5,h6⟩:=xE (k:=k+1) hs.tail gZ fun j hj=>by
   rw[dV _ (by omega),show k+1+j=k+(j+1)by omega]
   exact hf (j+1) (by simp only[kY];omega)
  exact⟨ρ',Ren.le_trans (Ren.j9 (hw.fresh k hk) r) h4,h5,LR.cons (h2 _ _ (h4 _ _ (Ren.kG _ _ _))) h6⟩
 | .rows n size row::l,v'::l',k,g,ρ,hs,hw,hf=>by
  obtain⟨r,h1,h2⟩:=(hs.at_ 0 _ _ rfl rfl).Vf
  have hk:g k=none:=hf 0 (by simp[kY])
  have gZ:=hw.xD hk (o:=.rows n size row) (r:=r) rfl (fun m s q e hm=>by cases e;exact h1 hm) (fun el tk e=>by cases e)
  obtain⟨ρ',h4,h5,h6⟩:=xE (k:=k+1) hs.tail gZ fun j hj=>by
   rw[dV _ (by omega),show k+1+j=k+(j+1)by omega]
   exact hf (j+1) (by simp only[kY];omega)
  exact⟨ρ',Ren.le_trans (Ren.j9 (hw.fresh k hk) r) h4,h5,LR.cons (h2 _ _ (h4 _ _ (Ren.kG _ _ _))) h6⟩
end
end Go.Proofs.YtnlkkgpcikkpoaaGreat.Vm
