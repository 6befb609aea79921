/- Part of the proof: Va. -/
import Derived.Orders
import Derived.Tactics2
import Derived.Laws.World
import Derived.Laws.Sem
import Derived.Below
import Derived.Test.YtnlkkgpcikkpoaaGreatJAa
import Derived.Laws.Cells
import Derived.Laws.BytesString
import Derived.Laws.BytesArg
import Derived.Laws.Slices
import Derived.IntWalk
open Array renaming ext'->atl,getElem?_modify->aud,getElem?_push->avN,map->axK,range->av0,replicate->atI,size_append->awc,size_map->axF,size_replicate->awQ,toList_extract->atf
open Bool renaming and_eq_true->BV,false_eq_true->asv,not_true->avm,or_eq_false_iff->auI,true_and->at2
open ForInStep renaming yield->aww
open Go renaming Addr->atU,Field->au3,FuncId->arY,MapEntry->arW,Next->atu,Oper->ast,Operand->asW,Program->arC,TypeDesc->avp,TypeId->KS,Value->Dy,World->arB,foldl_push_bytes->axp,run_bytesToString->axh,run_convert_bytes_string->aup,run_newObj->axr,run_program->atw
open Go.Conv renaming stringToBytes->av3
open Go.Instr renaming alloc->aya,box->ays,build->av1,buildSlice->awg,extract->awW,field->axm,fieldAt->awX,fill->axu,index->auR,indexAt->aug,loadAt->axU,makeInterface->avM,makeMap->axL,makeSlice->awx,panic->ax9,slice->axn,sliceAt->atE,sliceBound->auJ,sliceBounds->axi,storeAt->awV,sureAddr->aul,typeAssert->awf
open Go.IntKind renaming i64->Ul
open Go.IntWalk renaming i64_in->axG
open Go.Next renaming value->asE
open Go.Op renaming equal->aun,equalIn->at6
open Go.Question renaming appendCap->auY,cut->aw3
open Go.Region renaming binds->atJ
open Go.Result renaming andThen_ok->Dz
open Go.RowKit.Below renaming heap_alloc->at4
open Go.Sem renaming run->at5,run_bind->DA,run_pure->asa
open Go.Value renaming int->KJ,oneCell'->asr
open Go.World renaming alloc->ayb,freeze->axV,shape?->axW
open Int renaming toNat_natCast->atG
open List renaming all_eq_true->ar1,append_assoc->arI,eq_nil_of_length_eq_zero->ar5,ext_getElem?->auC,extract_eq_take_drop->as1,forIn_cons->axs,getElem?_append_left->asl,getElem?_append_right->asd,getElem?_drop->asH,getElem?_eq_getElem->KH,getElem?_eq_none->asC,getElem?_eq_some_iff->KP,getElem?_take->asL,isEmpty_iff->atN,length_cons->ar4,mem_of_getElem?->ar7,range'->avZ,take_of_length_le->asN
open Nat renaming add_assoc->atm,beq->arE,ble->arM,blt->arF,eq_of_beq_eq_true->arJ,land->awP,le_of_ble_eq_true->arU,le_of_eq->atA,le_refl->arO,lor->avw,lt_of_lt_of_le->atP,min->avR,one_ne_zero->axt,pow_succ->axS,shiftRight->au4,succ_mul->avC
open Option renaming isSome_none->aw4
open Option.some renaming injEq->DE
open Prod.mk renaming injEq->KN
open Std.Legacy renaming Range->ayw
open Std.Legacy.Range renaming forIn_eq_forIn_range'->aw1,size->ayk
open UInt8 renaming ofNat->zW
set_option linter.unusedVariables false
set_option linter.unusedSimpArgs false
set_option maxRecDepth 100000
namespace Go.Proofs.YtnlkkgpcikkpoaaGreat.Vm
inductive SV where
 |val (v:Dy)
 |cells (n:Nat) (c:List Dy) (elem:KS)
 |rows (n size:Nat) (row:Nat->List SV)
inductive ak where
 |cells (c:List Dy) (elem:KS) (ro:Bool)
 |map (es:List arW) (clock:Nat)
 |lK (s:ByteArray) (pos:Nat)
 |dead
 |rows (n size:Nat) (row:Nat->List SV)
 |abs (d:mm)
inductive Tr(α:Type) where
 |nil
 |node (l:Tr α) (v:Option α) (r:Tr α)
def Tr.get{α:Type}:Nat->Tr α->Nat->Option α
 |0,.node _ v _,_=>v
 |0,.nil,_=>none
 |_+1,.nil,_=>none
 |k+1,.node l _ r,n=>match arE (n%2) 0 with
  |true=>l.get k (n/2)
  |false=>r.get k (n/2)
def Tr.set{α:Type}:Nat->Tr α->Nat->α->Tr α
 |0,_,_,o=>.node .nil (some o) .nil
 |k+1,.nil,n,o=>match arE (n%2) 0 with
  |true=>.node (Tr.set k .nil (n/2) o) none .nil
  |false=>.node .nil none (Tr.set k .nil (n/2) o)
 |k+1,.node l v r,n,o=>match arE (n%2) 0 with
  |true=>.node (Tr.set k l (n/2) o) v r
  |false=>.node l v (Tr.set k r (n/2) o)
def small(n:Nat):Bool:=arF n 262144
def gt(t:Tr ak)(n:Nat):Option ak:=match small n with
 |true=>t.get 18 n
 |false=>none
structure VS where
 mem:Tr ak
 next:Nat
 rd:List Nat
 wr:List Nat
inductive Rd(α:Type) where
 |done (a:α)
 |fail
 |read (x:Nat) (k:ak->Rd α)
def Rd.run{α:Type}(g:Nat->Option ak):Rd α->Option (α×List Nat)
 | .done a=>some (a,[])
 | .fail=>none
 | .read x k=>match g x with
  |none=>none
  |some o=>match(k o).run g with
   |none=>none
   |some (a,l)=>some (a,x::l)
def Rd.bind{α β:Type}:Rd α->(α->Rd β)->Rd β
 | .done a,f=>f a
 | .fail,_=>.fail
 | .read x k,f=>.read x λo=>(k o).bind f
def gD{α:Type}:Option α->Rd α
 |some a=>.done a
 |none=>.fail
inductive kM where
 |val (v:Dy)
 |skip
 |enter (f:arY) (args:List Dy)
 |panic (v:Dy)
 |defer (d:Deferred)
structure bo where
 r:kM
 ws:List (Nat×ak)
 nw:Option ak
def flat:Nat->Dy->Bool
 |_,.bool _|_,.int _ _|_,.float _ _|_,.complex _ _ _|_,.string _|_,.pointer none|_,.map none|_,.chan none|_,.nilFunc|_,.nilIface=>true
 |_,.slice none 0 0=>true
 |_,.func (.func _) f c=>f.toList.isEmpty&&c.toList.isEmpty
 |d+1,.iface _ v=>flat d v
 |d+1,.agg cs=>cs.toList.all (flat d)
 |d+1,.tuple cs=>cs.toList.all (flat d)
 |_,_=>false
abbrev fl(v:Dy):Bool:=flat 6 v
def g9{α:Type}(P:arC):Sem α->Option (Except Dy α)
 | .pure a=>some (.ok a)
 | .program k=>g9 P (k P)
 | .mark _ k=>g9 P k
 | .halt (.panic v)=>some (.error v)
 |_=>none
structure Fr where
 t:Tr Dy
 n:Nat
 ds:List (arY×List Dy)
 base:List Deferred
def Fr.at(f:Fr)(i:Nat):Dy:=match arF i f.n with
 |true=>match f.t.get 10 i with
  |some v=>v
  |none=>undef
 |false=>undef
def Fr.set(f:Fr)(i:Nat)(v:Dy):Option Fr:=match f with
 |⟨t,n,ds,base⟩=>match arF i n with
  |true=>some ⟨t.set 10 i v,n,ds,base⟩
  |false=>none
theorem Fr.sd(f:Fr)(i:Nat)(v:Dy):f.set i v=match arF i f.n with
 |true=>some {f with t:=f.t.set 10 i v}
 |false=>none:=by cases f;rfl
def Fr.se:List Dy->Nat->Tr Dy->Tr Dy
 | [],_,t=>t
 |v::l,i,t=>Fr.se l (i+1) (t.set 10 i v)
def Fr.of(args:List Dy)(n:Nat):Option Fr:=match arM args.length n&&arM n 1024 with
 |true=>some ⟨Fr.se args 0 .nil,n,[],[]⟩
 |false=>none
def bU(t:Fr):asW->Dy
 | .tmp i=>t.at i
 | .const v=>v
 | .global g=>.pointer (some ⟨g,0,none⟩)
 | .func f=>.func (.func f) #[] #[]
def pU:asW->Bool
 | .global _=>false
 | .const v=>fl v
 |_=>true
section
variable (P:arC)
def bZ(t:KS):Option Nat:=(P.info? t).map (·.size)
def oZ(t:KS):Option Bool:=match P.underlying t with
 |some (.struct _)|some (.array _ _)=>some true
 |some _=>some false
 |none=>none
def val(v:Dy):Rd bo:=.done ⟨.val v,[],none⟩
def new(ob:ak)(v:Dy):Rd bo:=.done ⟨.val v,[],some ob⟩
def cut(c:List Dy)(off n:Nat):Option (List Dy):=match arM (off+n) c.length with
 |true=>some ((c.drop off).take n)
 |false=>none
def bc(c:List Dy)(off:Nat)(vs:List Dy):List Dy:=c.take off++vs++c.drop (off+vs.length)
def qM(t:KS)(b off:Nat):Rd Dy:=.read b λ
 | .cells c _ _=>match oZ P t with
  |some true=>match bZ P t with
   |some (n+1)=>match cut c off (n+1)with
    |some l=>.done (.agg l.toArray)
    |none=>.fail
   |_=>.fail
  |some false=>match c[off]?with
   |some v=>.done v
   |none=>.fail
  |none=>.fail
 |_=>.fail
def sg(size:Nat):Dy->Nat->Rd (List Dy)
 | .slice (some ⟨b,off,none⟩) _ _,n=>.read b λ
  | .cells c _ _=>gD (cut c off (n*size))
  |_=>.fail
 | .slice none _ _,_=>.done []
 | .string s,n=>.done ((s.data.toList.take n).map λb=>.int .u8 b.toNat)
 |_,_=>.fail
def bytesOf:List Dy->Option (List UInt8)
 | []=>some []
 | .int .u8 n::l=>match bytesOf l with
  |some r=>some (zW n.toNat::r)
  |none=>none
 |_::_=>none
def tM(size:Nat->Option (Nat×Nat))(cells:List Dy):List (Nat×Dy)->Option (List Dy)
 | []=>some cells
 |(i,v)::rest=>match size i with
  |none=>none
  |some (off,n)=>match arE v.cells.size n&&arM (off+n) cells.length with
   |true=>tM size (bc cells off v.cells.toList) rest
   |false=>none
def vC(P:arC):List au3->Option (List (Nat×Nat))
 | []=>some []
 |f::l=>match bZ P f.type,vC P l with
  |some n,some r=>some ((f.offset,n)::r)
  |_,_=>none
def fA(zero:List Dy):Nat->List Dy
 |0=>[]
 |n+1=>zero++fA zero n
def zeroOf(t:KS):Option Dy:=(P.info? t).bind (·.zero)
def si:Dy->Option Nat
 | .slice _ n _=>some n
 | .string s=>some s.size
 |_=>none
def pV:Dy->Option Nat
 | .int _ (.ofNat n)=>some n
 |_=>none
def o7(d:Nat):Option Dy->Option Nat
 |none=>some d
 |some v=>pV v
def vD(elem:KS)(size len k:Nat)(base:Option atU)(xs:List Dy)(n:Nat):Rd bo:=match base with
 |none=>match len with
  |0=>.done ⟨.val (.slice (some ⟨n,0,none⟩) k k),[],some (.cells xs elem false)⟩
  |_=>.fail
 |some ⟨b,off,none⟩=>.read b λ
  | .cells c el false=>match arE (off+len*size) c.length&&arE el elem with
   |true=>.done ⟨.val (.slice (some ⟨n,0,none⟩) (len+k) (len+k)),[(b,.dead)],some (.cells (c.drop off++xs) elem false)⟩
   |false=>.fail
  |_=>.fail
 |_=>.fail
def xK(size len cap k:Nat)(base:Option atU)(xs:List Dy):Rd bo:=match base with
 |some ⟨b,off,none⟩=>.read b λ
  | .cells c el false=>match arM (len+k) cap&&arM (off+len*size+xs.length) c.length with
   |true=>.done ⟨.val (.slice (some ⟨b,off,none⟩) (len+k) cap),[(b,.cells (bc c (off+len*size) xs) el false)],none⟩
   |false=>.fail
  |_=>.fail
 |_=>.fail
def full(len cap:Nat):Bool:=match cap with
 |0=>true
 |c+1=>arM (c+1) len
def isInt:avp->Bool
 | .int _=>true
 |_=>false
def xL(argTypes:List KS)(args:List Dy)(n:Nat):Rd bo:=
 match argTypes,args with
 |sT::xT::_,.slice base len cap::x::_=>match P.underlying sT,P.underlying xT with
  |some (.slice elem),some xd=>match bZ P elem,si x,zeroOf P elem,(P.info? elem).map (·.bytes)with
   |some size,some k,some z,some bytes=>match !isInt xd&&arM bytes 1000000&&arE z.cells.size size&&arF 0 size with
    |false=>.fail
    |true=>(sg size x k).bind λxs=>match arM (len+k) 1000000&&xs.all asr&&arE xs.length (k*size)with
     |false=>.fail
     |true=>match full len cap with
      |true=>vD elem size len k base xs n
      |false=>xK size len cap k base xs
   |_,_,_,_=>.fail
  |_,_=>.fail
 |_,_=>.fail
def copyV(argTypes:List KS)(args:List Dy):Rd bo:=
 match argTypes,args with
 |dT::_,.slice base len _::x::_=>match P.underlying dT with
  |some (.slice elem)=>match bZ P elem,si x with
   |some size,some k=>(sg size x (avR k len)).bind λxs=>
    match base with
    |none=>val (.int .i64 (avR k len))
    |some ⟨b,off,none⟩=>.read b λ
     | .cells c el false=>match arM (off+xs.length) c.length&&xs.all asr with
      |true=>.done ⟨.val (.int .i64 (avR k len)),[(b,.cells (bc c off xs) el false)],none⟩
      |false=>.fail
     |_=>.fail
    |_=>.fail
   |_,_=>.fail
  |_=>.fail
 |_,_=>.fail
def fG(k:Dy):List arW->Nat->Option (Option (Nat×Dy))
 | [],_=>some none
 |e::es,i=>match k,e.key with
  | .int a x,.int b y=>match a==b with
   |true=>if x==y then some (some (i,e.val))else fG k es (i+1)
   |false=>none
  | .string x,.string y=>if x==y then some (some (i,e.val))else fG k es (i+1)
  |_,_=>none
def pW(P:arC)(t:KS)(k:Dy):Bool:=match P.underlying t,k with
 |some (.int _),.int _ _=>true
 |some .string,.string _=>true
 |_,_=>false
def D9(t:KS)(x k:Dy)(ok:Bool):Rd bo:=
 match P.underlying t with
 |some (.map kt et)=>match pW P kt k,zeroOf P et with
  |true,some z=>
   let tell (r:Option (Nat×Dy)):Rd bo:=match r with
    |some (_,v)=>val (if ok then .tuple #[v,.bool true]else v)
    |none=>val (if ok then .tuple #[z,.bool false]else z)
   match x with
   | .map none=>match fl z with
    |true=>tell none
    |false=>.fail
   | .map (some r)=>.read r λ
    | .map es _=>match fG k es 0,fl z with
     |some f,true=>tell f
     |_,_=>.fail
    |_=>.fail
   |_=>.fail
  |_,_=>.fail
 |_=>.fail
def xM(t:KS)(x k v:Dy):Rd bo:=
 match P.underlying t with
 |some (.map kt _)=>match pW P kt k,x with
  |true,.map (some r)=>.read r λ
   | .map es clock=>match fG k es 0 with
    |some (some (i,_))=>.done ⟨.skip,[(r,.map (es.modify i λe=>{e with key:=k,val:=v}) clock)],none⟩
    |some none=>.done ⟨.skip,[(r,.map (es++[{key:=k,val:=v,born:=clock}]) (clock+1))],none⟩
    |none=>.fail
   |_=>.fail
  |_,_=>.fail
 |_=>.fail
def xN(argTypes:List KS)(args:List Dy):Rd bo:=
 match argTypes,args with
 |t::_,.map (some r)::k::_=>match P.underlying t with
  |some (.map kt _)=>match pW P kt k with
   |true=>.read r λ
    | .map es clock=>match fG k es 0 with
     |some (some (i,_))=>.done ⟨.val (.tuple #[]),[(r,.map (es.eraseIdx i) clock)],none⟩
     |some none=>.done ⟨.val (.tuple #[]),[(r,.map es clock)],none⟩
     |none=>.fail
    |_=>.fail
   |false=>.fail
  |_=>.fail
 |_,_=>.fail
def Ea(argTypes:List KS)(args:List Dy):Rd bo:=
 match argTypes,args with
 |t::_,x::_=>match P.underlying t,x with
  |some (.slice _),.slice _ n _=>val (.int .i64 n)
  |some (.map _ _),.map none=>val (.int .i64 0)
  |some (.map _ _),.map (some r)=>.read r λ
   | .map es _=>val (.int .i64 es.length)
   |_=>.fail
  |some (.array n _),_=>val (.int .i64 n)
  |some (.pointer a),_=>match P.underlying a with
   |some (.array n _)=>val (.int .i64 n)
   |_=>.fail
  |_,_=>.fail
 |_,_=>.fail
inductive Pl where
 |val (v:Dy)
 |var (b off:Nat)
def xO(s:KS)(i:Nat):Option (Nat×KS×Nat):=match P.underlying s with
 |some (.struct fs)=>match fs[i]?with
  |some f=>match bZ P f.type with
   |some (n+1)=>some (f.offset,f.type,n+1)
   |_=>none
  |none=>none
 |_=>none
def z6(t:KS):Pl->Rd Dy
 | .val v=>.done v
 | .var b o=>qM P t b o
def vE:List FieldStep->KS->Pl->Rd (KS×Pl)
 | [],t,x=>.done (t,x)
 |s::rest,t,x=>match xO P s.struct s.index with
  |none=>.fail
  |some (off,ft,n)=>match s.deref with
   |true=>(z6 P t x).bind λ
    | .pointer (some ⟨b,o,none⟩)=>vE rest ft (.var b (o+off))
    |_=>.fail
   |false=>match x with
    | .var b o=>vE rest ft (.var b (o+off))
    | .val _=>.fail
def Eb(t:KS)(x:Pl)(ptr:Bool):Rd Dy:=match P.underlying t,ptr,x with
 |some (.pointer _),true,.val v=>.done v
 |some (.pointer _),true,.var b o=>qM P t b o
 |some (.pointer e),false,.val (.pointer (some ⟨b,o,none⟩))=>qM P e b o
 |some (.pointer _),false,_=>.fail
 |some _,true,.var b o=>.done (.pointer (some ⟨b,o,none⟩))
 |some _,false,.val v=>.done v
 |some _,false,.var b o=>qM P t b o
 |_,_,_=>.fail
def z7:Nat->KS->Dy->String->Rd (arY×Dy)
 |0,_,_,_=>.fail
 |d+1,t,v,name=>match(P.info? t).bind (·.methods.find? (·.name==name))with
  |none=>.fail
  |some m=>(vE P m.path.toList t (.val v)).bind λ(xt,x)=>match m.func with
   |none=>(z6 P xt x).bind λ
    | .iface t' v'=>z7 d t' v' name
    |_=>.fail
   |some (f,ptr)=>(Eb P xt x ptr).bind λr=>.done (f,r)
def z8:avp->Dy->Dy->Option Bool
 | .pointer _,.pointer none,.pointer (some _)=>some false
 | .pointer _,.pointer (some _),.pointer none=>some false
 | .slice _,.slice none _ _,.slice (some _) _ c=>match arF 0 c with
  |true=>some false
  |false=>none
 | .slice _,.slice (some _) _ c,.slice none _ _=>match arF 0 c with
  |true=>some false
  |false=>none
 | .map _ _,.map none,.map (some _)=>some false
 | .map _ _,.map (some _),.map none=>some false
 | .func _ _ _,.nilFunc,.func _ _ _=>some false
 | .func _ _ _,.func _ _ _,.nilFunc=>some false
 | .interface _,.nilIface,.iface _ _=>some false
 | .interface _,.iface _ _,.nilIface=>some false
 |_,_,_=>none
def lk(s:Sem atu):Rd bo:=match g9 P s with
 |some (.ok (.value v))=>match fl v with
  |true=>val v
  |false=>.fail
 |some (.error v)=>match fl v with
  |true=>.done ⟨.panic v,[],none⟩
  |false=>.fail
 |_=>.fail
def enter(f:arY)(args:List Dy):Rd bo:=match P.funcs[f]?with
 |some fn=>match fn.body with
  |some _=>.done ⟨.enter f args,[],none⟩
  |none=>match args.all fl with
   |true=>lk P (callFunc f args.toArray)
   |false=>.fail
 |none=>.fail
def Aa(recv:Dy)(name:String)(args:List Dy):Rd bo:=match recv with
 | .iface t v=>(z7 P 9 t v name).bind λ(f,r)=>enter P f (r::args)
 |_=>.fail
def VM:Builtin->Bool
 | .len| .min| .max=>true
 |_=>false
def VN(b:Builtin)(argTypes:Array KS)(type:KS)(vF:Array Bool)(args:List Dy):Rd bo:=
 lk P (builtin b argTypes type vF args.toArray)
def xP(argTypes:List KS)(args:List Dy):Rd bo:=
 match argTypes,args with
 |t::_,x::_=>match P.underlying t,x with
  |some _,.slice none _ _=>val (.tuple #[])
  |some _,.slice _ 0 _=>val (.tuple #[])
  |some (.slice el),.slice (some ⟨b,off,none⟩) k _=>match bZ P el,zeroOf P el with
   |some size,some z=>.read b λ
    | .cells c ce false=>match fl z&&arE z.cells.size size&&arM (off+k*size) c.length&&z.cells.toList.all asr with
     |true=>.done ⟨.val (.tuple #[]),[(b,.cells (bc c off (fA z.cells.toList k)) ce false)],none⟩
     |false=>.fail
    |_=>.fail
   |_,_=>.fail
  |_,_=>.fail
 |_,_=>.fail
def Ec(b:Builtin)(argTypes:Array KS)(type:KS)(vF:Array Bool)(args:List Dy)(n:Nat):Rd bo:=
 match VM b&&args.all fl with
 |true=>VN P b argTypes type vF args
 |false=>match b with
  | .append=>xL P argTypes.toList args n
  | .copy=>copyV P argTypes.toList args
  | .len=>Ea P argTypes.toList args
  | .delete=>xN P argTypes.toList args
  | .clear=>xP P argTypes.toList args
  |_=>.fail
def Lo(f:Dy)(args:List Dy):Rd bo:=match f with
 | .func (.func k) first captured=>enter P k (first.toList++args++captured.toList)
 | .func (.method name) first captured=>match first.toList++args with
  |recv::rest=>Aa P recv name rest
  | []=>.fail
 |_=>.fail
def sj(c:Call)(e:asW->Dy)(type:KS)(n:Nat):Rd bo:=
 match c.callee with
 | .builtin b=>Ec P b c.argTypes type (c.args.map λ| .const _=>true|_=>false) (c.args.toList.map e) n
 | .invoke recv name=>Aa P (e recv) name (c.args.toList.map e)
 | .value f=>Lo P (e f) (c.args.toList.map e)
def Ed(t:KS)(n:Nat):Rd bo:=match zeroOf P t with
 |some z=>match fl z with
  |true=>new (.cells z.cells.toList t false) (.pointer (some ⟨n,0,none⟩))
  |false=>.fail
 |none=>.fail
def Ee(t:KS)(parts:List (Nat×Dy)):Rd bo:=match zeroOf P t,P.underlying t with
 |some z,some (.struct fs)=>match vC P fs.toList,fl z with
  |some ps,true=>match tM (λi=>ps[i]?) z.cells.toList parts with
   |some l=>val (.agg l.toArray)
   |none=>.fail
  |_,_=>.fail
 |some z,some (.array _ el)=>match bZ P el,fl z with
  |some size,true=>match tM (λi=>some (i*size,size)) z.cells.toList parts with
   |some l=>val (.agg l.toArray)
   |none=>.fail
  |_,_=>.fail
 |_,_=>.fail
def Ef(t:KS)(len:Nat)(parts:List (Nat×Dy))(n:Nat):Rd bo:=match P.underlying t with
 |some (.slice el)=>match bZ P el,zeroOf P el with
  |some size,some z=>match fl z&&arM (len*size) 1000000&&arE z.cells.size size with
   |true=>match tM (λi=>some (i*size,size)) (fA z.cells.toList len) parts with
    |some l=>new (.cells l el false) (.slice (some ⟨n,0,none⟩) len len)
    |none=>.fail
   |false=>.fail
  |_,_=>.fail
 |_=>.fail
def tN(t:KS):Dy->Rd bo
 | .pointer (some ⟨b,off,none⟩)=>(qM P t b off).bind val
 |_=>.fail
def tP(t:KS)(a x:Dy):Rd bo:=match a with
 | .pointer (some ⟨b,off,none⟩)=>match bZ P t with
  |some size=>.read b λ
   | .cells c el false=>match arE x.cells.size size&&arM (off+size) c.length&&x.cells.toList.all asr with
    |true=>.done ⟨.skip,[(b,.cells (bc c off x.cells.toList) el false)],none⟩
    |false=>.fail
   |_=>.fail
  |none=>.fail
 |_=>.fail
def Eg:Dy->Rd bo
 | .pointer (some a)=>val (.pointer (some a))
 | .func (.func k) f c=>val (.func (.func k) f c)
 | .iface t v=>val (.iface t v)
 | .pointer none| .nilIface| .nilFunc=>lk P (runtimePanic .nilDeref)
 |_=>.fail
def vG(t:KS)(a b:Dy)(neg:Bool):Rd bo:=match P.underlying t with
 |some d=>match z8 d a b with
  |some r=>val (.bool (r != neg))
  |none=>.fail
 |none=>.fail
def vH(ft:KS)(cs:List Dy)(d:Nat):Option Dy:=match oZ P ft,bZ P ft with
 |some true,some k=>match cut cs d k with
  |some l=>some (.agg l.toArray)
  |none=>none
 |some false,some _=>cs[d]?
 |_,_=>none
def qN{α:Type}(f:α->Option Bool):List α->Option Bool
 | []=>some true
 |x::l=>match f x,qN f l with
  |some a,some b=>some (a&&b)
  |_,_=>none
def vI:Nat->KS->Dy->Dy->Option Bool
 |0,_,_,_=>none
 |d+1,t,x,y=>match P.underlying t with
  |some .bool=>match x,y with
   | .bool a,.bool b=>some (a==b)
   |_,_=>none
  |some (.int _)=>match x,y with
   | .int k a,.int k' b=>match decide (k=k')with
    |true=>some (a==b)
    |false=>none
   |_,_=>none
  |some .string=>match x,y with
   | .string a,.string b=>some (a==b)
   |_,_=>none
  |some (.struct fs)=>match x,y with
   | .agg xs,.agg ys=>match P.stoodInHeld t with
    |true=>none
    |false=>qN (λf=>match decide (f.name= "_")with
     |true=>none
     |false=>match vH P f.type xs.toList f.offset,vH P f.type ys.toList f.offset with
      |some a,some b=>vI d f.type a b
      |_,_=>none) fs.toList
   |_,_=>none
  |some (.array n e)=>match x,y,bZ P e with
   | .agg xs,.agg ys,some k=>qN (λi=>match vH P e xs.toList (i*k),vH P e ys.toList (i*k)with
     |some a,some b=>vI d e a b
     |_,_=>none) (avZ 0 n)
   |_,_,_=>none
  |_=>none
def Eh(op:BinOp)(t:KS)(a b:Dy):Option Bool:=match op,a,b with
 | .eql,.agg _,.agg _=>match P.eqGuardType P.depth t with
  |true=>none
  |false=>vI P 10000 t a b
 | .neq,.agg _,.agg _=>match P.eqGuardType P.depth t with
  |true=>none
  |false=>(vI P 10000 t a b).map (!·)
 |_,_,_=>none
def tQ(op:BinOp)(t:KS)(x y:asW)(a b:Dy):Rd bo:=match fl a&&fl b with
 |true=>match Eh P op t a b with
  |some r=>val (.bool r)
  |none=>lk P (do let v <-(do eqGuard op t x y a b;binOp op t a b);pure (.value v))
 |false=>match op with
  | .eql=>vG P t a b false
  | .neq=>vG P t a b true
  |_=>.fail
def Ei(op:UnOp)(a:Dy):Rd bo:=match fl a with
 |true=>lk P (do let v <-Op.unary op a;pure (.value v))
 |false=>.fail
def xQ(src dst:KS)(x:Dy)(n:Nat):Rd bo:=match P.underlying src,P.underlying dst,x with
 |some _,some (.slice el),.string s=>match P.underlying el,bZ P el with
  |some (.int .u8),some 1=>new (.cells (s.data.toList.map λb=>.int .u8 b.toNat) el false) (.slice (some ⟨n,0,none⟩) s.size s.size)
  |_,_=>.fail
 |some (.slice el),some (.slice _),.slice (some ⟨b,off,none⟩) len cap=>match P.underlying el,arE src dst with
  |some (.int .u8),true=>match cap with
   |0=>.fail
   |_+1=>.read b λ
    | .cells (_::_) _ false=>val (.slice (some ⟨b,off,none⟩) len cap)
    |_=>.fail
  |_,_=>.fail
 |some (.slice el),some .string,.slice a len cap=>match P.underlying el,a with
  |some (.int .u8),none=>val (.string .empty)
  |some (.int .u8),some ⟨b,off,none⟩=>.read b λ
   | .cells c _ _=>match(cut c off len).bind bytesOf with
    |some l=>val (.string ⟨l.toArray⟩)
    |none=>.fail
   |_=>.fail
  |_,_=>.fail
 |_,_,_=>match fl x with
  |true=>lk P (do let v <-convert src dst x;pure (.value v))
  |false=>.fail
def Ej(t:KS)(x:Dy):Rd bo:=match P.underlying t with
 |some (.interface _)=>.fail
 |some _=>val (.iface t x)
 |none=>.fail
def Ek(fn:Fn)(first captured:List Dy):Rd bo:=match fn with
 | .func _| .method _=>val (.func fn first.toArray captured.toArray)
 |_=>.fail
def El(t:KS)(h:Option Dy)(n:Nat):Rd bo:=match h with
 |none=>new (.map [] 0) (.map (some n))
 |some (.int _ _)=>match P.underlying t with
  |some (.map _ _)=>new (.map [] 0) (.map (some n))
  |_=>.fail
 |_=>.fail
def Em(t:KS)(l c:Dy)(n:Nat):Rd bo:=match P.underlying t,pV l,pV c with
 |some (.slice el),some l,some c=>match bZ P el,zeroOf P el,(P.info? el).map (·.bytes)with
  |some size,some z,some bytes=>match fl z&&arM l c&&arM c 1000000&&arM bytes 1000000&&arE z.cells.size size with
   |true=>new (.cells (fA z.cells.toList c) el false) (.slice (some ⟨n,0,none⟩) l c)
   |false=>.fail
  |_,_,_=>.fail
 |_,_,_=>.fail
def sk(t:KS)(x:Dy)(lo hi mx:Option Dy):Rd bo:=match fl x with
 |true=>match lo.all fl&&hi.all fl&&mx.all fl with
  |true=>lk P (do let v <-atE t x lo hi mx;pure (.value v))
  |false=>.fail
 |false=>match P.underlying t,x,mx with
  |some (.slice el),.slice (some ⟨b,off,none⟩) len cap,none=>match o7 0 lo,o7 len hi,bZ P el with
   |some l,some h,some size=>match arM l h&&arM h cap with
    |true=>.read b λ
     | .cells c eb ro=>match bZ P eb with
      |some sb=>match arM size sb with
       |true=>val (.slice (some ⟨b,off+l*size,none⟩) (h-l) (cap-l))
       |false=>.fail
      |none=>.fail
     |_=>.fail
    |false=>.fail
   |_,_,_=>.fail
  |some (.array k el),.pointer (some ⟨b,off,none⟩),none=>match o7 0 lo,o7 k hi,bZ P el with
   |some l,some h,some size=>match arM l h&&arM h k with
    |true=>val (.slice (some ⟨b,off+(if arE k l then 0 else l*size),none⟩) (h-l) (k-l))
    |false=>.fail
   |_,_,_=>.fail
  |_,_,_=>.fail
def En(s:KS)(x:Dy)(f:Nat):Rd bo:=match x,xO P s f with
 | .pointer (some ⟨b,off,none⟩),some (d,_,_)=>val (.pointer (some ⟨b,off+d,none⟩))
 |_,_=>.fail
def Ab(ft:KS)(cs:List Dy)(d k:Nat):Rd bo:=match oZ P ft with
 |some true=>match cut cs d k with
  |some l=>val (.agg l.toArray)
  |none=>.fail
 |some false=>match cs[d]?with
  |some v=>val v
  |none=>.fail
 |none=>.fail
def Eo(s:KS)(x:Dy)(f:Nat):Rd bo:=match x,xO P s f with
 | .agg cs,some (d,ft,k)=>Ab P ft cs.toList d k
 |_,_=>.fail
def tR(t:KS)(x i:Dy):Rd bo:=match P.underlying t,x,pV i with
 |some (.array k el),.pointer (some ⟨b,off,none⟩),some i=>match bZ P el,arF i k with
  |some size,true=>val (.pointer (some ⟨b,off+i*size,none⟩))
  |_,_=>.fail
 |some (.slice el),.slice (some ⟨b,off,none⟩) len _,some i=>match bZ P el,arF i len with
  |some size,true=>val (.pointer (some ⟨b,off+i*size,none⟩))
  |_,_=>.fail
 |_,_,_=>.fail
def xR(t:KS)(x i:Dy):Rd bo:=match x with
 | .string s=>match fl i with
  |true=>lk P (do let v <-auR t (.string s) i;pure (.value v))
  |false=>.fail
 | .agg cs=>match P.underlying t,pV i with
  |some (.array k el),some i=>match bZ P el,arF i k with
   |some size,true=>Ab P el cs.toList (i*size) size
   |_,_=>.fail
  |_,_=>.fail
 |_=>.fail
def Ep(x:Dy)(i:Nat):Rd bo:=match x with
 | .tuple vs=>match vs.toList[i]?with
  |some v=>val v
  |none=>.fail
 |_=>.fail
def Er(x:Dy)(at_:KS)(ok:Bool):Rd bo:=match P.underlying at_,x with
 |some (.interface _),_=>.fail
 |some _,.iface t v=>match arE t at_ with
  |true=>val (if ok then .tuple #[v,.bool true]else v)
  |false=>.fail
 |_,_=>.fail
def Ac(c a b:Dy):Rd bo:=match c with
 | .bool true=>val a
 | .bool false=>val b
 |_=>.fail
def Et(x:Dy):Rd bo:=match fl x with
 |true=>lk P (do let v <-ax9 x;pure (.value v))
 |false=>.fail
end
def Ad(op:Op):arC->(asW->Dy)->Nat->KS->Rd bo:=match op with
 | .move x| .assign x=>λP e n ty=>val (e x)
 | .pick c a b=>λP e n ty=>Ac (e c) (e a) (e b)
 | .alloc t=>λP e n ty=>Ed P t n
 | .box t x=>λP e n ty=>new (.cells (e x).cells.toList t false) (.pointer (some ⟨n,0,none⟩))
 | .build t parts=>λP e n ty=>Ee P t (parts.toList.map λ(i,x)=>(i,e x))
 | .buildSlice t len parts=>λP e n ty=>Ef P t len (parts.toList.map λ(i,x)=>(i,e x)) n
 | .load t a=>λP e n ty=>tN P t (e a)
 | .store t a x=>λP e n ty=>tP P t (e a) (e x)
 | .nilCheck x=>λP e n ty=>Eg P (e x)
 | .binOp op t x y _=>λP e n ty=>tQ P op t x y (e x) (e y)
 | .unOp op _ x=>λP e n ty=>Ei P op (e x)
 | .convert src dst x=>λP e n ty=>xQ P src dst (e x) n
 | .makeInterface t x=>λP e n ty=>Ej P t (e x)
 | .makeFunc fn first captured=>λP e n ty=>Ek fn (first.toList.map e) (captured.toList.map e)
 | .makeMap t r=>λP e n ty=>El P t (r.map e) n
 | .makeSlice t l c=>λP e n ty=>Em P t (e l) (e c) n
 | .slice t x lo hi mx=>λP e n ty=>sk P t (e x) (lo.map e) (hi.map e) (mx.map e)
 | .fieldAddr s x f=>λP e n ty=>En P s (e x) f
 | .field s x f=>λP e n ty=>Eo P s (e x) f
 | .indexAddr t x i=>λP e n ty=>tR P t (e x) (e i)
 | .index t x i=>λP e n ty=>xR P t (e x) (e i)
 | .lookup t x k ok=>λP e n ty=>D9 P t (e x) (e k) ok
 | .mapUpdate t m k x| .insert t m k x=>λP e n ty=>xM P t (e m) (e k) (e x)
 | .extract t i=>λP e n ty=>Ep (e t) i
 | .typeAssert x _ at_ ok=>λP e n ty=>Er P (e x) at_ ok
 | .call c=>λP e n ty=>sj P c e ty n
 | .panic x=>λP e n ty=>Et P (e x)
 |_=>λ_ _ _ _=>.fail
def ev(P:arC)(e:asW->Dy)(n:Nat)(o:ast):Rd bo:=Ad o.op P e n o.type
def Ae(S:VS)(l:List Nat)(out:bo):Option (kM×VS):=
 let S1:VS:=out.ws.foldl (λS (x,o)=>{S with mem:=S.mem.set 18 x o,wr:=x::S.wr}) {S with rd:=l++S.rd}
 match out.ws.all λ(x,_)=>l.contains x with
 |false=>none
 |true=>match out.nw with
  |none=>some (out.r,S1)
  |some o=>match small S.next,gt S.mem S.next with
   |true,none=>some (out.r,{S1 with mem:=S1.mem.set 18 S.next o,next:=S.next+1,wr:=S.next::S1.wr})
   |_,_=>none
def oD(P:arC)(t:Fr)(S:VS)(o:ast):Option (kM×VS):=
 match o.op.operands.toList.all pU with
 |false=>none
 |true=>match(ev P (bU t) S.next o).run (gt S.mem)with
  |none=>none
  |some (out,l)=>Ae S l out
def m7:List SV->Nat->List Dy
 | [],_=>[]
 | .val v::l,k=>v::m7 l k
 | .cells n _ _::l,k=>.slice (some ⟨k,0,none⟩) n n::m7 l (k+1)
 | .rows n _ _::l,k=>.slice (some ⟨k,0,none⟩) n n::m7 l (k+1)
def hI:List SV->List ak
 | []=>[]
 | .val _::l=>hI l
 | .cells _ c el::l=>.cells c el true::hI l
 | .rows n s r::l=>.rows n s r::hI l
def lL:List SV->Nat
 | []=>0
 | .val _::l=>lL l
 |_::l=>lL l+1
def sq:List ak->VS->Option VS
 | [],S=>some S
 |o::l,S=>match small S.next,gt S.mem S.next with
  |true,none=>sq l {S with mem:=S.mem.set 18 S.next o,next:=S.next+1,wr:=S.next::S.wr}
  |_,_=>none
def xS(S:VS)(b:Nat)(el:KS)(l:List SV):Option (kM×VS):=
 match sq (hI l++[.cells (m7 l S.next) el true]) {S with rd:=b::S.rd}with
 |some S1=>some (.val (.pointer (some ⟨S.next+lL l,0,none⟩)),S1)
 |none=>none
structure View where
 b:Nat
 el:KS
 n:Nat
 size:Nat
 row:Nat->List SV
 len:Nat
 i:Dy
def mn(P:arC)(t:Fr)(S:VS)(o:ast):Option View:=match o.op with
 | .indexAddr ty x i=>match bU t x with
  | .slice (some ⟨b,off,none⟩) len _=>match gt S.mem b with
   |some (.rows n size row)=>match off with
    |0=>match P.underlying ty with
     |some (.slice el)=>match bZ P el with
      |some s=>match arE s size with
       |true=>some ⟨b,el,n,size,row,len,bU t i⟩
       |false=>none
      |none=>none
     |_=>none
    |_+1=>none
   |_=>none
  |_=>none
 |_=>none
def jZ(P:arC)(t:Fr)(S:VS)(o:ast):Option (kM×VS):=match mn P t S o with
 |some V=>match o.op.operands.toList.all pU,pV V.i with
  |true,some k=>match arF k V.n&&arF k V.len with
   |true=>xS S V.b V.el (V.row k)
   |false=>none
  |_,_=>none
 |none=>oD P t S o
inductive bf where
 |normal
 |exit (id:Nat)
 |ret
 |panic (v:Dy)
inductive bD where
 |ret (v:Dy)
 |panic (v:Dy)
abbrev cQ:=arY->List Dy->VS->Option (bD×VS)
def put(t:Fr)(d:Option Tmp)(v:Dy):Option Fr:=match d with
 |some d=>t.set d v
 |none=>some t
def mo(ops:List ast)(t:Fr)(j:Nat):Option Bool:=match(ops[j]?).bind (·.dst)with
 |some d=>match t.at d with
  | .bool b=>some b
  |_=>none
 |none=>none
def ll(P:arC)(call:cQ)(ops:List ast)(o:ast)(t:Fr)(S:VS):Option (Option Dy×Fr×VS):=
 match Region.wanted o (mo ops t)with
 |false=>(put t o.dst undef).map λt1=>(none,t1,S)
 |true=>match jZ P t S o with
  |none=>none
  |some (r,S1)=>match r with
   | .val v=>(put t o.dst v).map λt1=>(none,t1,S1)
   | .skip=>(put t o.dst undef).map λt1=>(none,t1,S1)
   | .panic v=>some (some v,t,S1)
   | .defer _=>none
   | .enter f args=>match call f args S1 with
    |none=>none
    |some (.ret v,S2)=>(put t o.dst v).map λt1=>(none,t1,S2)
    |some (.panic v,S2)=>some (some v,t,S2)
def xU(o:ast):Option Call:=match o.op with
 | .defer c=>some c
 |_=>none
def Af(P:arC)(t:Fr)(o:ast)(c:Call):Option Fr:=match o.guard,c.callee with
 |none,.value f=>match pU f&&c.args.toList.all pU,bU t f with
  |true,.func (.func k) first captured=>match(P.funcs[k]?).bind (·.body)with
   |some _=>put {t with ds:=(k,(first.toList++c.args.toList.map (bU t))++captured.toList)::t.ds} o.dst undef
   |none=>none
  |_,_=>none
 |_,_=>none
def opsV(P:arC)(call:cQ)(df:Bool)(ops:List ast):List ast->Fr->VS->Option (bf×Fr×VS)
 | [],t,S=>some (.normal,t,S)
 |o::rest,t,S=>match xU o with
  |some c=>match df with
   |true=>match Af P t o c with
    |some t1=>opsV P call df ops rest t1 S
    |none=>none
   |false=>none
  |none=>match ll P call ops o t S with
   |none=>none
   |some (some v,t1,S1)=>some (.panic v,t1,S1)
   |some (none,t1,S1)=>opsV P call df ops rest t1 S1
structure Fp where
 rd:List Nat
 wr:List Nat
def Ag(a b:List Nat):Bool:=a.all λx=> !b.contains x
def ln(P:arC)(call:cQ)(ops:List ast):List ast->Fr->VS->Option (Fr×VS×List Fp)
 | [],t,S=>some (t,S,[])
 |o::rest,t,S=>match ll P call ops o t {S with rd:=[],wr:=[]}with
  |some (none,t1,S1)=>match ln P call ops rest t1 {S1 with rd:=S1.rd++S.rd,wr:=S1.wr++S.wr}with
   |some (t2,S2,gS)=>some (t2,S2,⟨S1.rd,S1.wr⟩::gS)
   |none=>none
  |_=>none
def Lp(f g:Fp):Bool:=Ag f.wr g.rd&&Ag f.wr g.wr&&Ag g.wr f.rd
def j4:List Edge->Nat
 | []=>0
 |e::l=>match atJ .any e with
  |true=>avw (Nat.shiftLeft 1 e.on) (j4 l)
  |false=>j4 l
def m8(m:Nat):Nat->List Nat->Nat
 |k+1,b::bs=>match arE (awP (au4 m k) 1) 1 with
  |true=>avw b (m8 m k bs)
  |false=>m8 m k bs
 |_,_=>0
def sr:Nat->List Nat->List ast->List Nat
 |_,_,[]=>[]
 |k,bs,o::l=>(λm=>m::sr (k+1) (m::bs) l) (avw (j4 o.after.toList) (m8 (j4 o.after.toList) k bs))
def qO(ops:Array ast):List Nat:=sr 0 [] ops.toList
structure Eu where
 no:Nat
 bits:Nat
 fp:Fp
def pY:Nat->List Nat->List Fp->List Eu
 |i,m::ms,f::fs=>match f.rd,f.wr with
  | [],[]=>pY (i+1) ms fs
  |_,_=>⟨i,m,f⟩::pY (i+1) ms fs
 |_,_,_=>[]
def vJ:List Eu->Bool
 | []=>true
 |f::l=>l.all (λg=>arE (awP (au4 g.bits f.no) 1) 1||Lp f.fp g.fp)&&vJ l
def Ah(ops:Array ast):Nat->List (Nat×ast)->List Nat->List ast->Bool
 |j,prev,m::ms,p::ps=>p.after.toList.all (λe=> !(atJ .any e)||arF e.on j)&&
  prev.all (λq=>arE (awP (au4 m q.1) 1) 1||q.2.apart ops p)&&Ah ops (j+1) ((j,p)::prev) ms ps
 |_,_,_,_=>true
def VO(ops:Array ast):Bool:=Ah ops 0 [] (qO ops) ops.toList
def tS(ops:Array ast)(gS:List Fp):Bool:=VO ops&&vJ (pY 0 (qO ops) gS)
def iter(f:Fr->VS->Option (bf×Fr×VS)):Nat->Fr->VS->Option (bf×Fr×VS)
 |0,_,_=>none
 |k+1,t,S=>match f t S with
  |some (.normal,t1,S1)=>iter f k t1 S1
  |r=>r
def dz(P:arC)(call:cQ)(lf:Nat)(df:Bool):Code->Fr->VS->Option (bf×Fr×VS)
 | .skip,t,S=>some (.normal,t,S)
 | .region _ ops false,t,S=>opsV P call df ops.toList ops.toList t S
 | .region _ ops true,t,S=>match ln P call ops.toList ops.toList t S with
  |some (t1,S1,gS)=>match tS ops gS with
   |true=>some (.normal,t1,S1)
   |false=>none
  |none=>none
 | .seq a b,t,S=>match dz P call lf df a t S with
  |some (.normal,t1,S1)=>dz P call lf df b t1 S1
  |r=>r
 | .cond c a b,t,S=>match bU t c with
  | .bool true=>dz P call lf df a t S
  | .bool false=>dz P call lf df b t S
  |_=>none
 | .block id c,t,S=>match dz P call lf df c t S with
  |some (.exit j,t1,S1)=>match arE j id with
   |true=>some (.normal,t1,S1)
   |false=>some (.exit j,t1,S1)
  |r=>r
 | .loop c,t,S=>iter (dz P call lf df c) lf t S
 | .exit id,t,S=>some (.exit id,t,S)
 | .ret,t,S=>some (.ret,t,S)
 | .scope c,t,S=>dz P call lf df c t S
 | .label _,t,S=>some (.normal,t,S)
 |_,_,_=>none
def iv(P:arC)(t:Fr):List ResultVar->Rd (List Dy)
 | []=>.done []
 | .tmp i::l=>(iv P t l).bind λr=>.done (t.at i::r)
 | .cell a ty::l=>match t.at a with
  | .pointer (some ⟨b,off,none⟩)=>(qM P ty b off).bind λv=>(iv P t l).bind λr=>.done (v::r)
  |_=>.fail
def nH:List Dy->Dy
 | [v]=>v
 |vs=>.tuple vs.toArray
def o8(P:arC)(t:Fr)(fn:Func)(S:VS):Option (bD×VS):=match(iv P t fn.results.toList).run (gt S.mem)with
 |some (vs,l)=>some (.ret (nH vs),{S with rd:=l++S.rd})
 |none=>none
inductive Md where
 |ret
 |nI (v:Dy)
def Ev(o:ast):Bool:=match o.op,o.guard with
 | .call ⟨.builtin .recover,_,_⟩,none=>true
 |_,_=>false
def Lq:Md->Dy
 | .ret=>.nilIface
 | .nI v=>v
def pZ(P:arC):List ast->Fr->VS->Option (Fr×VS)
 | [],t,S=>some (t,S)
 |o::rest,t,S=>match o.guard with
  |some _=>none
  |none=>match jZ P t S o with
   |some (.val v,S1)=>match put t o.dst v with
    |some t1=>pZ P rest t1 S1
    |none=>none
   |_=>none
def kN(P:arC)(call:cQ)(lf:Nat)(md:Md):Code->Fr->VS->Option (Md×bf×Fr×VS)
 | .seq a b,t,S=>match kN P call lf md a t S with
  |some (fU,.normal,t1,S1)=>(dz P call lf false b t1 S1).map λr=>(fU,r)
  |r=>r
 | .region id ops false,t,S=>match ops.toList with
  |o::rest=>match Ev o with
   |true=>match put t o.dst (Lq md)with
    |some t1=>match pZ P rest t1 S with
     |some (t2,S2)=>some (.ret,.normal,t2,S2)
     |none=>none
    |none=>none
   |false=>(dz P call lf false (.region id ops false) t S).map λr=>(md,r)
  | []=>none
 |c,t,S=>(dz P call lf false c t S).map λr=>(md,r)
def tT(P:arC)(call:cQ)(lf:Nat)(md:Md)(k:arY)(args:List Dy)(S:VS):Option (Md×VS):=match P.funcs[k]?with
 |none=>none
 |some fn=>match fn.body with
  |none=>none
  |some c=>match Fr.of args fn.ntmps with
   |none=>none
   |some t0=>match kN P call lf md c t0 S with
    |some (fU,x,t,S1)=>match x,t.ds,t.base with
     | .normal,[],[]=>match o8 P t fn S1 with
      |some (_,S2)=>some (fU,S2)
      |none=>none
     | .ret,[],[]=>match o8 P t fn S1 with
      |some (_,S2)=>some (fU,S2)
      |none=>none
     |_,_,_=>none
    |none=>none
def o9(P:arC)(call:cQ)(lf:Nat):List (arY×List Dy)->Md->VS->Option (Md×VS)
 | [],md,S=>some (md,S)
 |(k,args)::l,md,S=>match tT P call lf md k args S with
  |some (fU,S1)=>o9 P call lf l fU S1
  |none=>none
def p8(P:arC)(call:cQ)(lf:Nat)(fn:Func)(md:Md)(t:Fr)(S:VS):Option (bD×VS):=match t.base with
 | []=>match o9 P call lf t.ds md S with
  |some (.ret,S1)=>o8 P t fn S1
  |some (.nI v,S1)=>some (.panic v,S1)
  |none=>none
 |_=>none
def m9(P:arC)(sp:cQ->cQ)(lf:Nat):Nat->cQ
 |0,_,_,_=>none
 |d+1,f,args,S=>match P.funcs[f]?with
  |none=>none
  |some fn=>match fn.body with
   |none=>none
   |some c=>match Fr.of args fn.ntmps with
    |none=>none
    |some t0=>match dz P (sp (m9 P sp lf d)) lf true c t0 S with
     |some (.normal,t,S1)=>p8 P (sp (m9 P sp lf d)) lf fn .ret t S1
     |some (.ret,t,S1)=>p8 P (sp (m9 P sp lf d)) lf fn .ret t S1
     |some (.panic v,t,S1)=>p8 P (sp (m9 P sp lf d)) lf fn (.nI v) t S1
     |_=>none
def S0:VS:=⟨.nil,0,[],[]⟩
def VP(P:arC)(sp:cQ->cQ)(lf d:Nat)(f:arY):Bool:=match m9 P sp lf d f [] S0 with
 |some (.ret (.bool true),_)=>true
 |_=>false
def apD(P:arC)(lf d:Nat)(f:arY):Bool:=VP P id lf d f
end Go.Proofs.YtnlkkgpcikkpoaaGreat.Vm
namespace Go.Proofs.YtnlkkgpcikkpoaaGreat.Vm
open Go.RowKit
theorem Tr.Ew{α:Type}(k n:Nat):Tr.get k (.nil:Tr α) n=none:=by cases k<;>rfl
theorem Tr.xV{α:Type}:∀(k:Nat) (t:Tr α) (n m:Nat) (o:α),n<2^k->m<2^k->Tr.get k (Tr.set k t n o) m=if m=n then some o else Tr.get k t m
 |0,t,n,m,o,hn,hm=>by
  have h1:n=0:=by simpa using hn
  have h2:m=0:=by simpa using hm
  subst h1 h2
  cases t<;>simp[Tr.set,Tr.get]
 |k+1,t,n,m,o,hn,hm=>by
  have Ai:n/2<2^k:=by rw[axS]at hn;omega
  have Ey:m/2<2^k:=by rw[axS]at hm;omega
  have key:∀t,Tr.get k (Tr.set k t (n/2) o) (m/2)=if m/2=n/2 then some o else Tr.get k t (m/2):=λt=>Tr.xV k t _ _ o Ai Ey
  have Aj:n%2=0\/n%2=1:=by omega
  have pa:m%2=0\/m%2=1:=by omega
  have e0:arE 0 0=true:=rfl
  have e1:arE 1 0=false:=rfl
  cases t with
  |nil=>
   rcases Aj with lM|lM<;>rcases pa with cC|cC<;>simp only[Tr.set,Tr.get,lM,cC,e0,e1,key,Tr.Ew]
   ·by_cases e:m=n
    ·subst e;simp
    ·have:m/2≠n/2:=by omega
     simp[e,this]
   ·have:m≠n:=by omega
    simp[this]
   ·have:m≠n:=by omega
    simp[this]
   ·by_cases e:m=n
    ·subst e;simp
    ·have:m/2≠n/2:=by omega
     simp[e,this]
  |node l v r=>
   rcases Aj with lM|lM<;>rcases pa with cC|cC<;>simp only[Tr.set,Tr.get,lM,cC,e0,e1,key]
   ·by_cases e:m=n
    ·subst e;simp
    ·have:m/2≠n/2:=by omega
     simp[e,this]
   ·have:m≠n:=by omega
    simp[this]
   ·have:m≠n:=by omega
    simp[this]
   ·by_cases e:m=n
    ·subst e;simp
    ·have:m/2≠n/2:=by omega
     simp[e,this]
theorem ij{n:Nat}:small n=true↔n<2^18:=by
 unfold small
 rw[show(2:Nat)^18=262144 from rfl]
 simp[arF]
 omega
def cX(g:Nat->Option ak)(x:Nat)(o:ak):Nat->Option ak:=λy=>if y=x then some o else g y
theorem fB(g:Nat->Option ak)(x:Nat)(o:ak):cX g x o x=some o:=by simp[cX]
theorem eB{g:Nat->Option ak}{x y:Nat}(o:ak)(h:y≠x):cX g x o y=g y:=by simp[cX,h]
theorem xW{t:Tr ak}{x:Nat}{o:ak}(h:small x=true):gt (t.set 18 x o)=cX (gt t) x o:=by
 funext y
 unfold gt cX
 by_cases hy:small y=true
 ·simp only[hy]
  rw[Tr.xV 18 _ _ _ _ (ij.1 h) (ij.1 hy)]
 ·have:y≠x:=by rintro rfl;exact hy h
  simp[hy,this]
theorem p9{t:Tr ak}{x:Nat}{o:ak}(h:gt t x=some o):small x=true:=by
 unfold gt at h
 cases hs:small x with
 |true=>rfl
 |false=>rw[hs]at h;cases h
theorem Rd.run_bind{α β:Type}(g:Nat->Option ak)(r:Rd α)(f:α->Rd β)(b:β)(l:List Nat):(r.bind f).run g=some (b,l)↔
 ∃a l1 l2,r.run g=some (a,l1)/\(f a).run g=some (b,l2)/\l=l1++l2:=by
 induction r generalizing l with
 |done a=>
  constructor
  ·intro h;exact⟨a,[],l,rfl,h,rfl⟩
  ·rintro⟨a',l1,l2,h1,h2,rfl⟩
   simp only[Rd.run,DE,KN]at h1
   obtain⟨rfl,rfl⟩:=h1
   exact h2
 |fail=>simp[Rd.bind,Rd.run]
 |read x k ih=>
  simp only[Rd.bind,Rd.run]
  cases hx:g x with
  |none=>simp
  |some o=>
   simp only[]
   constructor
   ·intro h
    cases hk:((k o).bind f).run g with
    |none=>rw[hk]at h;cases h
    |some p=>
     obtain⟨b',l'⟩:=p
     rw[hk]at h
     simp only[DE,KN]at h
     obtain⟨rfl,rfl⟩:=h
     obtain⟨a,l1,l2,h1,h2,rfl⟩:=(ih o l').1 hk
     exact⟨a,x::l1,l2,by rw[h1],h2,rfl⟩
   ·rintro⟨a,l1,l2,h1,h2,rfl⟩
    cases hk:(k o).run g with
    |none=>rw[hk]at h1;cases h1
    |some p=>
     obtain⟨a',l'⟩:=p
     rw[hk]at h1
     simp only[DE,KN]at h1
     obtain⟨rfl,rfl⟩:=h1
     rw[(ih o (l'++l2)).2 ⟨a',l',l2,hk,h2,rfl⟩]
     rfl
theorem Rd.run_read{α:Type}{g:Nat->Option ak}{x:Nat}{k:ak->Rd α}{a:α}{l:List Nat}(h:(Rd.read x k).run g=some (a,l)):
 ∃o l',g x=some o/\(k o).run g=some (a,l')/\l=x::l':=by
 simp only[Rd.run]at h
 cases hx:g x with
 |none=>rw[hx]at h;cases h
 |some o=>
  rw[hx]at h
  simp only[]at h
  cases hk:(k o).run g with
  |none=>rw[hk]at h;cases h
  |some p=>
   obtain⟨b,l'⟩:=p
   rw[hk]at h
   simp only[DE,KN]at h
   obtain⟨rfl,rfl⟩:=h
   exact⟨o,l',rfl,hk,rfl⟩
theorem Rd.Ak{α:Type}{g g':Nat->Option ak}:∀{r:Rd α} {a:α} {l:List Nat},r.run g=some (a,l)->(∀x∈l,g' x=g x)->r.run g'=some (a,l):=by
 intro r
 induction r with
 |done a=>intro a l h _;exact h
 |fail=>intro a l h;cases h
 |read x k ih=>
  intro a l h hl
  obtain⟨o,l',h1,h2,rfl⟩:=Rd.run_read h
  have hx:g' x=some o:=by rw[hl x (by simp),h1]
  simp only[Rd.run,hx,ih o h2 (λy hy=>hl y (by simp[hy]))]
theorem Rd.Ls{α:Type}{g:Nat->Option ak}{x:Option α}{a:α}{l:List Nat}(h:(gD x).run g=some (a,l)):x=some a:=by
 cases x with
 |none=>cases h
 |some b=>simp[gD,Rd.run]at h;rw[h.1]
theorem Rd.Al{α:Type}{g:Nat->Option ak}:∀{r:Rd α} {a:α} {l:List Nat},r.run g=some (a,l)->∀x∈l,∃o,g x=some o:=by
 intro r
 induction r with
 |done a=>intro a l h x hx;simp[Rd.run]at h;rw[h.2]at hx;cases hx
 |fail=>intro a l h;cases h
 |read x k ih=>
  intro a l h y hy
  obtain⟨o,l',h1,h2,rfl⟩:=Rd.run_read h
  rcases List.mem_cons.1 hy with rfl|hy
  ·exact⟨o,h1⟩
  ·exact ih o h2 y hy
structure bV where
 aH:Nat
 sh:Nat
 sz:Nat
 dJ:Nat
abbrev Ren:=Nat->Option bV
def ag:Dy->Bool
 | .bool _| .int _ _| .float _ _| .complex _ _ _| .string _| .pointer none| .map none| .chan none| .nilFunc| .nilIface| .slice none 0 0=>true
 |_=>false
def VQ:Fn->Bool
 | .func _| .method _=>true
 |_=>false
def Ez(r:bV)(off cap bH:Nat):Prop:=bH=cap\/(cap<=bH/\r.sh+off+bH*r.sz<=r.dJ)
inductive VR(ρ:Ren):Dy->Dy->Prop where
 |bN (v:Dy) (h:ag v=true):VR ρ v v
 |ptr (b off:Nat) (r:bV) (h:ρ b=some r):VR ρ (.pointer (some ⟨b,off,none⟩)) (.pointer (some ⟨r.aH,r.sh+off,none⟩))
 |sl (b off len cap bH:Nat) (r:bV) (h:ρ b=some r) (hc:Ez r off cap bH):VR ρ (.slice (some ⟨b,off,none⟩) len cap) (.slice (some ⟨r.aH,r.sh+off,none⟩) len bH)
 |eJ (a:atU) (a':Option atU):VR ρ (.slice (some a) 0 0) (.slice a' 0 0)
 |na (b off t:Nat):VR ρ (.pointer (some ⟨b,off,some t⟩)) (.pointer (some ⟨b,off,none⟩))
 |nJ (b off t len cap:Nat):VR ρ (.slice (some ⟨b,off,some t⟩) len cap) (.slice (some ⟨b,off,none⟩) len cap)
 |map (b:Nat) (r:bV) (h:ρ b=some r):VR ρ (.map (some b)) (.map (some r.aH))
 |func (fn:Fn) (f f' c c':Array Dy) (h:VQ fn=true) (h1:f.toList.length=f'.toList.length)
  (h2:∀(i:Nat) (v v':Dy),f.toList[i]?=some v->f'.toList[i]?=some v'->VR ρ v v') (h3:c.toList.length=c'.toList.length)
  (h4:∀(i:Nat) (v v':Dy),c.toList[i]?=some v->c'.toList[i]?=some v'->VR ρ v v'):VR ρ (.func fn f c) (.func fn f' c')
 |iface (t:KS) (v v':Dy) (h:VR ρ v v'):VR ρ (.iface t v) (.iface t v')
 |agg (c c':Array Dy) (h1:c.toList.length=c'.toList.length)
  (h2:∀(i:Nat) (v v':Dy),c.toList[i]?=some v->c'.toList[i]?=some v'->VR ρ v v'):VR ρ (.agg c) (.agg c')
 |tuple (c c':Array Dy) (h1:c.toList.length=c'.toList.length)
  (h2:∀(i:Nat) (v v':Dy),c.toList[i]?=some v->c'.toList[i]?=some v'->VR ρ v v'):VR ρ (.tuple c) (.tuple c')
structure LR(ρ:Ren)(l l':List Dy):Prop where
 len:l.length=l'.length
 at_:∀(i:Nat) (v v':Dy),l[i]?=some v->l'[i]?=some v'->VR ρ v v'
def Ren.le(ρ ρ':Ren):Prop:=∀x r,ρ x=some r->ρ' x=some r
theorem Ren.le_refl(ρ:Ren):ρ.le ρ:=λ_ _ h=>h
theorem Ren.le_trans{a b c:Ren}(h:a.le b)(k:b.le c):a.le c:=λx r e=>k x r (h x r e)
theorem VR.mono{ρ ρ':Ren}(hl:ρ.le ρ'){v v':Dy}(h:VR ρ v v'):VR ρ' v v':=by
 induction h with
 |bN v h=>exact .bN v h
 |ptr b off r h=>exact .ptr b off r (hl _ _ h)
 |sl b off len cap bH r h hc=>exact .sl b off len cap bH r (hl _ _ h) hc
 |eJ a a'=>exact .eJ a a'
 |na b off t=>exact .na b off t
 |nJ b off t len cap=>exact .nJ b off t len cap
 |map b r h=>exact .map b r (hl _ _ h)
 |func fn f f' c c' h h1 h2 h3 h4 EA EB=>exact .func fn f f' c c' h h1 EA h3 EB
 |iface t v v' h ih=>exact .iface t v v' ih
 |agg c c' h1 h2 ih=>exact .agg c c' h1 ih
 |tuple c c' h1 h2 ih=>exact .tuple c c' h1 ih
theorem LR.mono{ρ ρ':Ren}(hl:ρ.le ρ'){l l':List Dy}(h:LR ρ l l'):LR ρ' l l':=⟨h.len,λi v v' h1 h2=>(h.at_ i v v' h1 h2).mono hl⟩
theorem LR.nil(ρ:Ren):LR ρ [] []:=⟨rfl,λi v v' h=>by simp at h⟩
theorem LR.cons{ρ:Ren}{v v':Dy}{l l':List Dy}(h:VR ρ v v')(hl:LR ρ l l'):LR ρ (v::l) (v'::l'):=
 ⟨by simp[hl.len],λi u u' h1 h2=>by
  cases i with
  |zero=>simp at h1 h2;subst h1 h2;exact h
  |succ i=>simp at h1 h2;exact hl.at_ i u u' h1 h2⟩
theorem LR.head{ρ:Ren}{v v':Dy}{l l':List Dy}(h:LR ρ (v::l) (v'::l')):VR ρ v v':=h.at_ 0 v v' rfl rfl
theorem LR.tail{ρ:Ren}{v v':Dy}{l l':List Dy}(h:LR ρ (v::l) (v'::l')):LR ρ l l':=
 ⟨by simpa using h.len,λi u u' h1 h2=>h.at_ (i+1) u u' (by simpa using h1) (by simpa using h2)⟩
theorem LR.kO{ρ:Ren}{l:List Dy}(h:LR ρ [] l):l=[]:=by have:=h.len;cases l<;>simp_all
theorem LR.gT{ρ:Ren}{v:Dy}{l l':List Dy}(h:LR ρ (v::l) l'):∃v' r,l'=v'::r/\VR ρ v v'/\LR ρ l r:=by
 cases l' with
 |nil=>have:=h.len;simp at this
 |cons v' r=>exact⟨v',r,rfl,h.head,h.tail⟩
theorem LR.append{ρ:Ren}:∀{a a' b b':List Dy},LR ρ a a'->LR ρ b b'->LR ρ (a++b) (a'++b')
 | [],a',b,b',h,hb=>by rw[h.kO];exact hb
 |v::a,a',b,b',h,hb=>by
  obtain⟨v',r,rfl,h1,h2⟩:=h.gT
  exact LR.cons h1 (h2.append hb)
theorem LR.drop{ρ:Ren}{l l':List Dy}(h:LR ρ l l')(n:Nat):LR ρ (l.drop n) (l'.drop n):=
 ⟨by simp[h.len],λi v v' h1 h2=>h.at_ (n+i) v v' (by simpa using h1) (by simpa using h2)⟩
theorem LR.take{ρ:Ren}{l l':List Dy}(h:LR ρ l l')(n:Nat):LR ρ (l.take n) (l'.take n):=
 ⟨by simp[h.len],λi v v' h1 h2=>by
  rw[asL]at h1 h2
  split at h1
  ·rename_i hi;rw[if_pos hi]at h2;exact h.at_ i v v' h1 h2
  ·cases h1⟩
theorem LR.get{ρ:Ren}{l l':List Dy}(h:LR ρ l l'){i:Nat}{v:Dy}(hv:l[i]?=some v):∃v',l'[i]?=some v'/\VR ρ v v':=by
 have hi:i<l.length:=(KP.1 hv).1
 have fH:i<l'.length:=h.len▸hi
 exact⟨l'[i],KH fH,h.at_ i v _ hv (KH fH)⟩
theorem LR.map{ρ:Ren}{α:Type}(f f':α->Dy):∀(l:List α),(∀a∈l,VR ρ (f a) (f' a))->LR ρ (l.map f) (l.map f')
 | [],_=>LR.nil ρ
 |a::l,h=>LR.cons (h a (by simp)) (LR.map f f' l λb hb=>h b (by simp[hb]))
theorem VR.xX{ρ:Ren}{c c':Array Dy}(h:LR ρ c.toList c'.toList):VR ρ (.agg c) (.agg c'):=.agg c c' h.len h.at_
theorem VR.EC{ρ:Ren}{c c':Array Dy}(h:LR ρ c.toList c'.toList):VR ρ (.tuple c) (.tuple c'):=.tuple c c' h.len h.at_
theorem VR.Lt{ρ:Ren}{l l':List Dy}(h:LR ρ l l'):VR ρ (.agg l.toArray) (.agg l'.toArray):=.xX (by simpa using h)
theorem VR.Am{ρ:Ren}{l l':List Dy}(h:LR ρ l l'):VR ρ (.tuple l.toArray) (.tuple l'.toArray):=.EC (by simpa using h)
theorem VR.ED{ρ:Ren}{c:Array Dy}{v:Dy}(h:VR ρ (.agg c) v):∃c',v=.agg c'/\LR ρ c.toList c'.toList:=by
 cases h with
 |bN _ h=>cases h
 |agg c c' h1 h2=>exact⟨c',rfl,h1,h2⟩
theorem VR.Lu{ρ:Ren}{c:Array Dy}{v:Dy}(h:VR ρ (.tuple c) v):∃c',v=.tuple c'/\LR ρ c.toList c'.toList:=by
 cases h with
 |bN _ h=>cases h
 |tuple c c' h1 h2=>exact⟨c',rfl,h1,h2⟩
theorem VR.lp{ρ:Ren}{b off:Nat}{v:Dy}(h:VR ρ (.pointer (some ⟨b,off,none⟩)) v):∃r,ρ b=some r/\v=.pointer (some ⟨r.aH,r.sh+off,none⟩):=by
 cases h with
 |bN _ h=>cases h
 |ptr _ _ r h=>exact⟨r,h,rfl⟩
theorem VR.kl{ρ:Ren}{k:IntKind}{n:Int}{v:Dy}(h:VR ρ (.int k n) v):v=.int k n:=by cases h;rfl
theorem VR.qa{ρ:Ren}{s:ByteArray}{v:Dy}(h:VR ρ (.string s) v):v=.string s:=by cases h;rfl
theorem VR.vK{ρ:Ren}{b:Bool}{v:Dy}(h:VR ρ (.bool b) v):v=.bool b:=by cases h;rfl
theorem VR.xY{ρ:Ren}{t:KS}{u v:Dy}(h:VR ρ (.iface t u) v):∃u',v=.iface t u'/\VR ρ u u':=by
 cases h with
 |bN _ h=>cases h
 |iface _ _ u' h=>exact⟨u',rfl,h⟩
theorem VR.qP{ρ:Ren}{b:Nat}{v:Dy}(h:VR ρ (.map (some b)) v):∃r,ρ b=some r/\v=.map (some r.aH):=by
 cases h with
 |bN _ h=>cases h
 |map _ r h=>exact⟨r,h,rfl⟩
theorem VR.xZ{ρ:Ren}{fn:Fn}{f c:Array Dy}{v:Dy}(h:VR ρ (.func fn f c) v):∃f' c',v=.func fn f' c'/\LR ρ f.toList f'.toList/\LR ρ c.toList c'.toList:=by
 cases h with
 |bN _ h=>cases h
 |func _ _ f' _ c' h h1 h2 h3 h4=>exact⟨f',c',rfl,⟨h1,h2⟩,⟨h3,h4⟩⟩
theorem VR.undef(ρ:Ren):VR ρ undef undef:=.tuple _ _ rfl λi v v' h=>by simp at h
theorem VR.su{ρ:Ren}{v u:Dy}(h:ag v=true)(r:VR ρ v u):u=v:=by
 cases r<;>first|rfl|cases h
theorem VR.cells{ρ:Ren}{v v':Dy}(h:VR ρ v v'):LR ρ v.cells.toList v'.cells.toList:=by
 cases h with
 |bN _ h=>
  have:v.cells= #[v]:=by cases v<;>first|rfl|cases h
  rw[this]
  exact LR.cons (.bN v h) (LR.nil ρ)
 |agg c c' h1 h2=>exact⟨h1,h2⟩
 |ptr b off r h=>exact LR.cons (.ptr b off r h) (LR.nil ρ)
 |sl b off len cap bH r h hc=>exact LR.cons (.sl b off len cap bH r h hc) (LR.nil ρ)
 |eJ a a'=>exact LR.cons (.eJ a a') (LR.nil ρ)
 |na b off t=>exact LR.cons (.na b off t) (LR.nil ρ)
 |nJ b off t len cap=>exact LR.cons (.nJ b off t len cap) (LR.nil ρ)
 |map b r h=>exact LR.cons (.map b r h) (LR.nil ρ)
 |func fn f f' c c' h h1 h2 h3 h4=>exact LR.cons (.func fn f f' c c' h h1 h2 h3 h4) (LR.nil ρ)
 |iface t v v' h=>exact LR.cons (.iface t v v' h) (LR.nil ρ)
 |tuple c c' h1 h2=>exact LR.cons (.tuple c c' h1 h2) (LR.nil ρ)
theorem VR.An{ρ:Ren}{v v':Dy}(h:VR ρ v v'):v'.oneCell'=v.oneCell':=by cases h<;>rfl
theorem sw(ρ:Ren):∀(d:Nat) (v:Dy),flat d v=true->VR ρ v v:=by
 intro d
 induction d with
 |zero=>
  intro v h
  unfold flat at h
  split at h<;>first
   |exact .bN _ rfl
   |(simp only[BV,atN]at h
     exact .func _ _ _ _ _ rfl rfl (λi a b h1=>by rw[h.1]at h1;simp at h1) rfl (λi a b h1=>by rw[h.2]at h1;simp at h1))
   |cases h
   |omega
 |succ d ih=>
  intro v h
  unfold flat at h
  split at h<;>first
   |exact .bN _ rfl
   |(simp only[BV,atN]at h
     exact .func _ _ _ _ _ rfl rfl (λi a b h1=>by rw[h.1]at h1;simp at h1) rfl (λi a b h1=>by rw[h.2]at h1;simp at h1))
   |cases h
   |(rename_i e;cases e;exact .iface _ _ _ (ih _ h))
   |(rename_i e;cases e;refine .agg _ _ rfl λi a b h1 h2=>?_;rw[h1]at h2;cases h2;exact ih _ (ar1.1 h _ (ar7 h1)))
   |(rename_i e;cases e;refine .tuple _ _ rfl λi a b h1 h2=>?_;rw[h1]at h2;cases h2;exact ih _ (ar1.1 h _ (ar7 h1)))
theorem Ao{l l':List Dy}(hl:l.length=l'.length)(h:∀(i:Nat) (v v':Dy),l[i]?=some v->l'[i]?=some v'->v'=v):l'=l:=by
 apply auC
 intro i
 by_cases hi:i<l.length
 ·have fH:i<l'.length:=hl▸hi
  rw[KH hi,KH fH,h i _ _ (KH hi) (KH fH)]
 ·rw[asC (by omega),asC (by omega)]
theorem x5(ρ:Ren):∀(d:Nat) (v v':Dy),flat d v=true->VR ρ v v'->v'=v:=by
 intro d
 induction d with
 |zero=>
  intro v v' h hr
  cases hr with
  |bN=>rfl
  |func fn f f' c c' ho h1 h2 h3 h4=>
   cases fn with
   |func k=>
    simp only[flat,BV,atN]at h
    have e1:f'=f:=by apply atl;rw[h.1]at h1⊢;cases hf:f'.toList<;>simp_all
    have e2:c'=c:=by apply atl;rw[h.2]at h3⊢;cases hf:c'.toList<;>simp_all
    rw[e1,e2]
   |_=>simp[flat]at h
  |_=>simp[flat]at h
 |succ d ih=>
  intro v v' h hr
  cases hr with
  |bN=>rfl
  |func fn f f' c c' ho h1 h2 h3 h4=>
   cases fn with
   |func k=>
    simp only[flat,BV,atN]at h
    have e1:f'=f:=by apply atl;rw[h.1]at h1⊢;cases hf:f'.toList<;>simp_all
    have e2:c'=c:=by apply atl;rw[h.2]at h3⊢;cases hf:c'.toList<;>simp_all
    rw[e1,e2]
   |_=>simp[flat]at h
  |iface t v v' hv=>
   simp only[flat]at h
   rw[ih _ _ h hv]
  |agg c c' h1 h2=>
   simp only[flat]at h
   have:c'=c:=atl (Ao h1 λi a b ha hb=>ih _ _ (ar1.1 h _ (ar7 ha)) (h2 i a b ha hb))
   rw[this]
  |tuple c c' h1 h2=>
   simp only[flat]at h
   have:c'=c:=atl (Ao h1 λi a b ha hb=>ih _ _ (ar1.1 h _ (ar7 ha)) (h2 i a b ha hb))
   rw[this]
  |_=>simp[flat]at h
theorem nK{ρ:Ren}{v v':Dy}(h:fl v=true)(r:VR ρ v v'):v'=v:=x5 ρ 6 v v' h r
theorem oE{ρ:Ren}{v:Dy}(h:fl v=true):VR ρ v v:=sw ρ 6 v h
theorem LR.x5{ρ:Ren}{l l':List Dy}(h:l.all fl=true)(r:LR ρ l l'):l'=l:=
 Ao r.len λi v v' h1 h2=>nK (ar1.1 h _ (ar7 h1)) (r.at_ i v v' h1 h2)
theorem LR.sw{ρ:Ren}{l:List Dy}(h:l.all fl=true):LR ρ l l:=
 ⟨rfl,λi v v' h1 h2=>by rw[h1]at h2;cases h2;exact oE (ar1.1 h _ (ar7 h1))⟩
def ak.ro:ak->Bool
 | .cells _ _ r=>r
 | .rows _ _ _=>true
 |_=>false
def Live(o:ak)(r:bV):Bool:=match o with
 | .dead=>false
 | .rows _ _ _=>false
 | .abs _=>false
 | .cells c _ _=> !c.isEmpty|| !(arE r.dJ 0)
 |_=>true
theorem pc{c:List Dy}{el:KS}{ro:Bool}{r:bV}(h:c≠[]):Live (.cells c el ro) r=true:=by
 cases c with
 |nil=>exact absurd rfl h
 |cons v c=>rfl
theorem EE{c:List Dy}{el:KS}{ro:Bool}{r:bV}(h:Live (.cells c el ro) r=false):c=[]/\r.dJ=0:=by
 simp only[Live,auI,Bool.not_eq_false',atN]at h
 exact⟨h.1,arJ h.2⟩
structure gU(K:Nat->Prop)(w w':arB):Prop where
 os:w'.os=w.os
 tape:w'.tape=w.tape
 output:w'.output=w.output
 size:w.heap.size<=w'.heap.size
 block:∀k,K k->w'.heap[k]?=w.heap[k]?
theorem gU.refl(K:Nat->Prop)(w:arB):gU K w w:=⟨rfl,rfl,rfl,arO _,λ_ _=>rfl⟩
theorem gU.trans{K:Nat->Prop}{a b c:arB}(h:gU K a b)(k:gU K b c):gU K a c:=
 ⟨k.os.trans h.os,k.tape.trans h.tape,k.output.trans h.output,Nat.le_trans h.size k.size,λi hi=>(k.block i hi).trans (h.block i hi)⟩
theorem gU.alloc{K:Nat->Prop}{a w:arB}(h:gU K a w)(hB:∀k,K k->k<w.heap.size)(o:Obj):gU K a (w.alloc o):=
 h.trans ⟨rfl,rfl,rfl,by simp,λk hk=>at4 _ _ _ (hB k hk)⟩
theorem gU.below{w₀ w:arB}(h:gU (λk=>k<w₀.heap.size) w₀ w):Below w₀.heap.size w₀ w:=⟨h.os,h.tape,h.output,h.size,h.block⟩
def Env(B:Nat->Prop)(w₀:arB):Prop:=∀w,gU B w₀ w->Lm w
theorem Env.next{B B':Nat->Prop}{w₀ w:arB}(h:Env B w₀)(hb:gU B w₀ w)(hB:∀k,B k->B' k):Env B' w:=
 λw' h'=>h w' (hb.trans ⟨h'.os,h'.tape,h'.output,h'.size,λk hk=>h'.block k (hB k hk)⟩)
inductive SR(P:arC)(w₀:arB)(B:Nat->Prop):SV->Dy->Prop where
 |val (v:Dy) (h:ag v=true):SR P w₀ B (.val v) v
 |nil (el:KS) (a:Option atU):SR P w₀ B (.cells 0 [] el) (.slice a 0 0)
 |cells (n:Nat) (c:List Dy) (el:KS) (b off cap:Nat) (c':Array Dy) (cj:KS) (fr:Nat×Nat) (hB:B b) (hb:w₀.heap[b]?=some (.cells c' cj fr))
  (hc:∀(i:Nat) (v:Dy),c[i]?=some v->ag v=true/\c'[off+i]?=some v) (hl:off+c.length<=c'.size) (hn:n<=cap) (jv:∀s,bZ P el=some s->off+cap*s<=c'.size):
  SR P w₀ B (.cells n c el) (.slice (some ⟨b,off,none⟩) n cap)
 |qQ (size:Nat) (row:Nat->List SV) (a:Option atU):SR P w₀ B (.rows 0 size row) (.slice a 0 0)
 |rows (n size:Nat) (row:Nat->List SV) (b off cap:Nat) (c':Array Dy) (cj:KS) (fr:Nat×Nat) (hB:B b) (hb:w₀.heap[b]?=some (.cells c' cj fr)) (hl:off+n*size<=c'.size) (hn:n<=cap) (jv:off+cap*size<=c'.size)
  (hlen:∀i,i<n->(row i).length=size) (u:Nat->Nat->Dy) (hu:∀i k,i<n->k<size->c'[off+i*size+k]?=some (u i k))
  (hr:∀(i k:Nat) (sv:SV),i<n->(row i)[k]?=some sv->SR P w₀ B sv (u i k)):SR P w₀ B (.rows n size row) (.slice (some ⟨b,off,none⟩) n cap)
structure nL(P:arC)(w₀:arB)(B:Nat->Prop)(r:bV)(n size:Nat)(row:Nat->List SV):Prop where
 aH:B r.aH
 sz:r.sz=size
 at_:∃(c':Array Dy) (cj:KS) (fr:Nat×Nat),w₀.heap[r.aH]?=some (.cells c' cj fr)/\c'.size=r.dJ/\r.sh+n*size<=r.dJ/\
  ∀i,i<n->(row i).length=size/\∀(k:Nat) (sv:SV),(row i)[k]?=some sv->∃v',c'[r.sh+i*size+k]?=some v'/\SR P w₀ B sv v'
structure nM(ρ:Ren)(e e':arW):Prop where
 key:VR ρ e.key e'.key
 val:VR ρ e.val e'.val
 born:e.born=e'.born
inductive OR(P:arC)(ρ:Ren)(r:bV):ak->Obj->Prop where
 |cells (c:List Dy) (el cj:KS) (ro:Bool) (c':Array Dy) (fr:Nat×Nat) (hp:c'.size=r.dJ) (hs:r.sh+c.length<=r.dJ)
  (he:ro=false->cj=el) (hz:∀n,bZ P el=some n->r.sz=n) (hf:ro=false->fr.1=fr.2\/r.dJ<=fr.1)
  (hc:∀(i:Nat) (v:Dy),c[i]?=some v->∃v',c'[r.sh+i]?=some v'/\VR ρ v v'):OR P ρ r (.cells c el ro) (.cells c' cj fr)
 |map (es:List arW) (db:Array arW) (clock:Nat) (h1:es.length=db.toList.length)
  (h2:∀(i:Nat) (e e':arW),es[i]?=some e->db.toList[i]?=some e'->nM ρ e e'):OR P ρ r (.map es clock) (.map db clock)
 |lK (s:ByteArray) (pos:Nat):OR P ρ r (.lK s pos) (.stringIter s pos)
theorem OR.mono{P:arC}{ρ ρ':Ren}(hl:ρ.le ρ'){r:bV}{o:ak}{o':Obj}(h:OR P ρ r o o'):OR P ρ' r o o':=by
 cases h with
 |cells c el cj ro c' fr hp hs he hz hf hc=>exact .cells c el cj ro c' fr hp hs he hz hf λi v hv=>let⟨v',h1,h2⟩:=hc i v hv;⟨v',h1,h2.mono hl⟩
 |map es db clock h1 h2=>exact .map es db clock h1 λi e e' a b=>let q:=h2 i e e' a b;⟨q.key.mono hl,q.val.mono hl,q.born⟩
 |lK s pos=>exact .lK s pos
def pd(w:arB)(r:bV)(d:mm)(S:Nat->Prop):Prop:=∃L,D8 d r.aH r.sh r.sz r.dJ L/\qL w r.aH S L
theorem pd.frame{w w':arB}{r:bV}{d:mm}{S:Nat->Prop}(h:pd w r d S)(hs:∀k,S k->w'.heap[k]?=w.heap[k]?):pd w' r d S:=let⟨L,h1,h2⟩:=h;⟨L,h1,h2.frame hs⟩
theorem pd.row{w:arB}{r:bV}{d:mm}{S:Nat->Prop}(h:pd w r d S):∀k,S k->∃o,w.heap[k]?=some o/\z2 o=true:=let⟨L,h1,h2⟩:=h;h2.row
def vL(B:Nat->Prop)(ρ:Ren)(g:Nat->Option ak)(w:arB):Prop:=
 ∃F:Nat->Nat->Prop,(∀x d,g x=some (.abs d)->∃r S,ρ x=some r/\pd w r d S/\∀k,S k->F x k)/\
  (∀x k,F x k->(∃d,g x=some (.abs d))/\k<w.heap.size/\¬B k/\∀y o r,g y=some o->ρ y=some r->Live o r=true->r.aH≠k)/\(∀x y k,F x k->F y k->x=y)
theorem vL.none{B:Nat->Prop}{ρ:Ren}{g:Nat->Option ak}{w:arB}(h:∀x d,g x≠some (.abs d)):vL B ρ g w:=
 ⟨λ_ _=>False,λx d hx=>absurd hx (h x d),λ_ _ h=>h.elim,λ_ _ _ h=>h.elim⟩
theorem vL.next{B B':Nat->Prop}{ρ ρ':Ren}{g g':Nat->Option ak}{w w':arB}(h:vL B ρ g w)(hle:∀x d,g' x=some (.abs d)->g x=some (.abs d)/\ρ' x=ρ x)
 (hb:∀k,k<w.heap.size->¬B k->(∀y o r,g y=some o->ρ y=some r->Live o r=true->r.aH≠k)->w'.heap[k]?=w.heap[k]?/\¬B' k/\∀y o r,g' y=some o->ρ' y=some r->Live o r=true->r.aH≠k)
 (cc:w.heap.size<=w'.heap.size):vL B' ρ' g' w':=by
 obtain⟨F,h1,h2,h3⟩:=h
 refine⟨λx k=>F x k/\∃d,g' x=some (.abs d),λx d hx=>?_,λx k hk=>?_,λx y k a b=>h3 x y k a.1 b.1⟩
 ·obtain⟨a,b⟩:=hle x d hx
  obtain⟨r,S,c,e,f⟩:=h1 x d a
  exact⟨r,S,by rw[b,c],e.frame λk hk=>(by obtain⟨_,q2,q3,q4⟩:=h2 x k (f k hk);exact(hb k q2 q3 q4).1),λk hk=>⟨f k hk,d,hx⟩⟩
 ·obtain⟨_,q2,q3,q4⟩:=h2 x k hk.1
  obtain⟨_,c,e⟩:=hb k q2 q3 q4
  exact⟨hk.2,atP q2 cc,c,e⟩
structure WR(P:arC)(B:Nat->Prop)(w₀:arB)(ρ:Ren)(g:Nat->Option ak)(w:arB):Prop where
 below:gU B w₀ w
 env:Env B w₀
 size:∀k,B k->k<w.heap.size
 live:∀x o r,g x=some o->ρ x=some r->Live o r=true->∃o',w.heap[r.aH]?=some o'/\OR P ρ r o o'/\(o.ro=false->¬B r.aH)
 inj:∀x y ox oy rx ry,g x=some ox->g y=some oy->ρ x=some rx->ρ y=some ry->Live ox rx=true->Live oy ry=true->(ox.ro=false\/oy.ro=false)->rx.aH=ry.aH->x=y
 fresh:∀x,g x=none->ρ x=none
 rows:∀x n size row,g x=some (.rows n size row)->∃r,ρ x=some r/\(0<n->nL P w₀ B r n size row)
 nil:∀x el ro r,g x=some (.cells [] el ro)->ρ x=some r->∀n,bZ P el=some n->r.sz=n
 named:∀x o,g x=some o->o≠ .dead->∃r,ρ x=some r
 abs:vL B ρ g w
theorem OR.rows{P:arC}{ρ:Ren}{r:bV}{n size:Nat}{row:Nat->List SV}{o':Obj}(h:OR P ρ r (.rows n size row) o'):False:=by cases h
theorem OR.x6{P:arC}{ρ:Ren}{r:bV}{c:List Dy}{el:KS}{ro:Bool}{o':Obj}(h:OR P ρ r (.cells c el ro) o'):∀n,bZ P el=some n->r.sz=n:=by
 cases h with
 |cells _ _ _ _ _ _ _ _ _ hz _ _=>exact hz
section
variable {P:arC} {B:Nat->Prop} {w₀:arB} {ρ:Ren} {g:Nat->Option ak} {w:arB}
theorem WR.mem(h:WR P B w₀ ρ g w){x:Nat}{o:ak}(hx:g x=some o){r:bV}(hl:Live o r=true)(hr:ρ x=some r):
 ∃o',w.heap[r.aH]?=some o'/\OR P ρ r o o'/\(o.ro=false->¬B r.aH):=h.live x o r hx hr hl
theorem WR.same(h:WR P B w₀ ρ g w){w':arB}(hh:w'.heap=w.heap)(ho:w'.os=w.os)(ht:w'.tape=w.tape)(hu:w'.output=w.output):WR P B w₀ ρ g w' where
 env:=h.env
 below:=⟨ho.trans h.below.os,ht.trans h.below.tape,hu.trans h.below.output,by rw[hh];exact h.below.size,λk hk=>by rw[hh];exact h.below.block k hk⟩
 size:=by rw[hh];exact h.size
 live:=by rw[hh];exact h.live
 inj:=h.inj
 fresh:=h.fresh
 rows:=h.rows
 nil:=h.nil
 named:=h.named
 abs:=h.abs.next (λx d hx=>⟨hx,rfl⟩) (λk _ a b=>⟨by rw[hh],a,b⟩) (by rw[hh];exact arO _)
theorem WR.drew(h:WR P B w₀ ρ g w):WR P B w₀ ρ g w.drew:=h.same rfl rfl rfl rfl
structure pe(w w':arB)(b:Nat)(o:Obj):Prop where
 os:w'.os=w.os
 tape:w'.tape=w.tape
 output:w'.output=w.output
 size:w'.heap.size=w.heap.size
 now:w'.heap[b]?=some o
 rest:∀k,k≠b->w'.heap[k]?=w.heap[k]?
theorem WR.change(h:WR P B w₀ ρ g w){x:Nat}{o o2:ak}(hx:g x=some o){r:bV}(hl:Live o r=true)(hr:ρ x=some r)(hB:¬B r.aH)
 {w':arB}{o':Obj}(hc:pe w w' r.aH o')(ho:OR P ρ r o2 o')(de:o.ro=false:=by rfl):WR P B w₀ ρ (cX g x o2) w' where
 env:=h.env
 below:=h.below.trans ⟨hc.os,hc.tape,hc.output,atA hc.size.symm,λk hk=>hc.rest k (λe=>hB (e▸hk))⟩
 size:=by rw[hc.size];exact h.size
 live:=by
  intro y oy ry hy cD dq
  by_cases e:y=x
  ·subst e
   rw[fB]at hy
   cases hy
   rw[hr]at cD
   cases cD
   exact⟨o',hc.now,ho,λ_=>hB⟩
  ·rw[eB _ e]at hy
   obtain⟨EF,h2,h3,h4⟩:=h.live y oy ry hy cD dq
   refine⟨EF,?_,h3,h4⟩
   rw[hc.rest]
   ·exact h2
   ·intro e'
    exact e (h.inj y x oy o ry r hy hx cD hr dq hl (.inr de) e')
 inj:=by
  intro y z oy oz ry rz hy hz cD iM dq kP hd e
  have live:∀u ou ru,cX g x o2 u=some ou->ρ u=some ru->Live ou ru=true->∃EG,g u=some EG/\Live EG ru=true/\(ou.ro=false->EG.ro=false):=by
   intro u ou ru hu tU x7
   by_cases eu:u=x
   ·subst eu;rw[hr]at tU;cases tU;exact⟨o,hx,hl,λ_=>de⟩
   ·rw[eB _ eu]at hu;exact⟨ou,hu,x7,λh=>h⟩
  obtain⟨EF,lq,VT,VU⟩:=live y oy ry hy cD dq
  obtain⟨VV,qR,VW,VX⟩:=live z oz rz hz iM kP
  exact h.inj y z EF VV ry rz lq qR cD iM VT VW (hd.imp VU VX) e
 fresh:=by
  intro y hy
  by_cases e:y=x
  ·subst e;rw[fB]at hy;cases hy
  ·rw[eB _ e]at hy;exact h.fresh y hy
 rows:=by
  intro y n size row hy
  by_cases e:y=x
  ·subst e;rw[fB]at hy;cases hy;exact ho.rows.elim
  ·rw[eB _ e]at hy;exact h.rows y n size row hy
 nil:=by
  intro y el tV ry hy cD
  by_cases e:y=x
  ·subst e;rw[fB]at hy;cases hy;rw[hr]at cD;cases cD;exact ho.x6
  ·rw[eB _ e]at hy;exact h.nil y el tV ry hy cD
 named:=by
  intro y oy hy br
  by_cases e:y=x
  ·subst e;exact⟨r,hr⟩
  ·rw[eB _ e]at hy;exact h.named y oy hy br
 abs:=by
  refine h.abs.next (λy d hy=>?_) (λk k1 k2 k3=>⟨hc.rest k (λe=>k3 x o r hx hr hl e.symm),k2,λy oy ry hy cD dq=>?_⟩) (atA hc.size.symm)
  ·by_cases e:y=x
   ·subst e;rw[fB]at hy;cases hy;cases ho
   ·rw[eB _ e]at hy;exact⟨hy,rfl⟩
  ·by_cases e:y=x
   ·subst e;rw[hr]at cD;cases cD;exact k3 _ o _ hx hr hl
   ·rw[eB _ e]at hy;exact k3 y oy ry hy cD dq
theorem WR.kill(h:WR P B w₀ ρ g w)(x:Nat){o:ak}(hx:g x=some o):WR P B w₀ ρ (cX g x .dead) w where
 env:=h.env
 below:=h.below
 size:=h.size
 live:=by
  intro y oy ry hy cD dq
  by_cases e:y=x
  ·subst e;rw[fB]at hy;cases hy;cases dq
  ·rw[eB _ e]at hy;exact h.live y oy ry hy cD dq
 inj:=by
  intro y z oy oz ry rz hy hz cD iM dq kP
  have key:∀u ou ru,cX g x .dead u=some ou->Live ou ru=true->g u=some ou:=by
   intro u ou ru hu x7
   by_cases eu:u=x
   ·subst eu;rw[fB]at hu;cases hu;cases x7
   ·rw[eB _ eu]at hu;exact hu
  exact h.inj y z oy oz ry rz (key y oy ry hy dq) (key z oz rz hz kP) cD iM dq kP
 fresh:=by
  intro y hy
  by_cases e:y=x
  ·subst e;rw[fB]at hy;cases hy
  ·rw[eB _ e]at hy;exact h.fresh y hy
 rows:=by
  intro y n size row hy
  by_cases e:y=x
  ·subst e;rw[fB]at hy;cases hy
  ·rw[eB _ e]at hy;exact h.rows y n size row hy
 nil:=by
  intro y el tV ry hy cD
  by_cases e:y=x
  ·subst e;rw[fB]at hy;cases hy
  ·rw[eB _ e]at hy;exact h.nil y el tV ry hy cD
 named:=by
  intro y oy hy br
  by_cases e:y=x
  ·subst e;rw[fB]at hy;cases hy;exact absurd rfl br
  ·rw[eB _ e]at hy;exact h.named y oy hy br
 abs:=by
  refine h.abs.next (λy d hy=>?_) (λk k1 k2 k3=>⟨rfl,k2,λy oy ry hy cD dq=>?_⟩) (arO _)
  ·by_cases e:y=x
   ·subst e;rw[fB]at hy;cases hy
   ·rw[eB _ e]at hy;exact⟨hy,rfl⟩
  ·by_cases e:y=x
   ·subst e;rw[fB]at hy;cases hy;cases dq
   ·rw[eB _ e]at hy;exact k3 y oy ry hy cD dq
def Ren.put(ρ:Ren)(x:Nat)(r:bV):Ren:=λy=>if y=x then some r else ρ y
theorem Ren.lr(ρ:Ren)(x:Nat)(r:bV):ρ.put x r x=some r:=by simp[Ren.put]
theorem Ren.qS(ρ:Ren){x y:Nat}(r:bV)(h:y≠x):ρ.put x r y=ρ y:=by simp[Ren.put,h]
theorem Ren.kQ{ρ:Ren}{x:Nat}(h:ρ x=none)(r:bV):ρ.le (ρ.put x r):=λy s e=>by
 unfold Ren.put
 by_cases hy:y=x
 ·subst hy;rw[h]at e;cases e
 ·rw[if_neg hy,e]
theorem WR.put(h:WR P B w₀ ρ g w){n:Nat}(hn:g n=none){g':Nat->Option ak}(hg:∀y,y≠n->g' y=g y\/g' y=some .dead){o:ak}(iP:g' n=some o){r:bV}{w':arB}
 (hb:gU B w w')(cc:w.heap.size<=w'.heap.size)
 (hold:∀y oy ry,y≠n->g' y=some oy->g y=some oy->ρ y=some ry->Live oy ry=true->w'.heap[ry.aH]?=w.heap[ry.aH]?)
 (vM:Live o r=true->∃o',w'.heap[r.aH]?=some o'/\OR P (ρ.put n r) r o o'/\(o.ro=false->¬B r.aH))
 (x8:Live o r=true->∀y oy ry,y≠n->g' y=some oy->g y=some oy->ρ y=some ry->Live oy ry=true->(oy.ro=false\/o.ro=false)->ry.aH≠r.aH)
 (Ap:∀k,k<w.heap.size->¬B k->(∀y oy ry,g y=some oy->ρ y=some ry->Live oy ry=true->ry.aH≠k)->w'.heap[k]?=w.heap[k]?/\(Live o r=true->r.aH≠k))(EH:∀d,o≠ .abs d)
 (EI:∀m size row,o=.rows m size row->0<m->nL P w₀ B r m size row)(pf:∀el ro,o=.cells [] el ro->∀k,bZ P el=some k->r.sz=k):WR P B w₀ (ρ.put n r) g' w':=by
 have own:∀u ou ru,u≠n->g' u=some ou->Live ou ru=true->(ρ.put n r) u=some ru->g u=some ou/\ρ u=some ru:=by
  intro u ou ru hu h1 h2 h3
  rw[Ren.qS _ _ hu]at h3
  rcases hg u hu with h4|h4
  ·rw[h4]at h1;exact⟨h1,h3⟩
  ·rw[h4]at h1;cases h1;cases h2
 exact
 {env:=h.env
  below:=h.below.trans hb
  size:=λk hk=>atP (h.size k hk) cc
  live:=by
   intro y oy ry hy cD dq
   by_cases e:y=n
   ·subst e
    rw[iP]at hy
    cases hy
    rw[Ren.lr]at cD
    cases cD
    exact vM dq
   ·obtain⟨h1,h2⟩:=own y oy ry e hy dq cD
    obtain⟨o',h3,h4,h5⟩:=h.live y oy ry h1 h2 dq
    exact⟨o',by rw[hold y oy ry e hy h1 h2 dq,h3],h4.mono (Ren.kQ (h.fresh n hn) r),h5⟩
  inj:=by
   intro y z oy oz ry rz hy hz cD iM dq kP hd e
   by_cases ey:y=n
   ·by_cases ez:z=n
    ·rw[ey,ez]
    ·obtain⟨h1,h2⟩:=own z oz rz ez hz kP iM
     subst ey
     rw[iP]at hy
     cases hy
     rw[Ren.lr]at cD
     cases cD
     exact absurd e.symm (x8 dq z oz rz ez hz h1 h2 kP hd.symm)
   ·obtain⟨h1,h2⟩:=own y oy ry ey hy dq cD
    by_cases ez:z=n
    ·subst ez
     rw[iP]at hz
     cases hz
     rw[Ren.lr]at iM
     cases iM
     exact absurd e (x8 kP y oy ry ey hy h1 h2 dq hd)
    ·obtain⟨h3,h4⟩:=own z oz rz ez hz kP iM
     exact h.inj y z oy oz ry rz h1 h3 h2 h4 dq kP hd e
  fresh:=by
   intro y hy
   by_cases e:y=n
   ·subst e;rw[iP]at hy;cases hy
   ·rw[Ren.qS _ _ e]
    rcases hg y e with h4|h4
    ·rw[h4]at hy;exact h.fresh y hy
    ·rw[h4]at hy;cases hy
  rows:=by
   intro y m size row hy
   by_cases e:y=n
   ·subst e;rw[iP]at hy;cases hy;exact⟨r,Ren.lr _ _ _,EI m size row rfl⟩
   ·rw[Ren.qS _ _ e]
    rcases hg y e with h4|h4
    ·rw[h4]at hy;exact h.rows y m size row hy
    ·rw[h4]at hy;cases hy
  nil:=by
   intro y el tV ry hy cD
   by_cases e:y=n
   ·subst e;rw[iP]at hy;cases hy;rw[Ren.lr]at cD;cases cD;exact pf el tV rfl
   ·rw[Ren.qS _ _ e]at cD
    rcases hg y e with h4|h4
    ·rw[h4]at hy;exact h.nil y el tV ry hy cD
    ·rw[h4]at hy;cases hy
  named:=by
   intro y oy hy br
   by_cases e:y=n
   ·subst e;exact⟨r,Ren.lr _ _ _⟩
   ·rw[Ren.qS _ _ e]
    rcases hg y e with h4|h4
    ·rw[h4]at hy;exact h.named y oy hy br
    ·rw[h4]at hy;cases hy;exact absurd rfl br
  abs:=by
   refine h.abs.next (λy d hy=>?_) (λk k1 k2 k3=>⟨(Ap k k1 k2 k3).1,k2,λy oy ry hy cD dq=>?_⟩) cc
   ·by_cases e:y=n
    ·subst e;rw[iP]at hy;cases hy;exact absurd rfl (EH d)
    ·rcases hg y e with h4|h4
     ·rw[h4]at hy;exact⟨hy,Ren.qS _ _ e⟩
     ·rw[h4]at hy;cases hy
   ·by_cases e:y=n
    ·subst e;rw[iP]at hy;cases hy;rw[Ren.lr]at cD;cases cD;exact(Ap k k1 k2 k3).2 dq
    ·obtain⟨h1,h2⟩:=own y oy ry e hy dq cD
     exact k3 y oy ry h1 h2 dq}
theorem WR.alloc(h:WR P B w₀ ρ g w){n:Nat}(hn:g n=none){o:ak}{o':Obj}{r:bV}(hb:r.aH=w.heap.size)(ho:OR P (ρ.put n r) r o o'):
 WR P B w₀ (ρ.put n r) (cX g n o) (w.alloc o'):=by
 have hlt:∀y oy ry,g y=some oy->ρ y=some ry->Live oy ry=true->ry.aH<w.heap.size:=λy oy ry h1 h2 h3=>by
  obtain⟨o2,h5,_⟩:=h.live y oy ry h1 h2 h3
  exact(Array.getElem?_eq_some_iff.1 h5).1
 refine h.put hn (λy hy=>.inl (eB _ hy)) (fB _ _ _) ((gU.refl B w).alloc h.size o') (by simp) (λy oy ry _ _ h1 h2 h3=>at4 _ _ _ (hlt y oy ry h1 h2 h3))
  (λ_=>⟨o',by rw[hb];show(w.heap.push o')[w.heap.size]?=some o';simp,ho,λ_ hk=>by have:=h.size _ hk;omega⟩)
  (λ_ y oy ry _ _ h1 h2 h3 _ e=>by have:=hlt y oy ry h1 h2 h3;omega) (λk k1 _ _=>⟨at4 _ _ _ k1,λ_ e=>by omega⟩) (λd e=>by subst e;cases ho) (λm s q e=>by subst e;exact ho.rows.elim) (λel ro e=>by subst e;exact ho.x6)
theorem WR.rename(h:WR P B w₀ ρ g w){n b:Nat}(hn:g n=none){ob:ak}(hb:g b=some ob){rb:bV}(tW:Live ob rb=true)(EJ:ρ b=some rb)(hB:¬B rb.aH)
 {w':arB}{o':Obj}(hc:pe w w' rb.aH o'){o:ak}{r:bV}(hr:r.aH=rb.aH)(ho:OR P (ρ.put n r) r o o')(de:ob.ro=false:=by rfl):
 WR P B w₀ (ρ.put n r) (cX (cX g b .dead) n o) w':=by
 have br:∀y oy ry,y≠n->cX (cX g b .dead) n o y=some oy->Live oy ry=true->y≠b:=λy oy ry e h1 h2 eb=>by
  subst eb
  rw[eB _ e,fB]at h1
  cases h1
  cases h2
 have Aq:∀y oy ry,y≠n->cX (cX g b .dead) n o y=some oy->g y=some oy->ρ y=some ry->Live oy ry=true->ry.aH≠rb.aH:=λy oy ry e h0 h1 h2 h3 e'=>
  br y oy ry e h0 h3 (h.inj y b oy ob ry rb h1 hb h2 EJ h3 tW (.inr de) e')
 refine h.put hn (λy hy=>?_) (fB _ _ _) ⟨hc.os,hc.tape,hc.output,atA hc.size.symm,λk hk=>hc.rest k (λe=>hB (e▸hk))⟩ (atA hc.size.symm)
  (λy oy ry e h0 h1 h2 h3=>hc.rest _ (Aq y oy ry e h0 h1 h2 h3)) (λ_=>⟨o',by rw[hr];exact hc.now,ho,λ_=>by rw[hr];exact hB⟩)
  (λ_ y oy ry e h0 h1 h2 h3 _=>by rw[hr];exact Aq y oy ry e h0 h1 h2 h3) (λk k1 _ k3=>⟨hc.rest k λe=>k3 b ob rb hb EJ tW e.symm,λ_=>by rw[hr];exact k3 b ob rb hb EJ tW⟩) (λd e=>by subst e;cases ho) (λm s q e=>by subst e;exact ho.rows.elim) (λel ro e=>by subst e;exact ho.x6)
 rw[eB _ hy]
 by_cases e:y=b
 ·right;rw[e,fB]
 ·left;rw[eB _ e]
end
theorem qb(b off j:Nat):(⟨b,off,none⟩:atU).add j=⟨b,off+j,none⟩:=by
 unfold Addr.add
 by_cases h:j=0
 ·rw[if_pos h,h];rfl
 ·rw[if_neg h]
theorem EK{w:arB}{b:Nat}{c:Array Dy}{el:KS}{fr:Nat×Nat}(h:w.heap[b]?=some (.cells c el fr))(i:Nat):w.cell? ⟨b,i,none⟩=c[i]? :=by
 simp[World.cell?,h]
def qT(c:Array Dy)(off:Nat):List Dy->Array Dy
 | []=>c
 |v::l=>qT (c.setIfInBounds off v) (off+1) l
theorem EL(c:Array Dy):∀(l:List Dy) (off:Nat),(qT c off l).size=c.size:=by
 intro l
 induction l generalizing c with
 |nil=>intro off;rfl
 |cons v l ih=>intro off;simp[qT,ih]
theorem Ar:∀(l:List Dy) (c:Array Dy) (off i:Nat),off+l.length<=c.size->
 (qT c off l)[i]?=if off<=i/\i<off+l.length then l[i-off]?else c[i]?
 | [],c,off,i,h=>by
  have:¬(off<=i/\i<off+([]:List Dy).length):=λhh=>by simp at hh;omega
  rw[if_neg this];rfl
 |v::l,c,off,i,h=>by
  simp only[ar4]at h
  rw[qT,Ar l _ (off+1) i (by simp;omega)]
  by_cases h1:off+1<=i/\i<off+1+l.length
  ·rw[if_pos h1,if_pos (by simp;omega)]
   rw[show i-off=(i-(off+1))+1 by omega]
   rfl
  ·rw[if_neg h1]
   by_cases h2:i=off
   ·subst h2
    rw[if_pos (by simp),Array.getElem?_setIfInBounds_self,if_pos (by omega)]
    simp
   ·rw[if_neg (by simp;omega)]
    simp[Array.getElem?_setIfInBounds_ne (Ne.symm h2)]
theorem EM{P:arC}{w:arB}{b:Nat}{el:KS}{fr:Nat×Nat}:∀(vs:List Dy) (w':arB) (c:Array Dy) (off i:Nat),
 pe w w' b (.cells c el fr)->off+i+vs.length<=c.size->(fr.1=fr.2\/c.size<=fr.1)->(vs.all asr)=true->
 ∃w2,(storeCells ⟨b,off,none⟩ vs i).run P w'=.ok () w2/\pe w w2 b (.cells (qT c (off+i) vs) el fr)
 | [],w',c,off,i,hc,_,_,_=>⟨w',rfl,hc⟩
 |v::vs,w',c,off,i,hc,hl,hf,ho=>by
  simp only[ar4]at hl
  simp only[List.all_cons,BV]at ho
  have qc:w'.cell? ⟨b,off+i,none⟩=some (c[off+i]'(by omega)):=by
   rw[EK hc.now,Array.getElem?_eq_getElem]
  have nN:w'.frozen? ⟨b,off+i,none⟩=false:=by
   simp only[World.frozen?,hc.now]
   rcases hf with hf|hf
   ·obtain⟨lo,hi⟩:=fr
    simp only at hf
    subst hf
    simp only[Bool.and_eq_false_iff,decide_eq_false_iff_not]
    omega
   ·have:¬fr.1<=off+i:=by omega
    simp[this]
  have jj:pe w (w'.setCell ⟨b,off+i,none⟩ v) b (.cells (c.setIfInBounds (off+i) v) el fr):=
   ⟨hc.os,hc.tape,hc.output,by rw[World.size_setCell,hc.size],by simp[World.setCell,aud,hc.now],λk hk=>by
    rw[Below.heap_setCell _ _ _ _ hk];exact hc.rest k hk⟩
  obtain⟨w2,hr,hw⟩:=EM vs _ (c.setIfInBounds (off+i) v) off (i+1) jj (by simp;omega) (by simpa using hf) ho.2
  refine⟨w2,?_,hw⟩
  show(at5 P (store ((⟨b,off,none⟩:atU).add i) v>>=λ_=>storeCells ⟨b,off,none⟩ vs (i+1)) w')=_
  rw[DA,qb,run_store _ _ _ _ _ ho.1,qc]
  simp only[nN,asv,if_false,Dz]
  exact hr
theorem pe.refl{w:arB}{b:Nat}{o:Obj}(h:w.heap[b]?=some o):pe w w b o:=⟨rfl,rfl,rfl,rfl,h,λ_ _=>rfl⟩
theorem As{P:arC}{w:arB}{b:Nat}{c:Array Dy}{el:KS}{fr:Nat×Nat}(hb:w.heap[b]?=some (.cells c el fr))(off n:Nat)(h:off+n<=c.size):
 (loadCells ⟨b,off,none⟩ n).run P w=.ok ((c.toList.drop off).take n).toArray w:=by
 have hlen:((c.toList.drop off).take n).length=n:=by simp;omega
 have:=run_loadCells_list (P:=P) w ⟨b,off,none⟩ ((c.toList.drop off).take n) (λj v hj=>by
  rw[qb,EK hb]
  rw[asL]at hj
  split at hj
  ·simpa using hj
  ·cases hj)
 rwa[hlen]at this
end Go.Proofs.YtnlkkgpcikkpoaaGreat.Vm
namespace Go.Proofs.YtnlkkgpcikkpoaaGreat.Vm
open Go.RowKit
theorem VY{α:Type}{P:arC}:∀{s:Sem α} {a:α},g9 P s=some (.ok a)->∀w:arB,s.run P w=.ok a w:=by
 intro s
 induction s with
 |pure b=>intro a h w;simp[g9]at h;subst h;rfl
 |program k ih=>intro a h w;simp only[g9]at h;simp only[at5];exact ih P h w
 |mark m k ih=>intro a h w;simp only[g9]at h;simp only[at5];exact ih h w
 |halt x=>intro a h w;cases x<;>simp[g9]at h
 |_=>intro a h;simp[g9]at h
theorem VZ{α:Type}{P:arC}:∀{s:Sem α} {v:Dy},g9 P s=some (.error v)->∀w:arB,s.run P w=.halt (.panic v) w:=by
 intro s
 induction s with
 |pure b=>intro a h;simp[g9]at h
 |program k ih=>intro a h w;simp only[g9]at h;simp only[at5];exact ih P h w
 |mark m k ih=>intro a h w;simp only[g9]at h;simp only[at5];exact ih h w
 |halt x=>intro a h w;cases x<;>simp[g9]at h;subst h;rfl
 |_=>intro a h;simp[g9]at h
section
variable {P:arC}
theorem run_underlying{t:KS}{d:avp}(h:P.underlying t=some d)(w:arB):(underlying t).run P w=.ok d w:=by
 simp only[underlying,DA,atw,Dz,h];rfl
theorem run_sizeOf{t:KS}{n:Nat}(h:bZ P t=some n)(w:arB):(sizeOf t).run P w=.ok n w:=by
 unfold bZ at h
 cases hi:P.info? t with
 |none=>rw[hi]at h;cases h
 |some i=>
  rw[hi]at h
  cases h
  simp only[sizeOf,typeInfo,DA,atw,Dz,hi];rfl
theorem Au{t:KS}{b:Bool}(h:oZ P t=some b)(w:arB):(isAgg t).run P w=.ok b w:=by
 unfold oZ at h
 unfold isAgg
 cases hu:P.underlying t with
 |none=>rw[hu]at h;cases h
 |some d=>
  rw[hu]at h
  rw[DA,run_underlying hu,Dz]
  cases d<;>simp at h<;>subst h<;>rfl
theorem nO{t:KS}{z:Dy}(h:zeroOf P t=some z)(w:arB):(zeroValue t).run P w=.ok z w:=by
 unfold zeroOf at h
 cases hi:P.info? t with
 |none=>rw[hi]at h;cases h
 |some i=>
  rw[hi]at h
  simp only[zeroValue,typeInfo,DA,atw,Dz,hi,asa]
  have:i.zero=some z:=h
  rw[this];rfl
end
inductive RR(ρ:Ren):kM->Result atu->arB->Prop where
 |val (v v':Dy) (w:arB) (h:VR ρ v v'):RR ρ (.val v) (.ok (.value v') w) w
 |skip (w:arB):RR ρ .skip (.ok .skip w) w
 |panic (v v':Dy) (w:arB) (h:VR ρ v v'):RR ρ (.panic v) (.halt (.panic v') w) w
 |enter (f:arY) (l:List Dy) (a:Array Dy) (w:arB) (h:LR ρ l a.toList):RR ρ (.enter f l) (.ok (.enter f a) w) w
def vN(g:Nat->Option ak)(n:Nat)(out:bo):Nat->Option ak:=
 let g1:=out.ws.foldl (λg (x,o)=>cX g x o) g
 match out.nw with
 |none=>g1
 |some o=>cX g1 n o
structure Fits(P:arC)(B:Nat->Prop)(w₀:arB)(ρ:Ren)(g:Nat->Option ak)(n:Nat)(out:bo)(pg:Result atu):Prop where
 ex:∃ρ' w',ρ.le ρ'/\RR ρ' out.r pg w'/\WR P B w₀ ρ' (vN g n out) w'
section
variable {P:arC} {B:Nat->Prop} {w₀:arB} {ρ:Ren} {g:Nat->Option ak} {n:Nat} {w:arB}
theorem Fits.val(hw:WR P B w₀ ρ g w){v v':Dy}(h:VR ρ v v'):Fits P B w₀ ρ g n ⟨.val v,[],none⟩ (.ok (.value v') w):=
 ⟨ρ,w,Ren.le_refl ρ,.val v v' w h,hw⟩
theorem Fits.dK(hw:WR P B w₀ ρ g w){v v':Dy}{out:bo}{l:List Nat}(ho:(Vm.val v).run g=some (out,l))(h:VR ρ v v'):
 Fits P B w₀ ρ g n out (.ok (.value v') w):=by
 simp only[Vm.val,Rd.run,DE,KN]at ho
 obtain⟨rfl,rfl⟩:=ho
 exact Fits.val hw h
theorem ph(hw:WR P B w₀ ρ g w){s:Sem atu}{out:bo}{l:List Nat}(ho:(lk P s).run g=some (out,l)):
 Fits P B w₀ ρ g n out (s.run P w):=by
 unfold lk at ho
 split at ho
 ·rename_i v hp
  split at ho
  ·rename_i hf
   rw[VY hp]
   exact Fits.dK hw ho (oE hf)
  ·cases ho
 ·rename_i v hp
  split at ho
  ·rename_i hf
   rw[VZ hp]
   simp only[Rd.run,DE,KN]at ho
   obtain⟨rfl,rfl⟩:=ho
   exact⟨ρ,w,Ren.le_refl ρ,.panic v v w (oE hf),hw⟩
  ·cases ho
 ·cases ho
theorem sx(hw:WR P B w₀ ρ g w){b:Nat}{c:List Dy}{el:KS}{ro:Bool}(hb:g b=some (.cells c el ro)){r:bV}(hr:ρ b=some r)(mq:Live (.cells c el ro) r=true):
 ∃c' fr,(∃cj,w.heap[r.aH]?=some (.cells c' cj fr)/\(ro=false->cj=el))/\c'.size=r.dJ/\r.sh+c.length<=r.dJ/\(∀n,bZ P el=some n->r.sz=n)/\
  (ro=false->fr.1=fr.2\/r.dJ<=fr.1)/\LR ρ c ((c'.toList.drop r.sh).take c.length)/\(ro=false->¬B r.aH):=by
 obtain⟨o',h1,h2,h3⟩:=hw.mem hb mq hr
 cases h2 with
 |cells _ _ cj _ c' fr hp hs he hz hf hc=>
  refine⟨c',fr,⟨cj,h1,he⟩,hp,hs,hz,hf,⟨by simp;omega,λi v v' hv gJ=>?_⟩,h3⟩
  obtain⟨u,hu,hr⟩:=hc i v hv
  rw[asL]at gJ
  split at gJ
  ·rw[asH]at gJ
   have:c'.toList[r.sh+i]?=some u:=by simpa using hu
   rw[this]at gJ
   cases gJ
   exact hr
  ·cases gJ
theorem Lv(hw:WR P B w₀ ρ g w){b:Nat}{c:List Dy}{el:KS}{ro:Bool}(hb:g b=some (.cells c el ro)){r:bV}(hr:ρ b=some r):∀n,bZ P el=some n->r.sz=n:=by
 cases mq:Live (.cells c el ro) r with
 |true=>
  obtain⟨_,_,_,_,_,h,_⟩:=sx hw hb hr mq
  exact h
 |false=>
  obtain⟨rfl,_⟩:=EE mq
  exact hw.nil b el ro r hb hr
theorem vO{c:List Dy}{off n:Nat}{l:List Dy}(h:cut c off n=some l):off+n<=c.length/\l=(c.drop off).take n:=by
 unfold cut at h
 split at h
 ·rename_i hb;cases h;exact⟨arU hb,rfl⟩
 ·cases h
theorem Av{c:List Dy}{d:List Dy}{sh off n:Nat}(hl:LR ρ c ((d.drop sh).take c.length))(h:off+n<=c.length):
 LR ρ ((c.drop off).take n) ((d.drop (sh+off)).take n):=by
 have h1:=(hl.drop off).take n
 rwa[List.drop_take,List.take_take,List.drop_drop,Nat.min_eq_left (by omega)]at h1
theorem vP(hw:WR P B w₀ ρ g w){t:KS}{b off:Nat}{v:Dy}{l:List Nat}(h:(qM P t b off).run g=some (v,l)){r:bV}(hr:ρ b=some r):
 ∃v',(loadVar t ⟨r.aH,r.sh+off,none⟩).run P w=.ok v' w/\VR ρ v v':=by
 obtain⟨o,l',hb,hk,rfl⟩:=Rd.run_read h
 split at hk
 ·rename_i c el ro
  split at hk
  ·rename_i tX
   split at hk
   ·rename_i m hm
    split at hk
    ·rename_i cs qU
     obtain⟨hle,rfl⟩:=vO qU
     obtain⟨c',fr,⟨cj,h1,_⟩,hp,hs,hz,hf,hl,_⟩:=sx hw hb hr (pc (by intro e;rw[e]at hle;simp at hle))
     simp only[Rd.run,DE,KN]at hk
     obtain⟨rfl,rfl⟩:=hk
     refine⟨_,?_,VR.Lt (Av hl hle)⟩
     unfold loadVar
     rw[DA,Au tX,Dz]
     simp only[if_true,DA,run_sizeOf hm,Dz,As h1 (r.sh+off) (m+1) (by omega),asa]
    ·cases hk
   ·cases hk
  ·rename_i tX
   split at hk
   ·rename_i u hu
    simp only[Rd.run,DE,KN]at hk
    obtain⟨rfl,rfl⟩:=hk
    obtain⟨c',fr,⟨cj,h1,_⟩,hp,hs,hz,hf,hl,_⟩:=sx hw hb hr (pc (by intro e;rw[e]at hu;cases hu))
    obtain⟨u',h2,h3⟩:=hl.get hu
    rw[asL]at h2
    split at h2
    ·rw[asH]at h2
     refine⟨u',?_,h3⟩
     unfold loadVar
     rw[DA,Au tX,Dz]
     have qc:w.cell? ⟨r.aH,r.sh+off,none⟩=some u':=by rw[EK h1];simpa using h2
     simp only[asv,if_false,run_load,qc]
    ·cases h2
   ·cases hk
  ·cases hk
 ·cases hk
theorem WR.newRow(hw:WR P B w₀ ρ g w)(hn:g n=none){c:List Dy}{t:KS}{c':Array Dy}{fr:Nat×Nat}(hs:c.length<=c'.size)
 (hf:fr.1=fr.2\/c'.size<=fr.1)(hc:LR ρ c (c'.toList.take c.length)):
 WR P B w₀ (ρ.put n ⟨w.heap.size,0,(bZ P t).getD 0,c'.size⟩) (cX g n (.cells c t false)) (w.alloc (.cells c' t fr)):=by
 refine hw.alloc hn rfl ?_
 refine .cells c t t false c' fr rfl (by simpa using hs) (λ_=>rfl) (λm hm=>by simp[hm]) (λ_=>hf) λi v hv=>?_
 obtain⟨v',h1,h2⟩:=hc.get hv
 rw[asL]at h1
 split at h1
 ·exact⟨v',by simpa using h1,h2.mono (Ren.kQ (hw.fresh n hn) _)⟩
 ·cases h1
theorem Fits.newRow(hw:WR P B w₀ ρ g w)(hn:g n=none){c:List Dy}{t:KS}{c':Array Dy}{v v':Dy}(hs:c.length=c'.size)
 (hc:LR ρ c c'.toList)(hv:∀ρ':Ren,ρ' n=some ⟨w.heap.size,0,(bZ P t).getD 0,c'.size⟩->VR ρ' v v'):
 Fits P B w₀ ρ g n ⟨.val v,[],some (.cells c t false)⟩ (.ok (.value v') (w.alloc (.cells c' t))):=
 ⟨_,_,Ren.kQ (hw.fresh n hn) _,.val v v' _ (hv _ (Ren.lr _ _ _)),hw.newRow hn (atA hs) (.inl rfl) (by rw[hs,asN (by simp)];exact hc)⟩
theorem LR.EN{c c':Array Dy}(h:LR ρ c.toList c'.toList):c.size=c'.size:=by have:=h.len;simpa using this
theorem tY{ob:ak}{v:Dy}{out:bo}{l:List Nat}(h:(new ob v).run g=some (out,l)):out=⟨.val v,[],some ob⟩:=by
 simp only[new,Rd.run,DE,KN]at h
 exact h.1.symm
theorem V0(hw:WR P B w₀ ρ g w){t:KS}{out:bo}{l:List Nat}(hn:out.nw≠none->g n=none)(h:(Ed P t n).run g=some (out,l)):
 Fits P B w₀ ρ g n out ((do let v <-aya t true (.tuple #[]);pure (asE v):Sem atu).run P w):=by
 unfold Ed at h
 split at h
 ·rename_i z hz
  split at h
  ·rename_i hf
   obtain rfl:=tY h
   replace hn:=hn (by simp)
   simp only[aya,DA,nO hz,Dz,newVar,newRow,axr,asa]
   exact Fits.newRow hw hn (by simp) (oE hf).cells λρ' h'=>by simpa using VR.ptr (ρ:=ρ') n 0 _ h'
  ·cases h
 ·cases h
theorem V1(hw:WR P B w₀ ρ g w){t:KS}{v v':Dy}(hv:VR ρ v v'){out:bo}{l:List Nat}
 (hn:out.nw≠none->g n=none)(h:(new (.cells v.cells.toList t false) (.pointer (some ⟨n,0,none⟩))).run g=some (out,l)):
 Fits P B w₀ ρ g n out ((do let v <-ays t v';pure (asE v):Sem atu).run P w):=by
 obtain rfl:=tY h
 replace hn:=hn (by simp)
 simp only[ays,DA,Dz,newVar,newRow,axr,asa]
 exact Fits.newRow hw hn (by simpa using hv.cells.EN) hv.cells λρ' h'=>by simpa using VR.ptr (ρ:=ρ') n 0 _ h'
theorem V2(hw:WR P B w₀ ρ g w){t:KS}{a a':Dy}(ha:VR ρ a a'){out:bo}{l:List Nat}(h:(tN P t a).run g=some (out,l)):
 Fits P B w₀ ρ g n out ((do let v <-axU t a';pure (asE v):Sem atu).run P w):=by
 unfold tN at h
 split at h
 ·rename_i b off
  obtain⟨r,hr,rfl⟩:=ha.lp
  obtain⟨v,l1,l2,h1,h2,rfl⟩:=(Rd.run_bind _ _ _ _ _).1 h
  obtain⟨v',h3,h4⟩:=vP hw h1 hr
  simp only[axU,aul,DA,asa,Dz,h3]
  exact Fits.dK hw h2 h4
 ·cases h
theorem EP{c vs:List Dy}{off:Nat}(h:off+vs.length<=c.length)(i:Nat):
 (bc c off vs)[i]?=if off<=i/\i<off+vs.length then vs[i-off]?else c[i]? :=by
 unfold bc
 have hl:(c.take off).length=off:=by simp;omega
 by_cases h1:i<off
 ·rw[if_neg (by omega),arI,asl (by omega),asL,if_pos h1]
 ·rw[arI,asd (by omega),hl]
  by_cases h2:i<off+vs.length
  ·rw[if_pos ⟨by omega,h2⟩,asl (by omega)]
  ·rw[if_neg (by omega),asd (by omega),asH]
   congr 1
   omega
theorem pj{c vs:List Dy}{off:Nat}(h:off+vs.length<=c.length):(bc c off vs).length=c.length:=by
 unfold bc;simp;omega
theorem LR.An{l l':List Dy}(h:LR ρ l l')(ho:(l.all asr)=true):(l'.all asr)=true:=by
 rw[ar1]at*
 intro v' gJ
 obtain⟨i,hi⟩:=List.getElem?_of_mem gJ
 have hlt:i<l'.length:=(KP.1 hi).1
 have Lw:i<l.length:=h.len▸hlt
 rw[(h.at_ i _ v' (KH Lw) hi).An]
 exact ho _ (List.getElem_mem Lw)
theorem WR.store(hw:WR P B w₀ ρ g w){b:Nat}{c:List Dy}{el:KS}(hb:g b=some (.cells c el false)){r:bV}(hr:ρ b=some r)
 {vs km:List Dy}(hv:LR ρ vs km){off:Nat}(hle:off+vs.length<=c.length)(ho:(vs.all asr)=true):
 ∃w',(storeCells ⟨r.aH,r.sh+off,none⟩ km).run P w=.ok () w'/\WR P B w₀ ρ (cX g b (.cells (bc c off vs) el false)) w':=by
 by_cases br:c=[]
 ·subst br
  have EQ:vs=[]:=ar5 (by have:off+vs.length<=0:=hle;omega)
  subst EQ
  have:=hv.kO
  subst this
  refine⟨w,rfl,?_⟩
  have:cX g b (.cells (bc [] off []) el false)=g:=by
   funext x
   by_cases e:x=b
   ·subst e;rw[fB,hb];simp[bc]
   ·rw[eB _ e]
  rw[this]
  exact hw
 obtain⟨c',fr,⟨cj,h1,he⟩,hp,hs,hz,hf,hl,hB⟩:=sx hw hb hr (pc br)
 obtain rfl:=he rfl
 replace hf:=hf rfl
 have hlen:=hv.len
 obtain⟨w',h2,h3⟩:=EM (P:=P) km w c' (r.sh+off) 0 (pe.refl h1) (by omega) (by rwa[hp]) (hv.An ho)
 refine⟨w',h2,hw.change hb (pc br) hr (hB rfl) h3 ?_⟩
 refine .cells _ _ _ _ _ fr (by rw[EL,hp]) (by rw[pj hle];exact hs) (λ_=>rfl) hz (λ_=>hf) λi v hi=>?_
 rw[EP hle]at hi
 rw[Ar _ _ _ _ (by omega)]
 by_cases gl:off<=i/\i<off+vs.length
 ·rw[if_pos gl]at hi
  rw[if_pos (by omega)]
  obtain⟨v',h4,h5⟩:=hv.get hi
  refine⟨v',?_,h5⟩
  rw[show r.sh+i-(r.sh+off+0)=i-off by omega]
  exact h4
 ·rw[if_neg gl]at hi
  rw[if_neg (by omega)]
  obtain⟨v',h4,h5⟩:=hl.get hi
  rw[asL]at h4
  split at h4
  ·exact⟨v',by simpa using h4,h5⟩
  ·cases h4
theorem V3(hw:WR P B w₀ ρ g w){t:KS}{a a' x x':Dy}(ha:VR ρ a a')(hx:VR ρ x x'){out:bo}{l:List Nat}(h:(tP P t a x).run g=some (out,l)):
 Fits P B w₀ ρ g n out ((do awV t a' x';pure Next.skip:Sem atu).run P w):=by
 unfold tP at h
 split at h
 ·rename_i b off
  obtain⟨r,hr,rfl⟩:=ha.lp
  split at h
  ·rename_i size cc
   obtain⟨o,l',hb,hk,rfl⟩:=Rd.run_read h
   split at hk
   ·rename_i c el
    split at hk
    ·rename_i hc
     simp only[BV]at hc
     obtain⟨⟨h1,h2⟩,h3⟩:=hc
     have h1:=arJ h1
     have h2:=arU h2
     simp only[Rd.run,DE,KN]at hk
     obtain⟨rfl,rfl⟩:=hk
     obtain⟨w',h4,h5⟩:=hw.store hb hr hx.cells (off:=off) (by simp;omega) h3
     refine⟨ρ,w',Ren.le_refl ρ,?_,h5⟩
     have V4:x'.cells.size=size:=by rw[<-hx.cells.EN,h1]
     have kR:(awV t (.pointer (some ⟨r.aH,r.sh+off,none⟩)) x').run P w=.ok () w':=by
      simp only[awV,aul,storeVar,DA,asa,Dz,run_sizeOf cc,V4,ne_eq,not_true_eq_false,if_false,h4]
     rw[DA,kR]
     exact .skip w'
    ·cases hk
   ·cases hk
  ·cases h
 ·cases h
end
end Go.Proofs.YtnlkkgpcikkpoaaGreat.Vm
namespace Go.Proofs.YtnlkkgpcikkpoaaGreat.Vm
open Go.RowKit
section
variable {P:arC}
theorem Aw{t:KS}{cs:Array Dy}{d k:Nat}{v:Dy}(hk:bZ P t=some k)
 (h:(oZ P t=some true/\d+k<=cs.size/\v=.agg (cs.extract d (d+k)))\/(oZ P t=some false/\cs[d]?=some v)){w:arB}:(part t cs d).run P w=.ok v w:=by
 unfold part
 rcases h with⟨h1,h2,rfl⟩|⟨h1,h2⟩
 ·rw[DA,Au h1,Dz]
  simp only[if_true,DA,run_sizeOf hk,Dz,asa]
 ·rw[DA,Au h1,Dz]
  simp only[asv,if_false,h2,asa]
theorem Ax{ft:KS}{cs:Array Dy}{d:Nat}{v:Dy}(h:vH P ft cs.toList d=some v)(w:arB):(part ft cs d).run P w=.ok v w:=by
 unfold vH at h
 split at h
 ·rename_i k nP hk
  split at h
  ·rename_i l qU
   cases h
   obtain⟨hle,rfl⟩:=vO qU
   rw[Aw hk (.inl ⟨nP,by simp at hle;omega,rfl⟩)]
   have:(cs.extract d (d+k))=((cs.toList.drop d).take k).toArray:=by
    apply atl
    simp[atf,as1]
   rw[this]
  ·cases h
 ·rename_i k nP hk
  exact Aw hk (.inr ⟨nP,by simpa using h⟩)
 ·cases h
theorem Lx{d:Nat}{xs ys:Array Dy}{F:au3->Option Bool}:∀(l:List au3) (r:Bool),qN F l=some r->(∀f b,F f=some b->f.name≠ "_" /\∃u v,(∀w:arB,(part f.type xs f.offset).run P w=.ok u w)/\(∀w:arB,(part f.type ys f.offset).run P w=.ok v w)/\∀w:arB,(at6 d f.type u v).run P w=.ok b w)->
 ∀w:arB,(forIn l ((none:Option Bool),()) λ(f:au3) (__s:Option Bool×Unit)=>
     if f.name≠ "_" then do
      let __do_lift <-part f.type xs f.offset
      let __do_lift_1 <-part f.type ys f.offset
      let __do_lift <-at6 d f.type __do_lift __do_lift_1
      if(!__do_lift)=true then(pure (ForInStep.done (some false,())):Sem (ForInStep (Option Bool×Unit)))
       else pure (aww (none,()))
     else pure (aww (none,()))).run P w=.ok (if r then(none,())else(some false,())) w
 | [],r,h,hF,w=>by
   simp only[qN,DE]at h
   subst h
   rfl
 |f::l,r,h,hF,w=>by
  unfold qN at h
  split at h
  ·rename_i a b ha hb
   simp only[DE]at h
   subst h
   obtain⟨h1,u,v,h2,h3,h4⟩:=hF f a ha
   rw[axs]
   rw[if_pos h1]
   simp only[DA,h2,h3,h4,Dz]
   cases a with
   |false=>rfl
   |true=>
    simp only[avm,asv,if_false,asa,Dz,at2]
    exact Lx l b hb hF w
  ·cases h
theorem Ly{d k:Nat}{e:KS}{xs ys:Array Dy}{F:Nat->Option Bool}:∀(l:List Nat) (r:Bool),qN F l=some r->(∀i b,F i=some b->∃u v,(∀w:arB,(part e xs (i*k)).run P w=.ok u w)/\(∀w:arB,(part e ys (i*k)).run P w=.ok v w)/\∀w:arB,(at6 d e u v).run P w=.ok b w)->
 ∀w:arB,(forIn l ((none:Option Bool),()) λ(i:Nat) (__s:Option Bool×Unit)=>do
        let __do_lift <-part e xs (i*k)
        let __do_lift_1 <-part e ys (i*k)
        let __do_lift <-at6 d e __do_lift __do_lift_1
        if(!__do_lift)=true then(pure (ForInStep.done (some false,())):Sem (ForInStep (Option Bool×Unit)))
         else pure (aww (none,()))).run P w=.ok (if r then(none,())else(some false,())) w
 | [],r,h,hF,w=>by
   simp only[qN,DE]at h
   subst h
   rfl
 |i::l,r,h,hF,w=>by
  unfold qN at h
  split at h
  ·rename_i a b ha hb
   simp only[DE]at h
   subst h
   obtain⟨u,v,h2,h3,h4⟩:=hF i a ha
   rw[axs]
   simp only[DA,h2,h3,h4,Dz]
   cases a with
   |false=>rfl
   |true=>
    simp only[avm,asv,if_false,asa,Dz,at2]
    exact Ly l b hb hF w
  ·cases h
theorem Ay:∀(d:Nat) (t:KS) (x y:Dy) (r:Bool),vI P d t x y=some r->∀w:arB,(at6 d t x y).run P w=.ok r w
 |0,t,x,y,r,h,w=>by cases h
 |d+1,t,x,y,r,h,w=>by
  unfold vI at h
  unfold at6
  split at h
  ·rename_i ht
   split at h
   ·cases h
    rw[DA,run_underlying ht,Dz]
    rfl
   ·cases h
  ·rename_i ht
   split at h
   ·split at h
    ·rename_i hk
     cases h
     have hk:=of_decide_eq_true hk
     rw[DA,run_underlying ht,Dz]
     dsimp only
     rw[if_pos hk]
     rfl
    ·cases h
   ·cases h
  ·rename_i ht
   split at h
   ·cases h
    rw[DA,run_underlying ht,Dz]
    rfl
   ·cases h
  ·rename_i fs ht
   split at h
   ·rename_i xs ys
    split at h
    ·cases h
    ·rename_i cN
     rw[DA,run_underlying ht,Dz]
     dsimp only
     rw[DA,atw,Dz]
     rw[cN]
     simp only[asv,if_false]
     rw[<-Array.forIn_toList]
     rw[DA,Lx (d:=d) fs.toList r h (λf b hf=>?_) w,Dz]
     ·cases r<;>rfl
     ·split at hf
      ·cases hf
      ·rename_i mr
       refine⟨by simpa using mr,?_⟩
       split at hf
       ·rename_i u v hu hv
        exact⟨u,v,Ax hu,Ax hv,Ay d f.type u v b hf⟩
       ·cases hf
   ·cases h
  ·rename_i n e ht
   split at h
   ·rename_i xs ys k hk
    rw[DA,run_underlying ht,Dz]
    dsimp only
    rw[DA,run_sizeOf hk,Dz]
    rw[aw1]
    have hz:(⟨0,n,1,Nat.one_pos⟩:ayw).size=n:=by simp[ayk]
    rw[hz]
    rw[DA,Ly (d:=d) (avZ 0 n) r h (λi b hf=>?_) w,Dz]
    ·cases r<;>rfl
    ·split at hf
     ·rename_i u v hu hv
      exact⟨u,v,Ax hu,Ax hv,Ay d e u v b hf⟩
     ·cases hf
   ·cases h
  ·cases h
theorem V5{op:BinOp}{t:KS}{x y:asW}{a b:Dy}{r:Bool}(h:Eh P op t a b=some r)(w:arB):((do eqGuard op t x y a b;binOp op t a b):Sem Dy).run P w=.ok (.bool r) w:=by
 unfold Eh at h
 split at h
 ·rename_i xs ys
  split at h
  ·cases h
  ·rename_i hg
   have ER:∀w:arB,(eqGuard .eql t x y (.agg xs) (.agg ys)).run P w=.ok () w:=λw=>by
    unfold eqGuard
    simp only[avm,asv,if_false]
    rw[DA,atw,Dz,DA,atw,Dz,hg]
    rfl
   have he:(aun t (.agg xs) (.agg ys)).run P w=.ok r w:=Ay 10000 t _ _ r h w
   rw[DA,ER,Dz]
   show(at5 P (do pure (.bool (<-aun t (.agg xs) (.agg ys))):Sem Dy) w)=_
   rw[DA,he]
   rfl
 ·rename_i xs ys
  split at h
  ·cases h
  ·rename_i hg
   have ER:∀w:arB,(eqGuard .neq t x y (.agg xs) (.agg ys)).run P w=.ok () w:=λw=>by
    unfold eqGuard
    simp only[avm,asv,if_false]
    rw[DA,atw,Dz,DA,atw,Dz,hg]
    rfl
   obtain⟨q,hq,rfl⟩:=Option.map_eq_some_iff.1 h
   have he:(aun t (.agg xs) (.agg ys)).run P w=.ok q w:=Ay 10000 t _ _ q hq w
   rw[DA,ER,Dz]
   show(at5 P (do pure (.bool (!(<-aun t (.agg xs) (.agg ys)))):Sem Dy) w)=_
   rw[DA,he]
   rfl
 ·cases h
end
end Go.Proofs.YtnlkkgpcikkpoaaGreat.Vm
namespace Go.Proofs.YtnlkkgpcikkpoaaGreat.Vm
open Go.RowKit
section
variable {P:arC} {B:Nat->Prop} {w₀:arB} {ρ:Ren} {g:Nat->Option ak} {n:Nat} {w:arB}
theorem V6(hw:WR P B w₀ ρ g w){c c' a a' b b':Dy}(hc:VR ρ c c')(ha:VR ρ a a')(hb:VR ρ b b'){out:bo}{l:List Nat}
 (h:(Ac c a b).run g=some (out,l)):Fits P B w₀ ρ g n out ((do pure (asE (if<-asBool c' then a' else b')):Sem atu).run P w):=by
 unfold Ac at h
 split at h
 ·rw[hc.vK];exact Fits.dK hw h ha
 ·rw[hc.vK];exact Fits.dK hw h hb
 ·cases h
theorem V7(hw:WR P B w₀ ρ g w){v v':Dy}(hv:VR ρ v v'){out:bo}{l:List Nat}(h:(Eg P v).run g=some (out,l))(e':asW->Dy)(x:asW)(he:e' x=v')
 (o:ast)(ho:o.op=.nilCheck x):Fits P B w₀ ρ g n out ((execOp e' o).run P w):=by
 unfold execOp
 rw[ho]
 simp only[he]
 unfold Eg at h
 split at h
 ·cases hv with
  |bN _ hs=>cases hs
  |ptr b off r hr=>exact Fits.dK hw h (.ptr b off r hr)
  |na b off t=>exact Fits.dK hw h (.na b off t)
 ·obtain⟨f',c',rfl,h1,h2⟩:=hv.xZ
  exact Fits.dK hw h (.func _ _ _ _ _ rfl h1.len h1.at_ h2.len h2.at_)
 ·obtain⟨u',rfl,h1⟩:=hv.xY
  exact Fits.dK hw h (.iface _ _ _ h1)
 ·cases hv;exact ph hw h
 ·cases hv;exact ph hw h
 ·cases hv;exact ph hw h
 ·cases h
theorem Lz(t:KS)(x y:Dy):aun t x y=at6 (9999+1) t x y:=rfl
theorem LB{t:KS}{x y:asW}{a b:Dy}{r:Bool}(neg:Bool)(h1:binOp .eql t a b=(do pure (.bool (<-aun t a b))))
 (h2:binOp .neq t a b=(do pure (.bool (!(<-aun t a b)))))(hg:∀op,(eqGuard op t x y a b).run P w=.ok () w)(he:(aun t a b).run P w=.ok r w):
 ((do eqGuard (if neg then .neq else .eql) t x y a b;binOp (if neg then .neq else .eql) t a b):Sem Dy).run P w=.ok (.bool (r != neg)) w:=by
 rw[DA,hg,Dz]
 cases neg with
 |false=>simp only[asv,if_false];rw[h1,DA,he];simp
 |true=>simp only[if_true];rw[h2,DA,he];simp
theorem LD(hw:WR P B w₀ ρ g w){t:KS}{x y:asW}{a a' b b':Dy}(ha:VR ρ a a')(hb:VR ρ b b')(neg:Bool){out:bo}{l:List Nat}
 (h:(vG P t a b neg).run g=some (out,l)):
 Fits P B w₀ ρ g n out ((do let v <-(do eqGuard (if neg then .neq else .eql) t x y a' b';binOp (if neg then .neq else .eql) t a' b');pure (asE v):Sem atu).run P w):=by
 unfold vG at h
 split at h
 ·rename_i d hd
  split at h
  ·rename_i r hr
   have key:((do eqGuard (if neg then .neq else .eql) t x y a' b';binOp (if neg then .neq else .eql) t a' b'):Sem Dy).run P w=.ok (.bool (r != neg)) w:=by
    unfold z8 at hr
    split at hr<;>first
     |(cases hr;done)
     |(split at hr<;>first
        |(cases hr;done)
        |(rename_i jv
          simp only[DE]at hr
          subst hr
          cases ha<;>cases hb<;>first
           |exact LB neg rfl rfl (λop=>by unfold eqGuard;split<;>rfl) (by rw[Lz];unfold at6;rw[DA,run_underlying hd,Dz];rfl)
           |(cases jv;done)
           |(rename_i h1 h2;cases h1;done)
           |(rename_i h1 h2;cases h2;done)
           |(rename_i h1;cases h1;done)))
     |(simp only[DE]at hr
       subst hr
       cases ha<;>cases hb<;>first
        |exact LB neg rfl rfl (λop=>by unfold eqGuard;split<;>rfl) (by rw[Lz];unfold at6;rw[DA,run_underlying hd,Dz];rfl)
        |(rename_i h1 h2;cases h1;done)
        |(rename_i h1 h2;cases h2;done)
        |(rename_i h1;cases h1;done))
   rw[DA,key]
   exact Fits.dK hw h (.bN _ rfl)
  ·cases h
 ·cases h
theorem V8(hw:WR P B w₀ ρ g w){op:BinOp}{t:KS}{x y:asW}{a a' b b':Dy}(ha:VR ρ a a')(hb:VR ρ b b'){out:bo}{l:List Nat}
 (h:(tQ P op t x y a b).run g=some (out,l)):
 Fits P B w₀ ρ g n out ((do let v <-(do eqGuard op t x y a' b';binOp op t a' b');pure (asE v):Sem atu).run P w):=by
 unfold tQ at h
 split at h
 ·rename_i hf
  simp only[BV]at hf
  rw[nK hf.1 ha,nK hf.2 hb]
  split at h
  ·rename_i r hr
   rw[DA,V5 hr]
   exact Fits.dK hw h (.bN _ rfl)
  ·exact ph hw h
 ·split at h
  ·exact LD hw ha hb false h
  ·exact LD hw ha hb true h
  ·cases h
theorem V9(hw:WR P B w₀ ρ g w){op:UnOp}{a a':Dy}(ha:VR ρ a a'){out:bo}{l:List Nat}(h:(Ei P op a).run g=some (out,l)):
 Fits P B w₀ ρ g n out ((do let v <-Op.unary op a';pure (asE v):Sem atu).run P w):=by
 unfold Ei at h
 split at h
 ·rename_i hf
  rw[nK hf ha]
  exact ph hw h
 ·cases h
theorem Wa(hw:WR P B w₀ ρ g w){t:KS}{a a':Dy}(ha:VR ρ a a'){out:bo}{l:List Nat}(h:(Ej P t a).run g=some (out,l)):
 Fits P B w₀ ρ g n out ((do let v <-avM t a';pure (asE v):Sem atu).run P w):=by
 unfold Ej at h
 split at h
 ·cases h
 ·rename_i d hd hu
  have:(avM t a').run P w=.ok (.iface t a') w:=by
   unfold avM
   rw[DA,run_underlying hu,Dz]
   split
   ·exact absurd rfl (hd _)
   ·rfl
  rw[DA,this]
  exact Fits.dK hw h (.iface _ _ _ ha)
 ·cases h
theorem Wb(hw:WR P B w₀ ρ g w){fn:Fn}{f c:List Dy}{f' c':Array Dy}(hf:LR ρ f f'.toList)(hc:LR ρ c c'.toList){out:bo}{l:List Nat}
 (h:(Ek fn f c).run g=some (out,l)):Fits P B w₀ ρ g n out ((do let v <-Instr.makeFunc fn f' c';pure (asE v):Sem atu).run P w):=by
 unfold Ek at h
 split at h<;>first
  |(cases h;done)
  |exact Fits.dK hw h (.func _ _ _ _ _ rfl (by simpa using hf.len) (by simpa using hf.at_) (by simpa using hc.len) (by simpa using hc.at_))
theorem Wc(hw:WR P B w₀ ρ g w){x x':Dy}(hx:VR ρ x x')(i:Nat){out:bo}{l:List Nat}(h:(Ep x i).run g=some (out,l)):
 Fits P B w₀ ρ g n out ((do let v <-awW x' i;pure (asE v):Sem atu).run P w):=by
 unfold Ep at h
 split at h
 ·obtain⟨c',rfl,hl⟩:=hx.Lu
  split at h
  ·rename_i v hv
   obtain⟨v',h1,h2⟩:=hl.get hv
   have tZ:c'[i]?=some v':=by simpa using h1
   have:(awW (.tuple c') i).run P w=.ok v' w:=by unfold awW;simp only[tZ];rfl
   rw[DA,this]
   exact Fits.dK hw h h2
  ·cases h
 ·cases h
theorem Wd(hw:WR P B w₀ ρ g w){x x':Dy}(hx:VR ρ x x')(xt at_:KS)(ok:Bool){out:bo}{l:List Nat}(h:(Er P x at_ ok).run g=some (out,l)):
 Fits P B w₀ ρ g n out ((do let v <-awf x' xt at_ ok;pure (asE v):Sem atu).run P w):=by
 unfold Er at h
 split at h
 ·cases h
 ·rename_i d t v hu hd
  obtain⟨u',rfl,h1⟩:=hx.xY
  split at h
  ·rename_i ht
   have ht:=arJ ht
   subst ht
   have:(awf (.iface t u') xt t ok).run P w=.ok (if ok then .tuple #[u',.bool true]else u') w:=by
    unfold awf
    rw[DA,run_underlying hd,Dz]
    split<;>simp_all
   rw[DA,this]
   cases ok with
   |true=>exact Fits.dK hw h (.Am (LR.cons h1 (LR.cons (.bN _ rfl) (LR.nil ρ))))
   |false=>exact Fits.dK hw h h1
  ·cases h
 ·cases h
theorem We(hw:WR P B w₀ ρ g w){x x':Dy}(hx:VR ρ x x'){out:bo}{l:List Nat}(h:(Et P x).run g=some (out,l)):
 Fits P B w₀ ρ g n out ((do let v <-ax9 x';pure (asE v):Sem atu).run P w):=by
 unfold Et at h
 split at h
 ·rename_i hf
  rw[nK hf hx]
  exact ph hw h
 ·cases h
theorem ES{s i off ft k:Nat}(h:xO P s i=some (off,ft,k)):
 ∃fs f,P.underlying s=some (.struct fs)/\fs[i]?=some f/\f.offset=off/\f.type=ft/\bZ P ft=some k/\k≠0:=by
 unfold xO at h
 split at h
 ·rename_i fs hu
  split at h
  ·rename_i f hf
   split at h
   ·rename_i m hm
    simp only[DE,KN]at h
    obtain⟨rfl,rfl,rfl⟩:=h
    exact⟨fs,f,hu,hf,rfl,rfl,hm,by omega⟩
   ·cases h
  ·cases h
 ·cases h
theorem ET{f:au3}{k:Nat}(h:bZ P f.type=some k)(hk:k≠0)(b off:Nat):(fieldPlace ⟨b,off,none⟩ f).run P w=.ok ⟨b,off+f.offset,none⟩ w:=by
 unfold fieldPlace
 rw[DA,run_sizeOf h,Dz,if_neg hk,qb]
 rfl
theorem Wg(hw:WR P B w₀ ρ g w){s:KS}{x x':Dy}(hx:VR ρ x x')(i:Nat){out:bo}{l:List Nat}(h:(En P s x i).run g=some (out,l)):
 Fits P B w₀ ρ g n out ((do let v <-awX s x' i;pure (asE v):Sem atu).run P w):=by
 unfold En at h
 split at h
 ·rename_i b off d ft k hd
  obtain⟨r,hr,rfl⟩:=hx.lp
  obtain⟨fs,f,hu,hf,rfl,rfl,hk,iQ⟩:=ES hd
  have:(awX s (.pointer (some ⟨r.aH,r.sh+off,none⟩)) i).run P w=.ok (.pointer (some ⟨r.aH,r.sh+off+f.offset,none⟩)) w:=by
   unfold awX
   rw[DA,run_underlying hu,Dz]
   simp only[hf]
   simp only[aul,DA,asa,Dz,ET hk iQ]
  rw[DA,this]
  exact Fits.dK hw h (by rw[atm];exact .ptr _ _ _ hr)
 ·cases h
theorem LG(hw:WR P B w₀ ρ g w){ft:KS}{cs:List Dy}{iR:Array Dy}(hl:LR ρ cs iR.toList){d k:Nat}(hk:bZ P ft=some k){out:bo}{l:List Nat}
 (h:(Ab P ft cs d k).run g=some (out,l)):Fits P B w₀ ρ g n out ((do let v <-part ft iR d;pure (asE v):Sem atu).run P w):=by
 unfold Ab at h
 split at h
 ·rename_i tX
  split at h
  ·rename_i c hc
   obtain⟨hle,rfl⟩:=vO hc
   have hs:=hl.len
   rw[DA,Aw hk (.inl ⟨tX,by simp at hs;omega,rfl⟩)]
   refine Fits.dK hw h ?_
   have:(iR.extract d (d+k))=((iR.toList.drop d).take k).toArray:=by
    apply atl
    simp[atf,as1]
   rw[this]
   exact .Lt ((hl.drop d).take k)
  ·cases h
 ·rename_i tX
  split at h
  ·rename_i v hv
   obtain⟨v',h1,h2⟩:=hl.get hv
   rw[DA,Aw hk (.inr ⟨tX,by simpa using h1⟩)]
   exact Fits.dK hw h h2
  ·cases h
 ·cases h
theorem Wh(hw:WR P B w₀ ρ g w){s:KS}{x x':Dy}(hx:VR ρ x x')(i:Nat){out:bo}{l:List Nat}(h:(Eo P s x i).run g=some (out,l)):
 Fits P B w₀ ρ g n out ((do let v <-axm s x' i;pure (asE v):Sem atu).run P w):=by
 unfold Eo at h
 split at h
 ·rename_i cs d ft k hd
  obtain⟨c',rfl,hl⟩:=hx.ED
  obtain⟨fs,f,hu,hf,rfl,rfl,hk,iQ⟩:=ES hd
  have:=LG (n:=n) hw hl hk h
  have e:(axm s (.agg c') i).run P w=(part f.type c' f.offset).run P w:=by
   unfold axm
   rw[DA,run_underlying hu,Dz]
   simp only[hf,asAgg,DA,asa,Dz]
  rw[DA,e]
  rwa[DA]at this
 ·cases h
theorem qd{v:Dy}{i:Nat}(h:pV v=some i):∃k,v=.int k (i:Int):=by
 unfold pV at h
 split at h
 ·rename_i k m;cases h;exact⟨k,rfl⟩
 ·cases h
theorem LH(hw:WR P B w₀ ρ g w){t:KS}{x x' i i':Dy}(hx:VR ρ x x')(hi:VR ρ i i'){out:bo}{l:List Nat}(h:(tR P t x i).run g=some (out,l)):
 Fits P B w₀ ρ g n out ((do let v <-aug t x' i';pure (asE v):Sem atu).run P w):=by
 unfold tR at h
 split at h
 ·rename_i k el b off j hu hj
  obtain⟨ik,rfl⟩:=qd hj
  obtain⟨r,hr,rfl⟩:=hx.lp
  rw[hi.kl]
  split at h
  ·rename_i size hs hlt
   have hlt:j<k:=by simp[arF]at hlt;omega
   have:(aug t (.pointer (some ⟨r.aH,r.sh+off,none⟩)) (.int ik j)).run P w=.ok (.pointer (some ⟨r.aH,r.sh+off+j*size,none⟩)) w:=by
    unfold aug
    simp only[asIntOf,DA,asa,Dz,run_underlying hu,aul]
    rw[if_pos ⟨by omega,by omega⟩]
    simp only[DA,run_sizeOf hs,Dz,asa,qb,atG]
   rw[DA,this]
   exact Fits.dK hw h (by rw[atm];exact .ptr _ _ _ hr)
  ·cases h
 ·rename_i el b off len cap j hu hj
  obtain⟨ik,rfl⟩:=qd hj
  rw[hi.kl]
  split at h
  ·rename_i size hs hlt
   have hlt:j<len:=by simp[arF]at hlt;omega
   cases hx with
   |bN _ h=>cases h
   |eJ=>omega
   |sl _ _ _ _ bH r hr hc=>
    have:(aug t (.slice (some ⟨r.aH,r.sh+off,none⟩) len bH) (.int ik j)).run P w=.ok (.pointer (some ⟨r.aH,r.sh+off+j*size,none⟩)) w:=by
     unfold aug
     simp only[asIntOf,DA,asa,Dz,run_underlying hu,aul]
     rw[if_pos ⟨by omega,by omega⟩]
     simp only[DA,run_sizeOf hs,Dz,asa,qb,atG]
    rw[DA,this]
    exact Fits.dK hw h (by rw[atm];exact .ptr _ _ _ hr)
  ·cases h
 ·cases h
theorem Wi(hw:WR P B w₀ ρ g w){t:KS}{x x' i i':Dy}(hx:VR ρ x x')(hi:VR ρ i i'){out:bo}{l:List Nat}(h:(xR P t x i).run g=some (out,l)):
 Fits P B w₀ ρ g n out ((do let v <-auR t x' i';pure (asE v):Sem atu).run P w):=by
 unfold xR at h
 split at h
 ·split at h
  ·rename_i hf
   rw[hx.qa,nK hf hi]
   exact ph hw h
  ·cases h
 ·obtain⟨c',rfl,hl⟩:=hx.ED
  split at h
  ·rename_i k el j hu hj
   obtain⟨ik,rfl⟩:=qd hj
   rw[hi.kl]
   split at h
   ·rename_i size hs hlt
    have hlt:j<k:=by simp[arF]at hlt;omega
    have:=LG (n:=n) hw hl hs h
    have e:(auR t (.agg c') (.int ik j)).run P w=(part el c' (j*size)).run P w:=by
     unfold auR
     simp only[asIntOf,DA,asa,Dz,run_underlying hu]
     rw[if_pos ⟨by omega,by omega⟩]
     simp only[DA,run_sizeOf hs,Dz,atG]
    rw[DA,e]
    rwa[DA]at this
   ·cases h
  ·cases h
 ·cases h
end
end Go.Proofs.YtnlkkgpcikkpoaaGreat.Vm
namespace Go.Proofs.YtnlkkgpcikkpoaaGreat.Vm
open Go.RowKit
theorem Wj(a:Array Obj)(x:Obj)(f:Obj->Obj):(a.push x).modify a.size f=a.push (f x):=by
 apply Array.ext_getElem?
 intro i
 rw[aud,avN,avN]
 by_cases h:i=a.size
 ·subst h;simp
 ·have:¬a.size=i:=λe=>h e.symm
  simp[h,this]
theorem Wk(w:arB)(c:Array Dy)(el:KS)(k:Nat):(w.alloc (.cells c el)).freeze ⟨w.heap.size,k,none⟩ 1=w.alloc (.cells c el (k,k+1)):=by
 unfold axV ayb
 simp only[axt,if_false]
 rw[Wj]
 rfl
section
variable {P:arC} {B:Nat->Prop} {w₀:arB} {ρ:Ren} {g:Nat->Option ak} {n:Nat} {w:arB}
theorem Wl(w:arB)(c:Array Dy)(el:KS):(w.alloc (.cells c el)).shape? w.heap.size=some (el,c.size):=by
 unfold axW ayb
 simp only[avN,if_true]
theorem vQ(el:KS)(mu:Array Dy)(w:arB):(newRow el mu).run P w=.ok ⟨w.heap.size,0,none⟩ (w.alloc (.cells mu el)):=rfl
theorem Wn(el:KS)(mu:Array Dy)(w:arB):(markStringish ⟨w.heap.size,0,none⟩).run P (w.alloc (.cells mu el))=.ok () (w.alloc (.cells mu el (mu.size,mu.size+1))):=by
 unfold markStringish
 rw[DA,run_shape,Dz,Wl]
 simp only[run_freeze]
 rw[Wk]
theorem Wo(el:KS)(s:ByteArray):∃bH,s.size<=bH/\(av3 el s).run P w=.ok (.slice (some ⟨w.heap.size,0,none⟩) s.size bH)
 (w.drew.alloc (.cells ((s.data.map λb=>KJ .u8 b.toNat)++atI (bH-s.size) (.int .u8 0)) el (bH,bH+1))):=by
 refine⟨(auY s.size 0 el).cut (w.tape w.drawn (.appendCap s.size 0 el)),by simp[aw3],?_⟩
 generalize hq:(auY s.size 0 el).cut (w.tape w.drawn (.appendCap s.size 0 el))=bH
 have hle:s.size<=bH:=by rw[<-hq];simp[aw3]
 unfold av3
 rw[DA,run_choose,if_neg (by simp[Question.forced]),hq,Dz]
 dsimp only
 generalize nQ:((s.data.map λb=>KJ .u8 b.toNat)++atI (bH-s.size) (KJ .u8 0))=mu
 have cc:mu.size=bH:=by
  rw[<-nQ,awc,axF,awQ]
  have:s.data.size=s.size:=rfl
  omega
 rw[DA,vQ,Dz,DA]
 have:=Wn (P:=P) el mu w.drew
 rw[World.size_drew]at this
 show((markStringish ⟨w.heap.size,0,none⟩).run P (w.drew.alloc (.cells mu el))).andThen _=_
 rw[this,cc]
 rfl
theorem Wp(s:ByteArray):LR ρ (s.data.toList.map λb=>KJ .u8 b.toNat) (s.data.toList.map λb=>KJ .u8 b.toNat):=LR.map _ _ _ λb _=>.bN _ rfl
theorem LI{b:Nat}{o:ak}(h:g b=some o):cX g b o=g:=by
 funext y
 by_cases e:y=b
 ·subst e;rw[fB,h]
 ·rw[eB _ e]
theorem LJ:∀{c:List Dy} {l:List UInt8},bytesOf c=some l->∃ns:List Int,c=ns.map (KJ .u8)/\l=ns.map λn=>zW n.toNat
 | [],l,h=>by simp[bytesOf]at h;exact⟨[],rfl,by simp[h]⟩
 |v::c,l,h=>by
  unfold bytesOf at h
  split at h
  ·rename_i e;cases e
  ·rename_i m c' e
   cases e
   split at h
   ·rename_i r hr
    cases h
    obtain⟨ns,h1,h2⟩:=LJ hr
    exact⟨m::ns,by simp[h1],by simp[h2]⟩
   ·cases h
  ·cases h
theorem Wq{src dst el:KS}{d:avp}{s:ByteArray}(hs:P.underlying src=some d)(hd:P.underlying dst=some (.slice el))(he:P.underlying el=some (.int .u8)):
 (convert src dst (.string s)).run P w=(av3 el s).run P w:=by
 unfold convert
 rw[DA,run_underlying hs,Dz,DA,run_underlying hd,Dz]
 cases d<;>simp only[DA,run_underlying he,Dz]
theorem Wr{w:arB}{b m:Nat}{c:Array Dy}{el:KS}{fr:Nat×Nat}(h:w.heap[b]?=some (.cells c el fr)):
 pe w (w.freeze ⟨b,m,none⟩ 1) b (.cells c el (if fr.1==fr.2 then(m,m+1)else(min fr.1 m,max fr.2 (m+1)))):=by
 unfold axV
 simp only[axt,if_false]
 refine⟨rfl,rfl,rfl,by simp,?_,λk hk=>?_⟩
 ·simp only[aud,if_true,h,Option.map_some]
 ·simp only[aud]
  rw[if_neg (λe=>hk e.symm)]
theorem Wt{b off:Nat}{c:Array Dy}{el:KS}{fr:Nat×Nat}(h:w.heap[b]?=some (.cells c el fr)):
 (markStringish ⟨b,off,none⟩).run P w=.ok () (w.freeze ⟨b,c.size,none⟩ 1):=by
 unfold markStringish
 rw[DA,run_shape,Dz]
 have:w.shape? b=some (el,c.size):=by unfold axW;simp only[h]
 simp only[this,run_freeze]
theorem Wu{src el:KS}{a:atU}{len cap:Nat}(hs:P.underlying src=some (.slice el))(he:P.underlying el=some (.int .u8)):
 (convert src src (.slice (some a) len cap)).run P w=((do markStringish a;pure (Value.slice (some a) len cap)):Sem Dy).run P w:=by
 unfold convert
 rw[DA,run_underlying hs,Dz,DA,run_underlying hs,Dz]
 simp only[beq_self_eq_true]
 rw[DA,run_underlying he,Dz]
theorem Wv(hw:WR P B w₀ ρ g w){src dst:KS}{x x':Dy}(hx:VR ρ x x'){out:bo}{l:List Nat}(hn:out.nw≠none->g n=none)(h:(xQ P src dst x n).run g=some (out,l)):
 Fits P B w₀ ρ g n out ((do let v <-convert src dst x';pure (asE v):Sem atu).run P w):=by
 unfold xQ at h
 split at h
 ·rename_i d el s hs hd
  split at h
  ·rename_i he h1
   obtain rfl:=tY h
   replace hn:=hn (by simp)
   rw[hx.qa,DA,Wq hs hd he]
   obtain⟨bH,hle,hr⟩:=Wo (P:=P) (w:=w) el s
   rw[hr,Dz]
   generalize nQ:((s.data.map λb=>KJ .u8 b.toNat)++atI (bH-s.size) (KJ .u8 0))=mu
   have gV:s.data.size=s.size:=rfl
   have cc:mu.size=bH:=by
    rw[<-nQ,awc,axF,awQ]
    omega
   have oF:(s.data.toList.map λb=>KJ .u8 b.toNat).length=s.size:=by simp[gV]
   have hz:(bZ P el).getD 0=1:=by rw[h1];rfl
   refine⟨ρ.put n ⟨w.drew.heap.size,0,(bZ P el).getD 0,mu.size⟩,_,Ren.kQ (hw.fresh n hn) _,.val _ _ _ ?_,hw.drew.newRow hn (by rw[oF,cc];exact hle) (.inr (by rw[cc];exact arO _)) ?_⟩
   ·have:=VR.sl (ρ:=ρ.put n ⟨w.drew.heap.size,0,(bZ P el).getD 0,mu.size⟩) n 0 s.size s.size bH _ (Ren.lr _ _ _) (.inr ⟨hle,by simp[hz,cc]⟩)
    simpa using this
   ·rw[<-nQ,oF,Array.toList_append,List.take_append_of_le_length (by simp[gV]),asN (by simp[gV]),Array.toList_map]
    exact Wp s
  ·cases h
 ·rename_i el e2 b off len cap hs hd
  split at h
  ·rename_i he ua
   have ua:=arJ ua
   subst ua
   rw[hs]at hd
   cases hd
   split at h
   ·cases h
   ·rename_i jv
    obtain⟨o,l',hb,hk,rfl⟩:=Rd.run_read h
    split at hk
    ·rename_i cv cr ce
     generalize jQ:cv::cr=c at hb
     cases hx with
     |bN _ h=>cases h
     |sl _ _ _ _ bH r hr hc=>
      obtain⟨c',fr,⟨cj,h1,LK⟩,hp,jw,hz,hf,hl,hB⟩:=sx hw hb hr (pc (by rw[<-jQ];simp))
      obtain rfl:=LK rfl
      replace hf:=hf rfl
      have Ww:=Wr (m:=c'.size) h1
      have Wx:OR P ρ r (.cells c cj false) (.cells c' cj (if fr.1==fr.2 then(c'.size,c'.size+1)else(min fr.1 c'.size,max fr.2 (c'.size+1)))):=by
       refine .cells _ _ _ _ _ _ hp jw (λ_=>rfl) hz (λ_=>?_) λi v hv=>?_
       ·right
        split
        ·exact atA hp.symm
        ·rename_i br
         rcases hf with hf|hf
         ·rw[hf]at br;simp at br
         ·simp only;omega
       ·obtain⟨v',h2,h3⟩:=hl.get hv
        rw[asL]at h2
        split at h2
        ·exact⟨v',by simpa using h2,h3⟩
        ·cases h2
      have dg:=hw.change hb (pc (by rw[<-jQ];simp)) hr (hB rfl) Ww Wx
      rw[LI hb]at dg
      rw[DA,Wu hs he,DA,Wt h1,Dz,asa,Dz,asa]
      exact Fits.dK dg hk (.sl _ _ _ _ _ _ hr hc)
    ·cases hk
  ·cases h
 ·rename_i el len cap hs hd
  split at h
  ·rename_i he
   cases hx
   rw[DA,aup w src dst _ none _ _ hs he hd]
   exact Fits.dK hw h (.bN _ rfl)
  ·rename_i b off he
   obtain⟨o,l',hb,hk,rfl⟩:=Rd.run_read h
   split at hk
   ·rename_i c ce ro
    split at hk
    ·rename_i bs qV
     obtain⟨cs,qU,EU⟩:=Option.bind_eq_some_iff.1 qV
     obtain⟨hle,rfl⟩:=vO qU
     obtain⟨ns,h1,rfl⟩:=LJ EU
     have key:(∃a',ns=[]/\x'=.slice a' 0 0)\/∃a' bH,x'=.slice (some a') len bH/\(loadCells a' len).run P w=.ok (ns.map (KJ .u8)).toArray w:=by
      cases hx with
      |bN _ h=>cases h
      |eJ _ a'=>
       exact .inl ⟨a',by simp at h1;exact h1,rfl⟩
      |sl _ _ _ _ bH r hr hc=>
       refine .inr ⟨_,bH,rfl,?_⟩
       by_cases hlen:len=0
       ·subst hlen
        have:ns=[]:=by simp at h1;exact h1
        subst this
        rfl
       obtain⟨c',fr,⟨cj,h2,LK⟩,hp,jw,hz,hf,hl,hB⟩:=sx hw hb hr (pc (by intro e;rw[e]at hle;simp at hle;omega))
       rw[As h2 _ _ (by omega)]
       have h3:=Av hl hle
       rw[h1]at h3
       rw[LR.x5 (by simp[fl,flat]) h3]
     rcases key with⟨a',rfl,rfl⟩|⟨a',bH,rfl,Wy⟩
     ·cases a' with
      |none=>
       rw[DA,aup w src dst _ none _ _ hs he hd]
       exact Fits.dK hw hk (.bN _ rfl)
      |some a'=>
       rw[DA,aup w src dst _ _ _ _ hs he hd,axh w a' 0 0 [] rfl,Dz,axp]
       exact Fits.dK hw hk (.bN _ rfl)
     rw[DA,aup w src dst _ _ _ _ hs he hd,axh w a' len bH ns Wy,Dz,axp]
     refine Fits.dK hw hk ?_
     have:(ByteArray.mk (ByteArray.empty.data++(ns.map λn=>zW n.toNat).toArray))=⟨(ns.map λn=>zW n.toNat).toArray⟩:=by
      congr 1
      exact Array.empty_append ..
     rw[this]
     exact .bN _ rfl
    ·cases hk
   ·cases hk
  ·cases h
 ·split at h
  ·rename_i hf
   rw[nK hf hx]
   exact ph hw h
  ·cases h
end
end Go.Proofs.YtnlkkgpcikkpoaaGreat.Vm
namespace Go.Proofs.YtnlkkgpcikkpoaaGreat.Vm
open Go.RowKit
section
variable {P:arC} {B:Nat->Prop} {w₀:arB} {ρ:Ren} {g:Nat->Option ak} {n:Nat} {w:arB}
theorem Fits.LL(hw:WR P B w₀ ρ g w)(hn:g n=none):
 Fits P B w₀ ρ g n ⟨.val (.map (some n)),[],some (.map [] 0)⟩ (.ok (.value (.map (some w.heap.size))) (w.alloc (.map #[] 0))):=by
 refine⟨ρ.put n ⟨w.heap.size,0,0,0⟩,_,Ren.kQ (hw.fresh n hn) _,.val _ _ _ (.map n _ (Ren.lr _ _ _)),hw.alloc hn rfl ?_⟩
 exact .map [] #[] 0 rfl λi e e' h=>by simp at h
theorem Wz(hw:WR P B w₀ ρ g w){t:KS}{r r':Option Dy}(hr:∀v,r=some v->∃v',r'=some v'/\VR ρ v v')(x9:r=none->r'=none)
 {out:bo}{l:List Nat}(hn:out.nw≠none->g n=none)(h:(El P t r n).run g=some (out,l)):
 Fits P B w₀ ρ g n out ((do let v <-axL t r';pure (asE v):Sem atu).run P w):=by
 unfold El at h
 split at h
 ·rw[x9 rfl]
  obtain rfl:=tY h
  exact Fits.LL hw (hn (by simp))
 ·obtain⟨v',rfl,hv⟩:=hr _ rfl
  rw[hv.kl]
  split at h
  ·rename_i hu
   obtain rfl:=tY h
   replace hn:=hn (by simp)
   rw[DA]
   unfold axL
   simp only[DA,run_underlying hu,Dz,asInt,asIntOf,asa,axr]
   exact Fits.LL hw hn
  ·cases h
 ·cases h
theorem Az(z:List Dy)(k:Nat):(fA z k).length=k*z.length:=by
 induction k with
 |zero=>simp[fA]
 |succ k ih=>simp[fA,ih,avC];omega
theorem EV(z:List Dy):∀(k i:Nat),i<k*z.length->(fA z k)[i]?=z[i%z.length]?
 |0,i,h=>by simp at h
 |k+1,i,h=>by
  rw[avC]at h
  have e:fA z (k+1)=z++fA z k:=rfl
  rw[e]
  by_cases hi:i<z.length
  ·rw[asl hi,Nat.mod_eq_of_lt hi]
  ·have ih:=EV z k (i-z.length) (by omega)
   rw[asd (by omega),ih]
   congr 1
   rw[Nat.mod_eq_sub_mod (a:=i) (by omega)]
theorem EW(z:Dy)(k:Nat):((av0 (k*z.cells.size)).map λi=>z.cells[i%z.cells.size]!)=(fA z.cells.toList k).toArray:=by
 apply atl
 apply auC
 intro i
 have hlen:z.cells.toList.length=z.cells.size:=by simp
 have ya:(fA z.cells.toList k).length=k*z.cells.size:=by rw[Az,hlen]
 by_cases hi:i<k*z.cells.size
 ·have h1:=EV z.cells.toList k i (by rw[hlen];exact hi)
  rw[hlen]at h1
  have WA:0<z.cells.size:=by
   rcases Nat.eq_zero_or_pos z.cells.size with h0|h0
   ·rw[h0]at hi;simp at hi
   ·exact h0
  have hm:i%z.cells.size<z.cells.size:=Nat.mod_lt _ WA
  show _=(fA z.cells.toList k)[i]?
  rw[h1]
  simp[hi,getElem!_pos,hm]
 ·show _=(fA z.cells.toList k)[i]?
  rw[asC (l:=fA z.cells.toList k) (by rw[ya];omega),asC (by simp;omega)]
theorem yb{z:Dy}(h:fl z=true):LR ρ z.cells.toList z.cells.toList:=(oE h).cells
theorem LR.fA{z z':List Dy}(h:LR ρ z z'):∀k,LR ρ (fA z k) (fA z' k)
 |0=>LR.nil ρ
 |k+1=>h.append (LR.fA h k)
theorem LN(k:IntKind)(i:Int):(asInt (.int k i)).run P w=.ok i w:=rfl
theorem WB(hw:WR P B w₀ ρ g w){t:KS}{a a' b b':Dy}(ha:VR ρ a a')(hb:VR ρ b b'){out:bo}{l:List Nat}
 (hn:out.nw≠none->g n=none)(h:(Em P t a b n).run g=some (out,l)):Fits P B w₀ ρ g n out ((do let v <-awx t a' b';pure (asE v):Sem atu).run P w):=by
 unfold Em at h
 split at h
 ·rename_i el i c hu hi hc
  obtain⟨ki,rfl⟩:=qd hi
  obtain⟨kc,rfl⟩:=qd hc
  rw[ha.kl,hb.kl]
  split at h
  ·rename_i size z bytes hs hz qW
   split at h
   ·rename_i gW
    simp only[BV]at gW
    obtain⟨⟨⟨⟨hf,h1⟩,h2⟩,h3⟩,h4⟩:=gW
    have h1:=arU h1
    have h2:=arU h2
    have h3:=arU h3
    have h4:=arJ h4
    obtain rfl:=tY h
    replace hn:=hn (by simp)
    have WC:∃inf,P.info? el=some inf/\inf.bytes=bytes:=by
     cases pk:P.info? el with
     |none=>rw[pk]at qW;cases qW
     |some inf=>rw[pk]at qW;cases qW;exact⟨inf,rfl,rfl⟩
    obtain⟨inf,pk,rfl⟩:=WC
    have wi:Ul.wrap (i:Int)=i:=axG _ (by omega)
    have wc:Ul.wrap (c:Int)=c:=axG _ (by omega)
    have WD:inf.bytes*c<=1000000000000:=Nat.mul_le_mul h3 h2
    have kR:(awx t (.int ki i) (.int kc c)).run P w=.ok (.slice (some ⟨w.heap.size,0,none⟩) i c) (w.alloc (.cells (fA z.cells.toList c).toArray el)):=by
     unfold awx
     rw[DA,run_underlying hu,Dz]
     dsimp only
     rw[DA,LN,Dz,DA,LN,Dz]
     simp only[typeInfo,DA,atw,Dz,pk,asa,wi,wc]
     have hp:(inf.bytes:Int)*(c:Int)<=1000000000000:=by rw[<-Int.natCast_mul];omega
     generalize hq:(inf.bytes:Int)*(c:Int)=q at hp⊢
     have sy:(decide ((c:Int)<0)||decide (q>2^48))=false:=by
      rw[auI,decide_eq_false_iff_not,decide_eq_false_iff_not]
      exact⟨by omega,by omega⟩
     have jj:decide ((i:Int)<0)=false:=decide_eq_false_iff_not.2 (by omega)
     have WE:decide ((i:Int)>(c:Int))=false:=decide_eq_false_iff_not.2 (by omega)
     have WG:¬(((decide ((c:Int)<0)||decide (q>2^48))=true\/(i:Int)<0)\/(i:Int)>(c:Int)):=by
      rw[sy];rintro((h|h)|h)
      ·cases h
      ·omega
      ·omega
     rw[if_neg (by first|exact WG|(simp only[Bool.or_eq_true,decide_eq_true_eq];omega))]
     have hlen:(fA z.cells.toList c).toArray=(av0 (c*size)).map λi=>z.cells[i%z.cells.size]! :=by rw[<-h4];exact(EW z c).symm
     simp only[run_askRoom,Dz,atG,DA,run_sizeOf hs]
     by_cases h0:c*size=0
     ·simp only[h0,if_true,asa,Dz,vQ]
      rw[hlen,h0]
      have e:∀f:Nat->Dy,axK f (av0 0)= #[]:=λf=>by apply atl;simp
      rw[e]
      first|rfl|(rw[e];rfl)|(simp only[e];rfl)|skip
     ·simp only[h0,if_false,DA,nO hz,asa,Dz,vQ]
      rw[hlen]
    rw[DA,kR,Dz]
    have hlen:(fA z.cells.toList c).length=c*size:=by rw[Az,<-h4];simp
    refine Fits.newRow hw hn (by simp) (by simpa using(yb hf).fA c) λρ' h'=>?_
    simpa using VR.sl (ρ:=ρ') n 0 i c c _ h' (.inl rfl)
   ·cases h
  ·cases h
 ·cases h
end
end Go.Proofs.YtnlkkgpcikkpoaaGreat.Vm
namespace Go.Proofs.YtnlkkgpcikkpoaaGreat.Vm
open Go.RowKit
section
variable {P:arC} {B:Nat->Prop} {w₀:arB} {ρ:Ren} {g:Nat->Option ak} {n:Nat} {w:arB}
theorem LO(off:Nat):∀(vs:List Dy) (k:Nat) (c:Array Dy),
 (vs.zipIdx k).foldl (λ(cs:Array Dy) (x:Dy×Nat)=>cs.setIfInBounds (off+x.2) x.1) c=qT c (off+k) vs
 | [],k,c=>rfl
 |v::vs,k,c=>by
  rw[List.zipIdx_cons,List.foldl_cons,LO off vs (k+1)]
  rfl
theorem WH(off:Nat)(vs:Array Dy)(c:Array Dy):
 vs.zipIdx.foldl (λ(cs:Array Dy) (x:Dy×Nat)=>cs.setIfInBounds (off+x.2) x.1) c=qT c off vs.toList:=by
 rw[<-Array.foldl_toList,Array.toList_zipIdx,LO]
 rfl
theorem LR.splice{c:List Dy}{c':Array Dy}(h:LR ρ c c'.toList){vs km:List Dy}(hv:LR ρ vs km){off:Nat}(hle:off+vs.length<=c.length):
 LR ρ (bc c off vs) (qT c' off km).toList:=by
 have hl:=h.len
 have EX:=hv.len
 refine⟨by rw[pj hle];simpa[EL]using hl,λi v v' h1 h2=>?_⟩
 rw[EP hle]at h1
 rw[Array.getElem?_toList,Ar _ _ _ _ (by simp at hl;omega)]at h2
 by_cases gl:off<=i/\i<off+vs.length
 ·rw[if_pos gl]at h1
  rw[if_pos (by omega)]at h2
  exact hv.at_ _ _ _ h1 h2
 ·rw[if_neg gl]at h1
  rw[if_neg (by omega)]at h2
  exact h.at_ i v v' h1 (by simpa using h2)
inductive PR(ρ:Ren):List (Nat×Dy)->List (Nat×Dy)->Prop where
 |nil:PR ρ [] []
 |cons (i:Nat) (v v':Dy) (l l':List (Nat×Dy)) (h:VR ρ v v') (hl:PR ρ l l'):PR ρ ((i,v)::l) ((i,v')::l')
theorem PR.map{e e':asW->Dy}:∀(l:List (Nat×asW)),(∀x∈l,VR ρ (e x.2) (e' x.2))->PR ρ (l.map λx=>(x.1,e x.2)) (l.map λx=>(x.1,e' x.2))
 | [],_=>.nil
 |(i,x)::l,h=>.cons _ _ _ _ _ (h (i,x) (by simp)) (PR.map l λy hy=>h y (by simp[hy]))
theorem EY{pl:Nat->Option (Nat×Nat)}:∀{parts nR:List (Nat×Dy)},PR ρ parts nR->∀{c:List Dy} {c':Array Dy} {out:List Dy},LR ρ c c'.toList->
 tM pl c parts=some out->∃qX,axu pl c' nR=some qX/\LR ρ out qX.toList:=by
 intro parts nR hp
 induction hp with
 |nil=>intro c c' out hc h;simp[tM]at h;subst h;exact⟨c',rfl,hc⟩
 |cons i v v' l l' hv hl ih=>
  intro c c' out hc h
  unfold tM at h
  unfold axu
  cases qe:pl i with
  |none=>rw[qe]at h;cases h
  |some p=>
   obtain⟨off,k⟩:=p
   rw[qe]at h
   simp only[]at h⊢
   split at h
   ·rename_i gW
    simp only[BV]at gW
    obtain⟨h1,h2⟩:=gW
    have h1:=arJ h1
    have h2:=arU h2
    have hs:=hv.cells.EN
    have du:=hc.len
    simp only[Array.length_toList]at du
    rw[if_neg (by simp;omega)]
    have:=WH off v'.cells c'
    rw[this]
    exact ih (hc.splice hv.cells (by simp;omega)) h
   ·cases h
theorem run_places{fs:List au3}:∀{ps:List (Nat×Nat)},vC P fs=some ps->(fs.mapM (m:=Sem) λf=>do pure (f.offset,<-sizeOf f.type)).run P w=.ok ps w:=by
 induction fs with
 |nil=>intro ps h;simp[vC]at h;subst h;rfl
 |cons f fs ih=>
  intro ps h
  unfold vC at h
  split at h
  ·rename_i k r hk hr
   cases h
   rw[List.mapM_cons,DA,DA,run_sizeOf hk,Dz,asa,Dz,DA,ih hr,Dz]
   rfl
  ·cases h
theorem WI{fs:Array au3}{ps:List (Nat×Nat)}(h:vC P fs.toList=some ps):(fs.mapM (m:=Sem) λf=>do pure (f.offset,<-sizeOf f.type)).run P w=.ok ps.toArray w:=by
 rw[Array.mapM_eq_mapM_toList,Sem.run_map,run_places h]
 rfl
theorem WJ(hw:WR P B w₀ ρ g w){t:KS}{parts:List (Nat×Dy)}{nR:Array (Nat×Dy)}(hp:PR ρ parts nR.toList){out:bo}{l:List Nat}
 (h:(Ee P t parts).run g=some (out,l)):Fits P B w₀ ρ g n out ((do let v <-av1 t nR;pure (asE v):Sem atu).run P w):=by
 unfold Ee at h
 split at h
 ·rename_i z fs hz hu
  split at h
  ·rename_i ps kn hf
   split at h
   ·rename_i cs yc
    have WK:LR ρ z.cells.toList z.cells.toList:=yb hf
    obtain⟨qX,h1,h2⟩:=EY hp WK yc
    have:(av1 t nR).run P w=.ok (.agg qX) w:=by
     unfold av1
     rw[DA,nO hz,Dz]
     dsimp only
     rw[DA,run_underlying hu,Dz]
     dsimp only
     rw[DA,WI kn,Dz]
     have tZ:axu (λx=>ps.toArray[x]?) z.cells nR.toList=some qX:=by
      have:(λi:Nat=>ps.toArray[i]?)=(λi:Nat=>ps[i]?):=by funext i;simp
      rw[this];exact h1
     rw[tZ]
     rfl
    rw[DA,this]
    exact Fits.dK hw h (.xX (by simpa using h2))
   ·cases h
  ·cases h
 ·rename_i z k el hz hu
  split at h
  ·rename_i size hs hf
   split at h
   ·rename_i cs yc
    obtain⟨qX,h1,h2⟩:=EY hp (yb hf) yc
    have:(av1 t nR).run P w=.ok (.agg qX) w:=by
     unfold av1
     rw[DA,nO hz,Dz]
     dsimp only
     rw[DA,run_underlying hu,Dz]
     dsimp only
     rw[DA,run_sizeOf hs,Dz,h1]
     rfl
    rw[DA,this]
    exact Fits.dK hw h (.xX (by simpa using h2))
   ·cases h
  ·cases h
 ·cases h
theorem WL(hw:WR P B w₀ ρ g w){t:KS}{len:Nat}{parts:List (Nat×Dy)}{nR:Array (Nat×Dy)}(hp:PR ρ parts nR.toList){out:bo}{l:List Nat}
 (hn:out.nw≠none->g n=none)(h:(Ef P t len parts n).run g=some (out,l)):Fits P B w₀ ρ g n out ((do let v <-awg t len nR;pure (asE v):Sem atu).run P w):=by
 unfold Ef at h
 split at h
 ·rename_i el hu
  split at h
  ·rename_i size z hs hz
   split at h
   ·rename_i gW
    simp only[BV]at gW
    obtain⟨⟨hf,h1⟩,h2⟩:=gW
    have h1:=arU h1
    have h2:=arJ h2
    split at h
    ·rename_i cs yc
     obtain rfl:=tY h
     replace hn:=hn (by simp)
     have ya:LR ρ (fA z.cells.toList len) ((fA z.cells.toList len).toArray).toList:=by simpa using(yb hf).fA len
     obtain⟨qX,h3,h4⟩:=EY hp ya yc
     have hzero:(fA z.cells.toList len).toArray=(av0 (len*size)).map λi=>z.cells[i%z.cells.size]! :=by rw[<-h2];exact(EW z len).symm
     have kR:(awg t len nR).run P w=.ok (.slice (some ⟨w.heap.size,0,none⟩) len len) (w.alloc (.cells qX el)):=by
      unfold awg
      rw[DA,run_underlying hu,Dz]
      dsimp only
      rw[DA,run_sizeOf hs,Dz,if_neg (by omega)]
      by_cases h0:len*size=0
      ·have e:∀f:Nat->Dy,axK f (av0 0)= #[]:=λf=>by apply atl;simp
       have e2:(fA z.cells.toList len).toArray= #[]:=by rw[hzero,h0,e]
       rw[e2]at h3
       simp only[h0,if_true,DA,asa,Dz,e,h3,vQ]
      ·rw[hzero]at h3
       simp only[h0,if_false,DA,nO hz,asa,Dz,h3,vQ]
     rw[DA,kR,Dz]
     have ub:=h4.len
     refine Fits.newRow hw hn (by simpa using ub) h4 λρ' h'=>?_
     simpa using VR.sl (ρ:=ρ') n 0 len len len _ h' (.inl rfl)
    ·cases h
   ·cases h
  ·cases h
 ·cases h
theorem AA{k:IntKind}{i m:Nat}(code:BoundsCode)(h:i<=m):(auJ (.int k i) m code).run P w=.ok i w:=by
 unfold auJ
 simp only[asIntOf,DA,asa,Dz]
 rw[if_pos ⟨by omega,by omega⟩]
 simp
theorem EZ{isSlice:Bool}{len cap l h:Nat}{lo hi:Option Dy}(nS:o7 0 lo=some l)(qf:o7 len hi=some h)(h1:l<=h)(h2:h<=cap):
 (axi isSlice len cap lo hi none).run P w=.ok (l,h,cap) w:=by
 unfold axi
 cases hi with
 |none=>
  simp only[o7,DE]at qf
  subst qf
  cases lo with
  |none=>
   simp only[o7,DE]at nS
   subst nS
   simp
  |some v=>
   obtain⟨k,rfl⟩:=qd nS
   simp only[DA,asa,Dz,aw4,asv,if_false,AA _ h1]
 |some u=>
  obtain⟨ku,rfl⟩:=qd qf
  cases lo with
  |none=>
   simp only[o7,DE]at nS
   subst nS
   simp only[DA,asa,Dz,AA _ h2]
  |some v=>
   obtain⟨k,rfl⟩:=qd nS
   simp only[DA,asa,Dz,aw4,asv,if_false,AA _ h1,AA _ h2]
theorem AB{d m:Nat}{o o':Option Dy}(hr:∀v,o=some v->∃v',o'=some v'/\VR ρ v v')(x9:o=none->o'=none)(h:o7 d o=some m):o'=o:=by
 cases o with
 |none=>exact x9 rfl
 |some v=>
  obtain⟨v',rfl,hv⟩:=hr v rfl
  obtain⟨k,rfl⟩:=qd h
  rw[hv.kl]
theorem E0{o o':Option Dy}(hr:∀v,o=some v->∃v',o'=some v'/\VR ρ v v')(x9:o=none->o'=none)(h:o.all fl=true):o'=o:=by
 cases o with
 |none=>exact x9 rfl
 |some v=>
  obtain⟨v',rfl,hv⟩:=hr v rfl
  rw[nK (by simpa using h) hv]
structure qY(ρ:Ren)(o o':Option Dy):Prop where
 some_:∀v,o=some v->∃v',o'=some v'/\VR ρ v v'
 none_:o=none->o'=none
theorem qY.map{e e':asW->Dy}(x:Option asW)(h:∀y,x=some y->VR ρ (e y) (e' y)):qY ρ (x.map e) (x.map e'):=by
 cases x with
 |none=>exact⟨by simp,by simp⟩
 |some y=>exact⟨λv hv=>by simp at hv;subst hv;exact⟨_,rfl,h y rfl⟩,by simp⟩
theorem WM(hw:WR P B w₀ ρ g w){t:KS}{x x':Dy}(hx:VR ρ x x'){lo LP hi fH mx LQ:Option Dy}(nS:qY ρ lo LP)(qf:qY ρ hi fH)(AC:qY ρ mx LQ)
 {out:bo}{l:List Nat}(h:(sk P t x lo hi mx).run g=some (out,l)):Fits P B w₀ ρ g n out ((do let v <-atE t x' LP fH LQ;pure (asE v):Sem atu).run P w):=by
 unfold sk at h
 split at h
 ·rename_i hf
  split at h
  ·rename_i gE
   simp only[BV]at gE
   rw[nK hf hx,E0 nS.some_ nS.none_ gE.1.1,E0 qf.some_ qf.none_ gE.1.2,E0 AC.some_ AC.none_ gE.2]
   exact ph hw h
  ·cases h
 ·split at h
  ·rename_i el b off len cap hu _
   rw[AC.none_ rfl]
   split at h
   ·rename_i i j size fH ls hs
    rw[AB nS.some_ nS.none_ fH,AB qf.some_ qf.none_ ls]
    split at h
    ·rename_i gW
     simp only[BV]at gW
     have h1:=arU gW.1
     have h2:=arU gW.2
     obtain⟨o,l',hb,hk,rfl⟩:=Rd.run_read h
     split at hk
     ·rename_i c eb ro
      split at hk
      ·rename_i sb E1
       split at hk
       ·rename_i hle
        have hle:=arU hle
        have WN:(i=0->j=0->(atE t (.slice none len 0) lo hi none).run P w=.ok (.slice none 0 0) w):=by
         intro oG uc
         subst oG uc
         unfold atE
         rw[DA,run_underlying hu,Dz]
         dsimp only
         unfold axn
         rw[DA,run_underlying hu,Dz]
         dsimp only
         rw[DA,EZ fH ls h1 (arO _),Dz]
         dsimp only
         try rw[DA,run_sizeOf hs,Dz]
         try rfl
        have key:∀(a:atU) (bH:Nat),j<=bH->(atE t (.slice (some a) len bH) lo hi none).run P w=.ok (.slice (if bH=i then some a else some (a.add (i*size))) (j-i) (bH-i)) w:=by
         intro a bH jv
         unfold atE
         rw[DA,run_underlying hu,Dz]
         dsimp only
         unfold axn
         rw[DA,run_underlying hu,Dz]
         dsimp only
         rw[DA,EZ fH ls h1 jv,Dz]
         dsimp only
         rw[DA,run_sizeOf hs,Dz]
         rfl
        cases hx with
        |bN _ h=>cases h
        |eJ _ a'=>
         have oG:i=0:=by omega
         have uc:j=0:=by omega
         cases a' with
         |none=>
          rw[DA,WN oG uc,Dz]
          subst oG uc
          refine Fits.dK hw hk ?_
          simpa using VR.eJ (ρ:=ρ) ⟨b,off+0*size,none⟩ none
         |some a'=>
          rw[DA,key a' 0 h2,Dz]
          subst oG uc
          refine Fits.dK hw hk ?_
          simpa using VR.eJ (ρ:=ρ) ⟨b,off+0*size,none⟩ (some a')
        |sl _ _ _ _ bH r hr hc=>
         have jQ:cap<=bH:=by rcases hc with hc|hc<;>omega
         rw[DA,key _ bH (by omega),Dz]
         refine Fits.dK hw hk ?_
         by_cases LS:bH=i
         ·rw[if_pos LS]
          have e1:j-i=0:=by omega
          have e2:cap-i=0:=by omega
          have e3:bH-i=0:=by omega
          rw[e1,e2,e3]
          exact .eJ _ _
         ·rw[if_neg LS,qb,atm]
          refine .sl _ _ _ _ _ r hr ?_
          rcases hc with hc|⟨sy,jj⟩
          ·left;omega
          ·right
           refine⟨by omega,?_⟩
           have cc:r.sz=sb:=Lv hw hb hr sb E1
           rw[cc]at jj⊢
           have:i*size+(bH-i)*sb<=bH*sb:=by
            have h3:i*size<=i*sb:=Nat.mul_le_mul_left _ hle
            have h4:i*sb+(bH-i)*sb=bH*sb:=by rw[<-Nat.add_mul];congr 1;omega
            omega
           omega
       ·cases hk
      ·cases hk
     ·cases hk
    ·cases h
   ·cases h
  ·rename_i k el b off hu _
   rw[AC.none_ rfl]
   obtain⟨r,hr,rfl⟩:=hx.lp
   split at h
   ·rename_i i j size fH ls hs
    rw[AB nS.some_ nS.none_ fH,AB qf.some_ qf.none_ ls]
    split at h
    ·rename_i gW
     simp only[BV]at gW
     have h1:=arU gW.1
     have h2:=arU gW.2
     have key:(atE t (.pointer (some ⟨r.aH,r.sh+off,none⟩)) lo hi none).run P w=.ok (.slice (some (if k=i then⟨r.aH,r.sh+off,none⟩else(⟨r.aH,r.sh+off,none⟩:atU).add (i*size))) (j-i) (k-i)) w:=by
      unfold atE
      rw[DA,run_underlying hu,Dz]
      dsimp only
      simp only[aul,DA,asa,Dz,EZ fH ls h1 h2,run_sizeOf hs]
     rw[DA,key,Dz]
     refine Fits.dK hw h ?_
     by_cases E2:k=i
     ·subst E2
      have e:arE k k=true:=Nat.beq_refl k
      simp only[e,if_true,Nat.add_zero]
      exact .sl _ _ _ _ _ r hr (.inl rfl)
     ·have e:arE k i=false:=by
       cases hb:arE k i with
       |false=>rfl
       |true=>exact absurd (arJ hb) E2
      simp only[e,asv,if_false,E2,qb,atm]
      exact .sl _ _ _ _ _ r hr (.inl rfl)
    ·cases h
   ·cases h
  ·cases h
end
end Go.Proofs.YtnlkkgpcikkpoaaGreat.Vm
namespace Go.Proofs.YtnlkkgpcikkpoaaGreat.Vm
open Go.RowKit
section
variable {P:arC} {B:Nat->Prop} {w₀:arB} {ρ:Ren} {g:Nat->Option ak} {w:arB}
theorem WR.yd(h:WR P B w₀ ρ g w){n:Nat}(hn:g n=none){o:ak}{r:bV}(hl:Live o r=false)
 (EI:∀m size row,o=.rows m size row->0<m->nL P w₀ B r m size row)(pf:∀el ro,o=.cells [] el ro->∀k,bZ P el=some k->r.sz=k)(EH:∀d,o≠ .abs d:=by intro d e;cases e):WR P B w₀ (ρ.put n r) (cX g n o) w:=
 h.put hn (λy hy=>.inl (eB _ hy)) (fB _ _ _) (gU.refl B w) (arO _) (λy oy ry _ _ h1 h2 h3=>rfl) (λe=>by rw[hl]at e;cases e) (λe=>by rw[hl]at e;cases e) (λk _ _ _=>⟨rfl,λe=>by rw[hl]at e;cases e⟩) EH EI pf
theorem WR.LU(h:WR P B w₀ ρ g w){n:Nat}(hn:g n=none){c:List Dy}{el:KS}{r:bV}(hz:∀k,bZ P el=some k->r.sz=k)
 (hc:c≠[]\/r.dJ≠0->B r.aH/\∃(c':Array Dy) (cj:KS) (fr:Nat×Nat),w.heap[r.aH]?=some (.cells c' cj fr)/\c'.size=r.dJ/\r.sh+c.length<=r.dJ/\
  ∀(i:Nat) (v:Dy),c[i]?=some v->∃v',c'[r.sh+i]?=some v'/\VR (ρ.put n r) v v'):WR P B w₀ (ρ.put n r) (cX g n (.cells c el true)) w:=by
 have mv:Live (.cells c el true) r=true->B r.aH/\∃(c':Array Dy) (cj:KS) (fr:Nat×Nat),w.heap[r.aH]?=some (.cells c' cj fr)/\c'.size=r.dJ/\r.sh+c.length<=r.dJ/\
  ∀(i:Nat) (v:Dy),c[i]?=some v->∃v',c'[r.sh+i]?=some v'/\VR (ρ.put n r) v v':=λhl=>by
  refine hc ?_
  by_cases br:c=[]
  ·right
   intro e
   subst br
   simp[Live,e]at hl
  ·exact .inl br
 refine h.put hn (λy hy=>.inl (eB _ hy)) (fB _ _ _) (gU.refl B w) (arO _) (λy oy ry _ _ h1 h2 h3=>rfl) (λhl=>?_) (λhl y oy ry e h0 h1 h2 h3 hd e'=>?_) (λk _ k2 _=>⟨rfl,λhl e=>k2 (e▸(mv hl).1)⟩) (λd e=>by cases e) (λm s q e=>by cases e) (λcj ro e=>by cases e;exact hz)
 ·obtain⟨hB,c',cj,fr,hb,hp,hs,jQ⟩:=mv hl
  exact⟨_,hb,.cells c el cj true c' fr hp hs (λe=>by cases e) hz (λe=>by cases e) jQ,λe=>by cases e⟩
 ·obtain⟨hB,_⟩:=mv hl
  obtain⟨_,_,_,h6⟩:=h.live y oy ry h1 h2 h3
  rcases hd with hd|hd
  ·exact h6 hd (e'▸hB)
  ·cases hd
def jk(g:Nat->Option ak):Nat->List ak->Nat->Option ak
 |_,[]=>g
 |k,o::l=>jk (cX g k o) (k+1) l
theorem LV(g:Nat->Option ak):∀(k:Nat) (l l':List ak),jk g k (l++l')=jk (jk g k l) (k+l.length) l'
 |k,[],l'=>rfl
 |k,o::l,l'=>by
  show jk (cX g k o) (k+1) (l++l')=_
  rw[LV]
  simp only[ar4]
  rw[show k+1+l.length=k+(l.length+1)by omega]
  rfl
theorem AD{k x:Nat}{l:List ak}{g:Nat->Option ak}(h:x<k\/k+l.length<=x):jk g k l x=g x:=by
 induction l generalizing k g with
 |nil=>rfl
 |cons o l ih=>
  show jk (cX g k o) (k+1) l x=_
  rw[ih (by simp only[ar4]at h;omega),eB _ (by simp only[ar4]at h;omega)]
theorem sA:∀l:List SV,(hI l).length=lL l
 | []=>rfl
 | .val _::l=>sA l
 | .cells _ _ _::l=>by show(hI l).length+1=_;rw[sA l];rfl
 | .rows _ _ _::l=>by show(hI l).length+1=_;rw[sA l];rfl
structure il(P:arC)(w₀:arB)(B:Nat->Prop)(l:List SV)(l':List Dy):Prop where
 len:l.length=l'.length
 at_:∀(i:Nat) (s:SV) (v:Dy),l[i]?=some s->l'[i]?=some v->SR P w₀ B s v
theorem il.tail{s:SV}{v:Dy}{l:List SV}{l':List Dy}(h:il P w₀ B (s::l) (v::l')):il P w₀ B l l':=
 ⟨by simpa using h.len,λi a b h1 h2=>h.at_ (i+1) a b (by simpa using h1) (by simpa using h2)⟩
theorem SR.WO{n:Nat}{c:List Dy}{el:KS}{v:Dy}(h:SR P w₀ B (.cells n c el) v)(hb:gU B w₀ w):
 ∃r:bV,(∀k,bZ P el=some k->r.sz=k)/\(∀(ρ:Ren) (x:Nat),ρ x=some r->VR ρ (.slice (some ⟨x,0,none⟩) n n) v)/\
  (c≠[]\/r.dJ≠0->B r.aH/\∃(c':Array Dy) (cj:KS) (fr:Nat×Nat),w.heap[r.aH]?=some (.cells c' cj fr)/\c'.size=r.dJ/\r.sh+c.length<=r.dJ/\
   ∀(ρ:Ren) (i:Nat) (v:Dy),c[i]?=some v->∃v',c'[r.sh+i]?=some v'/\VR ρ v v'):=by
 cases h with
 |nil _ a=>exact⟨⟨0,0,(bZ P el).getD 0,0⟩,λk hk=>by simp[hk],λρ x _=>.eJ _ _,λhc=>by rcases hc with hc|hc<;>exact absurd rfl hc⟩
 |cells _ _ _ b off cap c' cj fr hB jl hc hl hn jv=>
  refine⟨⟨b,off,(bZ P el).getD 0,c'.size⟩,λk hk=>by simp[hk],λρ x hx=>?_,λ_=>⟨hB,c',cj,fr,(hb.block b hB).trans jl,rfl,hl,λρ i v hv=>?_⟩⟩
  ·refine .sl x 0 n n cap _ hx ?_
   right
   refine⟨hn,?_⟩
   dsimp only
   cases hs:bZ P el with
   |none=>simp;omega
   |some s=>have:=jv s hs;simpa using this
  ·obtain⟨h1,h2⟩:=hc i v hv
   exact⟨v,h2,.bN v h1⟩
theorem SR.WQ{n size:Nat}{row:Nat->List SV}{v:Dy}(h:SR P w₀ B (.rows n size row) v):
 ∃r:bV,(0<n->nL P w₀ B r n size row)/\(∀(ρ:Ren) (x:Nat),ρ x=some r->VR ρ (.slice (some ⟨x,0,none⟩) n n) v):=by
 cases h with
 |qQ _ _ a=>exact⟨⟨0,0,0,0⟩,λh=>absurd h (by omega),λρ x _=>.eJ _ _⟩
 |rows _ _ _ b off cap c' cj fr hB jl hl hn jv hlen u hu hr=>
  refine⟨⟨b,off,size,c'.size⟩,λ_=>⟨hB,rfl,c',cj,fr,jl,rfl,hl,λi hi=>⟨hlen i hi,λk sv hk=>?_⟩⟩,λρ x hx=>.sl x 0 n n cap _ hx (.inr ⟨hn,jv⟩)⟩
  have vR:k<size:=by rw[<-hlen i hi];exact(KP.1 hk).1
  exact⟨_,hu i k hi vR,hr i k sv hi hk⟩
theorem ye:∀{l:List SV} {l':List Dy} {k:Nat} {g:Nat->Option ak} {ρ:Ren},il P w₀ B l l'->WR P B w₀ ρ g w->(∀j,j<lL l->g (k+j)=none)->
 ∃ρ',ρ.le ρ'/\WR P B w₀ ρ' (jk g k (hI l)) w/\LR ρ' (m7 l k) l'
 | [],l',k,g,ρ,hs,hw,hf=>by
  have:l'=[]:=by have:=hs.len;exact ar5 (by simpa using this.symm)
  subst this
  exact⟨ρ,Ren.le_refl ρ,hw,LR.nil ρ⟩
 |s::l,[],k,g,ρ,hs,hw,hf=>by have:=hs.len;simp at this
 | .val v::l,v'::l',k,g,ρ,hs,hw,hf=>by
  obtain⟨ρ',h1,h2,h3⟩:=ye (k:=k) hs.tail hw hf
  have h0:=hs.at_ 0 _ _ rfl rfl
  cases h0 with
  |val _ hv=>exact⟨ρ',h1,h2,LR.cons (.bN v hv) h3⟩
 | .cells n c el::l,v'::l',k,g,ρ,hs,hw,hf=>by
  obtain⟨r,h1,h2,h3⟩:=(hs.at_ 0 _ _ rfl rfl).WO hw.below
  have hk:g k=none:=hf 0 (by simp[lL])
  have im:=hw.LU hk h1 λbr=>let⟨a,c',cj,fr,b1,b2,b3,b4⟩:=h3 br;⟨a,c',cj,fr,b1,b2,b3,b4 _⟩
  obtain⟨ρ',h4,h5,h6⟩:=ye (k:=k+1) hs.tail im λj hj=>by
   rw[eB _ (by omega),show k+1+j=k+(j+1)by omega]
   exact hf (j+1) (by simp only[lL];omega)
  exact⟨ρ',Ren.le_trans (Ren.kQ (hw.fresh k hk) r) h4,h5,LR.cons (h2 _ _ (h4 _ _ (Ren.lr _ _ _))) h6⟩
 | .rows n size row::l,v'::l',k,g,ρ,hs,hw,hf=>by
  obtain⟨r,h1,h2⟩:=(hs.at_ 0 _ _ rfl rfl).WQ
  have hk:g k=none:=hf 0 (by simp[lL])
  have im:=hw.yd hk (o:=.rows n size row) (r:=r) rfl (λm s q e hm=>by cases e;exact h1 hm) (λel tV e=>by cases e)
  obtain⟨ρ',h4,h5,h6⟩:=ye (k:=k+1) hs.tail im λj hj=>by
   rw[eB _ (by omega),show k+1+j=k+(j+1)by omega]
   exact hf (j+1) (by simp only[lL];omega)
  exact⟨ρ',Ren.le_trans (Ren.kQ (hw.fresh k hk) r) h4,h5,LR.cons (h2 _ _ (h4 _ _ (Ren.lr _ _ _))) h6⟩
end
end Go.Proofs.YtnlkkgpcikkpoaaGreat.Vm
