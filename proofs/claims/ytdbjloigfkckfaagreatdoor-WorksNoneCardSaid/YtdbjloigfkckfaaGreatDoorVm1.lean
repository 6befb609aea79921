/- A small machine that runs the model's code over a memory of its own, in the order of the text: its definitions. -/
import Derived.Orders
import Derived.Tactics2
import Derived.Laws.World
import Derived.Laws.Sem
import Derived.Below
namespace Go.Proofs.YtdbjloigfkckfaaGreatDoor.Vm
set_option linter.unusedVariables false

/-- What stands in a row of an argument: a value, a row of values, a row of rows. -/
inductive SV where
  | val (v : Value)
  | cells (n : Nat) (c : List Value) (elem : TypeId)
  | rows (n size : Nat) (row : Nat → List SV)

inductive VObj where
  | cells (c : List Value) (elem : TypeId) (ro : Bool)
  | map (es : List MapEntry) (clock : Nat)
  | siter (s : ByteArray) (pos : Nat)
  | dead
  | rows (n size : Nat) (row : Nat → List SV)

inductive Tr (α : Type) where
  | nil
  | node (l : Tr α) (v : Option α) (r : Tr α)

def Tr.get {α : Type} : Nat → Tr α → Nat → Option α
  | 0, .node _ v _, _ => v
  | 0, .nil, _ => none
  | _ + 1, .nil, _ => none
  | k + 1, .node l _ r, n => match Nat.beq (n % 2) 0 with
    | true => l.get k (n / 2)
    | false => r.get k (n / 2)

def Tr.set {α : Type} : Nat → Tr α → Nat → α → Tr α
  | 0, _, _, o => .node .nil (some o) .nil
  | k + 1, .nil, n, o => match Nat.beq (n % 2) 0 with
    | true => .node (Tr.set k .nil (n / 2) o) none .nil
    | false => .node .nil none (Tr.set k .nil (n / 2) o)
  | k + 1, .node l v r, n, o => match Nat.beq (n % 2) 0 with
    | true => .node (Tr.set k l (n / 2) o) v r
    | false => .node l v (Tr.set k r (n / 2) o)

def small (n : Nat) : Bool := Nat.blt n 262144
def gt (t : Tr VObj) (n : Nat) : Option VObj := match small n with
  | true => t.get 18 n
  | false => none

structure VS where
  mem : Tr VObj
  next : Nat
  rd : List Nat
  wr : List Nat

inductive Rd (α : Type) where
  | done (a : α)
  | fail
  | read (x : Nat) (k : VObj → Rd α)

def Rd.run {α : Type} (g : Nat → Option VObj) : Rd α → Option (α × List Nat)
  | .done a => some (a, [])
  | .fail => none
  | .read x k => match g x with
    | none => none
    | some o => match (k o).run g with
      | none => none
      | some (a, l) => some (a, x :: l)

def Rd.bind {α β : Type} : Rd α → (α → Rd β) → Rd β
  | .done a, f => f a
  | .fail, _ => .fail
  | .read x k, f => .read x fun o => (k o).bind f

def ofO {α : Type} : Option α → Rd α
  | some a => .done a
  | none => .fail

inductive ORes where
  | val (v : Value)
  | skip
  | enter (f : FuncId) (args : List Value)
  | panic (v : Value)
  | defer (d : Deferred)

structure OOut where
  r : ORes
  ws : List (Nat × VObj)
  nw : Option VObj

/-- A value in which no address stands. -/
def flat : Nat → Value → Bool
  | _, .bool _ | _, .int _ _ | _, .float _ _ | _, .complex _ _ _ | _, .string _ | _, .pointer none | _, .map none | _, .chan none | _, .nilFunc | _, .nilIface => true
  | _, .slice none 0 0 => true
  | _, .func (.func _) f c => f.toList.isEmpty && c.toList.isEmpty
  | d + 1, .iface _ v => flat d v
  | d + 1, .agg cs => cs.toList.all (flat d)
  | d + 1, .tuple cs => cs.toList.all (flat d)
  | _, _ => false
abbrev fl (v : Value) : Bool := flat 6 v

/-- What a program of the model comes to that touches no memory: a value, or a panic. -/
def pureRun {α : Type} (P : Program) : Sem α → Option (Except Value α)
  | .pure a => some (.ok a)
  | .program k => pureRun P (k P)
  | .mark _ k => pureRun P k
  | .halt (.panic v) => some (.error v)
  | _ => none

/-- A frame's slots, and how many there are. -/
structure Fr where
  t : Tr Value
  n : Nat
  ds : List (FuncId × List Value)
  base : List Deferred

def Fr.at (f : Fr) (i : Nat) : Value := match Nat.blt i f.n with
  | true => match f.t.get 10 i with
    | some v => v
    | none => undef
  | false => undef
def Fr.set (f : Fr) (i : Nat) (v : Value) : Option Fr := match f with
  | ⟨t, n, ds, base⟩ => match Nat.blt i n with
    | true => some ⟨t.set 10 i v, n, ds, base⟩
    | false => none
theorem Fr.set_eq (f : Fr) (i : Nat) (v : Value) : f.set i v = match Nat.blt i f.n with
  | true => some { f with t := f.t.set 10 i v }
  | false => none := by cases f; rfl
def Fr.sets : List Value → Nat → Tr Value → Tr Value
  | [], _, t => t
  | v :: l, i, t => Fr.sets l (i + 1) (t.set 10 i v)
def Fr.of (args : List Value) (n : Nat) : Option Fr := match Nat.ble args.length n && Nat.ble n 1024 with
  | true => some ⟨Fr.sets args 0 .nil, n, [], []⟩
  | false => none

def evalL (t : Fr) : Operand → Value
  | .tmp i => t.at i
  | .const v => v
  | .global g => .pointer (some ⟨g, 0, none⟩)
  | .func f => .func (.func f) #[] #[]

def okOperand : Operand → Bool
  | .global _ => false
  | .const v => fl v
  | _ => true

section
variable (P : Program)

def szOf (t : TypeId) : Option Nat := (P.info? t).map (·.size)
def agg? (t : TypeId) : Option Bool := match P.underlying t with
  | some (.struct _) | some (.array _ _) => some true
  | some _ => some false
  | none => none

def val (v : Value) : Rd OOut := .done ⟨.val v, [], none⟩
def new (ob : VObj) (v : Value) : Rd OOut := .done ⟨.val v, [], some ob⟩

/-- So many cells of a block, from a place on. -/
def cut (c : List Value) (off n : Nat) : Option (List Value) := match Nat.ble (off + n) c.length with
  | true => some ((c.drop off).take n)
  | false => none
def splice (c : List Value) (off : Nat) (vs : List Value) : List Value := c.take off ++ vs ++ c.drop (off + vs.length)

def ldV (t : TypeId) (b off : Nat) : Rd Value := .read b fun
  | .cells c _ _ => match agg? P t with
    | some true => match szOf P t with
      | some (n + 1) => match cut c off (n + 1) with
        | some l => .done (.agg l.toArray)
        | none => .fail
      | _ => .fail
    | some false => match c[off]? with
      | some v => .done v
      | none => .fail
    | none => .fail
  | _ => .fail

/-- The cells of a slice, or a string's bytes. -/
def cellsV (size : Nat) : Value → Nat → Rd (List Value)
  | .slice (some ⟨b, off, none⟩) _ _, n => .read b fun
    | .cells c _ _ => ofO (cut c off (n * size))
    | _ => .fail
  | .slice none _ _, _ => .done []
  | .string s, n => .done ((s.data.toList.take n).map fun b => .int .u8 b.toNat)
  | _, _ => .fail

def bytesOf : List Value → Option (List UInt8)
  | [] => some []
  | .int .u8 n :: l => match bytesOf l with
    | some r => some (UInt8.ofNat n.toNat :: r)
    | none => none
  | _ :: _ => none

def fillV (size : Nat → Option (Nat × Nat)) (cells : List Value) : List (Nat × Value) → Option (List Value)
  | [] => some cells
  | (i, v) :: rest => match size i with
    | none => none
    | some (off, n) => match Nat.beq v.cells.size n && Nat.ble (off + n) cells.length with
      | true => fillV size (splice cells off v.cells.toList) rest
      | false => none

def places (P : Program) : List Field → Option (List (Nat × Nat))
  | [] => some []
  | f :: l => match szOf P f.type, places P l with
    | some n, some r => some ((f.offset, n) :: r)
    | _, _ => none

def repl (zero : List Value) : Nat → List Value
  | 0 => []
  | n + 1 => zero ++ repl zero n

def zeroOf (t : TypeId) : Option Value := (P.info? t).bind (·.zero)

def lenV : Value → Option Nat
  | .slice _ n _ => some n
  | .string s => some s.size
  | _ => none

def nOf : Value → Option Nat
  | .int _ (.ofNat n) => some n
  | _ => none

def optN (d : Nat) : Option Value → Option Nat
  | none => some d
  | some v => nOf v

/-- Behind the end of a row: the row is given up, a new one takes its place. -/
def appendNew (elem : TypeId) (size len k : Nat) (base : Option Addr) (xs : List Value) (n : Nat) : Rd OOut := match base with
  | none => match len with
    | 0 => .done ⟨.val (.slice (some ⟨n, 0, none⟩) k k), [], some (.cells xs elem false)⟩
    | _ => .fail
  | some ⟨b, off, none⟩ => .read b fun
    | .cells c el false => match Nat.beq (off + len * size) c.length && Nat.beq el elem with
      | true => .done ⟨.val (.slice (some ⟨n, 0, none⟩) (len + k) (len + k)), [(b, .dead)], some (.cells (c.drop off ++ xs) elem false)⟩
      | false => .fail
    | _ => .fail
  | _ => .fail

/-- Where there is room for certain. -/
def appendIn (size len cap k : Nat) (base : Option Addr) (xs : List Value) : Rd OOut := match base with
  | some ⟨b, off, none⟩ => .read b fun
    | .cells c el false => match Nat.ble (len + k) cap && Nat.ble (off + len * size + xs.length) c.length with
      | true => .done ⟨.val (.slice (some ⟨b, off, none⟩) (len + k) cap), [(b, .cells (splice c (off + len * size) xs) el false)], none⟩
      | false => .fail
    | _ => .fail
  | _ => .fail

/-- Is there nothing behind its length? -/
def full (len cap : Nat) : Bool := match cap with
  | 0 => true
  | c + 1 => Nat.ble (c + 1) len

def isInt : TypeDesc → Bool
  | .int _ => true
  | _ => false

def appendV (argTypes : List TypeId) (args : List Value) (n : Nat) : Rd OOut :=
  match argTypes, args with
  | sT :: xT :: _, .slice base len cap :: x :: _ => match P.underlying sT, P.underlying xT with
    | some (.slice elem), some xd => match szOf P elem, lenV x, zeroOf P elem, (P.info? elem).map (·.bytes) with
      | some size, some k, some z, some bytes => match !isInt xd && Nat.ble bytes 1000000 && Nat.beq z.cells.size size && Nat.blt 0 size with
        | false => .fail
        | true => (cellsV size x k).bind fun xs => match Nat.ble (len + k) 1000000 && xs.all Value.oneCell' && Nat.beq xs.length (k * size) with
          | false => .fail
          | true => match full len cap with
            | true => appendNew elem size len k base xs n
            | false => appendIn size len cap k base xs
      | _, _, _, _ => .fail
    | _, _ => .fail
  | _, _ => .fail

def copyV (argTypes : List TypeId) (args : List Value) : Rd OOut :=
  match argTypes, args with
  | dT :: _, .slice base len _ :: x :: _ => match P.underlying dT with
    | some (.slice elem) => match szOf P elem, lenV x with
      | some size, some k => (cellsV size x (Nat.min k len)).bind fun xs =>
        match base with
        | none => val (.int .i64 (Nat.min k len))
        | some ⟨b, off, none⟩ => .read b fun
          | .cells c el false => match Nat.ble (off + xs.length) c.length && xs.all Value.oneCell' with
            | true => .done ⟨.val (.int .i64 (Nat.min k len)), [(b, .cells (splice c off xs) el false)], none⟩
            | false => .fail
          | _ => .fail
        | _ => .fail
      | _, _ => .fail
    | _ => .fail
  | _, _ => .fail

def findV (k : Value) : List MapEntry → Nat → Option (Option (Nat × Value))
  | [], _ => some none
  | e :: es, i => match k, e.key with
    | .int a x, .int b y => match a == b with
      | true => if x == y then some (some (i, e.val)) else findV k es (i + 1)
      | false => none
    | .string x, .string y => if x == y then some (some (i, e.val)) else findV k es (i + 1)
    | _, _ => none

def keyKind (P : Program) (t : TypeId) : Bool := match P.underlying t with
  | some (.int _) | some .string => true
  | _ => false
def keyFits (P : Program) (t : TypeId) (k : Value) : Bool := match P.underlying t, k with
  | some (.int _), .int _ _ => true
  | some .string, .string _ => true
  | _, _ => false

def lookupV (t : TypeId) (x k : Value) (ok : Bool) : Rd OOut :=
  match P.underlying t with
  | some (.map kt et) => match keyFits P kt k, zeroOf P et with
    | true, some z =>
      let tell (r : Option (Nat × Value)) : Rd OOut := match r with
        | some (_, v) => val (if ok then .tuple #[v, .bool true] else v)
        | none => val (if ok then .tuple #[z, .bool false] else z)
      match x with
      | .map none => match fl z with
        | true => tell none
        | false => .fail
      | .map (some r) => .read r fun
        | .map es _ => match findV k es 0, fl z with
          | some f, true => tell f
          | _, _ => .fail
        | _ => .fail
      | _ => .fail
    | _, _ => .fail
  | _ => .fail

def mapUpdateV (t : TypeId) (x k v : Value) : Rd OOut :=
  match P.underlying t with
  | some (.map kt _) => match keyFits P kt k, x with
    | true, .map (some r) => .read r fun
      | .map es clock => match findV k es 0 with
        | some (some (i, _)) => .done ⟨.skip, [(r, .map (es.modify i fun e => { e with key := k, val := v }) clock)], none⟩
        | some none => .done ⟨.skip, [(r, .map (es ++ [{ key := k, val := v, born := clock }]) (clock + 1))], none⟩
        | none => .fail
      | _ => .fail
    | _, _ => .fail
  | _ => .fail

def deleteV (argTypes : List TypeId) (args : List Value) : Rd OOut :=
  match argTypes, args with
  | t :: _, .map (some r) :: k :: _ => match P.underlying t with
    | some (.map kt _) => match keyFits P kt k with
      | true => .read r fun
        | .map es clock => match findV k es 0 with
          | some (some (i, _)) => .done ⟨.val (.tuple #[]), [(r, .map (es.eraseIdx i) clock)], none⟩
          | some none => .done ⟨.val (.tuple #[]), [(r, .map es clock)], none⟩
          | none => .fail
        | _ => .fail
      | false => .fail
    | _ => .fail
  | _, _ => .fail

def lenBuiltin (argTypes : List TypeId) (args : List Value) : Rd OOut :=
  match argTypes, args with
  | t :: _, x :: _ => match P.underlying t, x with
    | some (.slice _), .slice _ n _ => val (.int .i64 n)
    | some (.map _ _), .map none => val (.int .i64 0)
    | some (.map _ _), .map (some r) => .read r fun
      | .map es _ => val (.int .i64 es.length)
      | _ => .fail
    | some (.array n _), _ => val (.int .i64 n)
    | some (.pointer a), _ => match P.underlying a with
      | some (.array n _) => val (.int .i64 n)
      | _ => .fail
    | _, _ => .fail
  | _, _ => .fail

/-- The place of a method's receiver. -/
inductive Pl where
  | val (v : Value)
  | var (b off : Nat)

def fieldOff (s : TypeId) (i : Nat) : Option (Nat × TypeId × Nat) := match P.underlying s with
  | some (.struct fs) => match fs[i]? with
    | some f => match szOf P f.type with
      | some (n + 1) => some (f.offset, f.type, n + 1)
      | _ => none
    | none => none
  | _ => none

def getV (t : TypeId) : Pl → Rd Value
  | .val v => .done v
  | .var b o => ldV P t b o

def followV : List FieldStep → TypeId → Pl → Rd (TypeId × Pl)
  | [], t, x => .done (t, x)
  | s :: rest, t, x => match fieldOff P s.struct s.index with
    | none => .fail
    | some (off, ft, n) => match s.deref with
      | true => (getV P t x).bind fun
        | .pointer (some ⟨b, o, none⟩) => followV rest ft (.var b (o + off))
        | _ => .fail
      | false => match x with
        | .var b o => followV rest ft (.var b (o + off))
        | .val _ => .fail

def recvV (t : TypeId) (x : Pl) (ptr : Bool) : Rd Value := match P.underlying t, ptr, x with
  | some (.pointer _), true, .val v => .done v
  | some (.pointer _), true, .var b o => ldV P t b o
  | some (.pointer e), false, .val (.pointer (some ⟨b, o, none⟩)) => ldV P e b o
  | some (.pointer _), false, _ => .fail
  | some _, true, .var b o => .done (.pointer (some ⟨b, o, none⟩))
  | some _, false, .val v => .done v
  | some _, false, .var b o => ldV P t b o
  | _, _, _ => .fail

def methodV : Nat → TypeId → Value → String → Rd (FuncId × Value)
  | 0, _, _, _ => .fail
  | d + 1, t, v, name => match (P.info? t).bind (·.methods.find? (·.name == name)) with
    | none => .fail
    | some m => (followV P m.path.toList t (.val v)).bind fun (xt, x) => match m.func with
      | none => (getV P xt x).bind fun
        | .iface t' v' => methodV d t' v' name
        | _ => .fail
      | some (f, ptr) => (recvV P xt x ptr).bind fun r => .done (f, r)

/-- Is nil compared with what is not? -/
def nilEq : TypeDesc → Value → Value → Option Bool
  | .pointer _, .pointer none, .pointer (some _) => some false
  | .pointer _, .pointer (some _), .pointer none => some false
  | .slice _, .slice none _ _, .slice (some _) _ c => match Nat.blt 0 c with
    | true => some false
    | false => none
  | .slice _, .slice (some _) _ c, .slice none _ _ => match Nat.blt 0 c with
    | true => some false
    | false => none
  | .map _ _, .map none, .map (some _) => some false
  | .map _ _, .map (some _), .map none => some false
  | .func _ _ _, .nilFunc, .func _ _ _ => some false
  | .func _ _ _, .func _ _ _, .nilFunc => some false
  | .interface _, .nilIface, .iface _ _ => some false
  | .interface _, .iface _ _, .nilIface => some false
  | _, _, _ => none

def ofPure (s : Sem Next) : Rd OOut := match pureRun P s with
  | some (.ok (.value v)) => match fl v with
    | true => val v
    | false => .fail
  | some (.error v) => match fl v with
    | true => .done ⟨.panic v, [], none⟩
    | false => .fail
  | _ => .fail

def enter (f : FuncId) (args : List Value) : Rd OOut := match P.funcs[f]? with
  | some fn => match fn.body with
    | some _ => .done ⟨.enter f args, [], none⟩
    | none => match args.all fl with
      | true => ofPure P (callFunc f args.toArray)
      | false => .fail
  | none => .fail

def invokeM (recv : Value) (name : String) (args : List Value) : Rd OOut := match recv with
  | .iface t v => (methodV P 9 t v name).bind fun (f, r) => enter P f (r :: args)
  | _ => .fail

/-- Builtins of values in which no address stands. -/
def quietB : Builtin → Bool
  | .len | .min | .max => true
  | _ => false

def flatCallV (b : Builtin) (argTypes : Array TypeId) (type : TypeId) (consts : Array Bool) (args : List Value) : Rd OOut :=
  ofPure P (builtin b argTypes type consts args.toArray)

def clearV (argTypes : List TypeId) (args : List Value) : Rd OOut :=
  match argTypes, args with
  | t :: _, x :: _ => match P.underlying t, x with
    | some _, .slice none _ _ => val (.tuple #[])
    | some _, .slice _ 0 _ => val (.tuple #[])
    | some (.slice el), .slice (some ⟨b, off, none⟩) k _ => match szOf P el, zeroOf P el with
      | some size, some z => .read b fun
        | .cells c ce false => match fl z && Nat.beq z.cells.size size && Nat.ble (off + k * size) c.length && z.cells.toList.all Value.oneCell' with
          | true => .done ⟨.val (.tuple #[]), [(b, .cells (splice c off (repl z.cells.toList k)) ce false)], none⟩
          | false => .fail
        | _ => .fail
      | _, _ => .fail
    | _, _ => .fail
  | _, _ => .fail

def builtinV (b : Builtin) (argTypes : Array TypeId) (type : TypeId) (consts : Array Bool) (args : List Value) (n : Nat) : Rd OOut :=
  match quietB b && args.all fl with
  | true => flatCallV P b argTypes type consts args
  | false => match b with
    | .append => appendV P argTypes.toList args n
    | .copy => copyV P argTypes.toList args
    | .len => lenBuiltin P argTypes.toList args
    | .delete => deleteV P argTypes.toList args
    | .clear => clearV P argTypes.toList args
    | _ => .fail

def valueCallV (f : Value) (args : List Value) : Rd OOut := match f with
  | .func (.func k) first captured => enter P k (first.toList ++ args ++ captured.toList)
  | .func (.method name) first captured => match first.toList ++ args with
    | recv :: rest => invokeM P recv name rest
    | [] => .fail
  | _ => .fail

def callV (c : Call) (e : Operand → Value) (type : TypeId) (n : Nat) : Rd OOut :=
  match c.callee with
  | .builtin b => builtinV P b c.argTypes type (c.args.map fun | .const _ => true | _ => false) (c.args.toList.map e) n
  | .invoke recv name => invokeM P (e recv) name (c.args.toList.map e)
  | .value f => valueCallV P (e f) (c.args.toList.map e)

def allocV (t : TypeId) (n : Nat) : Rd OOut := match zeroOf P t with
  | some z => match fl z with
    | true => new (.cells z.cells.toList t false) (.pointer (some ⟨n, 0, none⟩))
    | false => .fail
  | none => .fail

def buildV (t : TypeId) (parts : List (Nat × Value)) : Rd OOut := match zeroOf P t, P.underlying t with
  | some z, some (.struct fs) => match places P fs.toList, fl z with
    | some ps, true => match fillV (fun i => ps[i]?) z.cells.toList parts with
      | some l => val (.agg l.toArray)
      | none => .fail
    | _, _ => .fail
  | some z, some (.array _ el) => match szOf P el, fl z with
    | some size, true => match fillV (fun i => some (i * size, size)) z.cells.toList parts with
      | some l => val (.agg l.toArray)
      | none => .fail
    | _, _ => .fail
  | _, _ => .fail

def buildSliceV (t : TypeId) (len : Nat) (parts : List (Nat × Value)) (n : Nat) : Rd OOut := match P.underlying t with
  | some (.slice el) => match szOf P el, zeroOf P el with
    | some size, some z => match fl z && Nat.ble (len * size) 1000000 && Nat.beq z.cells.size size with
      | true => match fillV (fun i => some (i * size, size)) (repl z.cells.toList len) parts with
        | some l => new (.cells l el false) (.slice (some ⟨n, 0, none⟩) len len)
        | none => .fail
      | false => .fail
    | _, _ => .fail
  | _ => .fail

def loadV (t : TypeId) : Value → Rd OOut
  | .pointer (some ⟨b, off, none⟩) => (ldV P t b off).bind val
  | _ => .fail

def storeV (t : TypeId) (a x : Value) : Rd OOut := match a with
  | .pointer (some ⟨b, off, none⟩) => match szOf P t with
    | some size => .read b fun
      | .cells c el false => match Nat.beq x.cells.size size && Nat.ble (off + size) c.length && x.cells.toList.all Value.oneCell' with
        | true => .done ⟨.skip, [(b, .cells (splice c off x.cells.toList) el false)], none⟩
        | false => .fail
      | _ => .fail
    | none => .fail
  | _ => .fail

def nilCheckV : Value → Rd OOut
  | .pointer (some a) => val (.pointer (some a))
  | .func (.func k) f c => val (.func (.func k) f c)
  | .iface t v => val (.iface t v)
  | .pointer none | .nilIface | .nilFunc => ofPure P (runtimePanic .nilDeref)
  | _ => .fail

def eqV (t : TypeId) (a b : Value) (neg : Bool) : Rd OOut := match P.underlying t with
  | some d => match nilEq d a b with
    | some r => val (.bool (r != neg))
    | none => .fail
  | none => .fail

def partB (ft : TypeId) (cs : List Value) (d : Nat) : Option Value := match agg? P ft, szOf P ft with
  | some true, some k => match cut cs d k with
    | some l => some (.agg l.toArray)
    | none => none
  | some false, some _ => cs[d]?
  | _, _ => none

def allB (f : Field → Option Bool) : List Field → Option Bool
  | [] => some true
  | x :: l => match f x, allB f l with
    | some a, some b => some (a && b)
    | _, _ => none

/-- Are two values the same? What is open stays a term. -/
def eqB : Nat → TypeId → Value → Value → Option Bool
  | 0, _, _, _ => none
  | d + 1, t, x, y => match P.underlying t with
    | some .bool => match x, y with
      | .bool a, .bool b => some (a == b)
      | _, _ => none
    | some (.int _) => match x, y with
      | .int k a, .int k' b => match decide (k = k') with
        | true => some (a == b)
        | false => none
      | _, _ => none
    | some .string => match x, y with
      | .string a, .string b => some (a == b)
      | _, _ => none
    | some (.struct fs) => match x, y with
      | .agg xs, .agg ys => match P.stoodInHeld t with
        | true => none
        | false => allB (fun f => match decide (f.name = "_") with
            | true => none
            | false => match partB P f.type xs.toList f.offset, partB P f.type ys.toList f.offset with
              | some a, some b => eqB d f.type a b
              | _, _ => none) fs.toList
      | _, _ => none
    | _ => none

def aggEq (op : BinOp) (t : TypeId) (a b : Value) : Option Bool := match op, a, b with
  | .eql, .agg _, .agg _ => match P.eqGuardType P.depth t with
    | true => none
    | false => eqB P 10000 t a b
  | .neq, .agg _, .agg _ => match P.eqGuardType P.depth t with
    | true => none
    | false => (eqB P 10000 t a b).map (!·)
  | _, _, _ => none

def binV (op : BinOp) (t : TypeId) (x y : Operand) (a b : Value) : Rd OOut := match fl a && fl b with
  | true => match aggEq P op t a b with
    | some r => val (.bool r)
    | none => ofPure P (do let v ← (do eqGuard op t x y a b; binOp op t a b); pure (.value v))
  | false => match op with
    | .eql => eqV P t a b false
    | .neq => eqV P t a b true
    | _ => .fail

def unV (op : UnOp) (a : Value) : Rd OOut := match fl a with
  | true => ofPure P (do let v ← Op.unary op a; pure (.value v))
  | false => .fail

def convertV (src dst : TypeId) (x : Value) (n : Nat) : Rd OOut := match P.underlying src, P.underlying dst, x with
  | some _, some (.slice el), .string s => match P.underlying el, szOf P el with
    | some (.int .u8), some 1 => new (.cells (s.data.toList.map fun b => .int .u8 b.toNat) el false) (.slice (some ⟨n, 0, none⟩) s.size s.size)
    | _, _ => .fail
  | some (.slice el), some (.slice _), .slice (some ⟨b, off, none⟩) len cap => match P.underlying el, Nat.beq src dst with
    | some (.int .u8), true => match cap with
      | 0 => .fail
      | _ + 1 => .read b fun
        | .cells (_ :: _) _ false => val (.slice (some ⟨b, off, none⟩) len cap)
        | _ => .fail
    | _, _ => .fail
  | some (.slice el), some .string, .slice a len cap => match P.underlying el, a with
    | some (.int .u8), none => val (.string .empty)
    | some (.int .u8), some ⟨b, off, none⟩ => .read b fun
      | .cells c _ _ => match (cut c off len).bind bytesOf with
        | some l => val (.string ⟨l.toArray⟩)
        | none => .fail
      | _ => .fail
    | _, _ => .fail
  | _, _, _ => match fl x with
    | true => ofPure P (do let v ← convert src dst x; pure (.value v))
    | false => .fail

def ifaceV (t : TypeId) (x : Value) : Rd OOut := match P.underlying t with
  | some (.interface _) => .fail
  | some _ => val (.iface t x)
  | none => .fail

def makeFuncV (fn : Fn) (first captured : List Value) : Rd OOut := match fn with
  | .func _ | .method _ => val (.func fn first.toArray captured.toArray)
  | _ => .fail

def makeMapV (t : TypeId) (h : Option Value) (n : Nat) : Rd OOut := match h with
  | none => new (.map [] 0) (.map (some n))
  | some (.int _ _) => match P.underlying t with
    | some (.map _ _) => new (.map [] 0) (.map (some n))
    | _ => .fail
  | _ => .fail

def makeSliceV (t : TypeId) (l c : Value) (n : Nat) : Rd OOut := match P.underlying t, nOf l, nOf c with
  | some (.slice el), some l, some c => match szOf P el, zeroOf P el, (P.info? el).map (·.bytes) with
    | some size, some z, some bytes => match fl z && Nat.ble l c && Nat.ble c 1000000 && Nat.ble bytes 1000000 && Nat.beq z.cells.size size with
      | true => new (.cells (repl z.cells.toList c) el false) (.slice (some ⟨n, 0, none⟩) l c)
      | false => .fail
    | _, _, _ => .fail
  | _, _, _ => .fail

def sliceV (t : TypeId) (x : Value) (lo hi mx : Option Value) : Rd OOut := match fl x with
  | true => match lo.all fl && hi.all fl && mx.all fl with
    | true => ofPure P (do let v ← Instr.sliceAt t x lo hi mx; pure (.value v))
    | false => .fail
  | false => match P.underlying t, x, mx with
    | some (.slice el), .slice (some ⟨b, off, none⟩) len cap, none => match optN 0 lo, optN len hi, szOf P el with
      | some l, some h, some size => match Nat.ble l h && Nat.ble h cap with
        | true => .read b fun
          | .cells c eb ro => match szOf P eb with
            | some sb => match Nat.ble size sb with
              | true => val (.slice (some ⟨b, off + l * size, none⟩) (h - l) (cap - l))
              | false => .fail
            | none => .fail
          | _ => .fail
        | false => .fail
      | _, _, _ => .fail
    | some (.array k el), .pointer (some ⟨b, off, none⟩), none => match optN 0 lo, optN k hi, szOf P el with
      | some l, some h, some size => match Nat.ble l h && Nat.ble h k with
        | true => val (.slice (some ⟨b, off + (if Nat.beq k l then 0 else l * size), none⟩) (h - l) (k - l))
        | false => .fail
      | _, _, _ => .fail
    | _, _, _ => .fail

def fieldAddrV (s : TypeId) (x : Value) (f : Nat) : Rd OOut := match x, fieldOff P s f with
  | .pointer (some ⟨b, off, none⟩), some (d, _, _) => val (.pointer (some ⟨b, off + d, none⟩))
  | _, _ => .fail

def partV (ft : TypeId) (cs : List Value) (d k : Nat) : Rd OOut := match agg? P ft with
  | some true => match cut cs d k with
    | some l => val (.agg l.toArray)
    | none => .fail
  | some false => match cs[d]? with
    | some v => val v
    | none => .fail
  | none => .fail

def fieldV (s : TypeId) (x : Value) (f : Nat) : Rd OOut := match x, fieldOff P s f with
  | .agg cs, some (d, ft, k) => partV P ft cs.toList d k
  | _, _ => .fail

def indexAddrV (t : TypeId) (x i : Value) : Rd OOut := match P.underlying t, x, nOf i with
  | some (.array k el), .pointer (some ⟨b, off, none⟩), some i => match szOf P el, Nat.blt i k with
    | some size, true => val (.pointer (some ⟨b, off + i * size, none⟩))
    | _, _ => .fail
  | some (.slice el), .slice (some ⟨b, off, none⟩) len _, some i => match szOf P el, Nat.blt i len with
    | some size, true => val (.pointer (some ⟨b, off + i * size, none⟩))
    | _, _ => .fail
  | _, _, _ => .fail

def indexV (t : TypeId) (x i : Value) : Rd OOut := match x with
  | .string s => match fl i with
    | true => ofPure P (do let v ← Instr.index t (.string s) i; pure (.value v))
    | false => .fail
  | .agg cs => match P.underlying t, nOf i with
    | some (.array k el), some i => match szOf P el, Nat.blt i k with
      | some size, true => partV P el cs.toList (i * size) size
      | _, _ => .fail
    | _, _ => .fail
  | _ => .fail

def extractV (x : Value) (i : Nat) : Rd OOut := match x with
  | .tuple vs => match vs.toList[i]? with
    | some v => val v
    | none => .fail
  | _ => .fail

def assertV (x : Value) (at_ : TypeId) (ok : Bool) : Rd OOut := match P.underlying at_, x with
  | some (.interface _), _ => .fail
  | some _, .iface t v => match Nat.beq t at_ with
    | true => val (if ok then .tuple #[v, .bool true] else v)
    | false => .fail
  | _, _ => .fail

def pickV (c a b : Value) : Rd OOut := match c with
  | .bool true => val a
  | .bool false => val b
  | _ => .fail

def panicV (x : Value) : Rd OOut := match fl x with
  | true => ofPure P (do let v ← Instr.panic x; pure (.value v))
  | false => .fail

end
/-- An operation, by what it is: closed pieces. -/
def evK (op : Op) : Program → (Operand → Value) → Nat → TypeId → Rd OOut := match op with
  | .move x | .assign x => fun P e n ty => val (e x)
  | .pick c a b => fun P e n ty => pickV (e c) (e a) (e b)
  | .alloc t => fun P e n ty => allocV P t n
  | .box t x => fun P e n ty => new (.cells (e x).cells.toList t false) (.pointer (some ⟨n, 0, none⟩))
  | .build t parts => fun P e n ty => buildV P t (parts.toList.map fun (i, x) => (i, e x))
  | .buildSlice t len parts => fun P e n ty => buildSliceV P t len (parts.toList.map fun (i, x) => (i, e x)) n
  | .load t a => fun P e n ty => loadV P t (e a)
  | .store t a x => fun P e n ty => storeV P t (e a) (e x)
  | .nilCheck x => fun P e n ty => nilCheckV P (e x)
  | .binOp op t x y _ => fun P e n ty => binV P op t x y (e x) (e y)
  | .unOp op _ x => fun P e n ty => unV P op (e x)
  | .convert src dst x => fun P e n ty => convertV P src dst (e x) n
  | .makeInterface t x => fun P e n ty => ifaceV P t (e x)
  | .makeFunc fn first captured => fun P e n ty => makeFuncV fn (first.toList.map e) (captured.toList.map e)
  | .makeMap t r => fun P e n ty => makeMapV P t (r.map e) n
  | .makeSlice t l c => fun P e n ty => makeSliceV P t (e l) (e c) n
  | .slice t x lo hi mx => fun P e n ty => sliceV P t (e x) (lo.map e) (hi.map e) (mx.map e)
  | .fieldAddr s x f => fun P e n ty => fieldAddrV P s (e x) f
  | .field s x f => fun P e n ty => fieldV P s (e x) f
  | .indexAddr t x i => fun P e n ty => indexAddrV P t (e x) (e i)
  | .index t x i => fun P e n ty => indexV P t (e x) (e i)
  | .lookup t x k ok => fun P e n ty => lookupV P t (e x) (e k) ok
  | .mapUpdate t m k x | .insert t m k x => fun P e n ty => mapUpdateV P t (e m) (e k) (e x)
  | .extract t i => fun P e n ty => extractV (e t) i
  | .typeAssert x _ at_ ok => fun P e n ty => assertV P (e x) at_ ok
  | .call c => fun P e n ty => callV P c e ty n
  | .panic x => fun P e n ty => panicV P (e x)
  | _ => fun _ _ _ _ => .fail
def ev (P : Program) (e : Operand → Value) (n : Nat) (o : Oper) : Rd OOut := evK o.op P e n o.type


/-- What an operation leaves is laid into the memory. -/
def commit (S : VS) (l : List Nat) (out : OOut) : Option (ORes × VS) :=
  let S1 : VS := out.ws.foldl (fun S (x, o) => { S with mem := S.mem.set 18 x o, wr := x :: S.wr }) { S with rd := l ++ S.rd }
  match out.ws.all fun (x, _) => l.contains x with
  | false => none
  | true => match out.nw with
    | none => some (out.r, S1)
    | some o => match small S.next, gt S.mem S.next with
      | true, none => some (out.r, { S1 with mem := S1.mem.set 18 S.next o, next := S.next + 1, wr := S.next :: S1.wr })
      | _, _ => none

def stepOp0 (P : Program) (t : Fr) (S : VS) (o : Oper) : Option (ORes × VS) :=
  match o.op.operands.toList.all okOperand with
  | false => none
  | true => match (ev P (evalL t) S.next o).run (gt S.mem) with
    | none => none
    | some (out, l) => commit S l out

/- A row of an argument's rows gets a name of its own, and what stands in it. -/
def viewVals : List SV → Nat → List Value
  | [], _ => []
  | .val v :: l, k => v :: viewVals l k
  | .cells n _ _ :: l, k => .slice (some ⟨k, 0, none⟩) n n :: viewVals l (k + 1)
  | .rows n _ _ :: l, k => .slice (some ⟨k, 0, none⟩) n n :: viewVals l (k + 1)
def viewObjs : List SV → List VObj
  | [] => []
  | .val _ :: l => viewObjs l
  | .cells _ c el :: l => .cells c el true :: viewObjs l
  | .rows n s r :: l => .rows n s r :: viewObjs l
def viewLen : List SV → Nat
  | [] => 0
  | .val _ :: l => viewLen l
  | _ :: l => viewLen l + 1

def layN : List VObj → VS → Option VS
  | [], S => some S
  | o :: l, S => match small S.next, gt S.mem S.next with
    | true, none => layN l { S with mem := S.mem.set 18 S.next o, next := S.next + 1, wr := S.next :: S.wr }
    | _, _ => none

def viewStep (S : VS) (b : Nat) (el : TypeId) (l : List SV) : Option (ORes × VS) :=
  match layN (viewObjs l ++ [.cells (viewVals l S.next) el true]) { S with rd := b :: S.rd } with
  | some S1 => some (.val (.pointer (some ⟨S.next + viewLen l, 0, none⟩)), S1)
  | none => none

structure View where
  b : Nat
  el : TypeId
  n : Nat
  size : Nat
  row : Nat → List SV
  len : Nat
  i : Value

def viewOf (P : Program) (t : Fr) (S : VS) (o : Oper) : Option View := match o.op with
  | .indexAddr ty x i => match evalL t x with
    | .slice (some ⟨b, 0, none⟩) len _ => match gt S.mem b with
      | some (.rows n size row) => match P.underlying ty with
        | some (.slice el) => match szOf P el with
          | some s => match Nat.beq s size with
            | true => some ⟨b, el, n, size, row, len, evalL t i⟩
            | false => none
          | none => none
        | _ => none
      | _ => none
    | _ => none
  | _ => none

def stepOp (P : Program) (t : Fr) (S : VS) (o : Oper) : Option (ORes × VS) := match viewOf P t S o with
  | some V => match o.op.operands.toList.all okOperand, nOf V.i with
    | true, some k => match Nat.blt k V.n && Nat.blt k V.len with
      | true => viewStep S V.b V.el (V.row k)
      | false => none
    | _, _ => none
  | none => stepOp0 P t S o

inductive VEx where
  | normal
  | exit (id : Nat)
  | ret
  | panic (v : Value)

inductive CRes where
  | ret (v : Value)
  | panic (v : Value)

abbrev CallF := FuncId → List Value → VS → Option (CRes × VS)

def put (t : Fr) (d : Option Tmp) (v : Value) : Option Fr := match d with
  | some d => t.set d v
  | none => some t

def yieldedL (ops : List Oper) (t : Fr) (j : Nat) : Option Bool := match (ops[j]?).bind (·.dst) with
  | some d => match t.at d with
    | .bool b => some b
    | _ => none
  | none => none

/-- One operation, a call with all that is called. -/
def opV (P : Program) (call : CallF) (ops : List Oper) (o : Oper) (t : Fr) (S : VS) : Option (Option Value × Fr × VS) :=
  match Region.wanted o (yieldedL ops t) with
  | false => (put t o.dst undef).map fun t1 => (none, t1, S)
  | true => match stepOp P t S o with
    | none => none
    | some (r, S1) => match r with
      | .val v => (put t o.dst v).map fun t1 => (none, t1, S1)
      | .skip => (put t o.dst undef).map fun t1 => (none, t1, S1)
      | .panic v => some (some v, t, S1)
      | .defer _ => none
      | .enter f args => match call f args S1 with
        | none => none
        | some (.ret v, S2) => (put t o.dst v).map fun t1 => (none, t1, S2)
        | some (.panic v, S2) => some (some v, t, S2)

/-- A deferred call. -/
def isDef (o : Oper) : Option Call := match o.op with
  | .defer c => some c
  | _ => none
def deferV (P : Program) (t : Fr) (o : Oper) (c : Call) : Option Fr := match o.guard, c.callee with
  | none, .value f => match okOperand f && c.args.toList.all okOperand, evalL t f with
    | true, .func (.func k) first captured => match (P.funcs[k]?).bind (·.body) with
      | some _ => put { t with ds := (k, (first.toList ++ c.args.toList.map (evalL t)) ++ captured.toList) :: t.ds } o.dst undef
      | none => none
    | _, _ => none
  | _, _ => none

/-- df: may calls be deferred here? -/
def opsV (P : Program) (call : CallF) (df : Bool) (ops : List Oper) : List Oper → Fr → VS → Option (VEx × Fr × VS)
  | [], t, S => some (.normal, t, S)
  | o :: rest, t, S => match isDef o with
    | some c => match df with
      | true => match deferV P t o c with
        | some t1 => opsV P call df ops rest t1 S
        | none => none
      | false => none
    | none => match opV P call ops o t S with
      | none => none
      | some (some v, t1, S1) => some (.panic v, t1, S1)
      | some (none, t1, S1) => opsV P call df ops rest t1 S1

/-- A footprint: the slots and the blocks that an operation reads and writes. -/
structure Fp where
  rd : List Nat
  wr : List Nat

def disj (a b : List Nat) : Bool := a.all fun x => !b.contains x

/-- Operations of a region in the order of the text, each with its own footprint. -/
def drawV (P : Program) (call : CallF) (ops : List Oper) : List Oper → Fr → VS → Option (Fr × VS × List Fp)
  | [], t, S => some (t, S, [])
  | o :: rest, t, S => match opV P call ops o t { S with rd := [], wr := [] } with
    | some (none, t1, S1) => match drawV P call ops rest t1 { S1 with rd := S1.rd ++ S.rd, wr := S1.wr ++ S.wr } with
      | some (t2, S2, fps) => some (t2, S2, ⟨S1.rd, S1.wr⟩ :: fps)
      | none => none
    | _ => none

def pairOk (f g : Fp) : Bool := disj f.wr g.rd && disj f.wr g.wr && disj g.wr f.rd

/-- The operations that an operation's edges name, as bits. -/
def edgeBits : List Edge → Nat
  | [] => 0
  | e :: l => match Region.binds .any e with
    | true => Nat.lor (Nat.shiftLeft 1 e.on) (edgeBits l)
    | false => edgeBits l

/-- All that come first, out of the direct ones (m) and the sets of the operations so far (bs, the last one first; k: its number). -/
def closeBits (m : Nat) : Nat → List Nat → Nat
  | k + 1, b :: bs => match Nat.beq (Nat.land (Nat.shiftRight m k) 1) 1 with
    | true => Nat.lor b (closeBits m k bs)
    | false => closeBits m k bs
  | _, _ => 0

def masksFrom : Nat → List Nat → List Oper → List Nat
  | _, _, [] => []
  | k, bs, o :: l => (fun m => m :: masksFrom (k + 1) (m :: bs) l) (Nat.lor (edgeBits o.after.toList) (closeBits (edgeBits o.after.toList) k bs))

def masks (ops : Array Oper) : List Nat := masksFrom 0 [] ops.toList

structure Foot where
  no : Nat
  bits : Nat
  fp : Fp

def feet : Nat → List Nat → List Fp → List Foot
  | i, m :: ms, f :: fs => match f.rd, f.wr with
    | [], [] => feet (i + 1) ms fs
    | _, _ => ⟨i, m, f⟩ :: feet (i + 1) ms fs
  | _, _, _ => []

/-- Each two that no edge orders are apart. -/
def apartAll : List Foot → Bool
  | [] => true
  | f :: l => l.all (fun g => Nat.beq (Nat.land (Nat.shiftRight g.bits f.no) 1) 1 || pairOk f.fp g.fp) && apartAll l

/-- Slots: each two that no edge orders are apart; an edge leads to what stands ahead. -/
def statFrom (ops : Array Oper) : Nat → List (Nat × Oper) → List Nat → List Oper → Bool
  | j, prev, m :: ms, p :: ps => p.after.toList.all (fun e => !(Region.binds .any e) || Nat.blt e.on j) &&
      prev.all (fun q => Nat.beq (Nat.land (Nat.shiftRight m q.1) 1) 1 || q.2.apart ops p) && statFrom ops (j + 1) ((j, p) :: prev) ms ps
  | _, _, _, _ => true
def statOk (ops : Array Oper) : Bool := statFrom ops 0 [] (masks ops) ops.toList

def drawOk (ops : Array Oper) (fps : List Fp) : Bool := statOk ops && apartAll (feet 0 (masks ops) fps)

def iter (f : Fr → VS → Option (VEx × Fr × VS)) : Nat → Fr → VS → Option (VEx × Fr × VS)
  | 0, _, _ => none
  | k + 1, t, S => match f t S with
    | some (.normal, t1, S1) => iter f k t1 S1
    | r => r

def codeV (P : Program) (call : CallF) (lf : Nat) (df : Bool) : Code → Fr → VS → Option (VEx × Fr × VS)
  | .skip, t, S => some (.normal, t, S)
  | .region _ ops false, t, S => opsV P call df ops.toList ops.toList t S
  | .region _ ops true, t, S => match drawV P call ops.toList ops.toList t S with
    | some (t1, S1, fps) => match drawOk ops fps with
      | true => some (.normal, t1, S1)
      | false => none
    | none => none
  | .seq a b, t, S => match codeV P call lf df a t S with
    | some (.normal, t1, S1) => codeV P call lf df b t1 S1
    | r => r
  | .cond c a b, t, S => match evalL t c with
    | .bool true => codeV P call lf df a t S
    | .bool false => codeV P call lf df b t S
    | _ => none
  | .block id c, t, S => match codeV P call lf df c t S with
    | some (.exit j, t1, S1) => match Nat.beq j id with
      | true => some (.normal, t1, S1)
      | false => some (.exit j, t1, S1)
    | r => r
  | .loop c, t, S => iter (codeV P call lf df c) lf t S
  | .exit id, t, S => some (.exit id, t, S)
  | .ret, t, S => some (.ret, t, S)
  | .scope c, t, S => codeV P call lf df c t S
  | .label _, t, S => some (.normal, t, S)
  | _, _, _ => none

def resV (P : Program) (t : Fr) : List ResultVar → Rd (List Value)
  | [] => .done []
  | .tmp i :: l => (resV P t l).bind fun r => .done (t.at i :: r)
  | .cell a ty :: l => match t.at a with
    | .pointer (some ⟨b, off, none⟩) => (ldV P ty b off).bind fun v => (resV P t l).bind fun r => .done (v :: r)
    | _ => .fail

def resOf : List Value → Value
  | [v] => v
  | vs => .tuple vs.toArray

def leave (P : Program) (t : Fr) (fn : Func) (S : VS) : Option (CRes × VS) := match (resV P t fn.results.toList).run (gt S.mem) with
  | some (vs, l) => some (.ret (resOf vs), { S with rd := l ++ S.rd })
  | none => none

/-- How a frame is on its way out. -/
inductive Md where
  | ret
  | pan (v : Value)

def recOf (o : Oper) : Bool := match o.op, o.guard with
  | .call ⟨.builtin .recover, _, _⟩, none => true
  | _, _ => false
def recV : Md → Value
  | .ret => .nilIface
  | .pan v => v

/-- Plain operations, one behind the other. -/
def opsQ (P : Program) : List Oper → Fr → VS → Option (Fr × VS)
  | [], t, S => some (t, S)
  | o :: rest, t, S => match o.guard with
    | some _ => none
    | none => match stepOp P t S o with
      | some (.val v, S1) => match put t o.dst v with
        | some t1 => opsQ P rest t1 S1
        | none => none
      | _ => none

/-- A deferred function's code: it may recover, by its first operation. -/
def codeD (P : Program) (call : CallF) (lf : Nat) (md : Md) : Code → Fr → VS → Option (Md × VEx × Fr × VS)
  | .seq a b, t, S => match codeD P call lf md a t S with
    | some (md1, .normal, t1, S1) => (codeV P call lf false b t1 S1).map fun r => (md1, r)
    | r => r
  | .region id ops false, t, S => match ops.toList with
    | o :: rest => match recOf o with
      | true => match put t o.dst (recV md) with
        | some t1 => match opsQ P rest t1 S with
          | some (t2, S2) => some (.ret, .normal, t2, S2)
          | none => none
        | none => none
      | false => (codeV P call lf false (.region id ops false) t S).map fun r => (md, r)
    | [] => none
  | c, t, S => (codeV P call lf false c t S).map fun r => (md, r)

def callD (P : Program) (call : CallF) (lf : Nat) (md : Md) (k : FuncId) (args : List Value) (S : VS) : Option (Md × VS) := match P.funcs[k]? with
  | none => none
  | some fn => match fn.body with
    | none => none
    | some c => match Fr.of args fn.ntmps with
      | none => none
      | some t0 => match codeD P call lf md c t0 S with
        | some (md1, x, t, S1) => match x, t.ds, t.base with
          | .normal, [], [] => match leave P t fn S1 with
            | some (_, S2) => some (md1, S2)
            | none => none
          | .ret, [], [] => match leave P t fn S1 with
            | some (_, S2) => some (md1, S2)
            | none => none
          | _, _, _ => none
        | none => none

def runD (P : Program) (call : CallF) (lf : Nat) : List (FuncId × List Value) → Md → VS → Option (Md × VS)
  | [], md, S => some (md, S)
  | (k, args) :: l, md, S => match callD P call lf md k args S with
    | some (md1, S1) => runD P call lf l md1 S1
    | none => none

/-- The end of a function, its deferred calls first. -/
def endV (P : Program) (call : CallF) (lf : Nat) (fn : Func) (md : Md) (t : Fr) (S : VS) : Option (CRes × VS) := match t.base with
  | [] => match runD P call lf t.ds md S with
    | some (.ret, S1) => leave P t fn S1
    | some (.pan v, S1) => some (.panic v, S1)
    | none => none
  | _ => none

/-- sp: what is said of calls of some functions. -/
def funV (P : Program) (sp : CallF → CallF) (lf : Nat) : Nat → CallF
  | 0, _, _, _ => none
  | d + 1, f, args, S => match P.funcs[f]? with
    | none => none
    | some fn => match fn.body with
      | none => none
      | some c => match Fr.of args fn.ntmps with
        | none => none
        | some t0 => match codeV P (sp (funV P sp lf d)) lf true c t0 S with
          | some (.normal, t, S1) => endV P (sp (funV P sp lf d)) lf fn .ret t S1
          | some (.ret, t, S1) => endV P (sp (funV P sp lf d)) lf fn .ret t S1
          | some (.panic v, t, S1) => endV P (sp (funV P sp lf d)) lf fn (.pan v) t S1
          | _ => none

def S0 : VS := ⟨.nil, 0, [], []⟩
/-- Does the call answer true? -/
def saysW (P : Program) (sp : CallF → CallF) (lf d : Nat) (f : FuncId) : Bool := match funV P sp lf d f [] S0 with
  | some (.ret (.bool true), _) => true
  | _ => false
def says (P : Program) (lf d : Nat) (f : FuncId) : Bool := saysW P id lf d f

/-- A function that calls what it is handed third, and whose deferred call finds nothing to do. -/
def guardV (P : Program) (G : FuncId) (call : CallF) : CallF := fun f args S => match Nat.beq f G with
  | false => call f args S
  | true => match args with
    | [_, _, .func (.func k) first cap] => match (P.funcs[k]?).bind (·.body) with
      | some _ => match call k (first.toList ++ cap.toList) S with
        | some (.ret _, S1) => some (.ret (.tuple #[]), S1)
        | _ => none
      | none => none
    | _ => none
end Go.Proofs.YtdbjloigfkckfaaGreatDoor.Vm
