/- Part of the proof: GamC, Gam. -/
import Derived.Below
open Go renaming MapEntry→amW,Value→amn,World→amC
open Go.Value renaming int→amu
set_option linter.unusedVariables false
set_option linter.unusedSimpArgs false
namespace Go.Proofs.Ytnlkkgpcikkpoaa.Vm
inductive CO where
 |cells (c:List amn) (el:TypeId) (sh room:Nat)
 |map (es:List amW) (clock:Nat)
def eH(w:amC)(k:Nat):CO→Prop
 | .cells c el sh room=>∃(c':Array amn) (fr:Nat×Nat),w.heap[k]?=some (.cells c' el fr)∧c'.size=room∧sh+c.length≤room∧(fr.1=fr.2∨room≤fr.1)∧∀(i:Nat) (v:amn),c[i]?=some v→c'[sh+i]?=some v
 | .map es clock=>w.heap[k]?=some (.map es.toArray clock)
theorem eH.frame{w w':amC}{k:Nat}{o:CO}(h:eH w k o)(hk:w'.heap[k]?=w.heap[k]?):eH w' k o:=by
 cases o with
 |cells c el sh room=>obtain⟨c',fr,h1,h2⟩:=h;exact⟨c',fr,by rw[hk];exact h1,h2⟩
 |map es clock=>exact(hk.trans h:)
def yp:Obj→Bool
 | .cells _ _ _=>true
 | .map _ _=>true
 |_=>false
theorem eH.row{w:amC}{k:Nat}{o:CO}(h:eH w k o):∃q,w.heap[k]?=some q∧yp q=true:=by
 cases o with
 |cells c el sh room=>obtain⟨c',fr,h1,h2⟩:=h;exact⟨_,h1,rfl⟩
 |map es clock=>exact⟨_,h,rfl⟩
structure pB(w:amC)(b:Nat)(S:Nat→Prop)(L:List (Nat×CO)):Prop where
 at_:∀p∈L,eH w p.1 p.2
 gp:(L.map (·.1)).Nodup
 root:b∈L.map (·.1)
 all:∀k,S k↔k∈L.map (·.1)
theorem pB.frame{w w':amC}{b:Nat}{S:Nat→Prop}{L:List (Nat×CO)}(h:pB w b S L)(hs:∀k,S k→w'.heap[k]?=w.heap[k]?):pB w' b S L:=
 ⟨fun p hp=>(h.at_ p hp).frame (hs _ ((h.all _).2 (List.mem_map_of_mem hp))),h.gp,h.root,h.all⟩
theorem pB.row{w:amC}{b:Nat}{S:Nat→Prop}{L:List (Nat×CO)}(h:pB w b S L):∀k,S k→∃o,w.heap[k]?=some o∧yp o=true:=fun k hk=>by
 obtain⟨p,hp,rfl⟩:=List.mem_map.1 ((h.all k).1 hk)
 exact(h.at_ p hp).row
def II(w:amC):Prop:=True
structure ay where
 script:List (Int×Int)
 files:List (Nat×ByteArray)
 made:Nat
 calls:Int
 raw:Int
abbrev kU:Type:=ay
def aF(l:List (Int×Int)):List amn:=(l.map fun p=>[amu .i64 p.1,amu .i64 p.2]).flatten
def IJ(b:ByteArray):List amn:=b.data.toList.map fun x=>amu .u8 x.toNat
def rowAt(n size:Nat)(c:List amn)(el:TypeId)(v:amn)(L:List (Nat×CO)):Prop:=
 (n=0∧L=[]∧∃a,v=.slice a 0 0)∨∃k sh cap room,v=.slice (some ⟨k,sh,none⟩) n cap∧n≤cap∧sh+cap*size≤room∧L=[(k,.cells c el sh room)]
def fileAt(p:Nat×ByteArray)(k sh:Nat)(L:List (Nat×CO)):Prop:=
 ∃v room L',rowAt p.2.size 1 (IJ p.2) 5 v L'∧L=(k,.cells [v] 174 sh room)::L'
inductive fA:List (Nat×ByteArray)→List amW→List (Nat×CO)→Prop where
 |nil:fA [] [] []
 |cons (p:Nat×ByteArray) (k sh born:Nat) (l:List (Nat×ByteArray)) (es:List amW) (L L':List (Nat×CO)) (h:fileAt p k sh L) (t:fA l es L'):
  fA (p::l) ({key:=.int .i64 p.1,val:=.pointer (some ⟨k,sh,none⟩),born}::es) (L++L')
def BO(d:kU)(b off sz dn:Nat)(L:List (Nat×CO)):Prop:=
 sz=5∧∃v m es clock L1 L2,rowAt d.script.length 2 (aF d.script) 67 v L1∧fA d.files es L2∧
  L=(b,.cells [v,.map (some m),.int .i64 d.made,.int .i64 d.calls,.int .i64 d.raw] 70 off dn)::(m,.map es clock)::(L1++L2)
end Go.Proofs.Ytnlkkgpcikkpoaa.Vm
