/- Part of the proof: GamC, Gam. -/
import Derived.Below
open Go renaming MapEntry→apM,Value→ape,World→aps
open Go.Value renaming int→apm
set_option linter.unusedVariables false
set_option linter.unusedSimpArgs false
set_option maxRecDepth 100000
namespace Go.Proofs.YtnlkkgpcikkpoaaGreat.Vm
inductive CO where
 |cells (c:List ape) (el:TypeId) (sh room:Nat)
 |map (es:List apM) (clock:Nat)
def eL(w:aps)(k:Nat):CO→Prop
 | .cells c el sh room=>∃(c':Array ape) (fr:Nat×Nat),w.heap[k]?=some (.cells c' el fr)∧c'.size=room∧sh+c.length≤room∧(fr.1=fr.2∨room≤fr.1)∧∀(i:Nat) (v:ape),c[i]?=some v→c'[sh+i]?=some v
 | .map es clock=>w.heap[k]?=some (.map es.toArray clock)
theorem eL.frame{w w':aps}{k:Nat}{o:CO}(h:eL w k o)(hk:w'.heap[k]?=w.heap[k]?):eL w' k o:=by
 cases o with
 |cells c el sh room=>obtain⟨c',fr,h1,h2⟩:=h;exact⟨c',fr,by rw[hk];exact h1,h2⟩
 |map es clock=>exact(hk.trans h:)
def zq:Obj→Bool
 | .cells _ _ _=>true
 | .map _ _=>true
 |_=>false
theorem eL.row{w:aps}{k:Nat}{o:CO}(h:eL w k o):∃q,w.heap[k]?=some q∧zq q=true:=by
 cases o with
 |cells c el sh room=>obtain⟨c',fr,h1,h2⟩:=h;exact⟨_,h1,rfl⟩
 |map es clock=>exact⟨_,h,rfl⟩
structure qc(w:aps)(b:Nat)(S:Nat→Prop)(L:List (Nat×CO)):Prop where
 at_:∀p∈L,eL w p.1 p.2
 fX:(L.map (·.1)).Nodup
 root:b∈L.map (·.1)
 all:∀k,S k↔k∈L.map (·.1)
theorem qc.frame{w w':aps}{b:Nat}{S:Nat→Prop}{L:List (Nat×CO)}(h:qc w b S L)(hs:∀k,S k→w'.heap[k]?=w.heap[k]?):qc w' b S L:=
 ⟨fun p hp=>(h.at_ p hp).frame (hs _ ((h.all _).2 (List.mem_map_of_mem hp))),h.fX,h.root,h.all⟩
theorem qc.row{w:aps}{b:Nat}{S:Nat→Prop}{L:List (Nat×CO)}(h:qc w b S L):∀k,S k→∃o,w.heap[k]?=some o∧zq o=true:=fun k hk=>by
 obtain⟨p,hp,rfl⟩:=List.mem_map.1 ((h.all k).1 hk)
 exact(h.at_ p hp).row
def Ki(w:aps):Prop:=True
structure ay where
 bM:List (Int×Int)
 files:List (Nat×ByteArray)
 made:Nat
 calls:Int
 raw:Int
abbrev lD:Type:=ay
def aD(l:List (Int×Int)):List ape:=(l.map fun p=>[apm .i64 p.1,apm .i64 p.2]).flatten
def Kj(b:ByteArray):List ape:=b.data.toList.map fun x=>apm .u8 x.toNat
def rowAt(n size:Nat)(c:List ape)(el:TypeId)(v:ape)(L:List (Nat×CO)):Prop:=
 (n=0∧L=[]∧∃a,v=.slice a 0 0)∨∃k sh cap room,v=.slice (some ⟨k,sh,none⟩) n cap∧n≤cap∧sh+cap*size≤room∧L=[(k,.cells c el sh room)]
def fileAt(p:Nat×ByteArray)(k sh:Nat)(L:List (Nat×CO)):Prop:=
 ∃v room L',rowAt p.2.size 1 (Kj p.2) 5 v L'∧L=(k,.cells [v] 173 sh room)::L'
inductive fv:List (Nat×ByteArray)→List apM→List (Nat×CO)→Prop where
 |nil:fv [] [] []
 |cons (p:Nat×ByteArray) (k sh:Nat) (l:List (Nat×ByteArray)) (es:List apM) (L L':List (Nat×CO)) (h:fileAt p k sh L) (t:fv l es L') (hp:1≤p.1):
  fv (p::l) ({key:=.int .i64 p.1,val:=.pointer (some ⟨k,sh,none⟩),born:=p.1-1}::es) (L++L')
def Dc(d:lD)(b off sz dy:Nat)(L:List (Nat×CO)):Prop:=
 sz=5∧∃v m es L1 L2,rowAt d.bM.length 2 (aD d.bM) 77 v L1∧fv d.files es L2∧
  L=(b,.cells [v,.map (some m),.int .i64 d.made,.int .i64 d.calls,.int .i64 d.raw] 80 off dy)::(m,.map es d.made)::(L1++L2)
end Go.Proofs.YtnlkkgpcikkpoaaGreat.Vm
