/- Part of the proof: GamC, Gam. -/
import Derived.Below
open Go renaming MapEntry->arW,Value->Dy,World->arB
open Go.Value renaming int->KJ
set_option linter.unusedVariables false
set_option linter.unusedSimpArgs false
set_option maxRecDepth 100000
namespace Go.Proofs.YtnlkkgpcikkpoaaGreat.Vm
inductive CO where
 |cells (c:List Dy) (el:TypeId) (sh room:Nat)
 |map (es:List arW) (clock:Nat)
def e7(w:arB)(k:Nat):CO->Prop
 | .cells c el sh room=>∃(c':Array Dy) (fr:Nat×Nat),w.heap[k]?=some (.cells c' el fr)/\c'.size=room/\sh+c.length<=room/\(fr.1=fr.2\/room<=fr.1)/\∀(i:Nat) (v:Dy),c[i]?=some v->c'[sh+i]?=some v
 | .map es clock=>w.heap[k]?=some (.map es.toArray clock)
theorem e7.frame{w w':arB}{k:Nat}{o:CO}(h:e7 w k o)(hk:w'.heap[k]?=w.heap[k]?):e7 w' k o:=by
 cases o with
 |cells c el sh room=>obtain⟨c',fr,h1,h2⟩:=h;exact⟨c',fr,by rw[hk];exact h1,h2⟩
 |map es clock=>exact(hk.trans h:)
def z2:Obj->Bool
 | .cells _ _ _=>true
 | .map _ _=>true
 |_=>false
theorem e7.row{w:arB}{k:Nat}{o:CO}(h:e7 w k o):∃q,w.heap[k]?=some q/\z2 q=true:=by
 cases o with
 |cells c el sh room=>obtain⟨c',fr,h1,h2⟩:=h;exact⟨_,h1,rfl⟩
 |map es clock=>exact⟨_,h,rfl⟩
structure qL(w:arB)(b:Nat)(S:Nat->Prop)(L:List (Nat×CO)):Prop where
 at_:∀p∈L,e7 w p.1 p.2
 gR:(L.map (·.1)).Nodup
 root:b∈L.map (·.1)
 all:∀k,S k↔k∈L.map (·.1)
theorem qL.frame{w w':arB}{b:Nat}{S:Nat->Prop}{L:List (Nat×CO)}(h:qL w b S L)(hs:∀k,S k->w'.heap[k]?=w.heap[k]?):qL w' b S L:=
 ⟨λp hp=>(h.at_ p hp).frame (hs _ ((h.all _).2 (List.mem_map_of_mem hp))),h.gR,h.root,h.all⟩
theorem qL.row{w:arB}{b:Nat}{S:Nat->Prop}{L:List (Nat×CO)}(h:qL w b S L):∀k,S k->∃o,w.heap[k]?=some o/\z2 o=true:=λk hk=>by
 obtain⟨p,hp,rfl⟩:=List.mem_map.1 ((h.all k).1 hk)
 exact(h.at_ p hp).row
def Lm(w:arB):Prop:=True
structure aA where
 bG:List (Int×Int)
 files:List (Nat×ByteArray)
 made:Nat
 calls:Int
 raw:Int
abbrev mm:Type:=aA
def aI(l:List (Int×Int)):List Dy:=(l.map λp=>[KJ .i64 p.1,KJ .i64 p.2]).flatten
def Ln(b:ByteArray):List Dy:=b.data.toList.map λx=>KJ .u8 x.toNat
def rowAt(n size:Nat)(c:List Dy)(el:TypeId)(v:Dy)(L:List (Nat×CO)):Prop:=
 (n=0/\L=[]/\∃a,v=.slice a 0 0)\/∃k sh cap room,v=.slice (some ⟨k,sh,none⟩) n cap/\n<=cap/\sh+cap*size<=room/\L=[(k,.cells c el sh room)]
def fileAt(p:Nat×ByteArray)(k sh:Nat)(L:List (Nat×CO)):Prop:=
 ∃v room L',rowAt p.2.size 1 (Ln p.2) 5 v L'/\L=(k,.cells [v] 173 sh room)::L'
inductive fL:List (Nat×ByteArray)->List arW->List (Nat×CO)->Prop where
 |nil:fL [] [] []
 |cons (p:Nat×ByteArray) (k sh:Nat) (l:List (Nat×ByteArray)) (es:List arW) (L L':List (Nat×CO)) (h:fileAt p k sh L) (t:fL l es L') (hp:1<=p.1):
  fL (p::l) ({key:=.int .i64 p.1,val:=.pointer (some ⟨k,sh,none⟩),born:=p.1-1}::es) (L++L')
def D8(d:mm)(b off sz dJ:Nat)(L:List (Nat×CO)):Prop:=
 sz=5/\∃v m es L1 L2,rowAt d.bG.length 2 (aI d.bG) 77 v L1/\fL d.files es L2/\
  L=(b,.cells [v,.map (some m),.int .i64 d.made,.int .i64 d.calls,.int .i64 d.raw] 80 off dJ)::(m,.map es d.made)::(L1++L2)
end Go.Proofs.YtnlkkgpcikkpoaaGreat.Vm
