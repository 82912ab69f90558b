/- Part 0 of the proof of FnModuleGoesOn. -/
import Derived.Below
import Derived.Laws.AppendOwn
import Derived.Laws.MakeOwn
import Derived.Laws.OwnMore
import Derived.Calls
import Derived.Deep.LoopGhost
import Derived.Laws.Slices
import Derived.WalkKit
import Derived.Laws.StructEq
import Derived.Orders
import Derived.IntWalk
import Derived.Laws.Rows
import Derived.Maps.AppendAt
set_option linter.unusedVariables false
set_option linter.unusedSimpArgs false
namespace Go.Proofs.Ytjfjdgjhihgdkaa.V
open Go
def Lw (w:World):Prop:=True
theorem Lw.stays {w w':World}(h:∀b,b<w.heap.size→w'.heap[b]? =w.heap[b]?)(hl:Lw w):Lw w':=trivial
inductive SV where
 |int (k:IntKind) (n:Int)
 |bool (b:Bool)
 |str (s:ByteArray)
 |sl (sz:Nat) (rows:List (List SV))
 |fn (f:FuncId) (caps:List SV)
 |hd (b n c:Nat)
 |nl
 deriving Inhabited
inductive Tag where
 |none|imm|lent|weak
 |own (k i j:Nat)
 deriving DecidableEq,Inhabited
inductive SRep (S:Nat→Prop)(w:World):Value→SV→Prop
 |int (k:IntKind) (n:Int):SRep S w (.int k n) (.int k n)
 |bool (b:Bool):SRep S w (.bool b) (.bool b)
 |str (s:ByteArray):SRep S w (.string s) (.str s)
 |nil (sz:Nat) (a:Option Addr) (cap:Nat):SRep S w (.slice a 0 cap) (.sl sz [])
 |sl (b off n cap sz:Nat) (rows:List (List SV)) (cv:Nat→Value) (hn:n=rows.length) (hc:n≤cap)
  (hw:∀r∈rows,r.length=sz) (hS:S b)
  (hcell:∀i r j x,rows[i]? =some r→r[j]? =some x→w.cell? ⟨b,off+(i*sz+j),none⟩=some (cv (i*sz+j)))
  (hrep:∀i r j x,rows[i]? =some r→r[j]? =some x→SRep S w (cv (i*sz+j)) x):
  SRep S w (.slice (some ⟨b,off,none⟩) n cap) (.sl sz rows)
 |fn (f:FuncId) (vs:Array Value) (caps:List SV) (bs:Nat→Nat) (os:Nat→Nat) (cv:Nat→Value) (hl:vs.size=caps.length)
  (hv:∀i x,caps[i]? =some x→vs[i]? =some (.pointer (some ⟨bs i,os i,none⟩))∧S (bs i)∧w.cell? ⟨bs i,os i,none⟩=some (cv i))
  (hrep:∀i x,caps[i]? =some x→SRep S w (cv i) x):
  SRep S w (.func (.func f) #[] vs) (.fn f caps)
 |hd (b n c:Nat):SRep S w (.slice (some ⟨b,0,none⟩) n c) (.hd b n c)
 |nl (a:Option Addr):SRep S w (.slice a 0 0) .nl
variable {w w':World}
theorem SRep.mono {S S':Nat→Prop}{v:Value}{x:SV}(h:SRep S w v x)
 (hw:∀b,S b→w'.heap[b]? =w.heap[b]?) (hS:∀b,S b→S' b):SRep S' w' v x:=by
 induction h with
 |int k n=>exact .int k n
 |bool b=>exact .bool b
 |str s=>exact .str s
 |nil sz a cap=>exact .nil sz a cap
 |sl b off n cap sz rows cv hn hc hwd hSb hcell _ ih=>
  exact .sl b off n cap sz rows cv hn hc hwd (hS b hSb)
   (fun i r j x h1 h2=>by rw[World.cell?_of_block (w:=w) (hw b hSb)];exact hcell i r j x h1 h2) ih
 |fn f vs caps bs os cv hl hv _ ih=>
  exact .fn f vs caps bs os cv hl (fun i x h=>⟨(hv i x h).1,hS _ (hv i x h).2.1,by rw[World.cell?_of_block (w:=w) (hw _ (hv i x h).2.1)];exact(hv i x h).2.2⟩) ih
 |hd b n c=>exact .hd b n c
 |nl a=>exact .nl a
inductive Leaf where
 |im (sh:Bool) (v:SV)
 |u (b c:Nat) (e:TypeId) (sz:Nat) (rows:List (List SV))
 |ap (b c:Nat) (e:TypeId) (sz:Nat) (rows:List (List SV))
 |ul (b c e sz:Nat) (rows:List (List SV))
 |hd (b n c:Nat)
 |ptr (b off:Nat)
 |sref (sh:Bool) (row:List SV)
 |nst (sz:Nat) (rows:List (List SV)) (i j b n c:Nat)
 |nil
 |hole
 deriving Inhabited
inductive Part where
 |lf (l:Leaf)
 |agg (ls:List Leaf)
 deriving Inhabited
inductive Blk where
 |mk (b c e sz:Nat) (rows:List (List SV))
 |mkh (b c e sz:Nat) (rows:List (List SV)) (i j b' n':Nat)
 |no
 deriving Inhabited
inductive Slot where
 |one (p:Part)
 |tup (ps:List Part)
 |cell (b:Nat) (ls:List Leaf)
 |obj (b T e:Nat) (s:ByteArray)
 |own (b:Nat) (ls:List Leaf) (bs:List Blk)
 deriving Inhabited
abbrev Slot.hole :Slot:= .one (.lf .hole)
abbrev Slot.lf (l:Leaf):Slot:= .one (.lf l)
abbrev Slot.agg (ls:List Leaf):Slot:= .one (.agg ls)
abbrev Slot.im (v:SV):Slot:= .one (.lf (.im true v))
abbrev Slot.int (n:Int):Slot:= .one (.lf (.im true (.int .i64 n)))
abbrev Slot.bool (b:Bool):Slot:= .one (.lf (.im true (.bool b)))
abbrev St :=Nat→Slot
def upd (σ:St)(k:Nat)(s:Slot):St:=fun k'=>if k'=k then s else σ k'
abbrev tk (t:Nat):Nat:=2*t
abbrev ck (t:Nat):Nat:=2*t+1
def Imm (g:Nat→Tag)(sh:Bool)(b:Nat):Prop:=g b= .imm∨(sh=false∧g b= .lent)
def RowsIn (g:Nat→Tag)(w:World)(cur:Array Value)(sz:Nat)(rows:List (List SV)):Prop:=
 (∀r∈rows,r.length=sz)∧
 ∀i r j x,rows[i]? =some r→r[j]? =some x→∃y,cur[i*sz+j]? =some y∧SRep (Imm g true) w y x
def NstIn (g:Nat→Tag)(w:World)(A sz:Nat)(rows:List (List SV))(i j:Nat)(hv:Value):Prop:=
 (∀r∈rows,r.length=sz)∧
 ∀i' r j' x,rows[i']? =some r→r[j']? =some x→∃y,w.cell? ⟨A,i'*sz+j',none⟩=some y∧((i'=i∧j'=j∧y=hv)∨(¬(i'=i∧j'=j)∧SRep (Imm g true) w y x))
variable {g g':Nat→Tag} {sz:Nat} {rows:List (List SV)}
theorem NstIn.to {A:Nat}{i j:Nat}{hv:Value}(h:NstIn g w A sz rows i j hv)(hA:w'.heap[A]? =w.heap[A]?)
 (hS:∀b,Imm g true b→Imm g' true b∧w'.heap[b]? =w.heap[b]?):NstIn g' w' A sz rows i j hv:=
 ⟨h.1,fun i' r j' x h1 h2=>by
  obtain⟨y,hy,hr⟩:=h.2 i' r j' x h1 h2
  refine⟨y,by rw[World.cell?_of_block (w:=w) hA];exact hy,?_⟩
  rcases hr with h3|⟨h3,h4⟩
  ·exact .inl h3
  ·exact .inr ⟨h3,h4.mono (fun b hb=>(hS b hb).2) fun b hb=>(hS b hb).1⟩⟩
def RowsInL (g:Nat→Tag)(w:World)(cur:Array Value)(sz:Nat)(rows:List (List SV)):Prop:=
 (∀r∈rows,r.length=sz)∧
 ∀i r j x,rows[i]? =some r→r[j]? =some x→∃y,cur[i*sz+j]? =some y∧SRep (Imm g false) w y x
variable {cur:Array Value}
theorem RowsIn.lent (h:RowsIn g w cur sz rows):RowsInL g w cur sz rows:=
 ⟨h.1,fun i r j x h1 h2=>let⟨y,hy,hr⟩:=h.2 i r j x h1 h2;⟨y,hy,hr.mono (fun _ _=>rfl) fun b hb=>by
  rcases hb with hb|⟨hb,_⟩
  ·exact .inl hb
  ·cases hb⟩⟩
theorem RowsInL.to (h:RowsInL g w cur sz rows)
 (hS:∀sh b,Imm g sh b→Imm g' sh b∧w'.heap[b]? =w.heap[b]?):RowsInL g' w' cur sz rows:=
 ⟨h.1,fun i r j x h1 h2=>let⟨y,hy,hr⟩:=h.2 i r j x h1 h2;⟨y,hy,hr.mono (fun b hb=>(hS _ b hb).2) (fun b hb=>(hS _ b hb).1)⟩⟩
def LeafRel (g:Nat→Tag)(w:World)(k i j:Nat)(v:Value):Leaf→Prop
 | .im sh x=>SRep (Imm g sh) w v x
 | .u b c e sz rows=>v= .slice (some ⟨b,0,none⟩) rows.length c∧g b= .own k i j∧rows.length≤c∧c≤maxLen∧
  ∃cur,w.heap[b]? =some (.cells cur e (0,0))∧cur.size=c*sz∧RowsIn g w cur sz rows
 | .ap b c e sz rows=>v= .slice (some ⟨b,0,none⟩) rows.length c∧g b= .weak∧rows.length≤c∧c≤maxLen∧
  ∃cur,w.heap[b]? =some (.cells cur e (0,0))∧cur.size=c*sz∧RowsIn g w cur sz rows
 | .ul b c e sz rows=>v= .slice (some ⟨b,0,none⟩) rows.length c∧g b= .own k i j∧rows.length≤c∧c≤maxLen∧
  ∃cur,w.heap[b]? =some (.cells cur e (0,0))∧cur.size=c*sz∧RowsInL g w cur sz rows
 | .hd b n c=>v= .slice (some ⟨b,0,none⟩) n c
 | .ptr b off=>v= .pointer (some ⟨b,off,none⟩)
 | .sref sh row=>∃b off,v= .pointer (some ⟨b,off,none⟩)∧(row≠[]→Imm g sh b)∧
  ∀j x,row[j]? =some x→∃y,w.cell? ⟨b,off+j,none⟩=some y∧SRep (Imm g sh) w y x
 | .nst sz rows i2 j2 b n c=>∃A cap,v= .slice (some ⟨A,0,none⟩) rows.length cap∧rows.length≤cap∧Imm g true A∧NstIn g w A sz rows i2 j2 (.slice (some ⟨b,0,none⟩) n c)
 | .nil=>v= .slice none 0 0
 | .hole=>True
def LeavesRel (g:Nat→Tag)(w:World)(k i:Nat)(cs:Array Value)(ls:List Leaf):Prop:=
 cs.size=ls.length∧∀(j:Nat) l v,ls[j]? =some l→cs[j]? =some v→LeafRel g w k i j v l
def PartRel (g:Nat→Tag)(w:World)(k i:Nat)(v:Value):Part→Prop
 | .lf l=>LeafRel g w k i 0 v l
 | .agg ls=>∃cs,v= .agg cs∧LeavesRel g w k i cs ls
def SlotRel (g:Nat→Tag)(w:World)(k:Nat)(v:Value):Slot→Prop
 | .one p=>PartRel g w k 0 v p
 | .tup ps=>∃vs,v= .tuple vs∧vs.size=ps.length∧∀(i:Nat) p x,ps[i]? =some p→vs[i]? =some x→PartRel g w k i x p
 | .cell .. =>False
 | .obj .. =>False
 | .own .. =>False
def ObjRel (g:Nat→Tag)(w:World)(k b T e:Nat)(s:ByteArray):Prop:=
 ∃p v,(p= .pointer none∨p= .pointer (some ⟨b,0,none⟩))∧g b= .own k 1 0∧w.heap[b]? =some (.cells #[p,v] T (0,0))∧
  w.ownsRow 0 e 1 v s.size (s.data.toList.map fun c=> .int .u8 c.toNat)∧∀b2,v.ownBlock=some b2→g b2= .own k 0 1
variable {b:Nat}
theorem ObjRel.to {k k' T e:Nat}{s:ByteArray}(h:ObjRel g w k b T e s)
 (hO:∀b i j,g b= .own k i j→g' b= .own k' i j∧w'.heap[b]? =w.heap[b]?):ObjRel g' w' k' b T e s:=by
 obtain⟨p,v,hp,hg,hh,hr,hb⟩:=h
 refine⟨p,v,hp,(hO b 1 0 hg).1,(hO b 1 0 hg).2.trans hh,⟨hr.1,?_⟩,fun b2 e2=>(hO b2 0 1 (hb b2 e2)).1⟩
 rcases hr.2 with h|⟨b2,c,cur,hv,h0,hc,hrest⟩
 ·exact .inl h
 ·refine .inr ⟨b2,c,cur,hv,h0,?_,hrest⟩
  rw[(hO b2 0 1 (hb b2 (by rw[hv];rfl))).2];exact hc
def BlkRel (g:Nat→Tag)(w:World)(k j:Nat):Blk→Prop
 | .no=>True
 | .mkh .. =>False
 | .mk b c e sz rows=>g b= .own k 2 j∧rows.length≤c∧c≤maxLen∧∃cur,w.heap[b]? =some (.cells cur e (0,0))∧cur.size=c*sz∧RowsIn g w cur sz rows
def BlksRel (g:Nat→Tag)(w:World)(k:Nat)(bs:List Blk):Prop:=∀(j:Nat) B,bs[j]? =some B→BlkRel g w k j B
def CellRel (g:Nat→Tag)(w:World)(k:Nat):Slot→Prop
 | .one (.lf .hole)=>True
 | .cell b ls=>∃cur e,g b= .own k 1 0∧w.heap[b]? =some (.cells cur e (0,0))∧LeavesRel g w k 0 cur ls
 | .obj b T e s=>ObjRel g w k b T e s
 | .own b ls bs=>(∃cur e,g b= .own k 1 0∧w.heap[b]? =some (.cells cur e (0,0))∧LeavesRel g w k 0 cur ls)∧BlksRel g w k bs
 |_=>False
def Plain (w:World)(b:Nat):Prop:=∃cur e,w.heap[b]? =some (.cells cur e (0,0))
theorem Plain.to (h:Plain w b)(e:w'.heap[b]? =w.heap[b]?):Plain w' b:=by obtain⟨c,t,h⟩:=h;exact⟨c,t,e.trans h⟩
structure Env where
 w0:World
 n:Nat
 g0:Nat→Tag
 may:Nat→Prop
 laid:∀w,(∀b,b<w0.heap.size→¬may b→w.heap[b]? =w0.heap[b]?)→Lw w
structure Rel (E:Env)(g:Nat→Tag)(w:World)(a:Act)(σ:St):Prop where
 defers:a.defers=[]
 os:w.os=E.w0.os
 tape:w.tape=E.w0.tape
 output:w.output=E.w0.output
 size:E.w0.heap.size≤w.heap.size
 old:∀b,b<E.w0.heap.size→¬E.may b→w.heap[b]? =E.w0.heap[b]?
 many:a.tmps.size=E.n
 slot:∀t,SlotRel g w (tk t) (a.tmps.getD t undef) (σ (tk t))
 cell:∀t,CellRel g w (ck t) (σ (ck t))
 fresh:∀b,w.heap.size≤b→g b= .none
 mine:∀b k i j,g b= .own k i j→E.w0.heap.size≤b∨E.may b
 uniq:∀b b' k i j,g b= .own k i j→g b'= .own k i j→b=b'
 elder:∀b,b<E.w0.heap.size→¬E.may b→g b=E.g0 b
 soft:∀b,E.w0.heap.size≤b∨E.may b→g b= .imm→Plain w b
 wild:∀b,g b= .weak→E.w0.heap.size≤b∨E.may b
end Go.Proofs.Ytjfjdgjhihgdkaa.V
namespace Go.Proofs.Ytjfjdgjhihgdkaa.V
open Go
variable {g:Nat→Tag} {b:Nat}
theorem Imm.sh (h:Imm g true b):g b= .imm:=by
 rcases h with h|⟨h,_⟩
 ·exact h
 ·cases h
variable {g':Nat→Tag} {w w':World}
theorem RowsIn.to {cur:Array Value}{sz:Nat}{rows:List (List SV)}(h:RowsIn g w cur sz rows)
 (hS:∀sh b,Imm g sh b→Imm g' sh b∧w'.heap[b]? =w.heap[b]?):RowsIn g' w' cur sz rows:=
 ⟨h.1,fun i r j x h1 h2=>let⟨y,hy,hr⟩:=h.2 i r j x h1 h2;⟨y,hy,hr.mono (fun b hb=>(hS _ b hb).2) (fun b hb=>(hS _ b hb).1)⟩⟩
variable {k i j k' i':Nat} {v:Value}
theorem LeafRel.to {j':Nat}{l:Leaf}(h:LeafRel g w k i j v l)
 (hS:∀sh b,Imm g sh b→Imm g' sh b∧w'.heap[b]? =w.heap[b]?)
 (hO:∀b,g b= .own k i j→g' b= .own k' i' j'∧w'.heap[b]? =w.heap[b]?)
 (hW:∀b,g b= .weak→g' b= .weak∧w'.heap[b]? =w.heap[b]? :=by first|assumption|exact fun _ h=>⟨h,rfl⟩):LeafRel g' w' k' i' j' v l:=by
 cases l with
 |im sh x=>exact SRep.mono h (fun b hb=>(hS _ b hb).2) (fun b hb=>(hS _ b hb).1)
 |u b c e sz rows=>
  obtain⟨hv,hg,hc,hm,cur,hh,hs,hr⟩:=h
  exact⟨hv,(hO b hg).1,hc,hm,cur,(hO b hg).2.trans hh,hs,hr.to hS⟩
 |ul b c e sz rows=>
  obtain⟨hv,hg,hc,hm,cur,hh,hs,hr⟩:=h
  exact⟨hv,(hO b hg).1,hc,hm,cur,(hO b hg).2.trans hh,hs,hr.to hS⟩
 |ap b c e sz rows=>
  obtain⟨hv,hg,hc,hm,cur,hh,hs,hr⟩:=h
  exact⟨hv,(hW b hg).1,hc,hm,cur,(hW b hg).2.trans hh,hs,hr.to hS⟩
 |hd b n c=>exact h
 |ptr b off=>exact h
 |nst sz rows i2 j2 b n c=>
  obtain⟨A,cap,hv,hc,hA,hn⟩:=h
  exact⟨A,cap,hv,hc,(hS _ A hA).1,hn.to (hS _ A hA).2 fun b hb=>hS _ b hb⟩
 |sref sh row=>
  obtain⟨b,off,hv,hb,hr⟩:=h
  refine⟨b,off,hv,fun hne=>(hS _ b (hb hne)).1,fun j x hx=> ?_⟩
  have hne:row≠[]:=by intro e;rw[e]at hx;simp at hx
  obtain⟨y,hy,hry⟩:=hr j x hx
  exact⟨y,by rw[World.cell?_of_block (w:=w) (hS _ b (hb hne)).2];exact hy,hry.mono (fun b hb=>(hS _ b hb).2) (fun b hb=>(hS _ b hb).1)⟩
 |nil=>exact h
 |hole=>trivial
theorem LeavesRel.to {cs:Array Value}{ls:List Leaf}(h:LeavesRel g w k i cs ls)
 (hS:∀sh b,Imm g sh b→Imm g' sh b∧w'.heap[b]? =w.heap[b]?)
 (hO:∀b j,g b= .own k i j→g' b= .own k' i' j∧w'.heap[b]? =w.heap[b]?)
 (hW:∀b,g b= .weak→g' b= .weak∧w'.heap[b]? =w.heap[b]? :=by first|assumption|exact fun _ h=>⟨h,rfl⟩):LeavesRel g' w' k' i' cs ls:=
 ⟨h.1,fun j l v hl hv=>(h.2 j l v hl hv).to hS fun b hb=>hO b j hb⟩
theorem PartRel.to {p:Part}(h:PartRel g w k i v p)
 (hS:∀sh b,Imm g sh b→Imm g' sh b∧w'.heap[b]? =w.heap[b]?)
 (hO:∀b j,g b= .own k i j→g' b= .own k' i' j∧w'.heap[b]? =w.heap[b]?)
 (hW:∀b,g b= .weak→g' b= .weak∧w'.heap[b]? =w.heap[b]? :=by first|assumption|exact fun _ h=>⟨h,rfl⟩):PartRel g' w' k' i' v p:=by
 cases p with
 |lf l=>exact LeafRel.to h hS fun b hb=>hO b 0 hb
 |agg ls=>obtain⟨cs,hv,h⟩:=h;exact⟨cs,hv,h.to hS hO⟩
variable {s:Slot}
theorem SlotRel.to (h:SlotRel g w k v s)
 (hS:∀sh b,Imm g sh b→Imm g' sh b∧w'.heap[b]? =w.heap[b]?)
 (hO:∀b i j,g b= .own k i j→g' b= .own k' i j∧w'.heap[b]? =w.heap[b]?)
 (hW:∀b,g b= .weak→g' b= .weak∧w'.heap[b]? =w.heap[b]? :=by first|assumption|exact fun _ h=>⟨h,rfl⟩):SlotRel g' w' k' v s:=by
 cases s with
 |one p=>exact PartRel.to h hS fun b j hb=>hO b 0 j hb
 |tup ps=>
  obtain⟨vs,hv,hs,hp⟩:=h
  exact⟨vs,hv,hs,fun i p x h1 h2=>(hp i p x h1 h2).to hS fun b j hb=>hO b i j hb⟩
 |cell b ls=>exact h.elim
 |obj b T e s=>exact h.elim
 |own b ls bs=>exact h.elim
theorem CellRel.to (h:CellRel g w k s)
 (hS:∀sh b,Imm g sh b→Imm g' sh b∧w'.heap[b]? =w.heap[b]?)
 (hO:∀b i j,g b= .own k i j→g' b= .own k i j∧w'.heap[b]? =w.heap[b]?)
 (hW:∀b,g b= .weak→g' b= .weak∧w'.heap[b]? =w.heap[b]? :=by first|assumption|exact fun _ h=>⟨h,rfl⟩):CellRel g' w' k s:=by
 match s with
 | .one (.lf .hole)=>trivial
 | .cell b ls=>
  obtain⟨cur,e,hg,hh,hl⟩:=h
  exact⟨cur,e,(hO b 1 0 hg).1,(hO b 1 0 hg).2.trans hh,hl.to hS fun b j hb=>hO b 0 j hb⟩
 | .obj b T e s=>exact ObjRel.to h hO
 | .own b ls bs=>
  obtain⟨⟨cur,e,hg,hh,hl⟩,hb⟩:=h
  refine⟨⟨cur,e,(hO b 1 0 hg).1,(hO b 1 0 hg).2.trans hh,hl.to hS fun b j hb=>hO b 0 j hb⟩,fun j B hB=> ?_⟩
  have:=hb j B hB
  cases B with
  |no=>trivial
  |mkh _ _ _ _ _ _ _ _ _=>exact this.elim
  |mk b2 c e2 sz rows=>
   obtain⟨h1,h2,h3,cur2,h4,h5,h6⟩:=this
   exact⟨(hO b2 2 j h1).1,h2,h3,cur2,(hO b2 2 j h1).2.trans h4,h5,h6.to hS⟩
 | .one (.lf (.im ..))| .one (.lf (.u ..))| .one (.lf (.ap ..))| .one (.lf (.ul ..))| .one (.lf (.hd ..))| .one (.lf (.ptr ..))| .one (.lf (.sref ..))| .one (.lf (.nst ..))| .one (.lf .nil)| .one (.agg _)| .tup _=>exact h.elim
variable {E:Env} {a:Act} {σ σ':St}
theorem Rel.turn {a':Act}(h:Rel E g w a σ)(K:Nat→Prop)
 (hd:a'.defers=[]) (hos:w'.os=w.os) (htp:w'.tape=w.tape) (hout:w'.output=w.output) (hsz:w.heap.size≤w'.heap.size)
 (hold:∀b,b<w.heap.size→(∀k i j,g b= .own k i j→¬K k)→w'.heap[b]? =w.heap[b]?)
 (htag:∀b,(∀k i j,g b= .own k i j→¬K k)→g b≠.none→g' b=g b)
 (hσ:∀k,¬K k→σ' k=σ k)
 (hmany:a'.tmps.size=a.tmps.size)
 (htm:∀t,¬K (tk t)→a'.tmps.getD t undef=a.tmps.getD t undef)
 (hslot:∀t,K (tk t)→SlotRel g' w' (tk t) (a'.tmps.getD t undef) (σ' (tk t)))
 (hcell:∀t,K (ck t)→CellRel g' w' (ck t) (σ' (ck t)))
 (hfresh:∀b,w'.heap.size≤b→g' b= .none)
 (hmine:∀b k i j,g' b= .own k i j→E.w0.heap.size≤b∨E.may b)
 (huniq:∀b b' k i j,g' b= .own k i j→g' b'= .own k i j→b=b')
 (helder:∀b,b<E.w0.heap.size→¬E.may b→g' b=g b)
 (hsoft:∀b,E.w0.heap.size≤b∨E.may b→g' b= .imm→Plain w' b)
 (hwild:∀b,g' b= .weak→g b= .weak):Rel E g' w' a' σ':=by
 have lt:∀b,g b≠.none→b<w.heap.size:=fun b hb=>Nat.lt_of_not_le fun hle=>hb (h.fresh b hle)
 have hS:∀sh b,Imm g sh b→Imm g' sh b∧w'.heap[b]? =w.heap[b]? :=by
  intro sh b hb
  have hn:∀k i j,g b= .own k i j→¬K k:=by
   intro k i j e
   rcases hb with hb|⟨_,hb⟩<;>rw[hb]at e<;>cases e
  have hn':g b≠.none:=by
   rcases hb with hb|⟨_,hb⟩<;>rw[hb]<;>intro e<;>cases e
  refine⟨?_,hold b (lt b hn') hn⟩
  unfold Imm
  rw[htag b hn hn']
  exact hb
 have hO:∀k,¬K k→∀b i j,g b= .own k i j→g' b= .own k i j∧w'.heap[b]? =w.heap[b]? :=by
  intro k hk b i j hb
  have hn:∀k' i' j',g b= .own k' i' j'→¬K k':=by
   intro k' i' j' e;rw[hb]at e;cases e;exact hk
  have hn':g b≠.none:=by rw[hb];intro e;cases e
  exact⟨(htag b hn hn').trans hb,hold b (lt b hn') hn⟩
 have hW:∀b,g b= .weak→g' b= .weak∧w'.heap[b]? =w.heap[b]? :=by
  intro b hb
  have hn:∀k i j,g b= .own k i j→¬K k:=by intro k i j e;rw[hb]at e;cases e
  have hn':g b≠.none:=by rw[hb];intro e;cases e
  exact⟨(htag b hn hn').trans hb,hold b (lt b hn') hn⟩
 exact
  {defers:=hd
   os:=hos.trans h.os
   tape:=htp.trans h.tape
   output:=hout.trans h.output
   size:=Nat.le_trans h.size hsz
   old:=fun b hb hm=>by
    rw[hold b (Nat.lt_of_lt_of_le hb h.size) ?_,h.old b hb hm]
    intro k i j e
    rcases h.mine b k i j e with hle|hmay
    ·exact absurd hb (Nat.not_lt.2 hle)
    ·exact absurd hmay hm
   many:=hmany.trans h.many
   slot:=fun t=>by
    by_cases hk:K (tk t)
    ·exact hslot t hk
    ·rw[htm t hk,hσ _ hk]
     exact(h.slot t).to hS (hO _ hk)
   cell:=fun t=>by
    by_cases hk:K (ck t)
    ·exact hcell t hk
    ·rw[hσ _ hk]
     exact(h.cell t).to hS (hO _ hk)
   fresh:=hfresh
   mine:=hmine
   uniq:=huniq
   elder:=fun b hb hm=>(helder b hb hm).trans (h.elder b hb hm)
   soft:=hsoft
   wild:=fun b hb=>h.wild b (hwild b hb)}
theorem Rel.weaken (h:Rel E g w a σ)(hσ:∀k,σ' k=σ k∨σ' k=Slot.hole):Rel E g w a σ' where
 defers:=h.defers
 os:=h.os
 tape:=h.tape
 output:=h.output
 size:=h.size
 old:=h.old
 many:=h.many
 slot:=fun t=>by
  rcases hσ (tk t)with e|e
  ·rw[e];exact h.slot t
  ·rw[e];exact trivial
 cell:=fun t=>by
  rcases hσ (ck t)with e|e
  ·rw[e];exact h.cell t
  ·rw[e];exact trivial
 fresh:=h.fresh
 mine:=h.mine
 uniq:=h.uniq
 elder:=h.elder
 soft:=h.soft
 wild:=h.wild
variable {d:Nat}
theorem a5s (t:Nat)(h:t≠d):(a.put (some d) v).tmps.getD t undef=a.tmps.getD t undef:=by
 simp only[Act.put,Array.getD_eq_getD_getElem?]
 rw[Array.getElem?_setIfInBounds_ne]
 exact fun e=>h e.symm
theorem n1 (h:d<a.tmps.size):(a.put (some d) v).tmps.getD d undef=v:=by
 simp only[Act.put,Array.getD_eq_getD_getElem?]
 rw[Array.getElem?_setIfInBounds]
 simp[h]
theorem T4 {d:Option Nat}:(a.put d v).tmps.size=a.tmps.size:=by
 cases d<;>simp[Act.put]
theorem N2 {d:Option Nat}:(a.put d v).defers=a.defers:=by
 cases d<;>rfl
variable {t t':Nat}
theorem Z0 (h:tk t=tk t'):t=t':=by unfold tk at h;omega
theorem v7 (t t':Nat):tk t≠ck t':=by unfold tk ck;omega
theorem E9 (h:ck t=ck t'):t=t':=by unfold ck at h;omega
def Free (g:Nat→Tag)(k:Nat):Prop:=∀b i j,g b≠.own k i j
def drop (k:Nat)(g:Nat→Tag):Nat→Tag:=fun b=>match g b with
 | .own k' i j=>if k'=k then .none else .own k' i j
 |t=>t
theorem C6 :drop k g b= .own k' i j↔g b= .own k' i j∧k'≠k:=by
 unfold drop
 cases h:g b with
 |none=>simp
 |imm=>simp
 |lent=>simp
 |weak=>simp
 |own x y z=>
  by_cases e:x=k
  ·simp only[e,if_true]
   constructor
   ·intro h;cases h
   ·rintro⟨h,hn⟩;cases h;exact absurd rfl hn
  ·simp only[e,if_false]
   constructor
   ·intro h;cases h;exact⟨rfl,e⟩
   ·rintro⟨h,hn⟩;exact h
theorem y4 (k:Nat)(g:Nat→Tag):Free (drop k g) k:=fun b i j h=>(C6.1 h).2 rfl
theorem W6 :drop k g b= .imm↔g b= .imm:=by
 unfold drop;cases h:g b<;>simp;split<;>simp
theorem a5v :drop k g b= .lent↔g b= .lent:=by
 unfold drop;cases h:g b<;>simp;split<;>simp
theorem p8 :drop k g b= .weak↔g b= .weak:=by
 unfold drop;cases h:g b<;>simp;split<;>simp
theorem l8 {sh:Bool}:Imm (drop k g) sh b↔Imm g sh b:=by
 unfold Imm;rw[W6,a5v]
theorem Rel.forget (h:Rel E g w a σ)(k:Nat):Rel E (drop k g) w a (upd σ k Slot.hole):=by
 refine h.turn (fun k'=>k'=k) h.defers rfl rfl rfl (Nat.le_refl _) (fun _ _ _=>rfl) ?_ ?_ rfl (fun _ _=>rfl) ?_ ?_ ?_ ?_ ?_ ?_ (fun b hb e=>h.soft b hb (W6.1 e)) (fun b e=>p8.1 e)
 ·intro b hn hne
  unfold drop
  cases e:g b with
  |own x y z=>simp only;rw[if_neg (hn x y z e)]
  |_=>rfl
 ·intro k' hk';simp[upd,hk']
 ·intro t hk;simp only[upd];rw[if_pos hk];trivial
 ·intro t hk;simp only[upd];rw[if_pos hk];trivial
 ·intro b hb;unfold drop;rw[h.fresh b hb]
 ·intro b k' i j e;exact h.mine b k' i j (C6.1 e).1
 ·intro b b' k' i j e e';exact h.uniq b b' k' i j (C6.1 e).1 (C6.1 e').1
 ·intro b hb hm
  unfold drop
  cases e:g b with
  |own x y z=>
   rcases h.mine b x y z e with hle|hmay
   ·omega
   ·exact absurd hmay hm
  |_=>rfl
end Go.Proofs.Ytjfjdgjhihgdkaa.V
namespace Go.Proofs.Ytjfjdgjhihgdkaa.V
open Go
def Step (P:Program)(E:Env)(o:Oper)(σ:St)(post:St→Prop):Prop:=
 ∀(g:Nat→Tag) (w:World) (a:Act) (next:Act→World→Prop) (Q:Exit→Act→World→Prop),Rel E g w a σ→
  (∀g' w' a' σ',post σ'→Rel E g' w' a' σ'→next a' w')→o.wp P a w next Q
variable {P:Program} {E:Env} {o:Oper} {σ:St} {post:St→Prop}
theorem Step.of_run
 (h:∀g w a,Rel E g w a σ→∃v w' g' σ',((execOp a.eval o).run P w= .ok (.value v) w'∨((execOp a.eval o).run P w= .ok .skip w'∧v=undef))∧post σ'∧Rel E g' w' (a.put o.dst v) σ'):
 Step P E o σ post:=by
 intro g w a next Q hr hn
 obtain⟨v,w',g',σ',hrun,hp,hr'⟩:=h g w a hr
 unfold Oper.wp
 rcases hrun with hrun|⟨hrun,rfl⟩
 ·rw[hrun];exact hn g' w' _ σ' hp hr'
 ·rw[hrun];exact hn g' w' _ σ' hp hr'
theorem Step.mono {post':St→Prop}(h:Step P E o σ post)(hp:∀τ,post τ→post' τ):Step P E o σ post':=
 fun g w a next Q hr hn=>h g w a next Q hr fun g' w' a' σ' hpost=>hn g' w' a' σ' (hp _ hpost)
variable {g:Nat→Tag} {w:World} {a:Act}
theorem Rel.set (h:Rel E g w a σ)(d:Nat)(v:Value)(s:Slot)(hd:d<E.n)
 (hs:∀g',(∀sh b,Imm g sh b→Imm g' sh b)→(∀b,g b= .weak→g' b= .weak)→SlotRel g' w (tk d) v s):Rel E (drop (tk d) g) w (a.put (some d) v) (upd σ (tk d) s):=by
 refine(h.forget (tk d)).turn (fun k=>k=tk d) (N2.trans h.defers) rfl rfl rfl (Nat.le_refl _) (fun _ _ _=>rfl) (fun _ _ _=>rfl) ?_ T4 ?_ ?_ ?_ ?_ ?_ ?_ (fun _ _ _=>rfl) (h.forget (tk d)).soft (fun _ h=>h)
 ·intro k hk;simp only[upd];rw[if_neg hk,if_neg hk]
 ·intro t ht;exact a5s t fun e=>ht (by rw[e])
 ·intro t ht
  have e:=Z0 ht
  subst e
  rw[n1 (by rw[h.many];exact hd)]
  simp only[upd,if_true]
  exact hs _ (fun sh b hb=>l8.2 hb) fun b hb=>p8.2 hb
 ·intro t ht;exact absurd ht.symm (v7 _ _)
 ·exact(h.forget (tk d)).fresh
 ·exact(h.forget (tk d)).mine
 ·exact(h.forget (tk d)).uniq
def litLeaf :Value→Leaf
 | .int k n=> .im true (.int k n)
 | .bool b=> .im true (.bool b)
 | .string s=> .im true (.str s)
 | .slice Option.none 0 0=> .nil
 |_=> .hole
def opd (σ:St):Operand→Slot
 | .tmp t=>σ (tk t)
 | .const (.agg cs)=> .agg (cs.toList.map litLeaf)
 | .const v=> .lf (litLeaf v)
 | .func f=> .lf (.im true (.fn f []))
 |_=> .hole
theorem N6 (g:Nat→Tag)(w:World)(k i j:Nat)(v:Value):LeafRel g w k i j v (litLeaf v):=by
 unfold litLeaf
 split
 ·exact .int _ _
 ·exact .bool _
 ·exact .str _
 ·rfl
 ·trivial
def opk :Operand→Nat
 | .tmp t=>tk t
 |_=>0
theorem o9 (h:Rel E g w a σ)(x:Operand):SlotRel g w (opk x) (a.eval x) (opd σ x):=by
 cases x with
 |tmp t=>exact h.slot t
 |const v=>
  unfold opd
  split
  ·rename_i heq;cases heq
  ·rename_i cs heq
   cases heq
   refine⟨cs,rfl,by simp,fun j l v hl hv=> ?_⟩
   simp only[List.getElem?_map,Array.getElem?_toList]at hl
   rw[hv]at hl
   cases hl
   exact N6 ..
  ·rename_i heq;cases heq;exact N6 ..
  ·rename_i heq;cases heq
  ·trivial
 |global g=>exact trivial
 |func f=>exact SRep.fn f #[] [] (fun _=>0) (fun _=>0) (fun _=>undef) rfl (fun i x h=>by simp at h) (fun i x h=>by simp at h)
variable {x:Operand} {sh:Bool}
theorem E7 (h:Rel E g w a σ){v:SV}(hx:opd σ x= .lf (.im sh v)):SRep (Imm g sh) w (a.eval x) v:=by
 have:=o9 h x;rw[hx]at this;exact this
theorem y6 (h:Rel E g w a σ){k:IntKind}{n:Int}(hx:opd σ x= .lf (.im sh (.int k n))):a.eval x= .int k n:=by
 have:=E7 h hx;generalize a.eval x=v at this;cases this;rfl
theorem K8 (h:Rel E g w a σ){b:Bool}(hx:opd σ x= .lf (.im sh (.bool b))):a.eval x= .bool b:=by
 have:=E7 h hx;generalize a.eval x=v at this;cases this;rfl
theorem Z7 (h:Rel E g w a σ){s:ByteArray}(hx:opd σ x= .lf (.im sh (.str s))):a.eval x= .string s:=by
 have:=E7 h hx;generalize a.eval x=v at this;cases this;rfl
def Leaf.bare :Leaf→Bool
 | .u .. | .ul .. =>false
 |_=>true
def Part.bare :Part→Bool
 | .lf l=>l.bare
 | .agg ls=>ls.all Leaf.bare
def Slot.bare :Slot→Bool
 | .one p=>p.bare
 | .tup ps=>ps.all Part.bare
 | .cell .. =>false
 | .obj .. =>false
 | .own .. =>false
variable {g':Nat→Tag} {k i:Nat} {v:Value}
theorem LeafRel.bare {j k' i' j':Nat}{l:Leaf}(h:LeafRel g w k i j v l)(hb:l.bare=true)
 (hS:∀sh b,Imm g sh b→Imm g' sh b)
 (hW:∀b,g b= .weak→g' b= .weak:=by first|assumption|exact fun _ h=>h|exact fun _ h=>p8.2 h):LeafRel g' w k' i' j' v l:=by
 cases l with
 |u b c e sz rows=>cases hb
 |ul b c e sz rows=>cases hb
 |ap b c e sz rows=>
  obtain⟨hv,hg,hc,hm,cur,hh,hs,hr⟩:=h
  exact⟨hv,hW b hg,hc,hm,cur,hh,hs,hr.1,fun i r j x h1 h2=>let⟨y,hy,hry⟩:=hr.2 i r j x h1 h2;⟨y,hy,hry.mono (fun _ _=>rfl) fun b hb=>hS _ b hb⟩⟩
 |im sh x=>exact SRep.mono h (fun _ _=>rfl) (fun b hb=>hS _ b hb)
 |nst sz rows i2 j2 b n c=>
  obtain⟨A,cap,hv,hc,hA,hn⟩:=h
  exact⟨A,cap,hv,hc,hS _ A hA,hn.to rfl fun b hb=>⟨hS _ b hb,rfl⟩⟩
 |sref sh row=>
  obtain⟨b,off,hv,hb,hr⟩:=h
  exact⟨b,off,hv,fun hne=>hS _ b (hb hne),fun j x hx=>let⟨y,hy,hry⟩:=hr j x hx;⟨y,hy,hry.mono (fun _ _=>rfl) (fun b hb=>hS _ b hb)⟩⟩
 |hd b n c=>exact h
 |ptr b off=>exact h
 |nil=>exact h
 |hole=>trivial
theorem PartRel.bare {k' i':Nat}{p:Part}(h:PartRel g w k i v p)(hb:p.bare=true)
 (hS:∀sh b,Imm g sh b→Imm g' sh b)
 (hW:∀b,g b= .weak→g' b= .weak:=by first|assumption|exact fun _ h=>h|exact fun _ h=>p8.2 h):PartRel g' w k' i' v p:=by
 cases p with
 |lf l=>exact LeafRel.bare h hb hS
 |agg ls=>
  obtain⟨cs,hv,hsz,hl⟩:=h
  refine⟨cs,hv,hsz,fun j l v h1 h2=>(hl j l v h1 h2).bare ?_ hS⟩
  exact List.all_eq_true.1 hb l (List.mem_of_getElem? h1)
theorem SlotRel.bare {k':Nat}{s:Slot}(h:SlotRel g w k v s)(hb:s.bare=true)
 (hS:∀sh b,Imm g sh b→Imm g' sh b)
 (hW:∀b,g b= .weak→g' b= .weak:=by first|assumption|exact fun _ h=>h|exact fun _ h=>p8.2 h):SlotRel g' w k' v s:=by
 cases s with
 |one p=>exact PartRel.bare h hb hS
 |tup ps=>
  obtain⟨vs,hv,hsz,hl⟩:=h
  refine⟨vs,hv,hsz,fun i p x h1 h2=>(hl i p x h1 h2).bare ?_ hS⟩
  exact List.all_eq_true.1 hb p (List.mem_of_getElem? h1)
 |cell b ls=>cases hb
 |obj b T e s=>cases hb
 |own b ls bs=>cases hb
theorem E8 (d:Nat)(x:Operand)(s:Slot)(ho:o.op= .move x∨o.op= .assign x)(hd:o.dst=some d)
 (hn:d<E.n) (hx:opd σ x=s) (hb:s.bare=true):Step P E o σ (·=upd σ (tk d) s):=by
 refine Step.of_run fun g w a h=>⟨a.eval x,w,drop (tk d) g,_,.inl ?_,rfl,?_⟩
 ·rcases ho with ho|ho<;>simp[execOp,ho]
 ·rw[hd]
  refine h.set d _ _ hn fun g' hg' hw'=> ?_
  have:=o9 h x
  rw[hx]at this
  exact this.bare hb hg'
end Go.Proofs.Ytjfjdgjhihgdkaa.V
namespace Go.Proofs.Ytjfjdgjhihgdkaa.V
open Go
def SV.val :SV→Option Value
 | .int k n=>some (.int k n)
 | .bool b=>some (.bool b)
 | .str s=>some (.string s)
 |_=>Option.none
variable {w:World} {v:Value}
theorem SRep.of_val {S:Nat→Prop}{x:SV}(h:x.val=some v):SRep S w v x:=by
 cases x<;>simp[SV.val]at h<;>subst h
 ·exact .int _ _
 ·exact .bool _
 ·exact .str _
variable {P:Program} {E:Env} {o:Oper} {σ:St}
theorem D0 (d:Nat)(x:SV)(v:Value)(hv:x.val=some v)(hd:o.dst=some d)(hn:d<E.n)
 (hrun:∀g w a,Rel E g w a σ→(execOp a.eval o).run P w= .ok (.value v) w):Step P E o σ (·=upd σ (tk d) (.im x)):=
 Step.of_run fun g w a h=>⟨v,w,drop (tk d) g,_,.inl (hrun g w a h),rfl,by rw[hd];exact h.set d _ _ hn fun g' hg' hw'=>SRep.of_val hv⟩
def intOp :BinOp→IntKind→Int→Int→Option SV
 | .add,k,a,b=>some (.int k (k.wrap (a+b)))
 | .sub,k,a,b=>some (.int k (k.wrap (a-b)))
 | .mul,k,a,b=>some (.int k (k.wrap (a*b)))
 | .quo,k,a,b=>if b=0 then none else some (.int k (k.wrap (a.tdiv b)))
 | .rem,k,a,b=>if b=0 then none else some (.int k (a.tmod b))
 | .eql,_,a,b=>some (.bool (decide (a=b)))
 | .neq,_,a,b=>some (.bool (decide (a≠b)))
 | .lss,_,a,b=>some (.bool (decide (a<b)))
 | .leq,_,a,b=>some (.bool (decide (a≤b)))
 | .gtr,_,a,b=>some (.bool (decide (a>b)))
 | .geq,_,a,b=>some (.bool (decide (a≥b)))
 | .and,k,a,b=>some (.int k (k.wrap (BitVec.ofInt k.bits a&&&BitVec.ofInt k.bits b).toNat))
 | .or,k,a,b=>some (.int k (k.wrap (BitVec.ofInt k.bits a|||BitVec.ofInt k.bits b).toNat))
 | .xor,k,a,b=>some (.int k (k.wrap (BitVec.ofInt k.bits a^^^BitVec.ofInt k.bits b).toNat))
 | .andNot,k,a,b=>some (.int k (k.wrap (BitVec.ofInt k.bits a&&& ~~~BitVec.ofInt k.bits b).toNat))
 |_,_,_,_=>none
def plainV :Value→Bool
 | .int .. | .string _| .bool _| .pointer _| .slice .. =>true
 |_=>false
theorem C4 (op:BinOp)(t:TypeId)(x y:Operand)(a b:Value)(ha:plainV a=true):
 (eqGuard op t x y a b).run P w= .ok () w:=by
 cases a<;>first|(cases ha;done)|(cases op<;>cases b<;>rfl)
theorem T0 (a b:Int):(a==b)=decide (a=b):=by
 by_cases h:a=b<;>simp[h]
variable {op:BinOp} {r:SV}
theorem a4B {k:IntKind}{a b:Int}(t:TypeId)(h:intOp op k a b=some r)(hv:r.val=some v):
 (binOp op t (.int k a) (.int k b)).run P w= .ok v w:=by
 cases op<;>simp[intOp]at h<;>first
  |(subst h;simp[SV.val]at hv;subst hv;simp[binOp,Op.intArith,Op.intCmp,Op.intBits,T0,bne];done)
  |(obtain⟨h0,rfl⟩:=h;simp[SV.val]at hv;subst hv;simp[binOp,Op.intDiv,h0])
variable {s1 s2:Bool}
theorem V5 (d:Nat)(op:BinOp)(t t':TypeId)(x y:Operand)(k:IntKind)(a b:Int)(r r':SV)(v:Value)
 (ho:o.op= .binOp op t x y t') (hd:o.dst=some d) (hn:d<E.n) (hx:opd σ x= .lf (.im s1 (.int k a))) (hy:opd σ y= .lf (.im s2 (.int k b)))
 (hr:intOp op k a b=some r) (hr':r=r') (hv:r'.val=some v):Step P E o σ (·=upd σ (tk d) (.im r')):=by
 subst hr'
 refine D0 d r v hv hd hn fun g w a' h=> ?_
 have h1:=y6 h hx
 have h2:=y6 h hy
 simp only[execOp,ho,h1,h2]
 have e1:=C4 (P:=P) (w:=w) op t x y (.int k a) (.int k b) rfl
 have e2:=a4B (P:=P) (w:=w) t hr hv
 simp[e1,e2]
def boolOp :BinOp→Bool→Bool→Option Bool
 | .eql,a,b=>some (a==b)
 | .neq,a,b=>some (a !=b)
 |_,_,_=>none
def strOp :BinOp→ByteArray→ByteArray→Option SV
 | .add,a,b=>if((a.size+b.size:Nat):Int)>IntKind.i64.max then none else some (.str (a++b))
 | .eql,a,b=>some (.bool (a.toList==b.toList))
 | .neq,a,b=>some (.bool !(a.toList==b.toList))
 | .lss,a,b=>some (.bool (Op.bytesLess a.toList b.toList))
 | .leq,a,b=>some (.bool (Op.bytesLess a.toList b.toList||a.toList==b.toList))
 | .gtr,a,b=>some (.bool !(Op.bytesLess a.toList b.toList||a.toList==b.toList))
 | .geq,a,b=>some (.bool !(Op.bytesLess a.toList b.toList))
 |_,_,_=>none
theorem a5F {a b:ByteArray}(t:TypeId)(h:strOp op a b=some r)(hv:r.val=some v):
 (binOp op t (.string a) (.string b)).run P w= .ok v w:=by
 cases op<;>simp only[strOp,Option.some.injEq,reduceCtorEq]at h
 case add=>
  split at h
  ·cases h
  ·cases h;simp only[SV.val,Option.some.injEq]at hv;subst hv;rename_i hle
   simp only[binOp,Op.stringOp];rw[if_neg hle];rfl
 all_goals (subst h;simp only[SV.val,Option.some.injEq]at hv;subst hv;rfl)
theorem a3H (d:Nat)(op:BinOp)(t t':TypeId)(x y:Operand)(a b:ByteArray)(r r':SV)(v:Value)
 (ho:o.op= .binOp op t x y t') (hd:o.dst=some d) (hn:d<E.n) (hx:opd σ x= .lf (.im s1 (.str a))) (hy:opd σ y= .lf (.im s2 (.str b)))
 (hr:strOp op a b=some r) (hr':r=r') (hv:r'.val=some v):Step P E o σ (·=upd σ (tk d) (.im r')):=by
 subst hr'
 refine D0 d r v hv hd hn fun g w a' h=> ?_
 have h1:=Z7 h hx
 have h2:=Z7 h hy
 simp only[execOp,ho,h1,h2]
 have e1:=C4 (P:=P) (w:=w) op t x y (.string a) (.string b) rfl
 have e2:=a5F (P:=P) (w:=w) t hr hv
 simp[e1,e2]
theorem a0I (op:BinOp)(t:TypeId)(ht:P.underlying t=some .bool)(a b r:Bool)(h:boolOp op a b=some r):(binOp op t (.bool a) (.bool b)).run P w= .ok (.bool r) w:=by
 have e:=run_equalIn_bool' (P:=P) (w:=w) 9999 t a b ht
 cases op<;>simp[boolOp]at h<;>subst h<;>simp[binOp,Op.equal,Op.maxDepth,e,bne]
theorem a42 (d:Nat)(op:BinOp)(t t':TypeId)(ht:P.underlying t=some .bool)(x y:Operand)(a b r:Bool)
 (ho:o.op= .binOp op t x y t') (hd:o.dst=some d) (hn:d<E.n) (hx:opd σ x= .lf (.im s1 (.bool a))) (hy:opd σ y= .lf (.im s2 (.bool b)))
 (hr:boolOp op a b=some r):Step P E o σ (·=upd σ (tk d) (.bool r)):=by
 refine D0 d (.bool r) (.bool r) rfl hd hn fun g w a' h=> ?_
 have h1:=K8 h hx
 have h2:=K8 h hy
 simp only[execOp,ho,h1,h2]
 have e1:=C4 (P:=P) (w:=w) op t x y (.bool a) (.bool b) rfl
 have e2:=a0I (P:=P) (w:=w) op t ht a b r hr
 simp[e1,e2]
theorem a6k (d:Nat)(t:TypeId)(x:Operand)(a:Bool)
 (ho:o.op= .unOp .not t x) (hd:o.dst=some d) (hn:d<E.n) (hx:opd σ x= .lf (.im s1 (.bool a))):Step P E o σ (·=upd σ (tk d) (.bool !a)):=by
 refine D0 d (.bool !a) (.bool !a) rfl hd hn fun g w a' h=> ?_
 simp[execOp,ho,K8 h hx,Op.unary]
theorem a6x (d:Nat)(t:TypeId)(x:Operand)(k:IntKind)(n m:Int)
 (ho:o.op= .unOp .neg t x) (hd:o.dst=some d) (hn:d<E.n) (hx:opd σ x= .lf (.im s1 (.int k n))) (hm:k.wrap (0-n)=m):Step P E o σ (·=upd σ (tk d) (.im (.int k m))):=by
 refine D0 d (.int k m) (.int k m) rfl hd hn fun g w a' h=> ?_
 subst hm
 simp[execOp,ho,y6 h hx,Op.unary,Op.intArith]
theorem U6 (d:Nat)(t t':TypeId)(k k':IntKind)(ds:TypeDesc)(x:Operand)(n m:Int)
 (ho:o.op= .convert t t' x) (hd:o.dst=some d) (hn:d<E.n) (ht:P.underlying t=some ds) (ht':P.underlying t'=some (.int k')) (hx:opd σ x= .lf (.im s1 (.int k n))) (hm:k'.wrap n=m):
 Step P E o σ (·=upd σ (tk d) (.im (.int k' m))):=by
 refine D0 d (.int k' m) (.int k' m) rfl hd hn fun g w a' h=> ?_
 subst hm
 simp[execOp,ho,y6 h hx,convert,run_underlying ht,run_underlying ht',Conv.intToInt]
end Go.Proofs.Ytjfjdgjhihgdkaa.V
namespace Go.Proofs.Ytjfjdgjhihgdkaa.V
open Go
variable {P:Program} {w:World} {sz:Nat}
theorem r6 {e:Nat}(h:(P.info? e).map (·.size)=some sz):(sizeOf e).run P w= .ok sz w:=by
 cases hi:P.info? e with
 |none=>rw[hi]at h;cases h
 |some i=>rw[hi]at h;cases h;simp[sizeOf,typeInfo,hi]
variable {S:Nat→Prop} {v:Value} {rows:List (List SV)}
theorem SRep.slice_form (h:SRep S w v (.sl sz rows)):
 ∃a n cap,v= .slice a n cap∧n=rows.length∧n≤cap:=by
 generalize hx:SV.sl sz rows=x at h
 cases h with
 |nil sz' a cap=>cases hx;exact⟨a,0,cap,rfl,rfl,Nat.zero_le _⟩
 |sl b off n cap sz' rows' cv hn hc hw hS hcell hrep=>cases hx;exact⟨_,n,cap,rfl,hn,hc⟩
 |_=>cases hx
theorem SRep.width (h:SRep S w v (.sl sz rows)):∀r∈rows,r.length=sz:=by
 generalize hx:SV.sl sz rows=x at h
 cases h with
 |nil sz' a cap=>cases hx;intro r hr;cases hr
 |sl b off n cap sz' rows' cv hn hc hw hS hcell hrep=>cases hx;exact hw
 |_=>cases hx
theorem Addr.add_flat (b off n:Nat):(⟨b,off,none⟩:Addr).add n=⟨b,off+n,none⟩:=by
 unfold Addr.add;split
 ·rename_i h;subst h;rfl
 ·rfl
variable {a:Option Addr} {n cap:Nat}
theorem SRep.row (h:SRep S w (.slice a n cap) (.sl sz rows)){i:Nat}{r:List SV}(hr:rows[i]? =some r):
 ∃b off,a=some ⟨b,off,none⟩∧S b∧r.length=sz∧∀j x,r[j]? =some x→∃y,w.cell? ⟨b,off+i*sz+j,none⟩=some y∧SRep S w y x:=by
 generalize hx:SV.sl sz rows=x at h
 cases h with
 |nil sz' a cap=>cases hx;simp at hr
 |sl b off n cap sz' rows' cv hn hc hw hS hcell hrep=>
  cases hx
  refine⟨b,off,rfl,hS,hw r (List.mem_of_getElem? hr),fun j x hj=>⟨_,?_,hrep i r j x hr hj⟩⟩
  rw[Nat.add_assoc];exact hcell i r j x hr hj
 |_=>cases hx
theorem SRep.cut (h:SRep S w (.slice a n cap) (.sl sz rows))(l hh m:Nat)
 (h1:l≤hh) (h2:hh≤n) (h3:hh≤m) (h4:m≤cap):SRep S w (sliced a l hh m sz) (.sl sz ((rows.take hh).drop l)):=by
 generalize hx:SV.sl sz rows=x at h
 cases h with
 |nil sz' a cap=>
  cases hx
  obtain rfl:hh=0:=by omega
  obtain rfl:l=0:=by omega
  simp only[List.take_nil,List.drop_nil,sliced]
  exact .nil _ _ _
 |sl b off n cap sz' rows' cv hn hc hw hS hcell hrep=>
  cases hx
  by_cases e:l=hh
  ·subst e
   rw[List.drop_of_length_le (by simp;omega)]
   simp only[sliced,Nat.sub_self]
   exact .nil _ _ _
  ·have hml:¬m=l:=by omega
   simp only[sliced,if_neg hml,Option.map_some,Addr.add_flat]
   refine .sl b (off+l*sz) (hh-l) (m-l) sz _ (fun j=>cv (l*sz+j)) (by simp;omega) (by omega) (fun r hr=>hw r (List.mem_of_mem_take (List.mem_of_mem_drop hr))) hS ?_ ?_
   ·intro i r j x hi hj
    rw[List.getElem?_drop]at hi
    have hi':rows[l+i]? =some r:=by
     rw[List.getElem?_take]at hi
     split at hi
     ·exact hi
     ·cases hi
    have:=hcell (l+i) r j x hi' hj
    rw[Nat.add_mul]at this
    rw[show off+l*sz+(i*sz+j)=off+(l*sz+i*sz+j)from by omega,show l*sz+(i*sz+j)=l*sz+i*sz+j from by omega]
    exact this
   ·intro i r j x hi hj
    rw[List.getElem?_drop]at hi
    have hi':rows[l+i]? =some r:=by
     rw[List.getElem?_take]at hi
     split at hi
     ·exact hi
     ·cases hi
    have:=hrep (l+i) r j x hi' hj
    rw[Nat.add_mul]at this
    rw[show l*sz+(i*sz+j)=l*sz+i*sz+j from by omega]
    exact this
 |_=>cases hx
def Leaf.len :Leaf→Option Nat
 | .im _ (.sl _ rows)=>some rows.length
 | .im _ .nl=>some 0
 | .u _ _ _ _ rows=>some rows.length
 | .ap _ _ _ _ rows=>some rows.length
 | .hd _ n _=>some n
 | .nil=>some 0
 |_=>Option.none
variable {o:Oper}
theorem E2 {P:Program}{E:Env}{σ:St}(d:Nat)(t e:TypeId)(x:Operand)(l:Leaf)(n:Nat)
 (ho:o.op= .call {callee:= .builtin .len,args:= #[x],argTypes:= #[t]}) (hd:o.dst=some d) (hn:d<E.n) (ht:P.underlying t=some (.slice e)) (hx:opd σ x= .lf l)
 (hl:l.len=some n):Step P E o σ (·=upd σ (tk d) (.int n)):=by
 refine D0 d (.int .i64 n) (.int .i64 n) rfl hd hn fun g w a h=> ?_
 have hr:=o9 h x
 rw[hx]at hr
 have hr':LeafRel g w (opk x) 0 0 (a.eval x) l:=hr
 have:∃ad cap,a.eval x= .slice ad n cap:=by
  cases l with
  |im sh v=>
   cases v with
   |sl sz rows=>cases hl;obtain⟨ad,m,cap,e1,e2,_⟩:=SRep.slice_form hr';exact⟨ad,cap,by rw[e1,e2]⟩
   |nl=>
    cases hl
    generalize a.eval x=v at hr'
    cases hr' with
    |nl ad=>exact⟨ad,0,rfl⟩
   |_=>cases hl
  |u b c e sz rows=>cases hl;exact⟨_,c,hr'.1⟩
  |ap b c e sz rows=>cases hl;exact⟨_,c,hr'.1⟩
  |hd b n c=>cases hl;exact⟨_,c,hr'⟩
  |nil=>cases hl;exact⟨Option.none,0,hr'⟩
  |_=>cases hl
 obtain⟨ad,cap,e1⟩:=this
 simp[execOp,ho,resolve,invoke,builtin,Builtin.len_,e1,run_underlying ht,goInt]
theorem a2m {P:Program}{E:Env}{σ:St}(d:Nat)(t:TypeId)(x:Operand)(s:ByteArray){sh:Bool}
 (ho:o.op= .call {callee:= .builtin .len,args:= #[x],argTypes:= #[t]}) (hd:o.dst=some d) (hn:d<E.n) (ht:P.underlying t=some .string) (hx:opd σ x= .lf (.im sh (.str s))):
 Step P E o σ (·=upd σ (tk d) (.int s.size)):=by
 refine D0 d (.int .i64 s.size) (.int .i64 s.size) rfl hd hn fun g w a h=> ?_
 simp[execOp,ho,resolve,invoke,builtin,Builtin.len_,Z7 h hx,run_underlying ht,goInt]
variable {E:Env} {σ:St} {s1 s2:Bool}
theorem a0r (d:Nat)(t:TypeId)(x y:Operand)(s:ByteArray)(k:IntKind)(i:Int)(c:UInt8)
 (ho:o.op= .index t x y) (hd:o.dst=some d) (hn:d<E.n) (ht:P.underlying t=some .string) (hx:opd σ x= .lf (.im s1 (.str s))) (hy:opd σ y= .lf (.im s2 (.int k i)))
 (h0:0≤i) (hc:s.data.toList[i.toNat]? =some c):Step P E o σ (·=upd σ (tk d) (.im (.int .u8 c.toNat))):=by
 refine D0 d (.int .u8 c.toNat) (.int .u8 c.toNat) rfl hd hn fun g w a h=> ?_
 have hlt:i.toNat<s.size:=by
  have:=List.getElem?_eq_some_iff.1 hc
  obtain⟨h1,_⟩:=this
  simpa using h1
 have hcc:s[i.toNat]'hlt=c:=by
  obtain⟨h1,h2⟩:=List.getElem?_eq_some_iff.1 hc
  rw[←h2];rfl
 simp only[execOp,ho,Z7 h hx,y6 h hy]
 rw[Sem.run_bind,run_index_string w t s k i ht,dif_pos ⟨h0,by omega⟩,hcc]
 rfl
theorem a0q (d:Nat)(t e:TypeId)(sz:Nat)(x y:Operand)(rows:List (List SV))(k:IntKind)(i:Int)(r:List SV)
 (ho:o.op= .indexAddr t x y) (hd:o.dst=some d) (hn:d<E.n) (ht:P.underlying t=some (.slice e)) (hz:(P.info? e).map (·.size)=some sz)
 (hx:opd σ x= .lf (.im s1 (.sl sz rows))) (hy:opd σ y= .lf (.im s2 (.int k i))) (h0:0≤i) (hr:rows[i.toNat]? =some r):
 Step P E o σ (·=upd σ (tk d) (.lf (.sref s1 r))):=by
 refine Step.of_run fun g w a h=> ?_
 have hx':=E7 h hx
 obtain⟨ad,n,cap,e1,e2,hcap⟩:=SRep.slice_form hx'
 rw[e1]at hx'
 obtain⟨b,off,rfl,hS,hlen,hcell⟩:=hx'.row hr
 refine⟨.pointer (some ⟨b,off+i.toNat*sz,none⟩),w,drop (tk d) g,_,.inl ?_,rfl,?_⟩
 ·have hlt:i.toNat<rows.length:=(List.getElem?_eq_some_iff.1 hr).1
  have hlt':i<(n:Int):=by omega
  simp only[execOp,ho,e1,y6 h hy]
  simp[Instr.indexAt,asIntOf,run_underlying ht,h0,hlt',r6 hz,Addr.add_flat]
 ·rw[hd]
  refine h.set d _ _ hn fun g' hg' hw'=> ?_
  exact⟨b,off+i.toNat*sz,rfl,fun _=>hg' _ _ hS,fun j x hj=>let⟨y,hy1,hy2⟩:=hcell j x hj;⟨y,hy1,hy2.mono (fun _ _=>rfl) (fun b hb=>hg' _ _ hb)⟩⟩
theorem X6 (d:Nat)(t:TypeId)(fs:Array Field)(f:Field)(j sz:Nat)(x:Operand)(r:List SV)
 (ho:o.op= .fieldAddr t x j) (hd:o.dst=some d) (hn:d<E.n) (ht:P.underlying t=some (.struct fs)) (hf:fs[j]? =some f) (hz:(P.info? f.type).map (·.size)=some sz) (hsz:0<sz)
 (hx:opd σ x= .lf (.sref s1 r)) (hoff:f.offset≤r.length):Step P E o σ (·=upd σ (tk d) (.lf (.sref s1 (r.drop f.offset)))):=by
 refine Step.of_run fun g w a h=> ?_
 have hr:=o9 h x
 rw[hx]at hr
 obtain⟨b,off,e1,hS,hcell⟩:=hr
 refine⟨.pointer (some ⟨b,off+f.offset,none⟩),w,drop (tk d) g,_,.inl ?_,rfl,?_⟩
 ·simp only[execOp,ho,e1]
  simp[Instr.fieldAt,run_underlying ht,hf,Instr.sureAddr,fieldPlace,r6 hz,Nat.ne_of_gt hsz,Addr.add_flat]
 ·rw[hd]
  refine h.set d _ _ hn fun g' hg' hw'=> ?_
  refine⟨b,off+f.offset,rfl,fun hne=>hg' _ _ (hS fun e=>hne (by rw[e,List.drop_nil])),fun i x hi=> ?_⟩
  rw[List.getElem?_drop]at hi
  obtain⟨y,hy1,hy2⟩:=hcell _ x hi
  exact⟨y,by rw[Nat.add_assoc];exact hy1,hy2.mono (fun _ _=>rfl) (fun b hb=>hg' _ _ hb)⟩
end Go.Proofs.Ytjfjdgjhihgdkaa.V
namespace Go.Proofs.Ytjfjdgjhihgdkaa.V
open Go
theorem H1 {P:Program}{w:World}(b off:Nat):∀(n i:Nat) (vs:List Value) (acc:Array Value),vs.length=n→
 (∀j x,vs[j]? =some x→w.cell? ⟨b,off+(i+j),none⟩=some x)→(loadCellsFrom ⟨b,off,none⟩ i n acc).run P w= .ok (acc++vs.toArray) w
 |0,i,vs,acc,hl,_=>by
  obtain rfl:=List.length_eq_zero_iff.1 hl
  simp[loadCellsFrom]
 |n+1,i,vs,acc,hl,hc=>by
  cases vs with
  |nil=>cases hl
  |cons x rest=>
   have h0:=hc 0 x rfl
   rw[Nat.add_zero]at h0
   have ih:=H1 (P:=P) (w:=w) b off n (i+1) rest (acc.push x) (by simpa using hl) (fun j y hj=>by
    have:=hc (j+1) y (by simpa using hj)
    rwa[show i+(j+1)=i+1+j from by omega]at this)
   simp only[loadCellsFrom,Sem.run_bind,run_load,Addr.add_flat,h0]
   simp only[Result.andThen_ok,ih]
   congr 1
   apply Array.ext'
   simp
variable {P:Program} {w:World}
theorem a1q (b off:Nat)(vs:List Value)(hc:∀j x,vs[j]? =some x→w.cell? ⟨b,off+j,none⟩=some x):
 (loadCells ⟨b,off,none⟩ vs.length).run P w= .ok vs.toArray w:=by
 have:=H1 (P:=P) (w:=w) b off vs.length 0 vs #[] rfl (fun j x hj=>by rw[Nat.zero_add];exact hc j x hj)
 simpa[loadCells]using this
structure Ty (P:Program)(t:TypeId)(sz:Nat)(agg:Bool):Prop where
 size:(P.info? t).map (·.size)=some sz
 isAgg:∀w,(Go.isAgg t).run P w= .ok agg w
variable {t:TypeId}
theorem Ty.one {ds:TypeDesc}(h:P.underlying t=some ds)(hs:(P.info? t).map (·.size)=some 1)(h1:∀fs,ds≠.struct fs)(h2:∀n e,ds≠.array n e):Ty P t 1 false where
 size:=hs
 isAgg w:=by
  have e:(Go.isAgg t).run P w=(match ds with| .struct _| .array _ _=>(pure true:Sem Bool)|_=>pure false).run P w:=by
   unfold Go.isAgg;rw[Sem.run_bind,run_underlying h];rfl
  rw[e]
  cases ds<;>first|rfl|(exact absurd rfl (h1 _))|(exact absurd rfl (h2 _ _))
variable {sz:Nat}
theorem Ty.struct {fs:Array Field}(h:P.underlying t=some (.struct fs))(hs:(P.info? t).map (·.size)=some sz):Ty P t sz true where
 size:=hs
 isAgg w:=by unfold Go.isAgg;rw[Sem.run_bind,run_underlying h];rfl
theorem C1 {agg:Bool}(ht:Ty P t sz agg)(b off:Nat)(vs:List Value)(hl:vs.length=sz)(h1:agg=false→sz=1)
 (hc:∀j x,vs[j]? =some x→w.cell? ⟨b,off+j,none⟩=some x):
 (loadVar t ⟨b,off,none⟩).run P w= .ok (if agg then .agg vs.toArray else vs.headD undef) w:=by
 simp only[loadVar,Sem.run_bind,ht.isAgg,Result.andThen_ok]
 cases agg with
 |true=>
  simp only[if_true,Sem.run_bind,r6 ht.size,Result.andThen_ok]
  rw[←hl,a1q b off vs hc]
  rfl
 |false=>
  have hsz:=h1 rfl
  subst hsz
  cases vs with
  |nil=>cases hl
  |cons x rest=>
   have h0:=hc 0 x rfl
   rw[Nat.add_zero]at h0
   simp only[Bool.false_eq_true,if_false,run_load,h0]
   rfl
def SV.isVal :SV→Bool
 | .int .. | .bool _| .str _| .nl=>true
 |_=>false
def shOf (sh:Bool)(x:SV):Bool:=bif sh then true else x.isVal
variable {S:Nat→Prop}
theorem SRep.scal {S':Nat→Prop}{v:Value}{x:SV}(h:SRep S w v x)(hv:x.isVal=true):SRep S' w v x:=by
 cases h with
 |int k n=>exact .int k n
 |bool b=>exact .bool b
 |str s=>exact .str s
 |nil _ _ _=>cases hv
 |sl _ _ _ _ _ _ _ _ _ _ _ _ _=>cases hv
 |fn _ _ _ _ _ _ _ _ _=>cases hv
 |hd _ _ _=>cases hv
 |nl a=>exact .nl a
theorem SRep.shOf {g:Nat→Tag}{w:World}{v:Value}{x:SV}{sh:Bool}(h:SRep (Imm g sh) w v x):SRep (Imm g (shOf sh x)) w v x:=by
 cases sh with
 |true=>exact h
 |false=>
  show SRep (Imm g x.isVal) w v x
  cases e:x.isVal with
  |false=>exact h
  |true=>exact h.scal e
def imLeaves (sh:Bool)(r:List SV):List Leaf:=r.map fun x=> .im (shOf sh x) x
def partOf (agg:Bool)(ls:List Leaf):Part:=if agg then .agg ls else .lf (ls.headD .hole)
theorem SRep.choose {b off:Nat}:∀(r:List SV) (o:Nat),(∀j x,r[j]? =some x→∃y,w.cell? ⟨b,off+(o+j),none⟩=some y∧SRep S w y x)→
 ∃vs:List Value,vs.length=r.length∧(∀(j:Nat) y,vs[j]? =some y→w.cell? ⟨b,off+(o+j),none⟩=some y)∧∀(j:Nat) y x,vs[j]? =some y→r[j]? =some x→SRep S w y x
 |[],_,_=>⟨[],rfl,fun j y h=>by simp at h,fun j y x h=>by simp at h⟩
 |x::r,o,h=>by
  obtain⟨y,hy,hr⟩:=h 0 x rfl
  obtain⟨vs,hl,hc,hs⟩:=SRep.choose r (o+1) (fun j z hj=>by
   have:=h (j+1) z (by simpa using hj)
   rwa[show o+(j+1)=o+1+j from by omega]at this)
  refine⟨y::vs,by simp[hl],fun j z hj=> ?_,fun j z x' hj hx=> ?_⟩
  ·cases j with
   |zero=>simp at hj;subst hj;exact hy
   |succ j=>have:=hc j z (by simpa using hj);rwa[show o+1+j=o+(j+1)from by omega]at this
  ·cases j with
   |zero=>simp at hj hx;subst hj;subst hx;exact hr
   |succ j=>exact hs j z x' (by simpa using hj) (by simpa using hx)
theorem a0x {E:Env}{o:Oper}{σ:St}(d:Nat)(t:TypeId)(sz:Nat)(agg:Bool)(x:Operand)(r:List SV){s1:Bool}
 (ho:o.op= .load t x) (hd:o.dst=some d) (hn:d<E.n) (ht:Ty P t sz agg) (h1:agg=false→sz=1) (hx:opd σ x= .lf (.sref s1 r)) (hl:sz≤r.length):
 Step P E o σ (·=upd σ (tk d) (.one (partOf agg (imLeaves s1 (r.take sz))))):=by
 refine Step.of_run fun g w a h=> ?_
 have hr:=o9 h x
 rw[hx]at hr
 obtain⟨b,off,e1,hS,hcell⟩:=hr
 obtain⟨vs,hvl,hvc,hvs⟩:=SRep.choose (S:=Imm g s1) (w:=w) (b:=b) (off:=off) (r.take sz) 0 (fun j x hj=>by
  rw[Nat.zero_add]
  rw[List.getElem?_take]at hj
  split at hj
  ·exact hcell j x hj
  ·cases hj)
 have hvl':vs.length=sz:=by rw[hvl,List.length_take];omega
 have hrun:=C1 (P:=P) (w:=w) ht b off vs hvl' h1 (fun j y hj=>by have:=hvc j y hj;rwa[Nat.zero_add]at this)
 refine⟨if agg then .agg vs.toArray else vs.headD undef,w,drop (tk d) g,_,.inl ?_,rfl,?_⟩
 ·simp only[execOp,ho,e1,Instr.loadAt,Instr.sureAddr,Sem.run_bind,Sem.run_pure,Result.andThen_ok,hrun]
 ·rw[hd]
  refine h.set d _ _ hn fun g' hg' hw'=> ?_
  have hmono:∀{y x},SRep (Imm g s1) w y x→SRep (Imm g' s1) w y x:=fun hh=>hh.mono (fun _ _=>rfl) (fun b hb=>hg' _ _ hb)
  cases agg with
  |true=>
   refine⟨vs.toArray,rfl,by simp[imLeaves,hvl],fun j l v hl hv=> ?_⟩
   simp only[imLeaves,List.getElem?_map,Option.map_eq_some_iff]at hl
   obtain⟨x,hx,rfl⟩:=hl
   exact(hmono (hvs j v x (by simpa using hv) hx)).shOf
  |false=>
   have hsz:=h1 rfl
   subst hsz
   cases hr2:r.take 1 with
   |nil=>rw[hr2]at hvl;simp at hvl;rw[hvl]at hvl';simp at hvl'
   |cons x rest=>
    cases vs with
    |nil=>cases hvl'
    |cons y ys=>
     simp only[partOf,imLeaves,hr2,Bool.false_eq_true,if_false,List.map_cons,List.headD_cons]
     exact(hmono (hvs 0 y x rfl (by rw[hr2];rfl))).shOf
end Go.Proofs.Ytjfjdgjhihgdkaa.V
namespace Go.Proofs.Ytjfjdgjhihgdkaa.V
open Go
variable {E:Env} {g:Nat→Tag} {w:World} {a:Act} {σ:St}
theorem Rel.world {w':World}(h:Rel E g w a σ)
 (hos:w'.os=w.os) (htp:w'.tape=w.tape) (hout:w'.output=w.output) (hsz:w.heap.size≤w'.heap.size)
 (hold:∀b,b<w.heap.size→w'.heap[b]? =w.heap[b]?∨(g b= .none∧(E.w0.heap.size≤b∨E.may b))):Rel E g w' a σ:=by
 have hn:∀b,g b≠.none→w'.heap[b]? =w.heap[b]? :=fun b hb=>by
  have hlt:b<w.heap.size:=Nat.lt_of_not_le fun hle=>hb (h.fresh b hle)
  rcases hold b hlt with e|⟨e,_⟩
  ·exact e
  ·exact absurd e hb
 have hS:∀sh b,Imm g sh b→Imm g sh b∧w'.heap[b]? =w.heap[b]? :=fun sh b hb=>⟨hb,hn b (by rcases hb with hb|⟨_,hb⟩<;>rw[hb]<;>intro e<;>cases e)⟩
 have hO:∀k b i j,g b= .own k i j→g b= .own k i j∧w'.heap[b]? =w.heap[b]? :=fun k b i j hb=>⟨hb,hn b (by rw[hb];intro e;cases e)⟩
 have hW:∀b,g b= .weak→g b= .weak∧w'.heap[b]? =w.heap[b]? :=fun b hb=>⟨hb,hn b (by rw[hb];intro e;cases e)⟩
 exact
  {defers:=h.defers
   os:=hos.trans h.os
   tape:=htp.trans h.tape
   output:=hout.trans h.output
   size:=Nat.le_trans h.size hsz
   old:=fun b hb hm=>by
    rcases hold b (Nat.lt_of_lt_of_le hb h.size)with e|⟨_,e|e⟩
    ·exact e.trans (h.old b hb hm)
    ·omega
    ·exact absurd e hm
   many:=h.many
   slot:=fun t=>(h.slot t).to hS (hO _)
   cell:=fun t=>(h.cell t).to hS (hO _)
   fresh:=fun b hb=>h.fresh b (Nat.le_trans hsz hb)
   mine:=h.mine
   uniq:=h.uniq
   elder:=h.elder
   soft:=fun b hb e=>(h.soft b hb e).to (hn b (by rw[e];intro e0;cases e0))
   wild:=h.wild}
theorem Rel.tags {g':Nat→Tag}(h:Rel E g w a σ)
 (hk:∀b,g b≠.none→g' b=g b) (hf:∀b,w.heap.size≤b→g' b= .none)
 (hm:∀b,g b= .none→g' b≠.none→E.w0.heap.size≤b∨E.may b)
 (hu:∀b b' k i j,g' b= .own k i j→g' b'= .own k i j→b=b')
 (hs:∀b,g b= .none→g' b= .imm→E.w0.heap.size≤b∨E.may b→Plain w b):Rel E g' w a σ:=by
 have hS:∀sh b,Imm g sh b→Imm g' sh b∧w.heap[b]? =w.heap[b]? :=fun sh b hb=>by
  refine⟨?_,rfl⟩
  unfold Imm
  rw[hk b (by rcases hb with hb|⟨_,hb⟩<;>rw[hb]<;>intro e<;>cases e)]
  exact hb
 have hO:∀k b i j,g b= .own k i j→g' b= .own k i j∧w.heap[b]? =w.heap[b]? :=fun k b i j hb=>⟨(hk b (by rw[hb];intro e;cases e)).trans hb,rfl⟩
 have hW:∀b,g b= .weak→g' b= .weak∧w.heap[b]? =w.heap[b]? :=fun b hb=>⟨(hk b (by rw[hb];intro e;cases e)).trans hb,rfl⟩
 exact
  {defers:=h.defers
   os:=h.os
   tape:=h.tape
   output:=h.output
   size:=h.size
   old:=h.old
   many:=h.many
   slot:=fun t=>(h.slot t).to hS (hO _)
   cell:=fun t=>(h.cell t).to hS (hO _)
   fresh:=hf
   mine:=fun b k i j e=>by
    by_cases hn:g b= .none
    ·exact hm b hn (by rw[e];intro e;cases e)
    ·rw[hk b hn]at e;exact h.mine b k i j e
   uniq:=hu
   elder:=fun b hb hmm=>by
    by_cases hn:g b= .none
    ·by_cases hn':g' b= .none
     ·rw[hn',←hn];exact h.elder b hb hmm
     ·rcases hm b hn hn' with e|e
      ·omega
      ·exact absurd e hmm
    ·rw[hk b hn];exact h.elder b hb hmm
   soft:=fun b hb e=>by
    by_cases hn:g b= .none
    ·exact hs b hn e hb
    ·rw[hk b hn]at e;exact h.soft b hb e
   wild:=fun b e=>by
    by_cases hn:g b= .none
    ·exact hm b hn (by rw[e];intro e;cases e)
    ·rw[hk b hn]at e;exact h.wild b e}
def tag1 (g:Nat→Tag)(b:Nat)(t:Tag):Nat→Tag:=fun b'=>if b'=b then t else g b'
theorem m9 (g:Nat→Tag)(b:Nat)(t:Tag):tag1 g b t b=t:=by simp[tag1]
variable {b b':Nat}
theorem D9 (g:Nat→Tag)(t:Tag)(h:b'≠b):tag1 g b t b'=g b':=by simp[tag1,h]
theorem Rel.tag1 {E:Env}{g:Nat→Tag}{w:World}{a:Act}{σ:St}(h:Rel E g w a σ)(b:Nat)(t:Tag)(hn:g b= .none)(hlt:b<w.heap.size)
 (hm:E.w0.heap.size≤b∨E.may b) (hu:∀b' k i j,t= .own k i j→g b'≠.own k i j) (hs:t= .imm→Plain w b:=by intro e;cases e):Rel E (tag1 g b t) w a σ:=by
 refine h.tags ?_ ?_ ?_ ?_ ?_
 ·intro b' hb';rw[D9];intro e;subst e;exact hb' hn
 ·intro b' hb';rw[D9 _ _ (by omega)];exact h.fresh b' hb'
 ·intro b' hb' e
  by_cases eb:b'=b
  ·subst eb;exact hm
  ·rw[D9 _ _ eb]at e;exact absurd hb' e
 ·intro b1 b2 k i j e1 e2
  by_cases h1:b1=b
  ·subst h1
   rw[m9]at e1
   by_cases h2:b2=b1
   ·exact h2.symm
   ·rw[D9 _ _ h2]at e2;exact absurd e2 (hu b2 k i j e1)
  ·rw[D9 _ _ h1]at e1
   by_cases h2:b2=b
   ·subst h2;rw[m9]at e2;exact absurd e1 (hu b1 k i j e2)
   ·rw[D9 _ _ h2]at e2;exact h.uniq b1 b2 k i j e1 e2
 ·intro b' hb' e he
  by_cases eb:b'=b
  ·subst eb;rw[m9]at e;exact hs e
  ·rw[D9 _ _ eb,hb']at e;cases e
theorem Imm.tag1 {g:Nat→Tag}{b:Nat}{t:Tag}(hn:g b= .none){sh:Bool}{b':Nat}(h:Imm g sh b'):Imm (tag1 g b t) sh b':=by
 have hne:b'≠b:=by
  intro e;subst e
  rcases h with h|⟨_,h⟩<;>rw[hn]at h<;>cases h
 unfold Imm;rw[D9 _ _ hne];exact h
theorem a4u {t:Tag}(hn:g b= .none)(h:g b'= .weak):V.tag1 g b t b'= .weak:=by
 rw[D9 _ _ (by intro e;subst e;rw[hn]at h;cases h)];exact h
theorem Rel.act (h:Rel E g w a σ)(d:Nat)(v:Value)(hh:σ (tk d)=Slot.hole):Rel E g w (a.put (some d) v) σ where
 defers:=N2.trans h.defers
 os:=h.os
 tape:=h.tape
 output:=h.output
 size:=h.size
 old:=h.old
 many:=T4.trans h.many
 slot t:=by
  by_cases e:t=d
  ·subst e;rw[hh];trivial
  ·rw[a5s t e];exact h.slot t
 cell:=h.cell
 fresh:=h.fresh
 mine:=h.mine
 uniq:=h.uniq
 elder:=h.elder
 soft:=h.soft
 wild:=h.wild
theorem Rel.putSlot (h:Rel E g w a σ)(t:Nat)(s:Slot)(hs:SlotRel g w (tk t) (a.tmps.getD t undef) s):Rel E g w a (upd σ (tk t) s) where
 defers:=h.defers
 os:=h.os
 tape:=h.tape
 output:=h.output
 size:=h.size
 old:=h.old
 many:=h.many
 slot t':=by
  by_cases e:tk t'=tk t
  ·simp only[upd];rw[if_pos e,Z0 e];exact hs
  ·simp only[upd];rw[if_neg e];exact h.slot t'
 cell t':=by simp only[upd];rw[if_neg (v7 _ _).symm];exact h.cell t'
 fresh:=h.fresh
 mine:=h.mine
 uniq:=h.uniq
 elder:=h.elder
 soft:=h.soft
 wild:=h.wild
theorem Rel.putCell (h:Rel E g w a σ)(t:Nat)(s:Slot)(hs:CellRel g w (ck t) s):Rel E g w a (upd σ (ck t) s) where
 defers:=h.defers
 os:=h.os
 tape:=h.tape
 output:=h.output
 size:=h.size
 old:=h.old
 many:=h.many
 slot t':=by simp only[upd];rw[if_neg (v7 _ _)];exact h.slot t'
 cell t':=by
  by_cases e:ck t'=ck t
  ·simp only[upd];rw[if_pos e,E9 e];exact hs
  ·simp only[upd];rw[if_neg e];exact h.cell t'
 fresh:=h.fresh
 mine:=h.mine
 uniq:=h.uniq
 elder:=h.elder
 soft:=h.soft
 wild:=h.wild
theorem j7 (σ:St)(k:Nat)(s s':Slot):upd (upd σ k s) k s'=upd σ k s':=by
 funext k';simp only[upd];split<;>rfl
variable {k k':Nat}
theorem E0 (σ:St)(s s':Slot)(h:k≠k'):upd (upd σ k s) k' s'=upd (upd σ k' s') k s:=by
 funext x;simp only[upd];split<;>split<;>first|rfl|(subst_vars;exact absurd rfl h)
theorem a8 (σ:St)(k:Nat)(s:Slot):upd σ k s k=s:=by simp[upd]
theorem d4 (σ:St)(s:Slot)(h:k'≠k):upd σ k s k'=σ k':=by simp[upd,h]
theorem Rel.alloc (h:Rel E g w a σ)(o:Obj):Rel E g {w with heap:=w.heap.push o} a σ:=
 h.world rfl rfl rfl (by simp) fun b hb=> .inl (by simp[Array.getElem?_push,Nat.ne_of_lt hb])
theorem D2 {i j:Nat}(h:g b= .own k i j):drop k g b= .none:=by
 unfold drop;rw[h];simp
theorem a7B (h:∀i j,g b≠.own k i j):drop k g b=g b:=by
 unfold drop
 cases e:g b with
 |own x y z=>
  by_cases hx:x=k
  ·subst hx;exact absurd e (h y z)
  ·simp[hx]
 |_=>rfl
theorem d7 (h:g b= .none):drop k g b= .none:=by
 rw[a7B (by rw[h];intro i j e;cases e),h]
end Go.Proofs.Ytjfjdgjhihgdkaa.V
namespace Go.Proofs.Ytjfjdgjhihgdkaa.V
open Go
def Turn (E:Env)(σ:St)(R:St→Prop):Prop:=∀g w a,Rel E g w a σ→∃g' τ,R τ∧Rel E g' w a τ
variable {E:Env} {σ:St}
theorem Turn.weaken {τ:St}(h:∀k,τ k=σ k∨τ k=Slot.hole):Turn E σ (·=τ):=fun g w a hr=>⟨g,τ,rfl,hr.weaken h⟩
def OpsW (P:Program)(E:Env)(ops:Array Oper)(l:List Nat)(σ:St)(R:St→Prop):Prop:=
 ∀g w a (Q:Exit→Act→World→Prop),Rel E g w a σ→(∀g' w' a' τ,R τ→Rel E g' w' a' τ→Q .normal a' w')→wpOps P ops Q l a w
variable {P:Program} {ops:Array Oper}
theorem a7l {R:St→Prop}(h:R σ):OpsW P E ops [] σ R:=fun g w a Q hr hq=>hq g w a σ h hr
variable {l:List Nat} {M:St→Prop}
theorem a6A {R:St→Prop}(ht:Turn E σ M)(h:∀τ,M τ→OpsW P E ops l τ R):OpsW P E ops l σ R:=
 fun g w a Q hr hq=>let⟨g',τ,hm,hr'⟩:=ht g w a hr;h τ hm g' w a Q hr' hq
variable {i:Nat} {o:Oper}
theorem a6v {R:St→Prop}(ho:ops[i]? =some o)(hg:o.guard=none)
 (hs:Step P E o σ M) (h:∀τ,M τ→OpsW P E ops l τ R):OpsW P E ops (i::l) σ R:=by
 intro g w a Q hr hq
 simp only[wpOps,ho]
 rw[if_pos (by simp[Region.wanted,hg])]
 exact .inl (hs g w a _ Q hr fun g' w' a' τ hm hr'=>h τ hm g' w' a' Q hr' hq)
variable {g:Nat→Tag} {w:World} {a:Act} {j d:Nat} {oj:Oper} {b sh:Bool}
theorem R4 (h:Rel E g w a σ)(hj:ops[j]? =some oj)(hd:oj.dst=some d)
 (hn:d<E.n) (hs:σ (tk d)= .lf (.im sh (.bool b))):yielded ops a.tmps j=some b:=by
 have e:=K8 h (x:= .tmp d) hs
 have e2:a.tmps.getD d undef= .bool b:=e
 have hlt:d<a.tmps.size:=by rw[h.many];exact hn
 have e3:a.tmps[d]? =some (.bool b):=by
  rw[Array.getElem?_eq_getElem hlt]
  rw[Array.getD_eq_getD_getElem?,Array.getElem?_eq_getElem hlt]at e2
  simpa using e2
 simp[yielded,hj,hd,e3]
variable {want:Bool}
theorem a4L {R:St→Prop}(ho:ops[i]? =some o)(hg:o.guard=some (j,want))
 (hj:ops[j]? =some oj) (hd:oj.dst=some d) (hn:d<E.n) (hs:σ (tk d)= .lf (.im sh (.bool b))) (hb:b=want)
 (hst:Step P E o σ M) (h:∀τ,M τ→OpsW P E ops l τ R):OpsW P E ops (i::l) σ R:=by
 intro g w a Q hr hq
 simp only[wpOps,ho]
 rw[if_pos (by simp[Region.wanted,hg,R4 hr hj hd hn hs,hb])]
 exact .inl (hst g w a _ Q hr fun g' w' a' τ hm hr'=>h τ hm g' w' a' Q hr' hq)
def Skips (want:Bool):Slot→Prop
 | .one (.lf (.im _ (.bool b)))=>b= !want
 | .tup []=>True
 |_=>False
theorem L4 (h:Rel E g w a σ)(hj:ops[j]? =some oj)(hd:oj.dst=some d)
 (hn:d<E.n) (hs:Skips want (σ (tk d))):(yielded ops a.tmps j==some want)=false:=by
 unfold Skips at hs
 split at hs
 ·rename_i sh b e
  rw[R4 h hj hd hn e,hs]
  cases want<;>rfl
 ·rename_i e
  have h1:=h.slot d
  rw[e]at h1
  obtain⟨vs,h2,h3,-⟩:=h1
  have hlt:d<a.tmps.size:=by rw[h.many];exact hn
  have e3:a.tmps[d]? =some (.tuple vs):=by
   rw[Array.getElem?_eq_getElem hlt]
   rw[Array.getD_eq_getD_getElem?,Array.getElem?_eq_getElem hlt]at h2
   simpa using h2
  simp[yielded,hj,hd,e3]
 ·exact hs.elim
theorem Rel.skipTo (hr:Rel E g w a σ)(e:Nat):Rel E (drop (tk e) g) w (a.put (some e) undef) (upd σ (tk e) (.tup [])):=by
 have h:=((hr.forget (tk e)).act e undef (a8 ..)).putSlot e (.tup []) ?_
 ·rwa[j7]at h
 ·have e1:(a.put (some e) undef).tmps.getD e undef=undef:=by
   simp only[Act.put,Array.getD_eq_getD_getElem?]
   rw[Array.getElem?_setIfInBounds]
   simp
   split<;>simp
  rw[e1]
  exact⟨#[],rfl,rfl,fun i p x h=>by simp at h⟩
theorem a5T {R:St→Prop}(ho:ops[i]? =some o)(hg:o.guard=some (j,want))
 (hj:ops[j]? =some oj) (hd:oj.dst=some d) (hn:d<E.n) (hs:Skips want (σ (tk d))) (e:Nat) (hde:o.dst=some e)
 (h:OpsW P E ops l (upd σ (tk e) (.tup [])) R):OpsW P E ops (i::l) σ R:=by
 intro g w a Q hr hq
 simp only[wpOps,ho]
 rw[if_neg (by simp only[Region.wanted,hg,L4 hr hj hd hn hs];exact Bool.false_ne_true),hde]
 exact h _ w _ Q (hr.skipTo e) hq
def VW (P:Program)(E:Env)(c:Code)(σ:St)(R:Exit→St→Prop):Prop:=
 ∀g w a (Q:Exit→Act→World→Prop),Rel E g w a σ→(∀e g' w' a' τ,R e τ→Rel E g' w' a' τ→Q e a' w')→c.wp P Q a w
variable {c:Code} {R:Exit→St→Prop}
theorem D8 (ht:Turn E σ M)(h:∀τ,M τ→VW P E c τ R):VW P E c σ R:=
 fun g w a Q hr hq=>let⟨g',τ,hm,hr'⟩:=ht g w a hr;h τ hm g' w a Q hr' hq
theorem VW.mono {R':Exit→St→Prop}(h:VW P E c σ R)(hR:∀e τ,R e τ→R' e τ):VW P E c σ R':=
 fun g w a Q hr hq=>h g w a Q hr fun e g' w' a' τ hrr hr'=>hq e g' w' a' τ (hR e τ hrr) hr'
theorem a7n (h:R .normal σ):VW P E .skip σ R:=fun g w a Q hr hq=>wp_skip (hq _ g w a σ h hr)
theorem vw_ret (h:R .ret σ):VW P E .ret σ R:=fun g w a Q hr hq=>wp_ret (hq _ g w a σ h hr)
variable {id:Nat}
theorem a7c (h:R (.exit id) σ):VW P E (.exit id) σ R:=fun g w a Q hr hq=>wp_exit (hq _ g w a σ h hr)
theorem a4Z (h:OpsW P E ops (List.range ops.size) σ (R .normal)):VW P E (.region id ops false) σ R:=
 fun g w a Q hr hq=>wp_region (h g w a Q hr fun g' w' a' τ hm hr'=>hq _ g' w' a' τ hm hr')
def seqR (next:St→Prop)(R:Exit→St→Prop):Exit→St→Prop
 | .normal,τ=>next τ
 |e,τ=>R e τ
variable {x y:Code}
theorem vw_seq (h:VW P E x σ (seqR (fun τ=>VW P E y τ R) R)):VW P E (.seq x y) σ R:=by
 intro g w a Q hr hq
 refine wp_seq (h g w a _ hr ?_)
 intro e g' w' a' τ hm hr'
 cases e with
 |normal=>exact hm g' w' a' Q hr' hq
 |exit id=>exact hq _ g' w' a' τ hm hr'
 |goto l=>exact hq _ g' w' a' τ hm hr'
 |ret=>exact hq _ g' w' a' τ hm hr'
 |panic c=>exact hq _ g' w' a' τ hm hr'
 |outgrown=>exact hq _ g' w' a' τ hm hr'
theorem a7k {c:Operand}(hc:opd σ c= .lf (.im sh (.bool b)))
 (ht:b=true→VW P E x σ R) (hf:b=false→VW P E y σ R):VW P E (.cond c x y) σ R:=by
 intro g w a Q hr hq
 refine wp_cond (K8 hr hc) ?_
 cases b with
 |true=>exact ht rfl g w a Q hr hq
 |false=>exact hf rfl g w a Q hr hq
def blockR (id:Nat)(R:Exit→St→Prop):Exit→St→Prop
 | .exit i,τ=>if i=id then R .normal τ else R (.exit i) τ
 |e,τ=>R e τ
theorem a56 (h:VW P E c σ (blockR id R)):VW P E (.block id c) σ R:=by
 intro g w a Q hr hq
 refine wp_block (h g w a _ hr ?_)
 intro e g' w' a' τ hm hr'
 cases e with
 |exit i=>
  by_cases e:i=id
  ·simp only[blockR,e,if_true]at hm
   simp only[Exit.inBlock,e,if_true]
   exact hq _ g' w' a' τ hm hr'
  ·simp only[blockR,e,if_false]at hm
   simp only[Exit.inBlock,e,if_false]
   exact hq _ g' w' a' τ hm hr'
 |normal=>exact hq _ g' w' a' τ hm hr'
 |goto l=>exact hq _ g' w' a' τ hm hr'
 |ret=>exact hq _ g' w' a' τ hm hr'
 |panic c=>exact hq _ g' w' a' τ hm hr'
 |outgrown=>exact hq _ g' w' a' τ hm hr'
theorem a7j (I:Nat→St→Prop)(n:Nat)(h0:I n σ)
 (round:∀n τ,I n τ→VW P E c τ (seqR (fun τ'=>∃m,m<n∧I m τ') R)):VW P E (.loop c) σ R:=by
 intro g w a Q hr hq
 refine wp_loop_ghost (fun n a w=>∃g τ,I n τ∧Rel E g w a τ) n ⟨g,σ,h0,hr⟩ ?_
 rintro n a w ⟨g,τ,hi,hr⟩
 refine round n τ hi g w a _ hr ?_
 intro e g' w' a' τ' hm hr'
 cases e with
 |normal=>obtain⟨m,hm,hi⟩:=hm;exact⟨m,hm,g',τ',hi,hr'⟩
 |exit id=>exact hq _ g' w' a' τ' hm hr'
 |goto l=>exact hq _ g' w' a' τ' hm hr'
 |ret=>exact hq _ g' w' a' τ' hm hr'
 |panic c=>exact hq _ g' w' a' τ' hm hr'
 |outgrown=>exact hq _ g' w' a' τ' hm hr'
end Go.Proofs.Ytjfjdgjhihgdkaa.V
namespace Go.Proofs.Ytjfjdgjhihgdkaa.V
open Go Go.RowKit
def CallV (P:Program)(f:FuncId)(args:List Part)(R:Slot→Prop):Prop:=
 ∀(g:Nat→Tag) (w:World) (vs:Array Value),Lw w→(∀b k i j,g b≠.own k i j)→(∀b,g b≠.weak)→(∀b,w.heap.size≤b→g b= .none)→vs.size=args.length→
  (∀(i:Nat) p v,args[i]? =some p→vs[i]? =some v→PartRel g w 0 i v p)→
  Calls P f vs w fun e w'=>∃v g' s,e= .returned v∧Below w.heap.size w w'∧R s∧SlotRel g' w' 0 v s∧(∀b,b<w.heap.size→g' b=g b)∧
   (∀b,w'.heap.size≤b→g' b= .none)∧(∀b k i j,g' b= .own k i j→k=0)∧(∀b b' k i j,g' b= .own k i j→g' b'= .own k i j→b=b')∧(∀b,w.heap.size≤b→g' b= .imm→Plain w' b)
variable {P:Program}
theorem CallV.mono {f:FuncId}{args:List Part}{R R':Slot→Prop}(h:CallV P f args R)(hR:∀s,R s→R' s):CallV P f args R':=
 fun g w vs h0 h1 hw h2 h3 h4=>(h g w vs h0 h1 hw h2 h3 h4).mono fun _ _ ⟨v,g',s,a,b,c,d⟩=>⟨v,g',s,a,b,hR s c,d⟩
def st0 (args:List Part):St:=fun k=>if k%2=0 then((args[k/2]?).map Slot.one).getD Slot.hole else Slot.hole
def resPart (τ:St):ResultVar→Option Part
 | .tmp t=>match τ (tk t)with
  | .one p=>some p
  |_=>none
 | .cell a _=>match τ (ck a),τ (tk a)with
  | .cell b ls,.one (.lf (.ptr b' 0))=>if b=b'∧ls.all Leaf.bare=true then some (.agg ls)else none
  |_,_=>none
def resParts (τ:St):List ResultVar→Option (List Part)
 |[]=>some []
 |r::rs=>match resPart τ r,resParts τ rs with
  |some p,some ps=>some (p::ps)
  |_,_=>none
def slotOf :List Part→Slot
 |[p]=> .one p
 |ps=> .tup ps
def isTmp (k:Nat):ResultVar→Bool
 | .tmp t=>tk t==k
 |_=>false
def resIdx (k:Nat):List ResultVar→Nat→Option Nat
 |[],_=>none
 |r::rs,i=>if isTmp k r then some i else resIdx k rs (i+1)
theorem a0l {k:Nat}:∀(rs:List ResultVar) (i j:Nat),resIdx k rs i=some j→i≤j
 |[],_,_,h=>by cases h
 |r::rs,i,j,h=>by
  unfold resIdx at h
  split at h
  ·cases h;exact Nat.le_refl _
  ·have:=a0l rs (i+1) j h;omega
theorem a07 {k k':Nat}:∀(rs:List ResultVar) (i j:Nat),resIdx k rs i=some j→resIdx k' rs i=some j→k=k'
 |[],_,_,h,_=>by cases h
 |r::rs,i,j,h,h'=>by
  unfold resIdx at h h'
  by_cases e:isTmp k r=true
  ·rw[if_pos e]at h
   cases h
   by_cases e':isTmp k' r=true
   ·cases r<;>simp[isTmp]at e e'
    rw[←e,←e']
   ·rw[if_neg e']at h'
    have:=a0l rs _ _ h';omega
  ·rw[if_neg e]at h
   by_cases e':isTmp k' r=true
   ·rw[if_pos e']at h'
    cases h'
    have:=a0l rs _ _ h;omega
   ·rw[if_neg e']at h'
    exact a07 rs (i+1) j h h'
def retag (rs:List ResultVar)(g:Nat→Tag):Nat→Tag:=fun b=>match g b with
 | .own k 0 j=>match resIdx k rs 0 with
  |some i=> .own 0 i j
  |none=> .none
 | .own _ (_+1) _=> .none
 |t=>t
variable {rs:List ResultVar} {g:Nat→Tag} {b:Nat}
theorem X4 {k i j:Nat}(h:retag rs g b= .own k i j):k=0∧∃k',g b= .own k' 0 j∧resIdx k' rs 0=some i:=by
 unfold retag at h
 cases e:g b with
 |none=>rw[e]at h;cases h
 |imm=>rw[e]at h;cases h
 |lent=>rw[e]at h;cases h
 |weak=>rw[e]at h;cases h
 |own x y z=>
  rw[e]at h
  cases y with
  |zero=>
   simp only at h
   split at h
   ·rename_i i' hi;cases h;exact⟨rfl,x,rfl,hi⟩
   ·cases h
  |succ y=>cases h
theorem a2c {sh:Bool}(h:Imm g sh b):Imm (retag rs g) sh b:=by
 unfold Imm retag
 rcases h with h|⟨e,h⟩
 ·rw[h];exact .inl rfl
 ·rw[h];exact .inr ⟨e,rfl⟩
theorem a0J (h:g b= .weak):retag rs g b= .weak:=by unfold retag;rw[h]
def resSem (a:Act):ResultVar→Sem Value
 | .tmp t=>pure (a.tmps.getD t undef)
 | .cell x t=>do loadVar t (←asAddr (a.tmps.getD x undef))
theorem a60 {E:Env}{w:World}{a:Act}{τ:St}(h:Rel E g w a τ)(rs:List ResultVar)(i:Nat)(r:ResultVar)(p:Part)(hp:resPart τ r=some p)
 (hi:∀t,r= .tmp t→resIdx (tk t) rs 0=some i) (hty:∀t ty,r= .cell t ty→∃sz,Ty P ty sz true∧∀ls,p= .agg ls→ls.length=sz):
 ∃v,(resSem a r).run P w= .ok v w∧PartRel (retag rs g) w 0 i v p:=by
 cases r with
 |tmp t=>
  refine⟨_,rfl,?_⟩
  have hs:=h.slot t
  simp only[resPart]at hp
  split at hp
  ·rename_i p' e
   cases hp
   rw[e]at hs
   refine PartRel.to hs (fun sh b hb=>⟨a2c hb,rfl⟩) (fun b j hb=>⟨?_,rfl⟩) fun b hb=>⟨a0J hb,rfl⟩
   unfold retag;rw[hb];simp[hi t rfl]
  ·cases hp
 |cell x ty=>
  simp only[resPart]at hp
  split at hp
  ·rename_i b ls b' e1 e2
   split at hp
   ·rename_i hc
    obtain⟨rfl,hbare⟩:=hc
    cases hp
    have hs:=h.slot x
    have hcell:=h.cell x
    rw[e2]at hs
    rw[e1]at hcell
    obtain⟨cur,e,hg,hh,hl⟩:=hcell
    obtain⟨sz,hT,hsz⟩:=hty x ty rfl
    have hlen:=hsz ls rfl
    have hv:a.tmps.getD x undef= .pointer (some ⟨b,0,none⟩):=hs
    refine⟨.agg cur,?_,cur,rfl,hl.1,fun j l v h1 h2=>(hl.2 j l v h1 h2).bare (List.all_eq_true.1 hbare l (List.mem_of_getElem? h1)) (fun sh b hb=>a2c hb) fun b hb=>a0J hb⟩
    have hrun:=C1 (P:=P) (w:=w) hT b 0 cur.toList (by rw[Array.length_toList,hl.1,hlen]) (by intro e;cases e) (fun j x hj=>by
     have:cur[j]? =some x:=by simpa using hj
     simp[World.cell?,hh,this])
    simp only[resSem,hv,asAddr,Sem.run_bind,Sem.run_pure,Result.andThen_ok]
    simpa using hrun
   ·cases hp
  ·cases hp
def resLen (P:Program)(ps:List Part)(rs:List ResultVar):Prop:=∀(i:Nat) t ty p,rs[i]? =some (.cell t ty)→ps[i]? =some p→∃sz,Ty P ty sz true∧∀ls,p= .agg ls→ls.length=sz
theorem a1g {P:Program}{E:Env}{g:Nat→Tag}{w:World}{a:Act}{τ:St}(h:Rel E g w a τ)(all:List ResultVar):
 ∀(rs:List ResultVar) (k:Nat) (ps:List Part),resParts τ rs=some ps→(∀(i:Nat) t,rs[i]? =some (.tmp t)→resIdx (tk t) all 0=some (k+i))→resLen P ps rs→
 ∃vs:List Value,vs.length=ps.length∧(rs.mapM (resSem a)).run P w= .ok vs w∧
  ∀(i:Nat) p v,ps[i]? =some p→vs[i]? =some v→PartRel (retag all g) w 0 (k+i) v p
 |[],k,ps,hp,_,_=>by cases hp;exact⟨[],rfl,rfl,fun i p v h=>by simp at h⟩
 |r::rs,k,ps,hp,hi,hl=>by
  simp only[resParts]at hp
  split at hp
  ·rename_i p ps' e1 e2
   cases hp
   obtain⟨v,hv,hr⟩:=a60 (P:=P) h all k r p e1 (fun t e=>by simpa using hi 0 t (by simp[e])) (fun t ty e=>hl 0 t ty p (by simp[e]) rfl)
   obtain⟨vs,hvl,hvs,hrs⟩:=a1g h all rs (k+1) ps' e2 (fun i t e=>by have:=hi (i+1) t (by simpa using e);rwa[show k+(i+1)=k+1+i from by omega]at this) (fun i t ty p h1 h2=>hl (i+1) t ty p (by simpa using h1) (by simpa using h2))
   refine⟨v::vs,by simp[hvl],?_,fun i p' v' h1 h2=> ?_⟩
   ·rw[List.mapM_cons,Sem.run_bind,hv,Result.andThen_ok,Sem.run_bind,hvs];rfl
   ·cases i with
    |zero=>simp at h1 h2;subst h1;subst h2;exact hr
    |succ i=>have:=hrs i p' v' (by simpa using h1) (by simpa using h2);rwa[show k+1+i=k+(i+1)from by omega]at this
  ·cases hp
end Go.Proofs.Ytjfjdgjhihgdkaa.V
namespace Go.Proofs.Ytjfjdgjhihgdkaa.V
open Go Go.RowKit
def tupOf :List Value→Value
 |[v]=>v
 |vs=> .tuple vs.toArray
variable {P:Program} {w:World}
theorem I2 (fn:Func)(a:Act)(vs:List Value)(h:(fn.results.toList.mapM (resSem a)).run P w= .ok vs w):
 (results fn a.tmps).run P w= .ok (tupOf vs) w:=by
 unfold results
 have e:(fun(x:ResultVar)=>(match x with| .tmp t=>pure (a.tmps.getD t undef)| .cell x t=>do loadVar t (←asAddr (a.tmps.getD x undef)):Sem Value))=resSem a:=by
  funext x;cases x<;>rfl
 rw[Sem.run_bind,Array.mapM_eq_mapM_toList]
 have e2:(fn.results.toList.mapM fun x=>(match x with| .tmp t=>pure (a.tmps.getD t undef)| .cell x t=>do loadVar t (←asAddr (a.tmps.getD x undef)):Sem Value))=fn.results.toList.mapM (resSem a):=by rw[e]
 rw[Sem.run_map]
 erw [e2]
 rw[h]
 simp only[Result.andThen_ok]
 match vs with
 |[]=>rfl
 |[v]=>rfl
 |v::v'::rest=>rfl
theorem R6 {g:Nat→Tag}{ps:List Part}{vs:List Value}(hl:vs.length=ps.length)(h:∀(i:Nat) p v,ps[i]? =some p→vs[i]? =some v→PartRel g w 0 i v p):
 SlotRel g w 0 (tupOf vs) (slotOf ps):=by
 match ps,vs,hl with
 |[],[],_=>exact⟨#[],rfl,rfl,fun i p x h=>by simp at h⟩
 |[p],[v],_=>exact h 0 p v rfl rfl
 |p::p'::ps,v::v'::vs,hl=>
  refine⟨(v::v'::vs).toArray,rfl,by simpa using hl,fun i q x h1 h2=> ?_⟩
  exact h i q x h1 (by simpa using h2)
theorem CallV.body {f:FuncId}{fn:Func}{c:Code}{args:List Part}{R:Slot→Prop}(hf:P.funcs[f]? =some fn)(hb:fn.body=some c)(hn:args.length≤fn.ntmps)
 (h:∀E:Env,E.n=fn.ntmps→(∀b,¬E.may b)→VW P E c (st0 args) fun e τ=>(e= .ret∨e= .normal)∧∃ps,resParts τ fn.results.toList=some ps∧
  (∀(i:Nat) t,fn.results.toList[i]? =some (.tmp t)→resIdx (tk t) fn.results.toList 0=some i)∧resLen P ps fn.results.toList∧R (slotOf ps)):CallV P f args R:=by
 intro g w vs hlaid hown hnw hfresh hsz hargs
 refine calls_of_wp hf hb ?_
 refine h ⟨w,fn.ntmps,g,fun _=>False,fun w1 h=>Lw.stays (fun b hb=>h b hb id) hlaid⟩ rfl (fun _ h=>h) g w _ _ ?_ ?_
 ·exact
   {defers:=rfl
    os:=rfl
    tape:=rfl
    output:=rfl
    size:=Nat.le_refl _
    old:=fun _ _ _=>rfl
    many:=by simp;omega
    slot:=fun t=>by
     have ek:st0 args (tk t)=((args[t]?).map Slot.one).getD Slot.hole:=by
      unfold st0 tk;rw[if_pos (by omega),show 2*t/2=t from by omega]
     rw[ek]
     cases hp:args[t]? with
     |none=>exact trivial
     |some p=>
      have hlt:t<vs.size:=by rw[hsz];exact(List.getElem?_eq_some_iff.1 hp).1
      have hv:vs[t]? =some vs[t]:=Array.getElem?_eq_getElem hlt
      have:=hargs t p _ hp hv
      have e2:(vs++Array.replicate (fn.ntmps-vs.size) undef).getD t undef=vs[t]:=by
       rw[Array.getD_eq_getD_getElem?,Array.getElem?_append_left hlt,hv];rfl
      simp only[Option.map_some,Option.getD_some]
      rw[e2]
      exact this.to (fun sh b hb=>⟨hb,rfl⟩) fun b j hb=>absurd hb (hown b _ _ _)
    cell:=fun t=>by
     have ek:st0 args (ck t)=Slot.hole:=by unfold st0 ck;rw[if_neg (by omega)]
     rw[ek];exact trivial
    fresh:=hfresh
    mine:=fun b k i j e=>absurd e (hown b _ _ _)
    uniq:=fun b b' k i j e=>absurd e (hown b _ _ _)
    elder:=fun _ _ _=>rfl
    soft:=fun b hb e=>by
     rcases hb with hb|hb
     ·rw[hfresh b hb]at e;cases e
     ·exact hb.elim
    wild:=fun b e=>absurd e (hnw b)}
 ·rintro e g' w' a' τ ⟨he,ps,hps,hidx,hlen,hR⟩ hr
  obtain⟨vs',hvl,hrun,hrel⟩:=a1g (P:=P) hr fn.results.toList fn.results.toList 0 ps hps (fun i t hi=>by rw[Nat.zero_add];exact hidx i t hi) hlen
  have hres:=I2 (P:=P) fn a' vs' hrun
  have post:a'.defers=[]∧∃v,(results fn a'.tmps).run P w'= .ok v w'∧∃v' g' s,Ending.returned v= .returned v'∧Below w.heap.size w w'∧R s∧SlotRel g' w' 0 v' s∧(∀b,b<w.heap.size→g' b=g b)∧
   (∀b,w'.heap.size≤b→g' b= .none)∧(∀b k i j,g' b= .own k i j→k=0)∧(∀b b' k i j,g' b= .own k i j→g' b'= .own k i j→b=b')∧(∀b,w.heap.size≤b→g' b= .imm→Plain w' b):=by
   have hold:∀b,b<w.heap.size→g' b=g b:=fun b hb=>hr.elder b hb id
   refine⟨hr.defers,_,hres,_,retag fn.results.toList g',slotOf ps,rfl,⟨hr.os,hr.tape,hr.output,hr.size,fun b hb=>hr.old b hb id⟩,hR,R6 hvl (fun i p v h1 h2=>by have:=hrel i p v h1 h2;rwa[Nat.zero_add]at this),?_,?_,?_,?_,?_⟩
   ·intro b hb
    have:=hold b hb
    unfold retag
    cases e:g' b with
    |own x y z=>rw[e]at this;exact absurd this.symm (hown b _ _ _)
    |none=>rw[←this,e]
    |imm=>rw[←this,e]
    |lent=>rw[←this,e]
    |weak=>rw[←this,e]
   ·intro b hb;unfold retag;rw[hr.fresh b hb]
   ·intro b k i j e;exact(X4 e).1
   ·intro b b' k i j e e'
    obtain⟨_,k1,h1,i1⟩:=X4 e
    obtain⟨_,k2,h2,i2⟩:=X4 e'
    have:=a07 _ _ _ i1 i2
    subst this
    exact hr.uniq b b' k1 0 j h1 h2
   ·intro b hb e
    refine hr.soft b (.inl hb) ?_
    unfold retag at e
    cases eg:g' b with
    |imm=>rfl
    |none=>rw[eg]at e;cases e
    |lent=>rw[eg]at e;cases e
    |weak=>rw[eg]at e;cases e
    |own x y z=>
     rw[eg]at e
     cases y with
     |zero=>simp only at e;split at e<;>cases e
     |succ y=>cases e
  rcases he with rfl|rfl
  ·exact post
  ·exact post
end Go.Proofs.Ytjfjdgjhihgdkaa.V
namespace Go.Proofs.Ytjfjdgjhihgdkaa.V
open Go Go.RowKit
structure Text (P:Program)(f:FuncId):Prop where
 get:∃fn c,P.funcs[f]? =some fn∧fn.body=some c∧(fn.name== "runtime.NumGoroutine")=false
variable {P:Program}
theorem D4 {f:FuncId}(h:Text P f)(args:Array Value)(w:World):(callFunc f args).run P w= .ok (.enter f args) w:=by
 obtain⟨fn,c,h1,h2,h3⟩:=h.get
 have h3':¬fn.name= "runtime.NumGoroutine":=by simpa using h3
 simp[callFunc,h1,h2,h3']
def lendTags (g:Nat→Tag):Nat→Tag:=fun b=>match g b with
 | .own .. => .none
 | .weak=> .none
 |t=>t
theorem E4 (g:Nat→Tag)(b:Nat):lendTags g b≠.weak:=by unfold lendTags;cases g b<;>simp
def Leaf.firm :Leaf→Bool
 | .ap .. =>false
 |_=>true
def Part.firm :Part→Bool
 | .lf l=>l.firm
 | .agg ls=>ls.all Leaf.firm
variable {g g':Nat→Tag} {w:World} {k i k' i':Nat} {v:Value}
theorem LeafRel.firm {j j':Nat}{l:Leaf}(h:LeafRel g w k i j v l)(hb:l.bare=true)(hf:l.firm=true)
 (hS:∀sh b,Imm g sh b→Imm g' sh b):LeafRel g' w k' i' j' v l:=by
 cases l with
 |u b c e sz rows=>cases hb
 |ul b c e sz rows=>cases hb
 |ap b c e sz rows=>cases hf
 |im sh x=>exact SRep.mono h (fun _ _=>rfl) (fun b hb=>hS _ b hb)
 |nst sz rows i2 j2 b n c=>
  obtain⟨A,cap,hv,hc,hA,hn⟩:=h
  exact⟨A,cap,hv,hc,hS _ A hA,hn.to rfl fun b hb=>⟨hS _ b hb,rfl⟩⟩
 |sref sh row=>
  obtain⟨b,off,hv,hb,hr⟩:=h
  exact⟨b,off,hv,fun hne=>hS _ b (hb hne),fun j x hx=>let⟨y,hy,hry⟩:=hr j x hx;⟨y,hy,hry.mono (fun _ _=>rfl) (fun b hb=>hS _ b hb)⟩⟩
 |hd b n c=>exact h
 |ptr b off=>exact h
 |nil=>exact h
 |hole=>trivial
theorem PartRel.firm {p:Part}(h:PartRel g w k i v p)(hb:p.bare=true)(hf:p.firm=true)
 (hS:∀sh b,Imm g sh b→Imm g' sh b):PartRel g' w k' i' v p:=by
 cases p with
 |lf l=>exact LeafRel.firm h hb hf hS
 |agg ls=>
  obtain⟨cs,hv,hsz,hl⟩:=h
  refine⟨cs,hv,hsz,fun j l v h1 h2=>(hl j l v h1 h2).firm ?_ ?_ hS⟩
  ·exact List.all_eq_true.1 hb l (List.mem_of_getElem? h1)
  ·exact List.all_eq_true.1 hf l (List.mem_of_getElem? h1)
theorem U2 {sh:Bool}{b:Nat}:Imm (lendTags g) sh b↔Imm g sh b:=by
 unfold Imm lendTags;cases g b<;>simp
def backTags (n k:Nat)(g g1:Nat→Tag):Nat→Tag:=fun b=>if b<n then g b else match g1 b with
 | .own _ i j=> .own k i j
 |t=>t
def opParts (σ:St):List Operand→Option (List Part)
 |[]=>some []
 |x::xs=>match opd σ x,opParts σ xs with
  | .one p,some ps=>if p.bare&&p.firm then some (p::ps)else none
  |_,_=>none
theorem Z8 {E:Env}{g:Nat→Tag}{w:World}{a:Act}{σ:St}(h:Rel E g w a σ):∀{xs:List Operand} {ps:List Part},opParts σ xs=some ps→
 xs.length=ps.length∧∀(i:Nat) p v,ps[i]? =some p→(xs.map a.eval)[i]? =some v→PartRel (lendTags g) w 0 i v p
 |[],ps,e=>by cases e;exact⟨rfl,fun i p v h=>by simp at h⟩
 |x::xs,ps,e=>by
  simp only[opParts]at e
  split at e
  ·rename_i p ps' e1 e2
   split at e
   ·rename_i hb
    cases e
    obtain⟨hl,hg⟩:=Z8 h e2
    refine⟨by simp[hl],fun i q v h1 h2=> ?_⟩
    cases i with
    |zero=>
     simp at h1 h2;subst h1;subst h2
     have:=o9 h x
     rw[e1]at this
     rw[Bool.and_eq_true]at hb
     exact PartRel.firm this hb.1 hb.2 fun sh b hh=>U2.2 hh
    |succ i=>
     have:=hg i q v (by simpa using h1) (by simpa using h2)
     cases q with
     |lf l=>exact LeafRel.to this (fun sh b hb=>⟨hb,rfl⟩) (fun b hb=>by unfold lendTags at hb;cases e:g b<;>rw[e]at hb<;>cases hb) fun b hb=>absurd hb (E4 g b)
     |agg ls=>exact PartRel.to this (fun sh b hb=>⟨hb,rfl⟩) (fun b j hb=>by unfold lendTags at hb;cases e:g b<;>rw[e]at hb<;>cases hb) fun b hb=>absurd hb (E4 g b)
   ·cases e
  ·cases e
variable {E:Env} {σ:St}
theorem Rel.called {a:Act}(h:Rel E g w a σ)(d:Nat)(hn:d<E.n){w1:World}{g1:Nat→Tag}{s:Slot}(hb:Below w.heap.size w w1)
 (hs:SlotRel g1 w1 0 v s) (h1:∀b,b<w.heap.size→g1 b=lendTags g b) (h2:∀b,w1.heap.size≤b→g1 b= .none) (h3:∀b k i j,g1 b= .own k i j→k=0)
 (h4:∀b b' k i j,g1 b= .own k i j→g1 b'= .own k i j→b=b') (h5:∀b,w.heap.size≤b→g1 b= .imm→Plain w1 b):
 Rel E (backTags w.heap.size (tk d) (drop (tk d) g) g1) w1 (a.put (some d) v) (upd σ (tk d) s):=by
 have r1:=h.forget (tk d)
 have r2:Rel E (drop (tk d) g) w1 a (upd σ (tk d) Slot.hole):=r1.world hb.os hb.tape hb.output hb.size fun b hlt=> .inl (hb.block b hlt)
 have hlt:∀b,g b≠.none→b<w.heap.size:=fun b hn=>Nat.lt_of_not_le fun hle=>hn (h.fresh b hle)
 have r3:Rel E (backTags w.heap.size (tk d) (drop (tk d) g) g1) w1 a (upd σ (tk d) Slot.hole):=by
  refine r2.tags ?_ ?_ ?_ ?_ ?_
  ·intro b hb'
   have:b<w.heap.size:=Nat.lt_of_not_le fun hle=>hb' (r1.fresh b hle)
   simp[backTags,this]
  ·intro b hb'
   have:¬b<w.heap.size:=by have:=hb.size;omega
   simp[backTags,this,h2 b hb']
  ·intro b e1 e2
   by_cases hb':b<w.heap.size
   ·simp[backTags,hb',e1]at e2
   ·left;have:=h.size;omega
  ·intro b b' k i j e1 e2
   have key:∀b,backTags w.heap.size (tk d) (drop (tk d) g) g1 b= .own k i j→(b<w.heap.size∧drop (tk d) g b= .own k i j)∨(¬b<w.heap.size∧k=tk d∧g1 b= .own 0 i j):=by
    intro b e
    unfold backTags at e
    split at e
    ·rename_i hb';exact .inl ⟨hb',e⟩
    ·rename_i hb'
     cases eg:g1 b with
     |own x y z=>
      rw[eg]at e
      have hx:=h3 b x y z eg
      subst hx
      simp only[Tag.own.injEq]at e
      obtain⟨e1,e2,e3⟩:=e
      exact .inr ⟨hb',e1.symm,by rw[←e2,←e3]⟩
     |none=>rw[eg]at e;cases e
     |imm=>rw[eg]at e;cases e
     |lent=>rw[eg]at e;cases e
     |weak=>rw[eg]at e;cases e
   rcases key b e1 with⟨_,f1⟩|⟨_,k1,f1⟩<;>rcases key b' e2 with⟨_,f2⟩|⟨_,k2,f2⟩
   ·exact r1.uniq b b' k i j f1 f2
   ·exact absurd k2 (C6.1 f1).2
   ·exact absurd k1 (C6.1 f2).2
   ·exact h4 b b' 0 i j f1 f2
  ·intro b e1 e2 _
   unfold backTags at e2
   split at e2
   ·rw[e1]at e2;cases e2
   ·rename_i hb'
    cases eg:g1 b with
    |imm=>exact h5 b (by omega) eg
    |own x y z=>rw[eg]at e2;cases e2
    |none=>rw[eg]at e2;cases e2
    |lent=>rw[eg]at e2;cases e2
    |weak=>rw[eg]at e2;cases e2
 have r4:=(r3.act d v (a8 ..)).putSlot d s (by
  rw[n1 (by rw[h.many];exact hn)]
  refine hs.to (fun sh b hI=>⟨?_,rfl⟩) (fun b i j hO=>⟨?_,rfl⟩) (fun b hb=>⟨by
   by_cases hb':b<w.heap.size
   ·rw[h1 b hb']at hb;exact absurd hb (E4 g b)
   ·simp[backTags,hb',hb],rfl⟩)
  ·by_cases hb':b<w.heap.size
   ·have e:=h1 b hb'
    unfold Imm at hI⊢
    rw[e]at hI
    have hI':Imm g sh b:=U2.1 hI
    have hI2:=l8 (k:=tk d).2 hI'
    have eb:backTags w.heap.size (tk d) (drop (tk d) g) g1 b=drop (tk d) g b:=by simp[backTags,hb']
    rw[eb]
    exact hI2
   ·unfold Imm at hI⊢
    rcases hI with hI|⟨e,hI⟩
    ·left;simp[backTags,hb',hI]
    ·right;exact⟨e,by simp[backTags,hb',hI]⟩
  ·by_cases hb':b<w.heap.size
   ·rw[h1 b hb']at hO
    unfold lendTags at hO
    cases e:g b<;>rw[e]at hO<;>cases hO
   ·simp[backTags,hb',hO])
 rwa[j7]at r4
theorem Z9 {P:Program}{E:Env}{o:Oper}{σ:St}{R:Slot→Prop}(d:Nat)(f:FuncId)(xs:Array Operand)(ats:Array TypeId)(ps:List Part)
 (ho:o.op= .call {callee:= .value (.func f),args:=xs,argTypes:=ats}) (hd:o.dst=some d) (hn:d<E.n) (hf:Text P f) (hxs:opParts σ xs.toList=some ps) (hc:CallV P f ps R):
 Step P E o σ fun τ=>∃s,R s∧τ=upd σ (tk d) s:=by
 intro g w a next Q hr hnext
 have hrun:(execOp a.eval o).run P w= .ok (.enter f (xs.map a.eval)) w:=by
  have e:execOp a.eval o=callFunc f (xs.map a.eval):=by
   simp[execOp,ho,resolve,Deferred.ofValue,Act.eval,invoke]
  rw[e,D4 hf]
 unfold Oper.wp
 rw[hrun,Oper.upon_enter]
 obtain⟨hl,hargs⟩:=Z8 hr hxs
 refine(hc (lendTags g) w (xs.map a.eval) (E.laid w hr.old) ?_ (E4 g) ?_ ?_ ?_).mono ?_
 ·intro b k i j e;unfold lendTags at e;cases eg:g b<;>rw[eg]at e<;>cases e
 ·intro b hb;unfold lendTags;rw[hr.fresh b hb]
 ·simpa using hl
 ·intro i p v h1 h2
  refine hargs i p v h1 ?_
  have:(xs.map a.eval).toList[i]? =some v:=by simpa using h2
  simpa using this
 ·rintro e w1 ⟨v,g1,s,rfl,hb,hR,hs,h1,h2,h3,h4,h5⟩
  rw[hd]
  exact hnext _ w1 _ _ ⟨s,hR,rfl⟩ (hr.called d hn hb hs h1 h2 h3 h4 h5)
end Go.Proofs.Ytjfjdgjhihgdkaa.V
namespace Go.Proofs.Ytjfjdgjhihgdkaa.V
open Go Go.RowKit
def updL (σ:St):List (Nat×Slot)→St
 |[]=>σ
 |(k,s)::ws=>updL (upd σ k s) ws
structure It where
 i:Nat
 R:List Nat
 ws:List (Nat×Slot)
def LOp (P:Program)(E:Env)(ops:Array Oper)(t:It)(σ:St):Prop:=
 ∀τ,(∀k∈t.R,τ k=σ k)→∀g w a (Q:Exit→Act→World→Prop) (K:Act→World→Prop),Rel E g w a τ→
  (∀g' w' a',Rel E g' w' a' (updL τ t.ws)→K a' w')→wpOp P ops Q t.i K a w
theorem LOp.skip {P:Program}{E:Env}{ops:Array Oper}{i j d e:Nat}{σ:St}{o oj:Oper}{want:Bool}(ho:ops[i]? =some o)(hg:o.guard=some (j,want))
 (hj:ops[j]? =some oj) (hd:oj.dst=some d) (hn:d<E.n) (hs:Skips want (σ (tk d))) (hde:o.dst=some e):
 LOp P E ops ⟨i,[tk d],[(tk e,Slot.tup [])]⟩ σ:=by
 intro τ hτ g w a Q K hr hk
 simp only[wpOp,ho]
 have hs':Skips want (τ (tk d)):=by rw[hτ _ (by simp)];exact hs
 rw[if_neg (by simp only[Region.wanted,hg,L4 hr hj hd hn hs'];exact Bool.false_ne_true),hde]
 exact hk _ w _ (hr.skipTo e)
variable {E:Env} {g:Nat→Tag} {w:World} {a:Act} {σ:St} {x:Operand} {b:Nat}
theorem a0N (h:Rel E g w a σ){n c:Nat}(hx:opd σ x= .lf (.hd b n c)):a.eval x= .slice (some ⟨b,0,none⟩) n c:=by
 have:=o9 h x;rw[hx]at this;exact this
theorem G0 (h:Rel E g w a σ){off:Nat}(hx:opd σ x= .lf (.ptr b off)):a.eval x= .pointer (some ⟨b,off,none⟩):=by
 have:=o9 h x;rw[hx]at this;exact this
theorem J5 (h:Rel E g w a σ)(hx:opd σ x= .lf .nil):a.eval x= .slice none 0 0:=by
 have:=o9 h x;rw[hx]at this;exact this
variable {P:Program} {o:Oper}
theorem a4c (d t b c e sz:Nat)(rows:List (List SV))(ho:o.op= .move (.tmp t)∨o.op= .assign (.tmp t))(hd:o.dst=some d)(hn:d<E.n)(hx:σ (tk t)= .lf (.u b c e sz rows)):
 Step P E o σ (·=upd σ (tk d) (.lf (.hd b rows.length c))):=by
 refine Step.of_run fun g w a h=>⟨a.eval (.tmp t),w,drop (tk d) g,_,.inl ?_,rfl,?_⟩
 ·rcases ho with ho|ho<;>simp[execOp,ho]
 ·rw[hd]
  refine h.set d _ _ hn fun g' hg' hw'=> ?_
  have:=h.slot t
  rw[hx]at this
  exact this.1
theorem Rel.moveU (h:Rel E g w a σ)(d k i j b c e sz:Nat)(rows:List (List SV))(v:Value)(hn:d<E.n)(hk:σ k≠Slot.hole∨True)
 (hl:LeafRel g w k i j v (.u b c e sz rows)):∃g',Rel E g' w (a.put (some d) v) (upd (upd σ k Slot.hole) (tk d) (.lf (.u b c e sz rows))):=by
 obtain⟨hv,hg,hc,hm,cur,hh,hs,hr⟩:=hl
 have hlt:b<w.heap.size:=(Array.getElem?_eq_some_iff.1 hh).1
 have r1:=(h.forget k).forget (tk d)
 have hb1:drop k g b= .none:=D2 hg
 have hb2:drop (tk d) (drop k g) b= .none:=d7 hb1
 have r2:=r1.tag1 b (.own (tk d) 0 0) hb2 hlt (h.mine b k i j hg) (fun b' k' i' j' e=>by cases e;exact y4 _ _ _ _ _)
 have r3:=(r2.act d v (a8 ..)).putSlot d (.lf (.u b c e sz rows)) (by
  rw[n1 (by rw[h.many];exact hn)]
  refine⟨hv,m9 ..,hc,hm,cur,hh,hs,hr.to fun sh b' hb'=>⟨?_,rfl⟩⟩
  exact Imm.tag1 hb2 (l8.2 (l8.2 hb')))
 rw[j7]at r3
 exact⟨_,r3⟩
theorem a5I (d t b c e sz:Nat)(rows:List (List SV))(ho:o.op= .move (.tmp t)∨o.op= .assign (.tmp t))(hd:o.dst=some d)(hn:d<E.n)(hx:σ (tk t)= .lf (.u b c e sz rows)):
 Step P E o σ (·=upd (upd σ (tk t) Slot.hole) (tk d) (.lf (.u b c e sz rows))):=by
 refine Step.of_run fun g w a h=> ?_
 have hs:=h.slot t
 rw[hx]at hs
 obtain⟨g',hr⟩:=h.moveU d (tk t) 0 0 b c e sz rows (a.tmps.getD t undef) hn (.inr trivial) hs
 refine⟨a.tmps.getD t undef,w,g',_,.inl ?_,rfl,by rw[hd];exact hr⟩
 rcases ho with ho|ho<;>simp[execOp,ho,Act.eval]
theorem a5r (d:Nat)(x:Operand)(t b n c e sz:Nat)(rows:List (List SV))(ho:o.op= .move x∨o.op= .assign x)(hd:o.dst=some d)(hn:d<E.n)
 (hx:opd σ x= .lf (.hd b n c)) (ht:σ (tk t)= .lf (.u b c e sz rows)) (hl:n=rows.length):Step P E o σ (·=upd (upd σ (tk t) Slot.hole) (tk d) (.lf (.u b c e sz rows))):=by
 refine Step.of_run fun g w a h=> ?_
 have hs:=h.slot t
 rw[ht]at hs
 have hv:=a0N h hx
 have hvt:a.tmps.getD t undef= .slice (some ⟨b,0,none⟩) rows.length c:=hs.1
 obtain⟨g',hr⟩:=h.moveU d (tk t) 0 0 b c e sz rows (a.eval x) hn (.inr trivial) ⟨by rw[hv,hl],hs.2⟩
 refine⟨a.eval x,w,g',_,.inl ?_,rfl,by rw[hd];exact hr⟩
 rcases ho with ho|ho<;>simp[execOp,ho]
theorem Rel.newU (h:Rel E g w a σ)(d c e sz:Nat)(rows:List (List SV))(cur:Array Value)(hn:d<E.n)(hc:rows.length≤c)(hm:c≤maxLen)(hs:cur.size=c*sz)(hr:RowsIn g w cur sz rows):
 ∃g',Rel E g' {w with heap:=w.heap.push (.cells cur e (0,0))} (a.put (some d) (.slice (some ⟨w.heap.size,0,none⟩) rows.length c)) (upd σ (tk d) (.lf (.u w.heap.size c e sz rows))):=by
 have hfr:g w.heap.size= .none:=h.fresh _ (Nat.le_refl _)
 have r1:=(h.forget (tk d)).alloc (.cells cur e (0,0))
 have hb:drop (tk d) g w.heap.size= .none:=d7 hfr
 have r2:=r1.tag1 w.heap.size (.own (tk d) 0 0) hb (by simp) (.inl h.size) (fun b' k' i' j' e=>by cases e;exact y4 _ _ _ _ _)
 have r3:=(r2.act d (.slice (some ⟨w.heap.size,0,none⟩) rows.length c) (a8 ..)).putSlot d (.lf (.u w.heap.size c e sz rows)) (by
  rw[n1 (by rw[h.many];exact hn)]
  refine⟨rfl,m9 ..,hc,hm,cur,by simp,hs,hr.to fun sh b' hb'=>⟨Imm.tag1 hb (l8.2 hb'),?_⟩⟩
  have:b'<w.heap.size:=Nat.lt_of_not_le fun hle=>by rcases hb' with e|⟨_,e⟩<;>rw[h.fresh b' hle]at e<;>cases e
  simp[Array.getElem?_push,Nat.ne_of_lt this])
 rw[j7]at r3
 exact⟨_,r3⟩
def zeroIs :Value→SV→Bool
 | .int k n,.int k' n'=>k==k'&&n==n'
 | .bool b,.bool b'=>b==b'
 | .string s,.str s'=>s.data==s'.data
 | .slice Option.none 0 0,.sl _ []=>true
 |_,_=>false
structure Zero (P:Program)(t:TypeId)(sz:Nat)(zs:List SV):Prop where
 ok:∃(i:TypeInfo) (z:Value),P.info? t=some i∧i.zero=some z∧i.size=sz∧z.cells.size=sz∧zs.length=sz∧∀(j:Nat) v x,z.cells[j]? =some v→zs[j]? =some x→zeroIs v x=true
end Go.Proofs.Ytjfjdgjhihgdkaa.V
namespace Go.Proofs.Ytjfjdgjhihgdkaa.V
open Go Go.RowKit
variable {g:Nat→Tag} {w:World} {sz:Nat} {cur:Array Value} {rows:List (List SV)}
theorem RowsIn.data {b c e:Nat}(hr:RowsIn g w cur sz rows)(hh:w.heap[b]? =some (.cells cur e (0,0)))(hc:rows.length≤c)
 (S:Nat→Prop) (hS:∀x,g x= .imm→S x) (hb:S b):SRep S w (.slice (some ⟨b,0,none⟩) rows.length c) (.sl sz rows):=by
 refine .sl b 0 rows.length c sz rows (fun j=>cur.getD j undef) rfl hc hr.1 hb ?_ ?_
 ·intro i r j x h1 h2
  obtain⟨y,hy,_⟩:=hr.2 i r j x h1 h2
  simp[World.cell?,hh,hy,Array.getD_eq_getD_getElem?]
 ·intro i r j x h1 h2
  obtain⟨y,hy,hs⟩:=hr.2 i r j x h1 h2
  rw[Array.getD_eq_getD_getElem?,hy]
  exact hs.mono (fun _ _=>rfl) fun b hb=>hS b hb.sh
variable {E:Env} {σ:St}
theorem C0 (t b c e sz:Nat)(rows:List (List SV))(hx:σ (tk t)= .lf (.u b c e sz rows)):Turn E σ (·=upd σ (tk t) (.lf (.im true (.sl sz rows)))):=by
 intro g w a h
 have hs:=h.slot t
 rw[hx]at hs
 obtain⟨hv,hg,hc,hm,cur,hh,hsz,hr⟩:=hs
 have hlt:b<w.heap.size:=(Array.getElem?_eq_some_iff.1 hh).1
 have hb1:drop (tk t) g b= .none:=D2 hg
 have r2:=(h.forget (tk t)).tag1 b .imm hb1 hlt (h.mine b _ _ _ hg) (fun _ _ _ _ e=>by cases e) (fun _=>⟨_,_,hh⟩)
 have r3:=r2.putSlot t (.lf (.im true (.sl sz rows))) (by
  show SRep _ _ _ _
  rw[hv]
  refine hr.data hh hc _ (fun x hx=> .inl ?_) (.inl (m9 ..))
  have:Imm (tag1 (drop (tk t) g) b .imm) true x:=Imm.tag1 hb1 (l8.2 (.inl hx))
  exact this.sh)
 rw[j7]at r3
 exact⟨_,_,rfl,r3⟩
variable {S:Nat→Prop} {x:SV}
theorem SRep.oneCell {v:Value}(h:SRep S w v x):v.oneCell'=true:=by
 cases h<;>rfl
variable {i j:Nat}
theorem E6 {n:Nat}(hi:i<n)(hj:j<sz):i*sz+j<n*sz:=by
 have h1:(i+1)*sz≤n*sz:=Nat.mul_le_mul_right _ hi
 have h2:(i+1)*sz=i*sz+sz:=Nat.succ_mul i sz
 omega
theorem SRep.cells {a:Option Addr}{m cap:Nat}(h:SRep S w (.slice a m cap) (.sl sz rows))(hne:rows≠[])(hsz:0<sz):
 ∃ad,a=some ad∧m=rows.length∧∃news:List Value,news.length=rows.length*sz∧(∀(j:Nat) u,news[j]? =some u→w.cell? (ad.add j)=some u)∧(∀u∈news,u.oneCell'=true)∧
  ∀i r j x,rows[i]? =some r→r[j]? =some x→∃y,news[i*sz+j]? =some y∧SRep S w y x:=by
 generalize hx:SV.sl sz rows=x at h
 cases h with
 |nil sz' a cap=>cases hx;exact absurd rfl hne
 |sl b off n cap sz' rows' cv hn hc hw hS hcell hrep=>
  cases hx
  have dm:∀k,k<rows.length*sz→∃r x,rows[k/sz]? =some r∧r[k%sz]? =some x∧k=k/sz*sz+k%sz:=by
   intro k hk
   have h1:k/sz<rows.length:=Nat.div_lt_of_lt_mul (by rw[Nat.mul_comm];exact hk)
   have h2:k%sz<sz:=Nat.mod_lt _ hsz
   have h3:=hw rows[k/sz] (List.getElem_mem h1)
   refine⟨rows[k/sz],rows[k/sz][k%sz]'(by omega),List.getElem?_eq_getElem h1,List.getElem?_eq_getElem _,?_⟩
   have:=Nat.div_add_mod k sz
   rw[Nat.mul_comm]at this;omega
  refine⟨⟨b,off,none⟩,rfl,hn,(List.range (rows.length*sz)).map cv,by simp,?_,?_,?_⟩
  ·intro k u hu
   simp only[List.getElem?_map,Option.map_eq_some_iff]at hu
   obtain⟨k',hk',rfl⟩:=hu
   obtain⟨hlt,e0⟩:=List.getElem?_eq_some_iff.1 hk'
   simp only[List.length_range]at hlt
   simp only[List.getElem_range]at e0
   subst e0
   obtain⟨r,x,e1,e2,e3⟩:=dm k hlt
   rw[Addr.add_flat,e3]
   exact hcell _ _ _ _ e1 e2
  ·intro u hu
   simp only[List.mem_map,List.mem_range]at hu
   obtain⟨k,hk,rfl⟩:=hu
   obtain⟨r,x,e1,e2,e3⟩:=dm k hk
   rw[e3]
   exact(hrep _ _ _ _ e1 e2).oneCell
  ·intro i r j x h1 h2
   have hi:=(List.getElem?_eq_some_iff.1 h1).1
   have hj:=(List.getElem?_eq_some_iff.1 h2).1
   have hw':=hw r (List.mem_of_getElem? h1)
   refine⟨cv (i*sz+j),?_,hrep i r j x h1 h2⟩
   simp only[List.getElem?_map]
   rw[List.getElem?_range (E6 hi (by omega))]
   rfl
 |_=>cases hx
variable {P:Program}
theorem u4 (t ty e:TypeId)(i:TypeInfo)(ht:P.underlying t=some (.slice e))(hi:P.info? e=some i)(base:Option Addr)(n c:Nat)(hc:n≤c)(a:Option Addr)(cp:Nat):
 (Builtin.append_ #[t,t] ty #[.slice base n c,.slice a 0 cp]).run P w= .ok (.slice base n c) w:=by
 have hf:(Builtin.firstCells i.size 0 (.slice a 0 cp)).run P w= .ok #[] w:=by
  cases a<;>simp[Builtin.firstCells,loadCells,loadCellsFrom]
 cases base<;>simp[Builtin.append_,run_underlying ht,sizeOf,typeInfo,hi,Builtin.lenOf,hc,hf,storeCells]
structure Elem (P:Program)(t e sz bytes:Nat):Prop where
 und:P.underlying t=some (.slice e)
 ok:∃(i:TypeInfo) (z:Value),P.info? e=some i∧i.zero=some z∧i.size=sz∧i.bytes=bytes∧z.cells.size=sz
 pos:0<sz
def ScalarRows (rows:List (List SV)):Prop:=∀r∈rows,∀x∈r,x.isVal=true
theorem ScalarRows.im {sh:Bool}(h:sh=true∨ScalarRows rows){r:List SV}{y:Value}(h1:rows[i]? =some r)(h2:r[j]? =some x)(hs:SRep (Imm g sh) w y x):SRep (Imm g true) w y x:=by
 rcases h with rfl|h
 ·exact hs
 ·exact hs.scal (h r (List.mem_of_getElem? h1) x (List.mem_of_getElem? h2))
theorem RowsIn.append {cur':Array Value}{rows2:List (List SV)}{news:List Value}(h:RowsIn g w cur sz rows)(hw:∀r∈rows2,r.length=sz)
 (hn:∀i r j x,rows2[i]? =some r→r[j]? =some x→∃y,news[i*sz+j]? =some y∧SRep (Imm g true) w y x) (hl:(cur.toList.take (rows.length*sz)).length=rows.length*sz)
 (hc:cur'.toList.take ((rows.length+rows2.length)*sz)=cur.toList.take (rows.length*sz)++news):RowsIn g w cur' sz (rows++rows2):=by
 have get:∀k,k<(rows.length+rows2.length)*sz→cur'[k]? =(cur.toList.take (rows.length*sz)++news)[k]? :=by
  intro k hk
  rw[←hc,List.getElem?_take,if_pos hk,Array.getElem?_toList]
 refine⟨fun r hr=> ?_,fun i r j x h1 h2=> ?_⟩
 ·rcases List.mem_append.1 hr with hr|hr
  ·exact h.1 r hr
  ·exact hw r hr
 ·have hj:=(List.getElem?_eq_some_iff.1 h2).1
  by_cases hi:i<rows.length
  ·rw[List.getElem?_append_left hi]at h1
   have hwd:=h.1 r (List.mem_of_getElem? h1)
   obtain⟨y,hy,hs⟩:=h.2 i r j x h1 h2
   refine⟨y,?_,hs⟩
   have hlt:=E6 hi (show j<sz by omega)
   rw[get _ (by rw[Nat.add_mul];omega),List.getElem?_append_left (by rw[hl];exact hlt),List.getElem?_take,if_pos hlt,Array.getElem?_toList]
   exact hy
  ·rw[List.getElem?_append_right (by omega)]at h1
   have hwd:=hw r (List.mem_of_getElem? h1)
   have hi2:=(List.getElem?_eq_some_iff.1 h1).1
   obtain⟨y,hy,hs⟩:=hn _ r j x h1 h2
   refine⟨y,?_,hs⟩
   have hlt:=E6 hi2 (show j<sz by omega)
   have e1:i*sz+j=rows.length*sz+((i-rows.length)*sz+j):=by
    have:i=rows.length+(i-rows.length):=by omega
    rw[this,Nat.add_mul];simp;omega
   rw[get _ (by rw[Nat.add_mul];omega),List.getElem?_append_right (by rw[hl];omega),hl,e1,Nat.add_sub_cancel_left]
   exact hy
theorem I5 {P:Program}{E:Env}{o:Oper}{σ:St}(d:Nat)(t ty e sz bytes:Nat)(x y:Operand)(kt b c:Nat)(rows rows2:List (List SV))
 (ho:o.op= .call {callee:= .builtin .append,args:= #[x,y],argTypes:= #[t,t]}) (hty:o.type=ty) (hd:o.dst=some d) (hn:d<E.n) (he:Elem P t e sz bytes)
 (hk:σ (tk kt)= .lf (.u b c e sz rows)) (hx:x= .tmp kt∨opd σ x= .lf (.hd b rows.length c)) {shy:Bool} (hy:opd σ y= .lf (.im shy (.sl sz rows2))) (hsc:shy=true∨ScalarRows rows2)
 (hsmall:(rows.length+rows2.length)*bytes≤140737488355328) (hmax:rows.length+rows2.length≤maxLen):
 Step P E o σ fun τ=>∃b' c',τ=upd (upd σ (tk kt) Slot.hole) (tk d) (.lf (.u b' c' e sz (rows++rows2))):=by
 refine Step.of_run fun g w a h=> ?_
 have hs:=h.slot kt
 rw[hk]at hs
 have hvk:a.tmps.getD kt undef= .slice (some ⟨b,0,none⟩) rows.length c:=hs.1
 have hvx:a.eval x= .slice (some ⟨b,0,none⟩) rows.length c:=by
  rcases hx with rfl|hx
  ·exact hvk
  ·exact a0N h hx
 have hyr:=E7 h hy
 obtain⟨ay,m,cy,hvy,hm,hcy⟩:=SRep.slice_form hyr
 rw[hvy]at hyr
 obtain⟨i,z,hi,hz,hsz,hby,hzs⟩:=he.ok
 have hexec:execOp a.eval o=(do pure (Next.value (←Builtin.append_ #[t,t] o.type #[a.eval x,a.eval y])):Sem Next):=by
  simp[execOp,ho,resolve,invoke,builtin]
 by_cases hempty:rows2=[]
 ·subst hempty
  simp at hm
  subst hm
  have hrun:=u4 (P:=P) (w:=w) t o.type e i he.und hi (some ⟨b,0,none⟩) rows.length c hs.2.2.1 ay cy
  obtain⟨g',hr⟩:=h.moveU d (tk kt) 0 0 b c e sz rows (.slice (some ⟨b,0,none⟩) rows.length c) hn (.inr trivial) ⟨rfl,hs.2⟩
  refine⟨_,w,g',_,.inl ?_,⟨b,c,rfl⟩,by rw[hd];simpa using hr⟩
  rw[hexec,hvx,hvy,Sem.run_bind,hrun];rfl
 ·obtain⟨ad,rfl,hm2,news,hnl,hnc,hn1,hnr⟩:=hyr.cells hempty he.pos
  obtain⟨_,hg,hc,hmx,cur,hh,hcs,hr⟩:=hs
  have hlt:b<w.heap.size:=(Array.getElem?_eq_some_iff.1 hh).1
  have htake:(cur.toList.take (rows.length*sz)).length=rows.length*sz:=by
   rw[List.length_take,Array.length_toList (xs:=cur),hcs]
   exact Nat.min_eq_left (Nat.mul_le_mul_right _ hc)
  have hown:w.ownsRow 0 e sz (.slice (some ⟨b,0,none⟩) rows.length c) rows.length (cur.toList.take (rows.length*sz)):=
   ⟨htake,.inr ⟨b,c,cur,rfl,Nat.zero_le _,hh,hc,hmx,hcs,rfl⟩⟩
  obtain⟨v',w',hrun,hown',hgrow,hnil,hwhere⟩:=run_append_own_at (P:=P) (w:=w) 0 t o.type e i z sz bytes he.und hi hz hsz hby hzs he.pos _ rows.length _ hown ad m cy news (by rw[hnl,hm2]) hnc hn1 (by rw[hm2];exact hmax) (by rw[hm2];exact hsmall) (Nat.zero_le _)
  obtain⟨hl',hform⟩:=hown'
  rcases hform with⟨_,h0⟩|⟨b',c',cur',hv',_,hh',hc',hmx',hcs',htk'⟩
  ·exfalso
   have:rows2.length≠0:=fun e=>hempty (List.length_eq_zero_iff.1 e)
   omega
  ·have r1:=(h.forget (tk kt)).forget (tk d)
   have hb2:drop (tk d) (drop (tk kt) g) b= .none:=d7 (D2 hg)
   have hbl:Value.ownBlock (.slice (some ⟨b,0,none⟩) rows.length c)=some b:=rfl
   have r2:Rel E (drop (tk d) (drop (tk kt) g)) w' a (upd (upd σ (tk kt) Slot.hole) (tk d) Slot.hole):=by
    refine r1.world hgrow.os hgrow.tape hgrow.output hgrow.size fun b0 hb0=> ?_
    by_cases e0:b0=b
    ·subst e0;exact .inr ⟨hb2,h.mine b0 _ _ _ hg⟩
    ·exact .inl (hgrow.block b0 hb0 (by rw[hbl];intro e;cases e;exact e0 rfl))
   have hlt':b'<w'.heap.size:=(Array.getElem?_eq_some_iff.1 hh').1
   have hb':b'=b∨w.heap.size≤b':=by
    rw[hv']at hwhere
    rcases hwhere with e|e
    ·left;simp only[Value.ownBlock,Option.some.injEq]at e;exact e
    ·right;simp only[Value.ownBlock,Option.some.injEq]at e;omega
   have hnone:drop (tk d) (drop (tk kt) g) b'= .none:=by
    rcases hb' with rfl|hge
    ·exact hb2
    ·exact d7 (d7 (h.fresh b' hge))
   have r3:=r2.tag1 b' (.own (tk d) 0 0) hnone hlt' (by
    rcases hb' with rfl|hge
    ·exact h.mine b' _ _ _ hg
    ·left;have:=h.size;omega) (fun b'' k' i' j' e=>by cases e;exact y4 _ _ _ _ _)
   have himm:∀sh x,Imm g sh x→Imm (tag1 (drop (tk d) (drop (tk kt) g)) b' (.own (tk d) 0 0)) sh x∧w'.heap[x]? =w.heap[x]? :=by
    intro sh x hx
    refine⟨Imm.tag1 hnone (l8.2 (l8.2 hx)),?_⟩
    have hxl:x<w.heap.size:=Nat.lt_of_not_le fun hle=>by rcases hx with e|⟨_,e⟩<;>rw[h.fresh x hle]at e<;>cases e
    refine hgrow.block x hxl ?_
    rw[hbl];intro e;cases e
    rcases hx with e|⟨_,e⟩<;>rw[hg]at e<;>cases e
   have hrows:RowsIn g w cur' sz (rows++rows2):=hr.append hyr.width (fun i r j x h1 h2=>let⟨y,hy1,hy2⟩:=hnr i r j x h1 h2;⟨y,hy1,ScalarRows.im hsc h1 h2 hy2⟩) htake (by rw[←hm2,htk'])
   have r4:=(r3.act d v' (a8 ..)).putSlot d (.lf (.u b' c' e sz (rows++rows2))) (by
    rw[n1 (by rw[h.many];exact hn)]
    refine⟨by rw[hv',List.length_append,←hm2],m9 ..,by rw[List.length_append,←hm2];exact hc',hmx',cur',hh',hcs',hrows.to himm⟩)
   rw[j7]at r4
   refine⟨v',w',_,_,.inl ?_,⟨b',c',rfl⟩,by rw[hd];exact r4⟩
   rw[hexec,hvx,hvy,Sem.run_bind,hrun];rfl
end Go.Proofs.Ytjfjdgjhihgdkaa.V
namespace Go.Proofs.Ytjfjdgjhihgdkaa.V
open Go Go.RowKit
def Part.leaves :Part→List Leaf
 | .lf l=>[l]
 | .agg ls=>ls
variable {g:Nat→Tag} {w:World} {k i:Nat} {v:Value}
theorem PartRel.cells {p:Part}(h:PartRel g w k i v p)(hv:p.leaves.all Leaf.bare=true)(hone:∀l,p= .lf l→v.oneCell'=true):LeavesRel g w k i v.cells p.leaves:=by
 cases p with
 |lf l=>
  have e:v.cells= #[v]:=by
   have:=hone l rfl
   cases v<;>first|rfl|cases this
  rw[e]
  refine⟨rfl,fun j l' v' h1 h2=> ?_⟩
  cases j with
  |zero=>simp[Part.leaves]at h1 h2;subst h1;subst h2;exact h
  |succ j=>simp[Part.leaves]at h1
 |agg ls=>
  obtain⟨cs,rfl,hl⟩:=h
  exact hl
def Leaf.told :Leaf→Bool
 | .hole=>false
 |_=>true
theorem LeafRel.oneCell {j:Nat}{l:Leaf}(h:LeafRel g w k i j v l)(ht:l.told=true):v.oneCell'=true:=by
 cases l with
 |im sh x=>exact SRep.oneCell h
 |u b c e sz rows=>rw[h.1];rfl
 |ap b c e sz rows=>rw[h.1];rfl
 |ul b c e sz rows=>rw[h.1];rfl
 |hd b n c=>have e:v=_:=h;rw[e];rfl
 |ptr b off=>have e:v=_:=h;rw[e];rfl
 |sref sh row=>obtain⟨b,off,e,_⟩:=h;rw[e];rfl
 |nst sz rows i2 j2 b n c=>obtain⟨A,cap,e,_⟩:=h;rw[e];rfl
 |nil=>have e:v=_:=h;rw[e];rfl
 |hole=>cases ht
def Part.told :Part→Bool
 | .lf l=>l.told
 | .agg ls=>ls.all Leaf.told
def splice (ls:List Leaf)(off:Nat)(new:List Leaf):List Leaf:=ls.take off++new++ls.drop (off+new.length)
variable {ls new:List Leaf} {off:Nat}
theorem P2 (h:off+new.length≤ls.length):(splice ls off new).length=ls.length:=by
 simp[splice];omega
theorem a0P (h:off+new.length≤ls.length)(j:Nat):
 (splice ls off new)[j]? =if j<off then ls[j]? else if j<off+new.length then new[j-off]? else ls[j]? :=by
 unfold splice
 have ht:(ls.take off).length=off:=by rw[List.length_take];omega
 by_cases h1:j<off
 ·rw[if_pos h1,List.append_assoc,List.getElem?_append_left (by omega),List.getElem?_take,if_pos h1]
 ·rw[if_neg h1]
  by_cases h2:j<off+new.length
  ·rw[if_pos h2,List.append_assoc,List.getElem?_append_right (by omega),List.getElem?_append_left (by omega),ht]
  ·rw[if_neg h2,List.getElem?_append_right (by simp;omega),List.getElem?_drop]
   congr 1
   simp;omega
theorem Z6 (off:Nat):∀(cs:List Value) (k:Nat) (arr:Array Value),((cs.zipIdx k).foldl (fun a (p:Value×Nat)=>a.setIfInBounds (off+p.2) p.1) arr).size=arr.size∧
 ∀j,((cs.zipIdx k).foldl (fun a (p:Value×Nat)=>a.setIfInBounds (off+p.2) p.1) arr)[j]? =if off+k≤j∧j<off+k+cs.length∧j<arr.size then cs[j-(off+k)]? else arr[j]?
 |[],k,arr=>⟨rfl,fun j=>by rw[if_neg (by simp;omega)];rfl⟩
 |c::cs,k,arr=>by
  obtain⟨h1,h2⟩:=Z6 off cs (k+1) (arr.setIfInBounds (off+k) c)
  simp only[List.zipIdx_cons,List.foldl_cons]
  refine⟨by rw[h1];simp,fun j=> ?_⟩
  rw[h2 j]
  simp only[Array.size_setIfInBounds,List.length_cons]
  by_cases e:j=off+k
  ·subst e
   rw[if_neg (by omega),Array.getElem?_setIfInBounds]
   simp only[if_true]
   by_cases hlt:off+k<arr.size
   ·rw[if_pos hlt,if_pos ⟨Nat.le_refl _,by omega,hlt⟩,Nat.sub_self];rfl
   ·rw[if_neg hlt,if_neg (by omega),Array.getElem?_eq_none (by omega)]
  ·by_cases hin:off+(k+1)≤j∧j<off+(k+1)+cs.length∧j<arr.size
   ·rw[if_pos hin,if_pos (by omega)]
    have:j-(off+k)=j-(off+(k+1))+1:=by omega
    rw[this];rfl
   ·rw[if_neg hin,Array.getElem?_setIfInBounds_ne (fun h=>e h.symm),if_neg (by omega)]
variable {cs:Array Value}
theorem LeavesRel.splice {arr:Array Value}(h:LeavesRel g w k i arr ls)(hn:cs.size=new.length)
 (hr:∀(j:Nat) l v,new[j]? =some l→cs[j]? =some v→LeafRel g w k i (off+j) v l) (hfit:off+new.length≤ls.length):
 LeavesRel g w k i (cs.zipIdx.foldl (fun a (p:Value×Nat)=>a.setIfInBounds (off+p.2) p.1) arr) (V.splice ls off new):=by
 have e:cs.zipIdx.foldl (fun a (p:Value×Nat)=>a.setIfInBounds (off+p.2) p.1) arr=(cs.toList.zipIdx 0).foldl (fun a (p:Value×Nat)=>a.setIfInBounds (off+p.2) p.1) arr:=by
  rw[←Array.foldl_toList,Array.toList_zipIdx]
 rw[e]
 obtain⟨h1,h2⟩:=Z6 off cs.toList 0 arr
 refine⟨by rw[h1,P2 hfit];exact h.1,fun j l v hl hv=> ?_⟩
 rw[h2 j]at hv
 rw[a0P hfit]at hl
 have hsz:=h.1
 simp only[Nat.add_zero,Array.length_toList,hn]at hv
 by_cases h3:j<off
 ·rw[if_pos h3]at hl
  rw[if_neg (by omega)]at hv
  exact h.2 j l v hl hv
 ·rw[if_neg h3]at hl
  by_cases h4:j<off+new.length
  ·rw[if_pos h4]at hl
   rw[if_pos (by omega)]at hv
   have:=hr (j-off) l v hl (by simpa using hv)
   rwa[show off+(j-off)=j from by omega]at this
  ·rw[if_neg h4]at hl
   rw[if_neg (by omega)]at hv
   exact h.2 j l v hl hv
def fillL (place:Nat→Option (Nat×Nat))(ls:List Leaf):List (Nat×Part)→Option (List Leaf)
 |[]=>some ls
 |(i,p)::rest=>match place i with
  |none=>none
  |some (off,size)=>if p.leaves.length=size∧off+size≤ls.length∧p.leaves.all Leaf.bare=true∧p.told=true then fillL place (splice ls off p.leaves) rest else none
theorem LeavesRel.bare {g':Nat→Tag}{k' i':Nat}(h:LeavesRel g w k i cs ls)(hb:ls.all Leaf.bare=true)(hS:∀sh b,Imm g sh b→Imm g' sh b)
 (hW:∀b,g b= .weak→g' b= .weak:=by first|assumption|exact fun _ h=>h|exact fun _ h=>p8.2 h):
 LeavesRel g' w k' i' cs ls:=⟨h.1,fun j l v h1 h2=>(h.2 j l v h1 h2).bare (List.all_eq_true.1 hb l (List.mem_of_getElem? h1)) hS⟩
theorem W0 {g:Nat→Tag}{w:World}{k i:Nat}(place:Nat→Option (Nat×Nat)):∀(ps:List (Nat×Part)) (vs:List (Nat×Value)) (arr:Array Value) (ls ls':List Leaf),LeavesRel g w k i arr ls→
 vs.length=ps.length→(∀(n:Nat) a p b v,ps[n]? =some (a,p)→vs[n]? =some (b,v)→a=b∧∃k' i',PartRel g w k' i' v p)→fillL place ls ps=some ls'→
 ∃out,Instr.fill place arr vs=some out∧LeavesRel g w k i out ls'
 |[],[],arr,ls,ls',h,_,_,hf=>by cases hf;exact⟨arr,rfl,h⟩
 |(a,p)::ps,(b,v)::vs,arr,ls,ls',h,hl,hr,hf=>by
  obtain⟨rfl,k',i',hp⟩:=hr 0 a p b v rfl rfl
  simp only[fillL]at hf
  cases hpl:place a with
  |none=>rw[hpl]at hf;cases hf
  |some os=>
   obtain⟨off,size⟩:=os
   rw[hpl]at hf
   simp only at hf
   split at hf
   ·rename_i hc
    obtain⟨c1,c2,c3,c4⟩:=hc
    have hone:∀l,p= .lf l→v.oneCell'=true:=by
     intro l e;subst e
     exact LeafRel.oneCell (l:=l) hp c4
    have hcells:=hp.cells c3 hone
    have hsz:v.cells.size=p.leaves.length:=hcells.1
    have hsp:=h.splice (cs:=v.cells) (new:=p.leaves) (off:=off) hsz (fun j l x h1 h2=>(hcells.2 j l x h1 h2).bare (List.all_eq_true.1 c3 l (List.mem_of_getElem? h1)) fun _ _ hb=>hb) (by omega)
    obtain⟨out,ho,hro⟩:=W0 place ps vs _ _ ls' hsp (by simpa using hl) (fun n a' p' b' v' h1 h2=>hr (n+1) a' p' b' v' (by simpa using h1) (by simpa using h2)) hf
    refine⟨out,?_,hro⟩
    simp only[Instr.fill,hpl]
    have hszarr:arr.size=ls.length:=h.1
    rw[if_neg (by simp only[Bool.or_eq_true,bne_iff_ne,ne_eq,decide_eq_true_eq,not_or,Decidable.not_not];omega)]
    exact ho
   ·cases hf
 |[],_::_,_,_,_,_,h,_,_=>by cases h
 |_::_,[],_,_,_,_,h,_,_=>by cases h
end Go.Proofs.Ytjfjdgjhihgdkaa.V
namespace Go.Proofs.Ytjfjdgjhihgdkaa.V
open Go Go.RowKit
structure StructTy (P:Program)(t:TypeId)(pl:List (Nat×Nat))(zl:List Leaf):Prop where
 und:∃fs,P.underlying t=some (.struct fs)∧∀w,((fs.mapM fun f=>do pure (f.offset,←sizeOf f.type)):Sem (Array (Nat×Nat))).run P w= .ok pl.toArray w
 zero:∃z,(∀w,(zeroValue t).run P w= .ok z w)∧z.cells.toList.map litLeaf=zl
def aliasL :Leaf→Leaf
 | .u b c _ _ rows=> .hd b rows.length c
 |l=>l
def aliasP :Part→Part
 | .lf l=> .lf (aliasL l)
 | .agg ls=> .agg (ls.map aliasL)
variable {g:Nat→Tag} {w:World} {k i:Nat} {v:Value}
theorem LeafRel.alias {j:Nat}{l:Leaf}(h:LeafRel g w k i j v l):LeafRel g w k i j v (aliasL l):=by
 cases l<;>first|exact h|exact h.1
theorem PartRel.alias {p:Part}(h:PartRel g w k i v p):PartRel g w k i v (aliasP p):=by
 cases p with
 |lf l=>exact LeafRel.alias h
 |agg ls=>
  obtain⟨cs,hv,hsz,hl⟩:=h
  refine⟨cs,hv,by rw[List.length_map];exact hsz,fun j l v h1 h2=> ?_⟩
  rw[List.getElem?_map,Option.map_eq_some_iff]at h1
  obtain⟨l',h3,rfl⟩:=h1
  exact(hl j l' v h3 h2).alias
def litParts (σ:St):List (Nat×Operand)→Option (List (Nat×Part))
 |[]=>some []
 |(i,x)::xs=>match opd σ x,litParts σ xs with
  | .one p,some ps=>some ((i,aliasP p)::ps)
  |_,_=>none
theorem F1 {E:Env}{g:Nat→Tag}{w:World}{a:Act}{σ:St}(h:Rel E g w a σ):∀{xs:List (Nat×Operand)} {ps:List (Nat×Part)},litParts σ xs=some ps→
 (xs.map fun q=>(q.1,a.eval q.2)).length=ps.length∧
 ∀(n:Nat) i p b v,ps[n]? =some (i,p)→(xs.map fun q=>(q.1,a.eval q.2))[n]? =some (b,v)→i=b∧∃k' i',PartRel g w k' i' v p
 |[],ps,e=>by cases e;exact⟨rfl,fun n i p b v h=>by simp at h⟩
 |(i,x)::xs,ps,e=>by
  simp only[litParts]at e
  split at e
  ·rename_i p ps' e1 e2
   cases e
   obtain⟨hl,hg⟩:=F1 h e2
   refine⟨by simpa using hl,fun n i' p' b v h1 h2=> ?_⟩
   cases n with
   |zero=>
    simp at h1 h2
    obtain⟨rfl,rfl⟩:=h1
    obtain⟨rfl,rfl⟩:=h2
    have:=o9 h x
    rw[e1]at this
    have hp:PartRel _ _ _ _ _ p:=this
    exact⟨rfl,opk x,0,hp.alias⟩
   |succ n=>exact hg n i' p' b v (by simpa using h1) (by simpa using h2)
  ·cases e
theorem Z1 {P:Program}{t:TypeId}{z:Value}{zl:List Leaf}(hz:z.cells.toList.map litLeaf=zl)(g:Nat→Tag)(w:World)(k i:Nat):LeavesRel g w k i z.cells zl:=by
 subst hz
 refine⟨by simp,fun j l v h1 h2=> ?_⟩
 simp only[List.getElem?_map,Option.map_eq_some_iff,Array.getElem?_toList]at h1
 obtain⟨v',h3,rfl⟩:=h1
 rw[h2]at h3
 cases h3
 exact N6 ..
variable {P:Program} {E:Env} {o:Oper} {σ:St}
theorem a3V (d:Nat)(t:TypeId)(parts:Array (Nat×Operand))(pl:List (Nat×Nat))(zl:List Leaf)(ps:List (Nat×Part))(ls:List Leaf)
 (ho:o.op= .build t parts) (hd:o.dst=some d) (hn:d<E.n) (ht:StructTy P t pl zl) (hp:litParts σ parts.toList=some ps) (hf:fillL (fun(i:Nat)=>pl[i]?) zl ps=some ls) (hb:ls.all Leaf.bare=true):
 Step P E o σ (·=upd σ (tk d) (.agg ls)):=by
 refine Step.of_run fun g w a h=> ?_
 obtain⟨fs,hu,hpl⟩:=ht.und
 obtain⟨z,hz,hzl⟩:=ht.zero
 obtain⟨hl,hr⟩:=F1 h hp
 obtain⟨out,ho2,hro⟩:=W0 (k:=0) (i:=0) (fun(i:Nat)=>pl[i]?) ps _ z.cells zl ls (Z1 (P:=P) (t:=t) hzl g w 0 0) hl hr hf
 refine⟨.agg out,w,drop (tk d) g,_,.inl ?_,rfl,?_⟩
 ·have e2:(parts.map fun q=>(q.1,a.eval q.2)).toList=parts.toList.map fun q=>(q.1,a.eval q.2):=by simp
  simp only[execOp,ho,Instr.build,Sem.run_bind,hz,Result.andThen_ok,run_underlying hu,hpl]
  have e3:(fun(i:Nat)=>pl.toArray[i]?)=fun(i:Nat)=>pl[i]? :=by funext i;simp
  rw[e2,e3,ho2]
  rfl
 ·rw[hd]
  exact h.set d _ _ hn fun g' hg' hw'=>⟨out,rfl,hro.bare hb hg'⟩
theorem Rel.newCell {a:Act}(h:Rel E g w a σ)(d e:Nat)(cur:Array Value)(ls:List Leaf)(hn:d<E.n)(hl:LeavesRel g w 0 0 cur ls)(hb:ls.all Leaf.bare=true):
 ∃g',Rel E g' {w with heap:=w.heap.push (.cells cur e (0,0))} (a.put (some d) (.pointer (some ⟨w.heap.size,0,none⟩))) (upd (upd σ (ck d) (.cell w.heap.size ls)) (tk d) (.lf (.ptr w.heap.size 0))):=by
 have hfr:g w.heap.size= .none:=h.fresh _ (Nat.le_refl _)
 have r1:=((h.forget (ck d)).forget (tk d)).alloc (.cells cur e (0,0))
 have hb0:drop (tk d) (drop (ck d) g) w.heap.size= .none:=d7 (d7 hfr)
 have r2:=r1.tag1 w.heap.size (.own (ck d) 1 0) hb0 (by simp) (.inl h.size) (fun b' k' i' j' e=>by
  cases e
  intro e
  exact y4 (ck d) g _ _ _ (C6.1 e).1)
 have r3:=r2.putCell d (.cell w.heap.size ls) (by
  refine⟨cur,e,m9 ..,by simp,?_⟩
  refine⟨hl.1,fun j l v h1 h2=> ?_⟩
  have:=hl.2 j l v h1 h2
  refine(this.bare (g':=V.tag1 (drop (tk d) (drop (ck d) g)) w.heap.size (.own (ck d) 1 0)) (k':=ck d) (i':=0) (j':=j) (List.all_eq_true.1 hb l (List.mem_of_getElem? h1)) (fun sh b hI=>Imm.tag1 hb0 (l8.2 (l8.2 hI))) (fun b hb=>a4u hb0 (p8.2 (p8.2 hb)))).to (fun sh b hI=>⟨hI,?_⟩) (fun b hO=>⟨hO,?_⟩) (fun b hb=>⟨hb,?_⟩)
  ·have:b<w.heap.size:=by
    apply Classical.byContradiction;intro hge
    have e1:V.tag1 (drop (tk d) (drop (ck d) g)) w.heap.size (.own (ck d) 1 0) b= .none∨b=w.heap.size:=by
     by_cases e:b=w.heap.size
     ·exact .inr e
     ·left;rw[D9 _ _ e];exact d7 (d7 (h.fresh b (by omega)))
    rcases e1 with e1|rfl
    ·rcases hI with hI|⟨_,hI⟩<;>rw[e1]at hI<;>cases hI
    ·rcases hI with hI|⟨_,hI⟩<;>rw[m9]at hI<;>cases hI
   simp[Array.getElem?_push,Nat.ne_of_lt this]
  ·by_cases e:b=w.heap.size
   ·subst e;rw[m9]at hO;cases hO
   ·have:b<w.heap.size:=by
     apply Classical.byContradiction;intro hge
     rw[D9 _ _ e,d7 (d7 (h.fresh b (by omega)))]at hO;cases hO
    simp[Array.getElem?_push,Nat.ne_of_lt this]
  ·by_cases e:b=w.heap.size
   ·subst e;rw[m9]at hb;cases hb
   ·have:b<w.heap.size:=by
     apply Classical.byContradiction;intro hge
     rw[D9 _ _ e,d7 (d7 (h.fresh b (by omega)))]at hb;cases hb
    simp[Array.getElem?_push,Nat.ne_of_lt this])
 rw[E0 _ _ _ (v7 d d),j7]at r3
 have r4:=(r3.act d (.pointer (some ⟨w.heap.size,0,none⟩)) (a8 ..)).putSlot d (.lf (.ptr w.heap.size 0)) (by
  rw[n1 (by rw[h.many];exact hn)];rfl)
 rw[j7]at r4
 exact⟨_,r4⟩
theorem a35 (d:Nat)(e:TypeId)(zl:List Leaf)(ho:o.op= .alloc e)(hd:o.dst=some d)(hn:d<E.n)
 (hz:∃z,(∀w,(zeroValue e).run P w= .ok z w)∧z.cells.toList.map litLeaf=zl) (hb:zl.all Leaf.bare=true):
 Step P E o σ fun τ=>∃b,τ=upd (upd σ (ck d) (.cell b zl)) (tk d) (.lf (.ptr b 0)):=by
 refine Step.of_run fun g w a h=> ?_
 obtain⟨z,hz,hzl⟩:=hz
 obtain⟨g',hr⟩:=h.newCell d e z.cells zl hn (Z1 (P:=P) (t:=e) hzl g w 0 0) hb
 refine⟨_,_,g',_,.inl ?_,⟨_,rfl⟩,by rw[hd];exact hr⟩
 simp only[execOp,ho,Instr.alloc,Sem.run_bind,hz,Result.andThen_ok,newVar,newRow,run_newObj]
 rfl
theorem a5X (d:Nat)(e:TypeId)(x:Operand)(p0 p:Part)(ho:o.op= .box e x)(hd:o.dst=some d)(hn:d<E.n)
 (hx:opd σ x= .one p0) (hal:aliasP p0=p) (hb:p.leaves.all Leaf.bare=true) (ht:p.told=true):
 Step P E o σ fun τ=>∃b,τ=upd (upd σ (ck d) (.cell b p.leaves)) (tk d) (.lf (.ptr b 0)):=by
 refine Step.of_run fun g w a h=> ?_
 have hr:=o9 h x
 rw[hx]at hr
 have hp0:PartRel g w (opk x) 0 (a.eval x) p0:=hr
 have hp:PartRel g w (opk x) 0 (a.eval x) p:=hal▸hp0.alias
 have hcells:=hp.cells hb (fun l e=>by subst e;exact LeafRel.oneCell (l:=l) hp ht)
 obtain⟨g',hr⟩:=h.newCell d e (a.eval x).cells p.leaves hn (hcells.bare hb fun _ _ h=>h) hb
 refine⟨_,_,g',_,.inl ?_,⟨_,rfl⟩,by rw[hd];exact hr⟩
 simp only[execOp,ho,Instr.box,Sem.run_bind,newVar,newRow,run_newObj]
 rfl
theorem a0t (d:Nat)(t:TypeId)(fs:Array Field)(f:Field)(j sz b off:Nat)(x:Operand)
 (ho:o.op= .fieldAddr t x j) (hd:o.dst=some d) (hn:d<E.n) (ht:P.underlying t=some (.struct fs)) (hf:fs[j]? =some f) (hz:(P.info? f.type).map (·.size)=some sz) (hsz:0<sz)
 (hx:opd σ x= .lf (.ptr b off)):Step P E o σ (·=upd σ (tk d) (.lf (.ptr b (off+f.offset)))):=by
 refine Step.of_run fun g w a h=>⟨.pointer (some ⟨b,off+f.offset,none⟩),w,drop (tk d) g,_,.inl ?_,rfl,?_⟩
 ·simp only[execOp,ho,G0 h hx]
  simp[Instr.fieldAt,run_underlying ht,hf,Instr.sureAddr,fieldPlace,r6 hz,Nat.ne_of_gt hsz,Addr.add_flat]
 ·rw[hd]
  exact h.set d _ _ hn fun g' hg' hw'=>rfl
def CellAt (s:Slot)(b:Nat)(ls:List Leaf):Prop:=s= .cell b ls∨∃bs,s= .own b ls bs
variable {ls:List Leaf}
theorem CellAt.rel {b:Nat}{s:Slot}(hs:CellAt s b ls)(h:CellRel g w k s):∃cur e,g b= .own k 1 0∧w.heap[b]? =some (.cells cur e (0,0))∧LeavesRel g w k 0 cur ls:=by
 rcases hs with rfl|⟨bs,rfl⟩
 ·exact h
 ·exact h.1
def Slot.setLs :Slot→List Leaf→Slot
 | .own b _ bs,ls=> .own b ls bs
 | .cell b _,ls=> .cell b ls
 |s,_=>s
theorem C8 (d c:Nat)(t:TypeId)(sz:Nat)(agg:Bool)(x:Operand)(b off:Nat)(ls:List Leaf)
 (ho:o.op= .load t x) (hd:o.dst=some d) (hn:d<E.n) (ht:Ty P t sz agg) (h1:agg=false→sz=1) (hx:opd σ x= .lf (.ptr b off)) (hc:CellAt (σ (ck c)) b ls) (hl:off+sz≤ls.length)
 (hb:((ls.drop off).take sz).all Leaf.bare=true):Step P E o σ (·=upd σ (tk d) (.one (partOf agg ((ls.drop off).take sz)))):=by
 refine Step.of_run fun g w a h=> ?_
 obtain⟨cur,e,hg,hh,hls⟩:=hc.rel (h.cell c)
 have hvl:((cur.toList.drop off).take sz).length=sz:=by
  rw[List.length_take,List.length_drop,Array.length_toList,hls.1];omega
 have hget:∀(j:Nat) y,((cur.toList.drop off).take sz)[j]? =some y→j<sz∧cur[off+j]? =some y:=by
  intro j y hj
  rw[List.getElem?_take]at hj
  split at hj
  ·rename_i hlt
   rw[List.getElem?_drop,Array.getElem?_toList]at hj
   exact⟨hlt,hj⟩
  ·cases hj
 have hrun:=C1 (P:=P) (w:=w) ht b off ((cur.toList.drop off).take sz) hvl h1 (fun j y hj=>by
  obtain⟨_,hy⟩:=hget j y hj
  simp[World.cell?,hh,hy])
 have hrel:∀(j:Nat) l v,((ls.drop off).take sz)[j]? =some l→((cur.toList.drop off).take sz)[j]? =some v→LeafRel g w (ck c) 0 (off+j) v l:=by
  intro j l v h2 h3
  obtain⟨hlt,hv⟩:=hget j v h3
  rw[List.getElem?_take,if_pos hlt,List.getElem?_drop]at h2
  exact hls.2 _ l v h2 hv
 refine⟨if agg then .agg ((cur.toList.drop off).take sz).toArray else((cur.toList.drop off).take sz).headD undef,w,drop (tk d) g,_,.inl ?_,rfl,?_⟩
 ·simp only[execOp,ho,G0 h hx,Instr.loadAt,Instr.sureAddr,Sem.run_bind,Sem.run_pure,Result.andThen_ok,hrun]
 ·rw[hd]
  refine h.set d _ _ hn fun g' hg' hw'=> ?_
  cases agg with
  |true=>
   refine⟨_,rfl,by rw[List.size_toArray,hvl];simp;omega,fun j l v h2 h3=> ?_⟩
   exact(hrel j l v h2 (by simpa using h3)).bare (List.all_eq_true.1 hb l (List.mem_of_getElem? h2)) hg'
  |false=>
   have hsz:=h1 rfl
   subst hsz
   have hll:((ls.drop off).take 1).length=1:=by rw[List.length_take,List.length_drop];omega
   obtain⟨l,e1⟩:=List.length_eq_one_iff.1 hll
   obtain⟨v,e2⟩:=List.length_eq_one_iff.1 hvl
   have:=hrel 0 l v (by rw[e1];rfl) (by rw[e2];rfl)
   rw[e1,e2]
   rw[e1]at hb
   exact this.bare (by simpa using hb) hg'
variable {t:TypeId}
theorem K3 {sz:Nat}(ht:(P.info? t).map (·.size)=some sz)(b off e:Nat)(cur:Array Value)(v:Value)(hh:w.heap[b]? =some (.cells cur e (0,0)))
 (hs:v.cells.size=sz) (hfit:off+sz≤cur.size) (h1:∀u∈v.cells.toList,u.oneCell'=true):
 (storeVar t ⟨b,off,none⟩ v).run P w= .ok () (w.setRow b (cur.toList.take off++v.cells.toList++cur.toList.drop (off+sz)).toArray):=by
 have hst:=run_storeCells_at P b off e v.cells.toList 0 cur w hh (by rw[Array.length_toList,hs];omega) h1
 simp only[Nat.add_zero,Array.length_toList,hs]at hst
 simp only[storeVar,Sem.run_bind,r6 ht,Result.andThen_ok]
 rw[if_neg (by omega)]
 simpa using hst
theorem LeavesRel.row {cur cs:Array Value}{new:List Leaf}{off:Nat}(h:LeavesRel g w k i cur ls)(hn:cs.size=new.length)
 (hr:∀(j:Nat) l v,new[j]? =some l→cs[j]? =some v→LeafRel g w k i (off+j) v l) (hfit:off+new.length≤ls.length):
 LeavesRel g w k i (cur.toList.take off++cs.toList++cur.toList.drop (off+new.length)).toArray (V.splice ls off new):=by
 have hsz:=h.1
 refine⟨by rw[P2 hfit];simp;omega,fun j l v hl hv=> ?_⟩
 rw[a0P hfit]at hl
 rw[List.getElem?_toArray]at hv
 have ht:(cur.toList.take off).length=off:=by rw[List.length_take,Array.length_toList];omega
 by_cases h3:j<off
 ·rw[if_pos h3]at hl
  rw[List.append_assoc,List.getElem?_append_left (by omega),List.getElem?_take,if_pos h3,Array.getElem?_toList]at hv
  exact h.2 j l v hl hv
 ·rw[if_neg h3]at hl
  by_cases h4:j<off+new.length
  ·rw[if_pos h4]at hl
   rw[List.append_assoc,List.getElem?_append_right (by omega),List.getElem?_append_left (by rw[ht,Array.length_toList];omega),ht,Array.getElem?_toList]at hv
   have:=hr (j-off) l v hl hv
   rwa[show off+(j-off)=j from by omega]at this
  ·rw[if_neg h4]at hl
   rw[List.getElem?_append_right (by rw[List.length_append,ht,Array.length_toList];omega),List.getElem?_drop,List.length_append,ht,Array.length_toList (xs:=cs),hn,show off+new.length+(j-(off+new.length))=j from by omega,Array.getElem?_toList]at hv
   exact h.2 j l v hl hv
theorem z9 (c:Nat)(t:TypeId)(sz:Nat)(x y:Operand)(b off:Nat)(ls:List Leaf)(p:Part)
 (ho:o.op= .store t x y) (hd:o.dst=none) (ht:(P.info? t).map (·.size)=some sz) (hx:opd σ x= .lf (.ptr b off)) (hc:CellAt (σ (ck c)) b ls) (hy:opd σ y= .one p)
 (hp:p.leaves.length=sz) (hb:p.leaves.all Leaf.bare=true) (htold:p.told=true) (hl:off+sz≤ls.length):Step P E o σ (·=upd σ (ck c) ((σ (ck c)).setLs (splice ls off p.leaves))):=by
 refine Step.of_run fun g w a h=> ?_
 have hcell:=h.cell c
 obtain⟨cur,e,hg,hh,hls⟩:=hc.rel hcell
 have hr:=o9 h y
 rw[hy]at hr
 have hpr:PartRel g w (opk y) 0 (a.eval y) p:=hr
 have hcells:=hpr.cells hb (fun l e=>by subst e;exact LeafRel.oneCell (l:=l) hpr htold)
 have hone:∀u∈(a.eval y).cells.toList,u.oneCell'=true:=by
  intro u hu
  obtain⟨j,hj⟩:=List.mem_iff_getElem?.1 hu
  have hj':(a.eval y).cells[j]? =some u:=by simpa using hj
  have hlt:j<p.leaves.length:=by rw[←hcells.1];exact(Array.getElem?_eq_some_iff.1 hj').1
  have hl':=hcells.2 j p.leaves[j] u (List.getElem?_eq_getElem hlt) hj'
  refine hl'.oneCell ?_
  cases p with
  |lf l=>
   have:j=0:=by simp[Part.leaves]at hlt;exact hlt
   subst this;exact htold
  |agg ls'=>exact List.all_eq_true.1 htold _ (List.getElem_mem hlt)
 have hsz:(a.eval y).cells.size=sz:=hcells.1.trans hp
 have hrun:=K3 (P:=P) (w:=w) ht b off e cur (a.eval y) hh hsz (by rw[hls.1];exact hl) hone
 have hnew:=hls.row (off:=off) (cs:=(a.eval y).cells) (new:=p.leaves) hcells.1 (fun j l v h1 h2=>(hcells.2 j l v h1 h2).bare (List.all_eq_true.1 hb l (List.mem_of_getElem? h1)) fun _ _ h=>h) (by omega)
 rw[hp]at hnew
 have hlt:b<w.heap.size:=(Array.getElem?_eq_some_iff.1 hh).1
 have himm:∀sh q,Imm g sh q→Imm g sh q∧(w.setRow b (cur.toList.take off++(a.eval y).cells.toList++cur.toList.drop (off+sz)).toArray).heap[q]? =w.heap[q]? :=fun sh q hq=>
  ⟨hq,setRow_other _ _ _ _ fun e0=>by subst e0;rcases hq with e1|⟨_,e1⟩<;>rw[hg]at e1<;>cases e1⟩
 have hown:∀k i j q,g q= .own k i j→(k,i,j)≠(ck c,1,0)→g q= .own k i j∧(w.setRow b (cur.toList.take off++(a.eval y).cells.toList++cur.toList.drop (off+sz)).toArray).heap[q]? =w.heap[q]? :=fun k i j q hq hne=>
  ⟨hq,setRow_other _ _ _ _ fun e0=>by subst e0;rw[hg]at hq;cases hq;exact hne rfl⟩
 have hweak:∀q,g q= .weak→g q= .weak∧(w.setRow b (cur.toList.take off++(a.eval y).cells.toList++cur.toList.drop (off+sz)).toArray).heap[q]? =w.heap[q]? :=fun q hq=>
  ⟨hq,setRow_other _ _ _ _ fun e0=>by subst e0;rw[hg]at hq;cases hq⟩
 refine⟨undef,w.setRow b (cur.toList.take off++(a.eval y).cells.toList++cur.toList.drop (off+sz)).toArray,g,_,.inr ⟨?_,rfl⟩,rfl,?_⟩
 ·simp only[execOp,ho,G0 h hx,Instr.storeAt,Instr.sureAddr,Sem.run_bind,Sem.run_pure,Result.andThen_ok,hrun]
 ·rw[hd]
  have hsame:∀x,x≠b→(w.setRow b (cur.toList.take off++(a.eval y).cells.toList++cur.toList.drop (off+sz)).toArray).heap[x]? =w.heap[x]? :=fun x hx=>setRow_other _ _ _ _ hx
  exact
   {defers:=h.defers
    os:=h.os
    tape:=h.tape
    output:=h.output
    size:=by simpa[World.setRow]using h.size
    old:=fun x hx hm=>by
     rw[hsame x ?_]
     ·exact h.old x hx hm
     ·intro e;subst e
      rcases h.mine x _ _ _ hg with e|e
      ·omega
      ·exact hm e
    many:=h.many
    slot:=fun t'=>by
     simp only[upd];rw[if_neg (v7 _ _)]
     refine(h.slot t').to (himm) fun x i j hx=>hown _ i j x hx ?_
     intro e
     exact v7 _ _ (congrArg Prod.fst e)
    cell:=fun t'=>by
     by_cases e:ck t'=ck c
     ·simp only[upd];rw[if_pos e]
      have e':=E9 e
      subst e'
      have main:∃cur' e',g b= .own (ck t') 1 0∧(w.setRow b (cur.toList.take off++(a.eval y).cells.toList++cur.toList.drop (off+sz)).toArray).heap[b]? =some (.cells cur' e' (0,0))∧LeavesRel g (w.setRow b (cur.toList.take off++(a.eval y).cells.toList++cur.toList.drop (off+sz)).toArray) (ck t') 0 cur' (splice ls off p.leaves):=
       ⟨_,_,hg,setRow_heap w b cur _ _ _ hh,hnew.to himm fun x j hx=>hown _ 0 j x hx (by intro e;cases e)⟩
      rcases hc with hc|⟨bs,hc⟩
      ·rw[hc];exact main
      ·rw[hc]at hcell⊢
       refine⟨main,fun j B hB=> ?_⟩
       have h1:=hcell.2 j B hB
       cases B with
       |no=>trivial
       |mkh _ _ _ _ _ _ _ _ _=>exact h1.elim
       |mk b2 c2 e2 sz2 rows2=>
        obtain⟨k1,k2,k3,cur2,k4,k5,k6⟩:=h1
        obtain⟨l1,l2⟩:=hown _ _ _ _ k1 (by intro e;cases e)
        exact⟨l1,k2,k3,cur2,l2.trans k4,k5,k6.to himm⟩
     ·simp only[upd];rw[if_neg e]
      refine(h.cell t').to himm fun x i j hx=>hown _ i j x hx ?_
      intro e2
      exact e (congrArg Prod.fst e2)
    fresh:=fun x hx=>h.fresh x (by simpa[World.setRow]using hx)
    mine:=h.mine
    uniq:=h.uniq
    elder:=h.elder
    soft:=fun x hx e=>(h.soft x hx e).to (hsame x (fun e0=>by subst e0;rw[hg]at e;cases e))
    wild:=h.wild}
end Go.Proofs.Ytjfjdgjhihgdkaa.V
