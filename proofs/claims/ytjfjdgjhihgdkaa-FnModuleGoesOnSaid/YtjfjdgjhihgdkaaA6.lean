/- Part 6 of the proof of FnModuleGoesOn. -/
import Derived.Test.YtjfjdgjhihgdkaaA5
import Derived.SizedLaws
import Derived.Carry
import Derived.ChangeArms
import Derived.WideShapes
import Derived.Test.YtjfjdgjhihgdkaaProg
import Derived.KernelRfl
set_option linter.unusedVariables false
set_option linter.unusedSimpArgs false
set_option maxRecDepth 100000
namespace Go.Proofs.Ytjfjdgjhihgdkaa.V
open Go Go.RowKit Go.WideShapes
theorem Y5 {α:Type}{p:Nat→α→Prop}:∀(n:Nat),(∀i,i<n→∃x,p i x)→∃l:List α,l.length=n∧∀(i:Nat) x,l[i]? =some x→p i x
 |0,_=>⟨[],rfl,fun i x h=>by simp at h⟩
 |n+1,h=>by
  obtain⟨l,hl,hp⟩:=Y5 n fun i hi=>h i (by omega)
  obtain⟨x,hx⟩:=h n (by omega)
  refine⟨l++[x],by simp[hl],fun i y hy=> ?_⟩
  rw[List.getElem?_append]at hy
  split at hy
  ·exact hp i y hy
  ·rename_i hi
   have e:i=n:=by
    have:=(List.getElem?_eq_some_iff.1 hy).1
    simp at this;omega
   subst e
   rw[hl,Nat.sub_self]at hy
   cases hy
   exact hx
theorem a0M {α β:Type}{p:α→Prop}{f:α→β}:∀(l:List β),(∀r∈l,∃x,p x∧r=f x)→∃xs:List α,(∀x∈xs,p x)∧l=xs.map f
 |[],_=>⟨[],by simp,rfl⟩
 |r::l,h=>by
  obtain⟨x,hx,rfl⟩:=h r (by simp)
  obtain⟨xs,hp,rfl⟩:=a0M l fun r hr=>h r (by simp[hr])
  exact⟨x::xs,by simpa using⟨hx,hp⟩,rfl⟩
abbrev Old (w:World):Nat→Prop:=fun b=>b<w.heap.size
def Rd (P:Program)(t:TypeId)(Q:List SV→Prop):Prop:=
 ∀(H:Type) (enc:TypeId×Value→H) (w:World) (fuel:Nat) (cs:List Value) (x:DataW H×List MemPlace),
  DataW.trod enc P w 0 (fun _=>true) true fuel t cs=some x→(∀n∈x.1.weights P t,n≤reachBytes)→
  ∃ls,Q ls∧ls.length=cs.length∧∀(i:Nat) v l,cs[i]? =some v→ls[i]? =some l→SRep (Old w) w v l
variable {P:Program} {t:TypeId} {Q:List SV→Prop}
theorem Rd.mono {Q':List SV→Prop}(h:Rd P t Q)(hQ:∀l,Q l→Q' l):Rd P t Q':=by
 intro H enc w fuel cs x hx hw
 obtain⟨ls,h1,h2⟩:=h H enc w fuel cs x hx hw
 exact⟨ls,hQ _ h1,h2⟩
variable {w:World}
theorem a3z {S:Nat→Prop}{a:Value}{b:SV}(h:SRep S w a b):∀(i:Nat) v l,[a][i]? =some v→[b][i]? =some l→SRep S w v l:=by
 intro i v l h1 h2
 cases i with
 |zero=>simp at h1 h2;subst h1;subst h2;exact h
 |succ i=>simp at h1
theorem Rd.int {k:IntKind}(ht:P.underlying t=some (.int k)):Rd P t fun l=>∃n,(Lit.int k n).wf=true∧l=[.int k n]:=by
 intro H enc w fuel cs x hx hw
 obtain⟨n,rfl,rfl,hn⟩:=DataW.trod_int ht hx
 exact⟨_,⟨n,hn,rfl⟩,rfl,a3z (.int k n)⟩
theorem M6 {H:Type}{P:Program}{e:TypeId}:∀{ds:List (DataW H)} {d:DataW H},d∈ds→∀n∈d.weights P e,n∈DataW.weightsAll P e ds
 |d0::ds,d,hd,n,hn=>by
  simp only[DataW.weightsAll,List.mem_append]
  rcases List.mem_cons.1 hd with rfl|hd
  ·exact .inl hn
  ·exact .inr (M6 hd n hn)
variable {e:TypeId} {sz:Nat}
theorem Rd.sl (ht:P.underlying t=some (.slice e))(hc:P.cellsOf e=sz)(h0:0<sz)(hb:0<P.bytesOf e)(hQ:Rd P e Q):
 Rd P t fun l=>∃rows,rows.length≤140737488351232∧(∀r∈rows,Q r)∧l=[.sl sz rows]:=by
 intro H enc w fuel cs x hx hw
 rcases DataW.trod_slice ht hx with⟨rfl,rfl⟩|⟨a,len,cap,elems,rest,n,rfl,rfl,rfl,hba,hl,hm,hlen,hel,-,-⟩
 ·exact⟨_,⟨[],by simp,by simp,rfl⟩,rfl,a3z (.nil sz none 0)⟩
 ·have hwt:∀n∈(elems.length+rest.length)*P.bytesOf e::(DataW.weightsAll P e (elems.map (·.1))++DataW.weightsAll P e (rest.map (·.1))),n≤reachBytes:=by
   simpa[DataW.weights,ht]using hw
  have hlen':len≤140737488351232:=by
   have h1:(elems.length+rest.length)*P.bytesOf e≤140737488351232:=hwt _ (by simp)
   have h2:(elems.length+rest.length)*1≤(elems.length+rest.length)*P.bytesOf e:=Nat.mul_le_mul_left _ hb
   omega
  obtain⟨rows,hrl,hrows⟩:=Y5 (p:=fun i (r:List SV)=>∃cs',w.cells? 0 (a.add (i*P.cellsOf e)) (P.cellsOf e)=some cs'∧Q r∧r.length=cs'.length∧∀(j:Nat) v l,cs'[j]? =some v→r[j]? =some l→SRep (Old w) w v l) len (by
   intro i hi
   have hx:=hel i hi
   have:elems[i]? =some elems[i]:=List.getElem?_eq_getElem (by omega)
   rw[this,Option.bind_eq_some_iff]at hx
   obtain⟨cs',h1,h2⟩:=hx
   obtain⟨r,h3,h4,h5⟩:=hQ H enc w n cs' elems[i] h2 (fun m hm=>hwt m (List.mem_cons_of_mem _ (List.mem_append_left _ (M6 (List.mem_map_of_mem (List.getElem_mem (by omega))) m hm))))
   exact⟨r,cs',h1,h3,h4,h5⟩)
  by_cases hz:len=0
  ·subst hz
   have:rows=[]:=List.length_eq_zero_iff.1 hrl
   subst this
   exact⟨_,⟨[],by simp,by simp,rfl⟩,rfl,a3z (.nil sz (some a) cap)⟩
  ·have hr0:rows[0]? =some (rows[0]'(by omega)):=List.getElem?_eq_getElem (by omega)
   obtain⟨c0,g1,-,-,-⟩:=hrows 0 _ hr0
   obtain⟨-,g5,g6⟩:=World.cells?_some g1
   have g7:=g6 0 (by omega)
   have g8:c0[0]? =some (c0[0]'(by omega)):=List.getElem?_eq_getElem (by omega)
   have ea:(a.add (0*P.cellsOf e)).add 0=a:=by simp[Addr.add]
   rw[g8,ea]at g7
   have hsp:a.spot=none:=World.cell?_spot g7
   have hblk:a.block<w.heap.size:=by
    unfold World.cell? at g7
    split at g7
    ·rename_i hh;exact(Array.getElem?_eq_some_iff.1 hh).1
    ·cases g7
   rcases a with⟨b,off,sp⟩
   cases(show sp=none from hsp)
   have hcell:∀i r,rows[i]? =some r→Q r∧r.length=sz∧∀j x,r[j]? =some x→∃v,w.cell? ⟨b,off+(i*sz+j),none⟩=some v∧SRep (Old w) w v x:=by
    intro i r hr
    obtain⟨cs',h1,h2,h3,h4⟩:=hrows i r hr
    obtain⟨-,h5,h6⟩:=World.cells?_some h1
    refine⟨h2,by omega,fun j x hx=> ?_⟩
    have hj:j<P.cellsOf e:=by have:=(List.getElem?_eq_some_iff.1 hx).1;omega
    have h7:=h6 j hj
    have h8:cs'[j]? =some (cs'[j]'(by omega)):=List.getElem?_eq_getElem (by omega)
    rw[h8,hc]at h7
    refine⟨_,?_,h4 j _ x h8 hx⟩
    rw[←h7]
    congr 1
    unfold Addr.add
    split<;>split<;>simp<;>omega
   refine⟨_,⟨rows,by omega,fun r hr=> ?_,rfl⟩,rfl,a3z (.sl b off len cap sz rows (fun k=>(w.cell? ⟨b,off+k,none⟩).getD undef) hrl.symm hl ?_ hblk ?_ ?_)⟩
   ·obtain⟨i,hi⟩:=List.getElem?_of_mem hr
    exact(hcell i r hi).1
   ·intro r hr
    obtain⟨i,hi⟩:=List.getElem?_of_mem hr
    exact(hcell i r hi).2.1
   ·intro i r j x h1 h2
    obtain⟨v,h3,-⟩:=(hcell i r h1).2.2 j x h2
    rw[h3];rfl
   ·intro i r j x h1 h2
    obtain⟨v,h3,h4⟩:=(hcell i r h1).2.2 j x h2
    rw[h3];exact h4
theorem Rd.list {α:Type}{ok:α→Prop}{f:α→List SV}(ht:P.underlying t=some (.slice e))(hc:P.cellsOf e=sz)(h0:0<sz)(hb:0<P.bytesOf e)(hQ:Rd P e fun l=>∃x,ok x∧l=f x):
 Rd P t fun l=>∃xs:List α,(xs.length≤140737488351232∧∀x∈xs,ok x)∧l=[.sl sz (xs.map f)]:=
 (Rd.sl ht hc h0 hb hQ).mono fun l ⟨rows,h1,h2,h3⟩=>by
  obtain⟨xs,h4,rfl⟩:=a0M rows h2
  exact⟨xs,⟨by simpa using h1,h4⟩,h3⟩
def ArgRel (w:World)(v:Value):Part→Prop
 | .lf (.im true x)=>SRep (Old w) w v x
 | .agg ls=>∃cs,v= .agg cs∧∃xs:List SV,ls=xs.map (Leaf.im true)∧cs.size=xs.length∧∀(j:Nat) l v,xs[j]? =some l→cs[j]? =some v→SRep (Old w) w v l
 |_=>False
variable {H:Type} {v:Value} {d:DataW H}
theorem Rd.one (hQ:Rd P t Q){enc:TypeId×Value→H}{ps:List MemPlace}
 (hv:v.cells= #[v]) (h:DataW.Trod enc P w 0 (fun _=>true) true t v d ps) (hw:∀n∈d.weights P t,n≤reachBytes):∃x,Q [x]∧ArgRel w v (.lf (.im true x)):=by
 obtain⟨fuel,h⟩:=h
 obtain⟨ls,h1,h2,h3⟩:=hQ H enc w fuel _ _ h hw
 rw[hv]at h2 h3
 match ls,h2 with
 |[x],_=>exact⟨x,h1,h3 0 v x (by simp) (by simp)⟩
theorem a3i {r:Reach}{base:Nat}(ht:P.underlying t=some (.slice e))(h:Value.okWide P w r base t v):v.cells= #[v]:=by
 obtain⟨a,len,cap,rfl⟩:=okWide_slice ht h;rfl
theorem a4d {ts:List TypeId}{ds:List (DataW H)}(h:(DataW.weightsEach P ts ds).all (·≤reachBytes)=true)(j:Nat)(ht:ts[j]? =some t)(hd:ds[j]? =some d):∀n∈d.weights P t,n≤reachBytes:=
 fun n hn=>by simpa using List.all_eq_true.1 h n (DataW.weights_mem_each ht hd n hn)
def oldTags (w:World):Nat→Tag:=fun b=>if b<w.heap.size then .imm else .none
theorem a0h {b:Nat}(h:Old w b):Imm (oldTags w) true b:= .inl (by unfold oldTags;rw[if_pos h])
theorem ArgRel.part {p:Part}(h:ArgRel w v p)(k i:Nat):PartRel (oldTags w) w k i v p:=by
 match p with
 | .lf (.im true x)=>exact SRep.mono h (fun _ _=>rfl) fun b hb=>a0h hb
 | .agg ls=>
  obtain⟨cs,rfl,xs,rfl,hs,hr⟩:=h
  refine⟨cs,rfl,by simpa using hs,fun j l v h1 h2=> ?_⟩
  rw[List.getElem?_map,Option.map_eq_some_iff]at h1
  obtain⟨x,h1,rfl⟩:=h1
  exact SRep.mono (hr j x v h1 h2) (fun _ _=>rfl) fun b hb=>a0h hb
theorem a4J {f:FuncId}{args:List Part}(h:CallV P f args (·= .bool true))(w:World)(hl:Lw w)(vs:Array Value)(hs:vs.size=args.length)
 (hr:∀(i:Nat) p v,args[i]? =some p→vs[i]? =some v→ArgRel w v p):Calls P f vs w fun e w'=>e= .returned (.bool true)∧Below w.heap.size w w':=by
 refine(h (oldTags w) w vs hl ?_ (fun b=>by unfold oldTags;split<;>intro e<;>cases e) ?_ hs fun i p v h1 h2=>(hr i p v h1 h2).part 0 i).mono fun e w' ⟨v,g',s,he,hb,hs,hrel,_⟩=> ?_
 ·intro b k i j;unfold oldTags;split<;>intro e<;>cases e
 ·intro b hb;unfold oldTags;rw[if_neg (by omega)]
 ·subst hs
  have hrel:SRep (Imm g' true) w' v (.bool true):=hrel
  cases hrel
  exact⟨he,hb⟩
theorem args1 {v0:Value}{p0:Part}(h0:ArgRel w v0 p0):∀(i:Nat) p v,[p0][i]? =some p→(#[v0]:Array Value)[i]? =some v→ArgRel w v p:=by
 intro i p v h1 h2
 match i with
 |0=>simp at h1 h2;subst h1;subst h2;exact h0
 |i+1=>simp at h1
end Go.Proofs.Ytjfjdgjhihgdkaa.V
namespace Go.Proofs.Ytjfjdgjhihgdkaa
open Go Go.RowKit V
structure Rec where
 able:Int
 fields:List ByteArray
 deriving DecidableEq,Inhabited
structure Ins where
 op:ByteArray
 a:Int
 b:Int
 deriving DecidableEq,Inhabited
structure Fn where
 seen:Int
 args:List ByteArray
 rets:List ByteArray
 locals:List ByteArray
 takes:List Int
 code:List Ins
 deriving DecidableEq,Inhabited
structure Mod where
 records:List Rec
 funcs:List Fn
 friends:List Int
 deriving DecidableEq,Inhabited
def rI (n:Int):List SV:=[.int .i64 n]
def rS (s:ByteArray):List SV:=[.str s]
def rRec (r:Rec):List SV:=[.int .i64 r.able,.sl 1 (r.fields.map rS)]
def rIns (i:Ins):List SV:=[.str i.op,.int .i64 i.a,.int .i64 i.b]
def rFn (f:Fn):List SV:=[.int .i64 f.seen,.sl 1 (f.args.map rS),.sl 1 (f.rets.map rS),.sl 1 (f.locals.map rS),.sl 1 (f.takes.map rI),.sl 3 (f.code.map rIns)]
def rMod (m:Mod):List SV:=[.sl 2 (m.records.map rRec),.sl 6 (m.funcs.map rFn),.sl 1 (m.friends.map rI)]
theorem a0k (bs:ByteArray):∀(n i:Nat) (r:List UInt8),bs.size-i=n→ByteArray.toList.loop bs i r=r.reverse++bs.data.toList.drop i
 |0,i,r,h=>by
  unfold ByteArray.toList.loop
  have hs:bs.data.toList.length=bs.size:=Array.length_toList
  rw[if_neg (by omega),List.drop_of_length_le (by omega)];simp
 |n+1,i,r,h=>by
  unfold ByteArray.toList.loop
  have hs:bs.data.toList.length=bs.size:=Array.length_toList
  have hi:i<bs.data.toList.length:=by omega
  rw[if_pos (by omega),a0k bs n (i+1) _ (by omega),List.drop_eq_getElem_cons hi]
  have e:bs.get! i=bs.data.toList[i]:=by
   simp only[ByteArray.get!,Array.getElem_toList]
   rw[getElem!_pos]
  simp[e]
theorem T8 (bs:ByteArray):bs.toList=bs.data.toList:=by
 unfold ByteArray.toList
 rw[a0k bs _ 0 [] rfl];simp
theorem y0 {a b:ByteArray}:(a.toList==b.toList)=true↔a=b:=by
 rw[beq_iff_eq,T8,T8]
 constructor
 ·intro h
  exact ByteArray.ext (Array.ext' h)
 ·intro h;rw[h]
variable {α:Type} {i:Nat}
theorem F3 {a b:List α}{x y:α}(hx:a[i]? =some x)(hy:b[i]? =some y):a.take (i+1)=b.take (i+1)↔a.take i=b.take i∧x=y:=by
 rw[List.take_add_one,List.take_add_one,hx,hy]
 constructor
 ·intro h
  have h1:=List.append_inj' h (by simp)
  exact⟨h1.1,by simpa using h1.2⟩
 ·rintro⟨h1,h2⟩;rw[h1,h2]
variable {p:Prop}
theorem retT [Decidable p](h:p):slotOf [.lf (.im true (.bool true))]=Slot.bool (decide p):=by rw[decide_eq_true h];rfl
theorem retF [Decidable p](h:¬p):slotOf [.lf (.im true (.bool false))]=Slot.bool (decide p):=by rw[decide_eq_false h];rfl
variable {b:Bool}
theorem retB {c:Bool}(h:b=c):slotOf [.lf (.im true (.bool b))]=Slot.bool c:=by rw[h];rfl
theorem a6i {a b:List α}{x y:α}(hx:a[i]? =some x)(hy:b[i]? =some y)(h:x≠y):a≠b:=by
 intro e;subst e;rw[hx]at hy;cases hy;exact h rfl
theorem a3I {a b:List α}(h:¬(a.length:Int)=b.length):a≠b:=by intro e;rw[e]at h;exact h rfl
theorem V7 {a b:List α}(hl:a.length=b.length)(hi:a.length≤i)(h:a.take i=b.take i):a=b:=by
 rwa[List.take_of_length_le hi,List.take_of_length_le (by omega)]at h
theorem retL {sz:Nat}{a b:List (List SV)}(h:a=b):slotOf [.lf (.im true (.sl sz a))]= .lf (.im true (.sl sz b)):=by rw[h];rfl
theorem retI {a b:Int}(h:a=b):slotOf [.lf (.im true (.int .i64 a))]=Slot.int b:=by rw[h];rfl
def okS (l:List ByteArray):Prop:=l.length≤140737488355328∧∀s∈l,s.size≤140737488355328
def Rec.ok (r:Rec):Prop:=okS r.fields
def Ins.ok (i:Ins):Prop:=i.op.size≤140737488355328
def Fn.ok (f:Fn):Prop:=okS f.args∧okS f.rets∧okS f.locals∧f.takes.length≤140737488355328∧f.code.length≤140737488355328∧∀i∈f.code,i.ok
def Mod.ok (m:Mod):Prop:=(m.records.length≤140737488355328∧∀r∈m.records,r.ok)∧(m.funcs.length≤140737488355328∧∀f∈m.funcs,f.ok)∧m.friends.length≤140737488355328
def Rec.small (r:Rec):Prop:=r.fields.length≤1048576
def Fn.small (f:Fn):Prop:=f.args.length≤1048576∧f.rets.length≤1048576∧f.locals.length≤1048576∧f.takes.length≤1048576∧f.code.length≤1048576
def Mod.small (m:Mod):Prop:=(m.records.length≤1048576∧∀r∈m.records,r.small)∧(m.funcs.length≤1048576∧∀f∈m.funcs,f.small)∧m.friends.length≤1048576
def wS (l:List ByteArray):Nat:=l.length+(l.map ByteArray.size).sum
def wRec (r:Rec):Nat:=wS r.fields
def wRecs (l:List Rec):Nat:=l.length+(l.map wRec).sum
def wIns (i:Ins):Nat:=i.op.size
def wInss (l:List Ins):Nat:=l.length+(l.map wIns).sum
def wFn (f:Fn):Nat:=wS f.args+wS f.rets+wS f.locals+f.takes.length+wInss f.code
def wFns (l:List Fn):Nat:=l.length+(l.map wFn).sum
def wMod (m:Mod):Nat:=wRecs m.records+wFns m.funcs+m.friends.length
noncomputable def B (p:Prop):Bool:= @decide p (Classical.propDecidable p)
theorem K2 (h:p):B p=true:=by exact @decide_eq_true p (Classical.propDecidable p) h
theorem O7 (h:¬p):B p=false:=by exact @decide_eq_false p (Classical.propDecidable p) h
theorem a4v :B p=true↔p:=by exact @decide_eq_true_iff p (Classical.propDecidable p)
theorem retBT (h:p):slotOf [.lf (.im true (.bool true))]=Slot.bool (B p):=by rw[K2 h];rfl
theorem retBF (h:¬p):slotOf [.lf (.im true (.bool false))]=Slot.bool (B p):=by rw[O7 h];rfl
theorem retBB (h:b=true↔p):slotOf [.lf (.im true (.bool b))]=Slot.bool (B p):=by
 cases b with
 |true=>exact retBT (h.1 rfl)
 |false=>exact retBF fun hp=>by simpa using h.2 hp
theorem a5l {r s:Rec}(h1:r.able=s.able)(h2:r.fields=s.fields):r=s:=by cases r;cases s;simp at h1 h2;rw[h1,h2]
def FnOn (f g:Fn):Prop:=f.seen=0∨(f.seen≤g.seen∧f.args=g.args∧f.rets=g.rets)
structure GoesOn (o m:Mod):Prop where
 recs:o.records.length≤m.records.length
 funcs:o.funcs.length≤m.funcs.length
 recEq:∀(i:Nat) r s,o.records[i]? =some r→m.records[i]? =some s→r=s
 fn:∀(i:Nat) f g,o.funcs[i]? =some f→m.funcs[i]? =some g→FnOn f g
 friend:∀n∈o.friends,n∈m.friends
theorem R3 {p:α→α→Prop}{a b:List α}{x y:α}(h:∀(j:Nat) r s,j<i→a[j]? =some r→b[j]? =some s→p r s)(hx:a[i]? =some x)(hy:b[i]? =some y)(hp:p x y):
 ∀(j:Nat) r s,j<i+1→a[j]? =some r→b[j]? =some s→p r s:=by
 intro j r s hj h1 h2
 by_cases e:j=i
 ·subst e;rw[hx]at h1;rw[hy]at h2;cases h1;cases h2;exact hp
 ·exact h j r s (by omega) h1 h2
theorem W5 {p:α→α→Prop}{a b:List α}(h:∀(j:Nat) r s,j<i→a[j]? =some r→b[j]? =some s→p r s)(hi:a.length≤i):∀(j:Nat) r s,a[j]? =some r→b[j]? =some s→p r s:=
 fun j r s h1 h2=>h j r s (by have:=(List.getElem?_eq_some_iff.1 h1).1;omega) h1 h2
theorem W9 {p:α→Prop}{a:List α}{x:α}(h:∀y∈a.take i,p y)(hx:a[i]? =some x)(hp:p x):∀y∈a.take (i+1),p y:=by
 intro y hy
 rw[List.take_add_one,hx]at hy
 simp at hy
 rcases hy with hy|rfl
 ·exact h y hy
 ·exact hp
theorem a08 {p:α→Prop}{a:List α}(h:∀y∈a.take i,p y)(hi:a.length≤i):∀y∈a,p y:=by rwa[List.take_of_length_le hi]at h
def indexOf (l:List Int)(v:Int):Int:=if v∈l then((l.findIdx (·==v):Nat):Int)else-1
variable {l:List Int} {v:Int}
theorem a34 (h:l[i]? =some v)(hn:∀y∈l.take i,y≠v):indexOf l v=i:=by
 obtain⟨hi,hv⟩:=List.getElem?_eq_some_iff.1 h
 unfold indexOf
 rw[if_pos (List.mem_of_getElem? h)]
 congr 1
 rw[List.findIdx_eq hi]
 refine⟨by simp[hv],fun j hj=> ?_⟩
 have:l[j]? =some l[j]:=List.getElem?_eq_getElem (by omega)
 have hm:l[j]∈l.take i:=List.mem_of_getElem? (i:=j) (by rw[List.getElem?_take,if_pos hj,this])
 simpa using hn _ hm
theorem a4o (hn:∀y∈l,y≠v):indexOf l v= -1:=by
 unfold indexOf
 rw[if_neg fun h=>hn v h rfl]
theorem a28 :decide (indexOf l v≥0)=true↔v∈l:=by
 unfold indexOf
 split
 ·rename_i h;simp[h]
 ·rename_i h;simp[h]
theorem a3E {f:α→Nat}{l:List α}{x:α}(h:x∈l):f x≤(l.map f).sum:=by
 induction l with
 |nil=>cases h
 |cons y l ih=>
  rw[List.map_cons,List.sum_cons]
  rcases List.mem_cons.1 h with rfl|h
  ·omega
  ·have:=ih h;omega
def okL {α:Type}(p:α→Prop)(l:List α):Prop:=l.length≤140737488351232∧∀x∈l,p x
theorem o4 (h:(!b)=true):b=false:=by cases b<;>simp_all
theorem o3 (h:(!b)=false):b=true:=by cases b<;>simp_all
end Go.Proofs.Ytjfjdgjhihgdkaa
namespace Go.Proofs.Ytjfjdgjhihgdkaa
open Go Go.RowKit V
def nth {α:Type}[Inhabited α](l:List α)(i:Nat):α:=(l[i]?).getD default
variable {α:Type} {i:Nat}
theorem j6 [Inhabited α]{l:List α}(h:i<l.length):l[i]? =some (nth l i):=by
 unfold nth;rw[List.getElem?_eq_getElem h];rfl
theorem J3 [Inhabited α]{l:List α}{x:α}(h:l[i]? =some x):nth l i=x:=by unfold nth;rw[h];rfl
theorem c6 [Inhabited α]{l:List α}(h:i<l.length):nth l i∈l:=List.mem_of_getElem? (j6 h)
def bt (t:ByteArray)(i:Nat):UInt8:=nth t.data.toList i
variable {t:ByteArray}
theorem z8 (h:i<t.size):AllP [0≤((i:Nat):Int),t.data.toList[((i:Nat):Int).toNat]? =some (bt t i)]:=
 ib (j6 (by rw[Array.length_toList];exact h))
theorem cutTo {f:α→List SV}{l:List α}{sz h:Nat}{hi:Int}(e:hi=((h:Nat):Int))(hh:h≤l.length):
 AllP [AllP [(0:Nat)=0],AllP [hi=((h:Nat):Int)],0≤h,h≤(l.map f).length,(.lf (.im true (.sl sz (((l.map f).take h).drop 0))):Slot)= .lf (.im true (.sl sz ((l.take h).map f)))]:=
 ⟨a1 rfl,a1 e,Nat.zero_le _,by simpa using hh,by rw[List.drop_zero,List.map_take],trivial⟩
def andC (a b:Int):Int:=IntKind.i64.wrap (BitVec.ofInt IntKind.i64.bits a&&&BitVec.ofInt IntKind.i64.bits b).toNat
def andNotC (a b:Int):Int:=IntKind.i64.wrap (BitVec.ofInt IntKind.i64.bits a&&& ~~~BitVec.ofInt IntKind.i64.bits b).toNat
theorem a4s :∃f:Int→Int→Int,∀a b,f a b=andC a b:=⟨_,fun _ _=>rfl⟩
theorem a0Z :∃f:Int→Int→Int,∀a b,f a b=andNotC a b:=⟨_,fun _ _=>rfl⟩
noncomputable def andI:Int→Int→Int:=Classical.choose a4s
noncomputable def andNotI:Int→Int→Int:=Classical.choose a0Z
theorem a2O (a b:Int):andI a b=andC a b:=Classical.choose_spec a4s a b
theorem a3X (a b:Int):andNotI a b=andNotC a b:=Classical.choose_spec a0Z a b
def quoI (a b:Int):Int:=IntKind.i64.wrap (a.tdiv b)
def remI (a b:Int):Int:=a.tmod b
def IsKind (t:ByteArray):Prop:=t.size=3∧(bt t 0).toNat=83∧(48≤(bt t 1).toNat∧(bt t 1).toNat≤57)∧48≤(bt t 2).toNat∧(bt t 2).toNat≤57
instance (t:ByteArray):Decidable (IsKind t):=by unfold IsKind;exact inferInstance
def isKind (t:ByteArray):Bool:=decide (IsKind t)
def kM (t:ByteArray):Nat:=if IsKind t then(bt t 1).toNat-48 else 0
def kR (t:ByteArray):Nat:=if IsKind t then(bt t 2).toNat-48 else 0
theorem kR_lt (t:ByteArray):kR t<10:=by
 unfold kR
 split
 ·rename_i h;have:=h.2.2.2;omega
 ·omega
abbrev Kinds :=List (List Rec)
def kindsOf (s:List Mod):Kinds:=s.map Mod.records
def rRecs (l:List Rec):List SV:=[.sl 2 (l.map rRec)]
def hasK (ks:Kinds)(m k:Nat):Bool:=decide (m<ks.length)&&decide (k<(nth ks m).length)
def kindIn (ks:Kinds)(t:ByteArray):Bool:=isKind t&&hasK ks (kM t) (kR t)
def recOf (ks:Kinds)(t:ByteArray):Rec:=nth (nth ks (kM t)) (kR t)
theorem u5 {ks:Kinds}:kindIn ks t=true↔IsKind t∧kM t<ks.length∧kR t<(nth ks (kM t)).length:=by simp[kindIn,hasK,isKind]
def Ref (t:ByteArray):Prop:=0<t.size∧((bt t 0).toNat=38∨(bt t 0).toNat=33)
instance (t:ByteArray):Decidable (Ref t):=by unfold Ref;exact inferInstance
def pl (t:ByteArray):ByteArray:=if Ref t then t.extract 1 t.size else t
def isBase (t:ByteArray):Bool:=t.toList==(⟨#[110]⟩:ByteArray).toList||(t.toList==(⟨#[98]⟩:ByteArray).toList||t.toList==(⟨#[111]⟩:ByteArray).toList)
theorem z6 :isBase t=true↔t=⟨#[110]⟩∨t=⟨#[98]⟩∨t=⟨#[111]⟩:=by
 unfold isBase;rw[Bool.or_eq_true,Bool.or_eq_true,y0,y0,y0]
def plainOk (ks:Kinds)(t:ByteArray):Bool:=isBase t||kindIn ks t
def ableOf (ks:Kinds)(t:ByteArray):Int:=if Ref t∧(bt t 0).toNat=38 then 3 else if Ref t then 2 else if kindIn ks t=true then(recOf ks t).able else 7
def inI (a lo hi:Int):Bool:=decide (lo≤a)&&decide (a≤hi)
def limOk (limit n:Int):Bool:=decide (n=0)||(decide (0<n)&&decide (n<limit))
def canB (a one:Int):Bool:=decide (remI (quoI a one) 2=1)
def isRef (t:ByteArray):Bool:=decide (Ref t)
theorem A2 :isRef t=true↔Ref t:=decide_eq_true_iff
theorem a2t (h:isRef t=false):¬Ref t:=of_decide_eq_false h
theorem a2I (h:isBase t=true):¬IsKind t:=by
 rcases z6.1 h with rfl|rfl|rfl<;>(intro h1;exact absurd h1.1 (by decide))
theorem a2T (h:isBase t=true):¬Ref t:=by
 rcases z6.1 h with rfl|rfl|rfl<;>(intro h1;have:=h1.2;revert this;decide)
theorem I4 (h:IsKind t):¬Ref t:=by
 intro h1;have:=h1.2;have:=h.2.1;omega
theorem E5 (h:IsKind t):isBase t=false:=by
 cases hb:isBase t with
 |false=>rfl
 |true=>exact absurd h (a2I hb)
theorem a6r (h:¬Ref t):pl t=t:=if_neg h
def fieldOk (ks:Kinds)(m r:Nat)(t:ByteArray):Bool:=isBase t||(kindIn ks t&&(decide (kM t<m)||(decide (kM t=m)&&decide (kR t<r))))
end Go.Proofs.Ytjfjdgjhihgdkaa
namespace Go.Proofs.Ytjfjdgjhihgdkaa
open Go Go.RowKit V
def Upto {α:Type}[Inhabited α](p:Nat→α→Prop)(l:List α)(i:Nat):Prop:=∀j,j<i→p j (nth l j)
variable {α:Type}
theorem upto0 [Inhabited α]{p:Nat→α→Prop}{l:List α}:Upto p l 0:=fun j h=>by omega
variable {i:Nat}
theorem uptoS [Inhabited α]{p:Nat→α→Prop}{l:List α}(h:Upto p l i)(hp:p i (nth l i)):Upto p l (i+1):=fun j hj=>by
 by_cases e:j=i
 ·subst e;exact hp
 ·exact h j (by omega)
variable {n:Nat}
theorem uptoN [Inhabited α]{p:Nat→α→Prop}{l:List α}(hi:i<n)(hp:¬p i (nth l i)):¬Upto p l n:=fun h=>hp (h i hi)
theorem uptoE [Inhabited α]{p:Nat→α→Prop}{l:List α}(h:Upto p l i)(hi:n≤i):Upto p l n:=fun j hj=>h j (by omega)
noncomputable def fits (a b:Int):Bool:=decide (andNotI (andI a 7) b=0)&& !(decide (andI a 8≠0)&&decide (andI b 4=0))
def fitsC (a b:Int):Bool:=decide (andNotC (andC a 7) b=0)&& !(decide (andC a 8≠0)&&decide (andC b 4=0))
theorem a68 (a b:Int):fits a b=fitsC a b:=by unfold fits fitsC;rw[a2O,a2O,a2O,a3X]
variable {a b:Int}
theorem a5u (h0:0≤a)(h1:a≤15)(h2:0≤b)(h3:b≤15):
 fits a b=(!(bif canB a 1 then(!canB b 1||(canB a 2&& !canB b 2))else(canB a 2&& !canB b 2))&& !(decide (a≥4)&& !canB b 4)):=by
 obtain⟨m,rfl⟩:=Int.eq_ofNat_of_zero_le h0
 obtain⟨n,rfl⟩:=Int.eq_ofNat_of_zero_le h2
 rw[a68]
 have hall:∀m:Fin 16,∀n:Fin 16,fitsC ((m.val:Nat):Int) ((n.val:Nat):Int)=(!(bif canB ((m.val:Nat):Int) 1 then(!canB ((n.val:Nat):Int) 1||(canB ((m.val:Nat):Int) 2&& !canB ((n.val:Nat):Int) 2))else(canB ((m.val:Nat):Int) 2&& !canB ((n.val:Nat):Int) 2))&& !(decide (((m.val:Nat):Int)≥4)&& !canB ((n.val:Nat):Int) 4)):=by
  decide+kernel
 exact hall ⟨m,by omega⟩ ⟨n,by omega⟩
def fieldFine (ks:Kinds)(m r:Nat)(a:Int)(t:ByteArray):Prop:=fieldOk ks m r t=true∧fits a (ableOf ks t)=true
structure RecOk (ks:Kinds)(m r:Nat):Prop where
 lo:0≤(nth (nth ks m) r).able
 hi:(nth (nth ks m) r).able≤15
 len:(nth (nth ks m) r).fields.length≤3
 fields:Upto (fun _ t=>fieldFine ks m r (nth (nth ks m) r).able t) (nth (nth ks m) r).fields (nth (nth ks m) r).fields.length
def Ahead (ks:Kinds)(m r:Nat):Prop:=∀a b,(a<m∨(a=m∧b<r))→a<ks.length→b<(nth ks a).length→0≤(nth (nth ks a) b).able∧(nth (nth ks a) b).able≤15
variable {ks:Kinds} {m r:Nat} {t:ByteArray}
theorem a0Y (h:Ahead ks m r)(hf:fieldOk ks m r t=true):0≤ableOf ks t∧ableOf ks t≤15:=by
 unfold ableOf
 split
 ·omega
 ·split
  ·omega
  ·split
   ·rename_i hk
    obtain⟨hk0,hm,hr⟩:=u5.1 hk
    unfold fieldOk at hf
    rw[E5 hk0]at hf
    simp at hf
    exact h _ _ (by omega) hm hr
   ·omega
theorem a30 (hf:fieldOk ks m r t=true):IsKind t→kindIn ks t=true:=by
 intro hk
 unfold fieldOk at hf
 rw[E5 hk]at hf
 simp at hf
 exact hf.1
noncomputable def least (p:Nat→Prop):Nat→Nat
 |0=>0
 |n+1=>bif B (least p n<n)then least p n else bif B (p n)then n else n+1
theorem a1V {p:Nat→Prop}:∀{n:Nat},(∀j,j<n→¬p j)→least p n=n
 |0,_=>rfl
 |n+1,h=>by
  unfold least
  rw[a1V fun j hj=>h j (by omega),O7 (Nat.lt_irrefl n),O7 (h n (by omega))]
  rfl
theorem W8 {p:Nat→Prop}:∀{n i:Nat},i<n→p i→(∀j,j<i→¬p j)→least p n=i
 |0,_,h,_,_=>by omega
 |n+1,i,hi,hp,hn=>by
  unfold least
  by_cases e:i<n
  ·rw[W8 e hp hn,K2 e];rfl
  ·have:i=n:=by omega
   subst this
   rw[a1V hn,O7 (Nat.lt_irrefl i),K2 hp];rfl
structure ModOk (ks:Kinds)(m:Nat):Prop where
 len:(nth ks m).length≤3
 recs:∀r,r<(nth ks m).length→RecOk ks m r
noncomputable def lb (ks:Kinds):Nat:=least (fun m=>¬ModOk ks m) ks.length
noncomputable def badM (ks:Kinds):Int:=if 3<ks.length then 3 else if lb ks<ks.length then((lb ks:Nat):Int)else-1
noncomputable def badR (ks:Kinds):Int:=if 3<ks.length then 0 else if lb ks<ks.length then(if 3<(nth ks (lb ks)).length then 3 else((least (fun r=>¬RecOk ks (lb ks) r) (nth ks (lb ks)).length:Nat):Int))else-1
structure KOk (ks:Kinds):Prop where
 len:ks.length≤3
 mods:∀m,m<ks.length→ModOk ks m
theorem a6Z (h:3<ks.length):badM ks=3∧badR ks=0:=⟨if_pos h,if_pos h⟩
theorem a7s (h:¬3<ks.length)(hi:i<ks.length)(hp:∀j,j<i→ModOk ks j)(hl:3<(nth ks i).length):badM ks=i∧badR ks=3:=by
 have e:lb ks=i:=W8 hi (fun hm=>by have:=hm.len;omega) fun j hj hn=>hn (hp j hj)
 unfold badM badR
 rw[e,if_neg h,if_neg h,if_pos hi,if_pos hi,if_pos hl]
 exact⟨rfl,rfl⟩
theorem a63 (h:¬3<ks.length)(hi:i<ks.length)(hp:∀j,j<i→ModOk ks j)(hl:¬3<(nth ks i).length)(hr:r<(nth ks i).length)(hq:∀j,j<r→RecOk ks i j)(hn:¬RecOk ks i r):badM ks=i∧badR ks=r:=by
 have e:lb ks=i:=W8 hi (fun hm=>hn (hm.recs r hr)) fun j hj hn=>hn (hp j hj)
 unfold badM badR
 rw[e,if_neg h,if_neg h,if_pos hi,if_pos hi,if_neg hl,W8 hr hn fun j hj hn=>hn (hq j hj)]
 exact⟨rfl,rfl⟩
theorem a6F (h:¬3<ks.length)(hp:∀j,j<ks.length→ModOk ks j):badM ks= -1∧badR ks= -1:=by
 have e:lb ks=ks.length:=a1V fun j hj hn=>hn (hp j hj)
 unfold badM badR
 rw[e,if_neg h,if_neg h,if_neg (Nat.lt_irrefl _),if_neg (Nat.lt_irrefl _)]
 exact⟨rfl,rfl⟩
theorem a5S :badM ks<0↔KOk ks:=by
 constructor
 ·intro h
  unfold badM at h
  split at h
  ·omega
  ·rename_i h3
   split at h
   ·omega
   ·rename_i hl
    refine⟨by omega,fun m hm=>Classical.byContradiction fun hn=>hl ?_⟩
    have key:∀n i,i<n→¬ModOk ks i→least (fun m=>¬ModOk ks m) n<n:=by
     intro n
     induction n with
     |zero=>intro i hi;omega
     |succ n ih=>
      intro i hi hn
      unfold least
      by_cases e:least (fun m=>¬ModOk ks m) n<n
      ·rw[K2 e];show _<_;simp only[cond_true];omega
      ·have hin:i=n:=Classical.byContradiction fun hne=>e (ih i (by omega) hn)
       subst hin
       rw[O7 e,K2 hn];simp
    exact key _ m hm hn
 ·intro h
  rw[(a6F (by have:=h.len;omega) h.mods).1];decide
theorem a6g (hp:∀j,j<i→ModOk ks j)(hq:∀j,j<r→RecOk ks i j):Ahead ks i r:=by
 intro a b h ha hb
 rcases h with h|⟨rfl,h⟩
 ·exact⟨((hp a h).recs b hb).lo,((hp a h).recs b hb).hi⟩
 ·exact⟨(hq b h).lo,(hq b h).hi⟩
def W1 :List ByteArray:=[⟨#[116,114,117,101]⟩,⟨#[102,97,108,115,101]⟩,⟨#[109,101]⟩,⟨#[97,100,100]⟩,⟨#[115,117,98]⟩,⟨#[109,117,108]⟩,⟨#[100,105,118]⟩,⟨#[109,111,100]⟩,⟨#[108,101,115,115]⟩,⟨#[115,97,109,101]⟩,⟨#[97,110,100]⟩,⟨#[111,114]⟩,⟨#[110,111,116]⟩]
def W2 :List ByteArray:=[⟨#[107,101,101,112]⟩,⟨#[116,97,107,101]⟩,⟨#[104,97,115]⟩,⟨#[115,101,101]⟩,⟨#[115,101,101,119]⟩]
def mkw (n:Int)(w:ByteArray):Ins:=⟨w,n,0⟩
def FA :List Ins:=[⟨⟨#[110,117,109]⟩,1000001,0⟩]
def FB :List Ins:=[⟨⟨#[99,111,112,121]⟩,6,0⟩,⟨⟨#[109,111,118,101]⟩,6,0⟩,⟨⟨#[112,117,116]⟩,6,0⟩,⟨⟨#[100,114,111,112]⟩,0,0⟩]
def FC :List Ins:=[⟨⟨#[112,97,99,107]⟩,3,0⟩,⟨⟨#[117,110,112,97,99,107]⟩,3,0⟩,⟨⟨#[108,101,110,100]⟩,6,0⟩,⟨⟨#[108,101,110,100,119]⟩,6,0⟩,⟨⟨#[102,105,101,108,100]⟩,3,3⟩]
def FD :List Ins:=[⟨⟨#[114,101,97,100]⟩,0,0⟩,⟨⟨#[112,101,101,107]⟩,0,0⟩,⟨⟨#[119,114,105,116,101]⟩,0,0⟩,⟨⟨#[102,114,101,101,122,101]⟩,0,0⟩]
def FE :List Ins:=[⟨⟨#[106,117,109,112]⟩,40,0⟩,⟨⟨#[122,101,114,111]⟩,40,0⟩,⟨⟨#[99,97,108,108]⟩,3,4⟩,⟨⟨#[114,101,116]⟩,0,0⟩,⟨⟨#[102,97,105,108]⟩,0,0⟩]
def FORMS :List Ins:=((((FA++W1.map (mkw 0))++FB)++FC)++FD)++W2.map (mkw 3)++FE
def formV (op:ByteArray):Ins:=(FORMS.find? (fun f=>decide (f.op=op))).getD ⟨⟨#[]⟩,0,0⟩
def formB (op:ByteArray):Bool:=(FORMS.find? (fun f=>decide (f.op=op))).isSome
variable {op:ByteArray}
theorem a7i (hi:i<FORMS.length)(hn:∀j,j<i→(nth FORMS j).op≠op)(h:(nth FORMS i).op=op):formV op=nth FORMS i∧formB op=true:=by
 have e:FORMS.find? (fun f=>decide (f.op=op))=some (nth FORMS i):=by
  rw[List.find?_eq_some_iff_getElem]
  have hx:=j6 hi
  obtain⟨h1,h2⟩:=List.getElem?_eq_some_iff.1 hx
  refine⟨by simpa using h,i,h1,h2,fun j hj=> ?_⟩
  have:=hn j hj
  rw[J3 (List.getElem?_eq_getElem (by omega))]at this
  simpa using this
 unfold formV formB
 rw[e]
 exact⟨rfl,rfl⟩
theorem a6S (hn:∀j,j<FORMS.length→(nth FORMS j).op≠op):formV op=⟨⟨#[]⟩,0,0⟩∧formB op=false:=by
 have e:FORMS.find? (fun f=>decide (f.op=op))=none:=by
  rw[List.find?_eq_none]
  intro f hf
  obtain⟨j,hj⟩:=List.getElem?_of_mem hf
  have:=hn j (List.getElem?_eq_some_iff.1 hj).1
  rw[J3 hj]at this
  simpa using this
 unfold formV formB
 rw[e]
 exact⟨rfl,rfl⟩
theorem a3N (op:ByteArray):(0≤(formV op).a∧(formV op).a≤1000001)∧0≤(formV op).b∧(formV op).b≤1000001:=by
 have hall:∀f∈FORMS,(0≤f.a∧f.a≤1000001)∧0≤f.b∧f.b≤1000001:=by decide+kernel
 unfold formV
 cases e:FORMS.find? (fun f=>decide (f.op=op))with
 |none=>exact⟨⟨Int.le_refl 0,by decide⟩,Int.le_refl 0,by decide⟩
 |some f=>exact hall f (List.mem_of_find?_eq_some e)
def insOk (i:Ins):Bool:=formB i.op&&(limOk (formV i.op).a i.a&&limOk (formV i.op).b i.b)
def smallS (a:List Mod):Prop:=a.length≤1048576∧∀m∈a,m.small
theorem retII {c d:Int}(h:c=a∧d=b):slotOf [.lf (.im true (.int .i64 a)),.lf (.im true (.int .i64 b))]= .tup [.lf (.im true (.int .i64 c)),.lf (.im true (.int .i64 d))]:=by rw[h.1,h.2];rfl
theorem a5D {v x:Ins}{b c:Bool}(h:v=x∧b=c):slotOf [.agg [.im true (.str x.op),.im true (.int .i64 x.a),.im true (.int .i64 x.b)],.lf (.im true (.bool c))]= .tup [.agg [.im true (.str v.op),.im true (.int .i64 v.a),.im true (.int .i64 v.b)],.lf (.im true (.bool b))]:=by rw[h.1,h.2];rfl
theorem G9 {p:Nat→Prop}(h:∀j,j<i→p j)(hi:p i):∀j,j<i+1→p j:=fun j hj=>by
 by_cases e:j=i
 ·subst e;exact hi
 ·exact h j (by omega)
theorem F6 {f:α→List SV}{l:List α}{x:α}(h:l[i]? =some x):(l.take i).map f++[f x]=(l.take (i+1)).map f:=by
 rw[List.take_add_one,h];simp
theorem D1 (a:List Mod):(kindsOf a).length=a.length:=by simp[kindsOf]
theorem a3r {a:List Mod}{x:Mod}(h:a[i]? =some x):(kindsOf a)[i]? =some x.records:=by simp[kindsOf,h]
end Go.Proofs.Ytjfjdgjhihgdkaa
namespace Go.Proofs.Ytjfjdgjhihgdkaa
open Go Go.RowKit V
theorem a4D (l:List ByteArray):ScalarRows (l.map rS):=by
 intro r hr x hx
 obtain⟨s,-,rfl⟩:=List.mem_map.1 hr
 simp[rS]at hx;subst hx;rfl
def dgt (k:Int):ByteArray:=⟨#[UInt8.ofNat (48+k.toNat)]⟩
theorem F9 (k:Int):(dgt k).size=1:=rfl
theorem a6w {k:Int}(h0:0≤k)(h1:k<10):([[.int .u8 (48+k)]]:List (List SV))=bytesR (dgt k):=by
 have e:((UInt8.ofNat (48+k.toNat)).toNat:Int)=48+k:=by
  rw[UInt8.toNat_ofNat'];omega
 show _=[[SV.int .u8 ((UInt8.ofNat (48+k.toNat)).toNat:Int)]]
 rw[e]
theorem strf {a b:ByteArray}(h:a.size+b.size≤9223372036854775807):((a.size+b.size:Nat):Int)≤IntKind.i64.max:=by
 show((a.size+b.size:Nat):Int)≤9223372036854775807;omega
def rB (c:UInt8):List SV:=[.int .u8 ((c.toNat:Nat):Int)]
theorem V2 (a b:Nat):remI (a:Int) (b:Int)=((a%b:Nat):Int):=by unfold remI;rw[Int.ofNat_tmod]
variable {a b:Nat}
theorem a3O (ha:a≤9223372036854775807):quoI (a:Int) (b:Int)=((a/b:Nat):Int):=by
 unfold quoI
 rw[←Int.ofNat_tdiv]
 have h:a/b≤a:=Nat.div_le_self a b
 generalize a/b=q at h⊢
 exact a1G rfl (by omega) (by omega)
theorem a4P (c:UInt8):IntKind.wrap .i64 ((c.toNat:Nat):Int)=((c.toNat:Nat):Int):=by
 have:=c.toNat_lt
 exact a1G rfl (by omega) (by omega)
def xorI (a b:Int):Int:=IntKind.i64.wrap (BitVec.ofInt IntKind.i64.bits a^^^BitVec.ofInt IntKind.i64.bits b).toNat
theorem a5U (ha:a<2^62)(hb:b<2^62):xorI (a:Int) (b:Int)=((a^^^b:Nat):Int):=by
 unfold xorI
 have e:(BitVec.ofInt IntKind.i64.bits (a:Int)^^^BitVec.ofInt IntKind.i64.bits (b:Int)).toNat=a^^^b:=by
  rw[BitVec.toNat_xor]
  have h:∀x:Nat,x<2^62→(BitVec.ofInt IntKind.i64.bits (x:Int)).toNat=x:=fun x hx=>by
   rw[BitVec.ofInt_natCast,BitVec.toNat_ofNat]
   exact Nat.mod_eq_of_lt (by show x<2^64;omega)
  rw[h a ha,h b hb]
 rw[e]
 have:=Nat.xor_lt_two_pow ha hb
 exact a1G rfl (by omega) (by omega)
theorem xorN (ha:a<2^62)(hb:b<2^62):AllP [NumOp .xor .i64 (a:Int) (b:Int) ((a^^^b:Nat):Int)]:=
 a1 ⟨by show some (SV.int .i64 (xorI a b))=_;rw[a5U ha hb]⟩
theorem a5Q {x n:Nat}(h:x<n):x<max n 1:=by omega
end Go.Proofs.Ytjfjdgjhihgdkaa
namespace Go.Proofs.Ytjfjdgjhihgdkaa
open Go Go.RowKit V
structure Mk where
 type:ByteArray
 org:List Int
 deriving DecidableEq,Inhabited
def rMk (x:Mk):List SV:=[.str x.type,.sl 1 (x.org.map rI)]
def noMk :Mk:=⟨⟨#[]⟩,[]⟩
def Valid (ks:Kinds)(t:ByteArray):Prop:=plainOk ks (pl t)=true
variable {ks:Kinds} {t:ByteArray}
theorem Valid.able (h:Valid ks t):IsKind t→kindIn ks t=true:=fun hk=>by
 unfold Valid at h
 rw[a6r (I4 hk)]at h
 unfold plainOk at h
 rw[E5 hk]at h
 simpa using h
theorem Valid.ablePl (h:Valid ks t):IsKind (pl t)→kindIn ks (pl t)=true:=fun hk=>by
 unfold Valid plainOk at h
 rw[E5 hk]at h
 simpa using h
theorem j9 (h:plainOk ks t=true):t.size≤3:=by
 unfold plainOk at h
 rw[Bool.or_eq_true]at h
 rcases h with h|h
 ·rcases z6.1 h with rfl|rfl|rfl<;>decide
 ·have:=(u5.1 h).1.1;omega
theorem a5P (t:ByteArray):t.size≤(pl t).size+1:=by
 unfold pl
 split
 ·rw[ByteArray.size_extract];omega
 ·omega
theorem Valid.size (h:Valid ks t):t.size≤4:=by
 have h1:=j9 h
 have h2:=a5P t
 omega
structure MkOk (ks:Kinds)(x:Mk):Prop where
 ty:Valid ks x.type
 len:x.org.length≤10
structure PlOk (ks:Kinds)(x:Mk):Prop where
 ty:x.type≠⟨#[]⟩→Valid ks x.type
 len:x.org.length≤10
theorem MkOk.pl {x:Mk}(h:MkOk ks x):PlOk ks x:=⟨fun _=>h.ty,h.len⟩
theorem PlOk.no (ks:Kinds):PlOk ks noMk:=⟨fun h=>absurd rfl h,by simp[noMk]⟩
structure S7 where
 st:List Mk
 pls:List Mk
 code:Int
structure I7 (ks:Kinds)(np L:Nat)(s:S7):Prop where
 st:∀x∈s.st,MkOk ks x
 pl:∀x∈s.pls,PlOk ks x
 n:s.pls.length=np
 l:s.st.length≤L
variable {np L:Nat}
theorem I7.code {s:S7}(h:I7 ks np L s)(c:Int):I7 ks np L ⟨s.st,s.pls,c⟩:=⟨h.st,h.pl,h.n,h.l⟩
theorem I7.mono {L':Nat}{s:S7}(h:I7 ks np L s)(hl:L≤L'):I7 ks np L' s:=⟨h.st,h.pl,h.n,Nat.le_trans h.l hl⟩
variable {P:Program} {f:FuncId} {o o' s:Slot}
theorem cl2 {ps:List Part}(h:Text P f)(hc:CallM P f ps o o' s):AllP [Text P f,CallM P f ps o o' s]:=⟨h,hc,trivial⟩
variable {α:Type} {i j n sz off:Nat}
theorem elT {f:α→List SV}{l:List α}{x:α}(h:l[i]? =some x)(ho:off=i*sz+j)(hn:j+n≤sz):AllP [(l.map f)[i]? =some (f x),off=i*sz+j,j+n≤sz]:=
 ⟨by rw[List.getElem?_map,h];rfl,ho,hn,trivial⟩
theorem stT {f:α→List SV}{l:List α}{x y:α}{rows:List (List SV)}{new:List SV}(h:l[i]? =some x)(ho:off=i*sz+j)(hn:j+n≤sz)(hr:rows=(l.set i y).map f)(hc:cutIn (f x) j new=f y):
 AllP [(l.map f)[i]? =some (f x),off=i*sz+j,j+n≤sz,∀z,some rows=some z→(l.map f).set i (cutIn (f x) j new)=z]:=
 ⟨by rw[List.getElem?_map,h];rfl,ho,hn,fun z e=>by cases e;rw[hr,hc,List.map_set],trivial⟩
theorem cutU {f:α→List SV}{l:List α}{h:Nat}{i:Int}{s':Slot}(e:i=((h:Nat):Int))(hh:h≤l.length)(es:s=s'):AllP [i=((h:Nat):Int),h≤(l.map f).length,s=s']:=
 ⟨e,by rw[List.length_map];exact hh,es,trivial⟩
def kn (m k:Nat):ByteArray:=((⟨#[83]⟩:ByteArray)++dgt ((m:Nat):Int))++dgt ((k:Nat):Int)
theorem a4T :∀m,m<10→∀k,k<10→IsKind (kn m k)∧kM (kn m k)=m∧kR (kn m k)=k∧(kn m k).size=3:=by decide+kernel
variable {m k:Nat}
theorem a7r (h3:ks.length≤10)(hm:m<ks.length)(hk:k<(nth ks m).length)(hk3:(nth ks m).length≤10):kindIn ks (kn m k)=true:=by
 obtain⟨h1,h2,h4,_⟩:=a4T m (by omega) k (by omega)
 exact u5.2 ⟨h1,by rw[h2];exact hm,by rw[h2,h4];exact hk⟩
theorem a6D (h3:ks.length≤10)(hm:m<ks.length)(hk:k<(nth ks m).length)(hk3:(nth ks m).length≤10):Valid ks (kn m k):=by
 have h:=a7r h3 hm hk hk3
 unfold Valid
 rw[a6r (I4 (u5.1 h).1)]
 unfold plainOk
 rw[h];simp
variable {E:Env}
theorem a4R {σ:St}(c b i sz:Nat)(ls:List Leaf)(hc:σ (ck c)= .cell b ls)(hi:ls[i]? =some .nil):Turn E σ (·=upd σ (ck c) (.cell b (ls.set i (.im true (.sl sz []))))):=by
 intro g w a h
 have hcell:=h.cell c
 rw[hc]at hcell
 obtain⟨cur,e,hg,hh,hl⟩:=hcell
 refine⟨g,_,rfl,h.putCell c _ ⟨cur,e,hg,hh,by rw[List.length_set];exact hl.1,fun j l v h1 h2=> ?_⟩⟩
 by_cases ej:j=i
 ·subst ej
  rw[List.getElem?_set_self (List.getElem?_eq_some_iff.1 hi).1]at h1
  cases h1
  have:=hl.2 j _ v hi h2
  have e1:v= .slice none 0 0:=this
  subst e1
  exact SRep.nil _ _ _
 ·rw[List.getElem?_set_ne (fun e1=>ej e1.symm)]at h1
  exact hl.2 j l v h1 h2
theorem j4 {L:SL}{b:Nat}{ls:List Leaf}(c i sz:Nat)(h:V.look L (ck c)= .cell b ls)(hi:ls[i]? =some .nil):Tu E L ((ck c,.cell b (ls.set i (.im true (.sl sz []))))::L):=by
 intro ν
 have hd:den ν L (ck c)=renS ν (.cell b ls):=by simp only[den,h]
 rw[o1]
 simp only[renS]at hd⊢
 cases hν:ν b with
 |none=>rw[hν]at hd;exact i4 fun g w a hr=>i6 hr hd
 |some p=>
  rw[hν]at hd
  rw[List.map_set]
  exact a4R c p.1 i sz _ hd (by rw[List.getElem?_map,hi];rfl)
theorem CallM.nil {a b:List Part}(h:CallM P f (a++ .lf (.im true (.sl sz []))::b) o o' s):CallM P f (a++ .lf .nil::b) o o' s:=by
 intro ν b0 c hν g w vs h1 h2 h3 h4 h5 h6
 refine h ν b0 c hν g w vs h1 h2 (by simpa using h3) h4 (fun i p v hp hv=> ?_) h6
 by_cases hi:i=a.length
 ·subst hi
  simp at hp
  subst hp
  have:=h5 a.length (.lf .nil) v (by simp) hv
  have e:v= .slice none 0 0:=this
  subst e
  exact SRep.nil _ _ _
 ·refine h5 i p v ?_ hv
  by_cases hlt:i<a.length
  ·rw[List.getElem?_append_left hlt]at hp⊢;exact hp
  ·rw[List.getElem?_append_right (by omega)]at hp⊢
   obtain⟨k,hk⟩:∃k,i-a.length=k+1:=⟨i-a.length-1,by omega⟩
   rw[hk]at hp⊢
   simpa using hp
end Go.Proofs.Ytjfjdgjhihgdkaa
namespace Go.Proofs.Ytjfjdgjhihgdkaa
open Go Go.RowKit V
theorem ixn {α:Type}[Inhabited α](f:α→List SV)(l:List α)(i:Nat)(h:i<l.length:=by omega):AllP [0≤((i:Nat):Int),(l.map f)[((i:Nat):Int).toNat]? =some (f (nth l i))]:=ix (j6 h)
@[reducible] def rdr (b:List UInt8) (q:Nat):Slot:= .cell obN [.m 1 b rB,.z (q:Int)]
@[reducible] def rdl (b:List UInt8) (q:Nat):List Leaf:=[.m 1 b rB,.z (q:Int)]
@[reducible] def B0 :ByteArray:=⟨#[110]⟩
@[reducible] def B1 :ByteArray:=⟨#[110,117,109]⟩
@[reducible] def B2 :ByteArray:=⟨#[102,97,105,108]⟩
@[reducible] def B3 :ByteArray:=⟨#[98]⟩
@[reducible] def B4 :ByteArray:=⟨#[]⟩
@[reducible] def B5 :ByteArray:=⟨#[32]⟩
@[reducible] def B6 :ByteArray:=⟨#[33]⟩
@[reducible] def B7 :ByteArray:=⟨#[32,58]⟩
@[reducible] def B8 :ByteArray:=⟨#[38]⟩
@[reducible] def B9 :ByteArray:=⟨#[111]⟩
@[reducible] def B10 :ByteArray:=⟨#[83]⟩
@[reducible] def B11 :ByteArray:=⟨#[107,101,101,112]⟩
@[reducible] def B12 :ByteArray:=⟨#[122,101,114,111]⟩
@[reducible] def B13 :ByteArray:=⟨#[102,117,110,99,32]⟩
@[reducible] def B14 :ByteArray:=⟨#[114,101,116]⟩
@[reducible] def B15 :ByteArray:=⟨#[114,101,99,111,114,100]⟩
@[reducible] def B16 :ByteArray:=⟨#[104,97,115]⟩
@[reducible] def B17 :ByteArray:=⟨#[116,97,107,101]⟩
@[reducible] def B18 :ByteArray:=⟨#[109,101]⟩
@[reducible] def B19 :ByteArray:=⟨#[10]⟩
@[reducible] def B20 :ByteArray:=⟨#[115,101,101]⟩
@[reducible] def B21 :ByteArray:=⟨#[115,101,101,119]⟩
@[reducible] def B22 :ByteArray:=⟨#[117,110,112,97,99,107]⟩
@[reducible] def B23 :ByteArray:=⟨#[109,111,118,101]⟩
@[reducible] def B24 :ByteArray:=⟨#[112,97,99,107]⟩
@[reducible] def B25 :ByteArray:=⟨#[102,114,105,101,110,100]⟩
@[reducible] def B26 :ByteArray:=⟨#[100,114,111,112]⟩
@[reducible] def B27 :ByteArray:=⟨#[116,114,117,101]⟩
@[reducible] def B28 :ByteArray:=⟨#[112,101,101,107]⟩
@[reducible] def B29 :ByteArray:=⟨#[120]⟩
@[reducible] def B30 :ByteArray:=⟨#[83,48,57]⟩
@[reducible] def B31 :ByteArray:=⟨#[38,110]⟩
@[reducible] def B32 :ByteArray:=⟨#[108,101,110,100]⟩
@[reducible] def B33 :ByteArray:=⟨#[114,101,99,111,114,100,32]⟩
@[reducible] def B34 :ByteArray:=⟨#[58]⟩
@[reducible] def B35 :ByteArray:=⟨#[102,117,110,99]⟩
@[reducible] def B36 :ByteArray:=⟨#[97,100,100]⟩
@[reducible] def B37 :ByteArray:=⟨#[115,117,98]⟩
@[reducible] def B38 :ByteArray:=⟨#[109,117,108]⟩
@[reducible] def B39 :ByteArray:=⟨#[100,105,118]⟩
@[reducible] def B40 :ByteArray:=⟨#[97,110,100]⟩
@[reducible] def B41 :ByteArray:=⟨#[106,117,109,112]⟩
@[reducible] def B42 :ByteArray:=⟨#[114,101,97,100]⟩
@[reducible] def B43 :ByteArray:=⟨#[102,97,108,115,101]⟩
@[reducible] def B44 :ByteArray:=⟨#[109,111,100]⟩
@[reducible] def B45 :ByteArray:=⟨#[108,101,115,115]⟩
@[reducible] def B46 :ByteArray:=⟨#[111,114]⟩
@[reducible] def B47 :ByteArray:=⟨#[110,111,116]⟩
@[reducible] def B48 :ByteArray:=⟨#[115,97,109,101]⟩
@[reducible] def B49 :ByteArray:=⟨#[99,111,112,121]⟩
@[reducible] def B50 :ByteArray:=⟨#[112,117,116]⟩
@[reducible] def B51 :ByteArray:=⟨#[108,101,110,100,119]⟩
@[reducible] def B52 :ByteArray:=⟨#[102,105,101,108,100]⟩
@[reducible] def B53 :ByteArray:=⟨#[119,114,105,116,101]⟩
@[reducible] def B54 :ByteArray:=⟨#[102,114,101,101,122,101]⟩
@[reducible] def B55 :ByteArray:=⟨#[99,97,108,108]⟩
@[reducible] def B56 :ByteArray:=⟨#[114,101,99,111,114,100,32,52,32,110,10,114,101,99,111,114,100,32,49,50,32,83,48,48,10,102,117,110,99,32,50,32,110,32,58,32,83,48,48,32,58,32,58,10,109,111,118,101,32,48,10,112,97,99,107,32,48,10,114,101,116,10,102,117,110,99,32,50,32,83,48,48,32,58,32,58,32,58,10,109,111,118,101,32,48,10,112,97,99,107,32,49,10,109,101,10,107,101,101,112,32,49,10,114,101,116,10,102,117,110,99,32,50,32,111,32,110,32,58,32,58,32,58,32,49,10,109,101,10,115,101,101,119,32,49,10,102,105,101,108,100,32,48,32,49,10,102,105,101,108,100,32,48,32,48,10,112,101,101,107,10,99,111,112,121,32,49,10,115,117,98,10,119,114,105,116,101,10,99,111,112,121,32,48,10,115,101,101,119,32,49,10,102,105,101,108,100,32,48,32,49,10,102,105,101,108,100,32,48,32,48,10,112,101,101,107,10,99,111,112,121,32,49,10,97,100,100,10,119,114,105,116,101,10,114,101,116,10,102,117,110,99,32,50,32,111,32,58,32,110,32,58,32,58,32,49,10,99,111,112,121,32,48,10,104,97,115,32,49,10,122,101,114,111,32,56,10,99,111,112,121,32,48,10,115,101,101,32,49,10,102,105,101,108,100,32,48,32,49,10,102,105,101,108,100,32,48,32,48,10,114,101,97,100,10,114,101,116,10,110,117,109,32,48,10,114,101,116,10]⟩
@[reducible] def B57 :ByteArray:=⟨#[114,101,99,111,114,100,32,49,50,32,110,32,98,10,114,101,99,111,114,100,32,51,32,110,10,102,117,110,99,32,50,32,110,32,58,32,58,32,58,10,109,111,118,101,32,48,10,116,114,117,101,10,112,97,99,107,32,48,10,109,101,10,107,101,101,112,32,48,10,114,101,116,10,102,117,110,99,32,50,32,58,32,110,32,58,32,58,32,48,10,109,101,10,116,97,107,101,32,48,10,117,110,112,97,99,107,32,48,10,100,114,111,112,10,114,101,116,10,102,117,110,99,32,50,32,111,32,58,32,58,32,33,110,32,58,32,48,10,109,111,118,101,32,48,10,115,101,101,119,32,48,10,102,105,101,108,100,32,48,32,48,10,112,117,116,32,49,10,109,111,118,101,32,49,10,112,101,101,107,10,110,117,109,32,49,10,97,100,100,10,119,114,105,116,101,10,114,101,116,10,102,117,110,99,32,50,32,110,32,111,32,58,32,98,32,58,32,58,10,109,101,10,99,111,112,121,32,49,10,99,111,112,121,32,48,10,99,97,108,108,32,48,32,50,10,109,111,118,101,32,49,10,115,97,109,101,10,114,101,116,10]⟩
@[reducible] def B58 :ByteArray:=⟨#[45]⟩
@[reducible] def B59 :ByteArray:=⟨#[45,57,50,50,51,51,55,50,48,51,54,56,53,52,55,55,53,56,48,56]⟩
def TT :Tab:=[(3,⟨.int .i64,1,8,[.im true (.int .i64 0)],[.int .i64 0]⟩),
 (4,⟨.bool,1,1,[.im true (.bool false)],[.bool false]⟩),
 (5,⟨.int .u8,1,1,[.im true (.int .u8 0)],[.int .u8 0]⟩),
 (9,⟨.str,1,16,[.im true (.str ⟨#[]⟩)],[.str ⟨#[]⟩]⟩),
 (22,⟨.sl 5,1,24,[.nil],[.sl 1 []]⟩),
 (23,⟨.sl 41,1,24,[.nil],[.sl 2 []]⟩),
 (24,⟨.sl 45,1,24,[.nil],[.sl 6 []]⟩),
 (25,⟨.sl 3,1,24,[.nil],[.sl 1 []]⟩),
 (27,⟨.st [(0,1),(1,1),(2,1)],3,72,[.nil,.nil,.nil],[.sl 2 [],.sl 6 [],.sl 1 []]⟩),
 (35,⟨.sl 27,1,24,[.nil],[.sl 3 []]⟩),
 (39,⟨.sl 9,1,24,[.nil],[.sl 1 []]⟩),
 (41,⟨.st [(0,1),(1,1)],2,32,[.im true (.int .i64 0),.nil],[.int .i64 0,.sl 1 []]⟩),
 (43,⟨.sl 67,1,24,[.nil],[.sl 3 []]⟩),
 (45,⟨.st [(0,1),(1,1),(2,1),(3,1),(4,1),(5,1)],6,128,[.im true (.int .i64 0),.nil,.nil,.nil,.nil,.nil],[.int .i64 0,.sl 1 [],.sl 1 [],.sl 1 [],.sl 1 [],.sl 3 []]⟩),
 (49,⟨.st [(0,1),(1,1)],2,32,[.nil,.im true (.int .i64 0)],[.sl 1 [],.int .i64 0]⟩),
 (55,⟨.sl 23,1,24,[.nil],[.sl 1 []]⟩),
 (67,⟨.st [(0,1),(1,1),(2,1)],3,32,[.im true (.str ⟨#[]⟩),.im true (.int .i64 0),.im true (.int .i64 0)],[.str ⟨#[]⟩,.int .i64 0,.int .i64 0]⟩),
 (68,⟨.sl 76,1,24,[.nil],[.sl 2 []]⟩),
 (70,⟨.st [(0,1),(1,1)],2,48,[.nil,.nil],[.sl 2 [],.sl 2 []]⟩),
 (76,⟨.st [(0,1),(1,1)],2,40,[.im true (.str ⟨#[]⟩),.nil],[.str ⟨#[]⟩,.sl 1 []]⟩),
 (89,⟨.st [(0,1),(1,1),(2,1),(3,6),(9,2),(11,1)],12,240,[.nil,.nil,.im true (.int .i64 0),.im true (.int .i64 0),.nil,.nil,.nil,.nil,.nil,.nil,.nil,.im true (.int .i64 0)],[.sl 3 [],.sl 1 [],.int .i64 0,.int .i64 0,.sl 1 [],.sl 1 [],.sl 1 [],.sl 1 [],.sl 3 [],.sl 2 [],.sl 2 [],.int .i64 0]⟩),
 (130,⟨.sl 39,1,24,[.nil],[.sl 1 []]⟩)]
theorem TTok :TabOK Try.prog TT:=⟨.int .i64 (by kernel_rfl) (by kernel_rfl),
 .bool (by kernel_rfl) (by kernel_rfl),
 .int .u8 (by kernel_rfl) (by kernel_rfl),
 .str (by kernel_rfl) (by kernel_rfl),
 .sl 5 1 (by kernel_rfl) (by kernel_rfl) (by kernel_rfl),
 .sl 41 2 (by kernel_rfl) (by kernel_rfl) (by kernel_rfl),
 .sl 45 6 (by kernel_rfl) (by kernel_rfl) (by kernel_rfl),
 .sl 3 1 (by kernel_rfl) (by kernel_rfl) (by kernel_rfl),
 .st [(0,1),(1,1),(2,1)] (.agg #[(.slice none 0 0),(.slice none 0 0),(.slice none 0 0)]) (by kernel_rfl) (by kernel_rfl) rfl rfl (.inr ⟨rfl,rfl⟩) (by decide),
 .sl 27 3 (by kernel_rfl) (by kernel_rfl) (by kernel_rfl),
 .sl 9 1 (by kernel_rfl) (by kernel_rfl) (by kernel_rfl),
 .st [(0,1),(1,1)] (.agg #[(.int .i64 0),(.slice none 0 0)]) (by kernel_rfl) (by kernel_rfl) rfl rfl (.inr ⟨rfl,rfl⟩) (by decide),
 .sl 67 3 (by kernel_rfl) (by kernel_rfl) (by kernel_rfl),
 .st [(0,1),(1,1),(2,1),(3,1),(4,1),(5,1)] (.agg #[(.int .i64 0),(.slice none 0 0),(.slice none 0 0),(.slice none 0 0),(.slice none 0 0),(.slice none 0 0)]) (by kernel_rfl) (by kernel_rfl) rfl rfl (.inr ⟨rfl,rfl⟩) (by decide),
 .st [(0,1),(1,1)] (.agg #[(.slice none 0 0),(.int .i64 0)]) (by kernel_rfl) (by kernel_rfl) rfl rfl (.inr ⟨rfl,rfl⟩) (by decide),
 .sl 23 1 (by kernel_rfl) (by kernel_rfl) (by kernel_rfl),
 .st [(0,1),(1,1),(2,1)] (.agg #[(.string ⟨#[]⟩),(.int .i64 0),(.int .i64 0)]) (by kernel_rfl) (by kernel_rfl) rfl rfl (.inr ⟨rfl,rfl⟩) (by decide),
 .sl 76 2 (by kernel_rfl) (by kernel_rfl) (by kernel_rfl),
 .st [(0,1),(1,1)] (.agg #[(.slice none 0 0),(.slice none 0 0)]) (by kernel_rfl) (by kernel_rfl) rfl rfl (.inr ⟨rfl,rfl⟩) (by decide),
 .st [(0,1),(1,1)] (.agg #[(.string ⟨#[]⟩),(.slice none 0 0)]) (by kernel_rfl) (by kernel_rfl) rfl rfl (.inr ⟨rfl,rfl⟩) (by decide),
 .st [(0,1),(1,1),(2,1),(3,6),(9,2),(11,1)] (.agg #[(.slice none 0 0),(.slice none 0 0),(.int .i64 0),(.int .i64 0),(.slice none 0 0),(.slice none 0 0),(.slice none 0 0),(.slice none 0 0),(.slice none 0 0),(.slice none 0 0),(.slice none 0 0),(.int .i64 0)]) (by kernel_rfl) (by kernel_rfl) rfl rfl (.inr ⟨rfl,rfl⟩) (by decide),
 .sl 39 1 (by kernel_rfl) (by kernel_rfl) (by kernel_rfl),trivial⟩
theorem mixed :Try.prog.follows .mixedOrders=true:=by kernel_rfl
theorem tx4 :Text Try.prog 4:=Text.of Try.func4 rfl (by kernel_rfl)
theorem tx5 :Text Try.prog 5:=Text.of Try.func5 rfl (by kernel_rfl)
theorem tx6 :Text Try.prog 6:=Text.of Try.func6 rfl (by kernel_rfl)
theorem tx7 :Text Try.prog 7:=Text.of Try.func7 rfl (by kernel_rfl)
theorem tx8 :Text Try.prog 8:=Text.of Try.func8 rfl (by kernel_rfl)
theorem tx9 :Text Try.prog 9:=Text.of Try.func9 rfl (by kernel_rfl)
theorem tx10 :Text Try.prog 10:=Text.of Try.func10 rfl (by kernel_rfl)
theorem tx11 :Text Try.prog 11:=Text.of Try.func11 rfl (by kernel_rfl)
theorem tx12 :Text Try.prog 12:=Text.of Try.func12 rfl (by kernel_rfl)
theorem tx13 :Text Try.prog 13:=Text.of Try.func13 rfl (by kernel_rfl)
theorem tx14 :Text Try.prog 14:=Text.of Try.func14 rfl (by kernel_rfl)
theorem tx15 :Text Try.prog 15:=Text.of Try.func15 rfl (by kernel_rfl)
theorem tx16 :Text Try.prog 16:=Text.of Try.func16 rfl (by kernel_rfl)
theorem tx17 :Text Try.prog 17:=Text.of Try.func17 rfl (by kernel_rfl)
theorem tx18 :Text Try.prog 18:=Text.of Try.func18 rfl (by kernel_rfl)
theorem tx19 :Text Try.prog 19:=Text.of Try.func19 rfl (by kernel_rfl)
theorem tx20 :Text Try.prog 20:=Text.of Try.func20 rfl (by kernel_rfl)
theorem tx21 :Text Try.prog 21:=Text.of Try.func21 rfl (by kernel_rfl)
theorem tx22 :Text Try.prog 22:=Text.of Try.func22 rfl (by kernel_rfl)
theorem tx23 :Text Try.prog 23:=Text.of Try.func23 rfl (by kernel_rfl)
theorem tx24 :Text Try.prog 24:=Text.of Try.func24 rfl (by kernel_rfl)
theorem tx25 :Text Try.prog 25:=Text.of Try.func25 rfl (by kernel_rfl)
theorem tx26 :Text Try.prog 26:=Text.of Try.func26 rfl (by kernel_rfl)
theorem tx27 :Text Try.prog 27:=Text.of Try.func27 rfl (by kernel_rfl)
theorem tx28 :Text Try.prog 28:=Text.of Try.func28 rfl (by kernel_rfl)
theorem tx29 :Text Try.prog 29:=Text.of Try.func29 rfl (by kernel_rfl)
theorem tx30 :Text Try.prog 30:=Text.of Try.func30 rfl (by kernel_rfl)
theorem tx31 :Text Try.prog 31:=Text.of Try.func31 rfl (by kernel_rfl)
theorem tx32 :Text Try.prog 32:=Text.of Try.func32 rfl (by kernel_rfl)
theorem tx33 :Text Try.prog 33:=Text.of Try.func33 rfl (by kernel_rfl)
theorem tx34 :Text Try.prog 34:=Text.of Try.func34 rfl (by kernel_rfl)
theorem tx35 :Text Try.prog 35:=Text.of Try.func35 rfl (by kernel_rfl)
theorem tx36 :Text Try.prog 36:=Text.of Try.func36 rfl (by kernel_rfl)
theorem tx37 :Text Try.prog 37:=Text.of Try.func37 rfl (by kernel_rfl)
theorem tx38 :Text Try.prog 38:=Text.of Try.func38 rfl (by kernel_rfl)
theorem tx39 :Text Try.prog 39:=Text.of Try.func39 rfl (by kernel_rfl)
theorem tx40 :Text Try.prog 40:=Text.of Try.func40 rfl (by kernel_rfl)
theorem tx41 :Text Try.prog 41:=Text.of Try.func41 rfl (by kernel_rfl)
theorem tx42 :Text Try.prog 42:=Text.of Try.func42 rfl (by kernel_rfl)
theorem tx43 :Text Try.prog 43:=Text.of Try.func43 rfl (by kernel_rfl)
theorem tx44 :Text Try.prog 44:=Text.of Try.func44 rfl (by kernel_rfl)
theorem tx45 :Text Try.prog 45:=Text.of Try.func45 rfl (by kernel_rfl)
theorem tx46 :Text Try.prog 46:=Text.of Try.func46 rfl (by kernel_rfl)
theorem tx47 :Text Try.prog 47:=Text.of Try.func47 rfl (by kernel_rfl)
theorem tx48 :Text Try.prog 48:=Text.of Try.func48 rfl (by kernel_rfl)
theorem tx49 :Text Try.prog 49:=Text.of Try.func49 rfl (by kernel_rfl)
theorem tx50 :Text Try.prog 50:=Text.of Try.func50 rfl (by kernel_rfl)
theorem tx51 :Text Try.prog 51:=Text.of Try.func51 rfl (by kernel_rfl)
theorem tx52 :Text Try.prog 52:=Text.of Try.func52 rfl (by kernel_rfl)
theorem tx53 :Text Try.prog 53:=Text.of Try.func53 rfl (by kernel_rfl)
theorem tx54 :Text Try.prog 54:=Text.of Try.func54 rfl (by kernel_rfl)
theorem tx55 :Text Try.prog 55:=Text.of Try.func55 rfl (by kernel_rfl)
theorem tx56 :Text Try.prog 56:=Text.of Try.func56 rfl (by kernel_rfl)
theorem tx57 :Text Try.prog 57:=Text.of Try.func57 rfl (by kernel_rfl)
theorem tx58 :Text Try.prog 58:=Text.of Try.func58 rfl (by kernel_rfl)
theorem tx59 :Text Try.prog 59:=Text.of Try.func59 rfl (by kernel_rfl)
theorem tx60 :Text Try.prog 60:=Text.of Try.func60 rfl (by kernel_rfl)
theorem tx61 :Text Try.prog 61:=Text.of Try.func61 rfl (by kernel_rfl)
theorem tx62 :Text Try.prog 62:=Text.of Try.func62 rfl (by kernel_rfl)
theorem tx63 :Text Try.prog 63:=Text.of Try.func63 rfl (by kernel_rfl)
theorem tx64 :Text Try.prog 64:=Text.of Try.func64 rfl (by kernel_rfl)
theorem tx65 :Text Try.prog 65:=Text.of Try.func65 rfl (by kernel_rfl)
theorem tx66 :Text Try.prog 66:=Text.of Try.func66 rfl (by kernel_rfl)
theorem tx67 :Text Try.prog 67:=Text.of Try.func67 rfl (by kernel_rfl)
theorem tx68 :Text Try.prog 68:=Text.of Try.func68 rfl (by kernel_rfl)
theorem tx69 :Text Try.prog 69:=Text.of Try.func69 rfl (by kernel_rfl)
theorem tx70 :Text Try.prog 70:=Text.of Try.func70 rfl (by kernel_rfl)
theorem tx71 :Text Try.prog 71:=Text.of Try.func71 rfl (by kernel_rfl)
theorem tx72 :Text Try.prog 72:=Text.of Try.func72 rfl (by kernel_rfl)
theorem tx73 :Text Try.prog 73:=Text.of Try.func73 rfl (by kernel_rfl)
theorem tx74 :Text Try.prog 74:=Text.of Try.func74 rfl (by kernel_rfl)
theorem tx75 :Text Try.prog 75:=Text.of Try.func75 rfl (by kernel_rfl)
theorem tx76 :Text Try.prog 76:=Text.of Try.func76 rfl (by kernel_rfl)
theorem tx77 :Text Try.prog 77:=Text.of Try.func77 rfl (by kernel_rfl)
theorem tx78 :Text Try.prog 78:=Text.of Try.func78 rfl (by kernel_rfl)
theorem tx79 :Text Try.prog 79:=Text.of Try.func79 rfl (by kernel_rfl)
theorem tx80 :Text Try.prog 80:=Text.of Try.func80 rfl (by kernel_rfl)
theorem tx81 :Text Try.prog 81:=Text.of Try.func81 rfl (by kernel_rfl)
theorem tx82 :Text Try.prog 82:=Text.of Try.func82 rfl (by kernel_rfl)
theorem tx83 :Text Try.prog 83:=Text.of Try.func83 rfl (by kernel_rfl)
theorem tx84 :Text Try.prog 84:=Text.of Try.func84 rfl (by kernel_rfl)
theorem tx85 :Text Try.prog 85:=Text.of Try.func85 rfl (by kernel_rfl)
theorem tx86 :Text Try.prog 86:=Text.of Try.func86 rfl (by kernel_rfl)
theorem tx87 :Text Try.prog 87:=Text.of Try.func87 rfl (by kernel_rfl)
theorem tx88 :Text Try.prog 88:=Text.of Try.func88 rfl (by kernel_rfl)
theorem tx89 :Text Try.prog 89:=Text.of Try.func89 rfl (by kernel_rfl)
theorem tx90 :Text Try.prog 90:=Text.of Try.func90 rfl (by kernel_rfl)
theorem tx91 :Text Try.prog 91:=Text.of Try.func91 rfl (by kernel_rfl)
theorem tx92 :Text Try.prog 92:=Text.of Try.func92 rfl (by kernel_rfl)
theorem tx93 :Text Try.prog 93:=Text.of Try.func93 rfl (by kernel_rfl)
theorem tx94 :Text Try.prog 94:=Text.of Try.func94 rfl (by kernel_rfl)
theorem tx95 :Text Try.prog 95:=Text.of Try.func95 rfl (by kernel_rfl)
theorem tx96 :Text Try.prog 96:=Text.of Try.func96 rfl (by kernel_rfl)
theorem tx97 :Text Try.prog 97:=Text.of Try.func97 rfl (by kernel_rfl)
theorem tx98 :Text Try.prog 98:=Text.of Try.func98 rfl (by kernel_rfl)
variable {ks:Kinds} {t:ByteArray}
theorem a2q (h:plainOk ks t=true):¬Ref t:=by
 unfold plainOk at h
 rw[Bool.or_eq_true]at h
 rcases h with h|h
 ·exact a2T h
 ·exact I4 (u5.1 h).1
theorem m7 (h:plainOk ks t=true):Valid ks t:=by
 unfold Valid;rw[a6r (a2q h)];exact h
theorem Valid.plain (h:Valid ks t)(hr:¬Ref t):plainOk ks t=true:=by
 unfold Valid at h;rwa[a6r hr]at h
theorem Valid.of_pl (h:Valid ks t):Valid ks (pl t):=m7 h
theorem S0 (a b:ByteArray):(a++b).data.toList=a.data.toList++b.data.toList:=by
 rw[ByteArray.data_append,Array.toList_append]
theorem a3v {c:UInt8}(hc:c.toNat=38∨c.toNat=33):Ref ((⟨#[c]⟩:ByteArray)++t)∧pl ((⟨#[c]⟩:ByteArray)++t)=t:=by
 have hsz:((⟨#[c]⟩:ByteArray)++t).size=1+t.size:=by rw[ByteArray.size_append];rfl
 have h0:bt ((⟨#[c]⟩:ByteArray)++t) 0=c:=by
  unfold bt
  exact J3 (by rw[S0];rfl)
 have hr:Ref ((⟨#[c]⟩:ByteArray)++t):=⟨by omega,by rw[h0];exact hc⟩
 refine⟨hr,?_⟩
 unfold pl
 rw[if_pos hr]
 apply ByteArray.ext
 apply Array.ext'
 rw[ByteArray.data_extract,Array.toList_extract,S0,hsz]
 have hl:t.data.toList.length=t.size:=Array.length_toList
 simp[List.extract,List.take_of_length_le,hl]
theorem H0 (h:plainOk ks t=true):Valid ks ((⟨#[38]⟩:ByteArray)++t):=by
 unfold Valid;rw[(a3v (c:=38) (t:=t) (by decide)).2];exact h
theorem Q5 (h:plainOk ks t=true):Valid ks ((⟨#[33]⟩:ByteArray)++t):=by
 unfold Valid;rw[(a3v (c:=33) (t:=t) (by decide)).2];exact h
theorem a2P (h:isBase t=true):MkOk ks ⟨t,[]⟩:=⟨m7 (by unfold plainOk;rw[h];rfl),by simp⟩
theorem a0X :MkOk ks ⟨⟨#[110]⟩,[]⟩:=a2P (z6.2 (.inl rfl))
theorem a1Z :MkOk ks ⟨⟨#[98]⟩,[]⟩:=a2P (z6.2 (.inr (.inl rfl)))
theorem mk_111 :MkOk ks ⟨⟨#[111]⟩,[]⟩:=a2P (z6.2 (.inr (.inr rfl)))
theorem J6 {l:List Int}(h:Valid ks t)(hl:l.length≤10):MkOk ks ⟨t,l⟩:=⟨h,hl⟩
structure C7 (sh:List Mod)(ks:Kinds)(m:Nat)(f:Fn)(np:Nat):Prop where
 hm:m<ks.length
 hk3:ks.length≤10
 hr3:(nth ks m).length≤10
 fld:∀q,q<(nth ks m).length→(nth (nth ks m) q).fields.length≤3∧∀t∈(nth (nth ks m) q).fields,plainOk ks t=true
 sml:f.args.length≤1000∧f.rets.length≤1000∧f.locals.length≤1000∧f.takes.length≤1000
 hnp:np=f.args.length+f.locals.length
 shm:m<sh.length
 shl:sh.length≤1000000
 fns:∀j,j≤m→∀g∈(nth sh j).funcs,g.rets.length≤3∧(∀t∈g.rets,Valid ks t)∧g.args.length≤1000000∧g.takes.length≤1000000∧∀t∈g.takes,0≤t∧t≤1000
 fnl:∀j,j<sh.length→(nth sh j).funcs.length≤1000000∧(nth sh j).friends.length≤1000000
variable {np:Nat}
theorem C7.fs {sh:List Mod}{m:Nat}{f:Fn}(h:C7 sh ks m f np)(q i:Nat):(nth (nth (nth ks m) q).fields i).size≤3:=by
 by_cases hq:q<(nth ks m).length
 ·by_cases hi:i<(nth (nth ks m) q).fields.length
  ·exact j9 ((h.fld q hq).2 _ (c6 hi))
  ·have e:nth (nth (nth ks m) q).fields i=default:=by unfold nth;rw[List.getElem?_eq_none (by unfold nth at hi;omega)];rfl
   rw[e];decide
 ·have e:nth (nth ks m) q=default:=by unfold nth;rw[List.getElem?_eq_none (by unfold nth at hq;omega)];rfl
  have e2:nth (default:Rec).fields i=default:=by unfold nth;show((([]:List ByteArray)[i]?).getD default)=default;simp
  rw[e,e2];decide
theorem C7.kn {sh:List Mod}{ks:Kinds}{m:Nat}{f:Fn}{np q:Nat}(h:C7 sh ks m f np)(hq:q<(nth ks m).length):plainOk ks (kn m q)=true:=by
 have hv:=a6D h.hk3 h.hm hq h.hr3
 exact hv.plain (I4 (u5.1 (a7r h.hk3 h.hm hq h.hr3)).1)
theorem a44 {l:List Mk}(h:∀x∈l,PlOk ks x)(i:Nat):(nth l i).type.size≤4∧(nth l i).org.length≤10:=by
 by_cases hi:i<l.length
 ·have hp:=h _ (c6 hi)
  refine⟨?_,hp.len⟩
  by_cases he:(nth l i).type=⟨#[]⟩
  ·rw[he];decide
  ·exact(hp.ty he).size
 ·have e:nth l i=default:=by unfold nth;rw[List.getElem?_eq_none (by omega)];rfl
  rw[e];exact⟨by decide,by decide⟩
theorem I7.put {L:Nat}{s:S7}(h:I7 ks np L s){x:Mk}(hx:PlOk ks x)(i:Nat)(c:Int):I7 ks np L ⟨s.st,s.pls.set i x,c⟩:=
 ⟨h.st,fun y hy=>by rcases List.mem_or_eq_of_mem_set hy with hy|rfl;exact h.pl y hy;exact hx,by simp only[List.length_set];exact h.n,h.l⟩
variable {x:ByteArray}
theorem a49 {u:ByteArray}(hx:x∈[(⟨#[38]⟩:ByteArray)++t,(⟨#[33]⟩:ByteArray)++t])(hu:plainOk ks u=true):Valid ks (x.extract 0 1++u):=by
 have ex:∀c:UInt8,((⟨#[c]⟩:ByteArray)++t).extract 0 1=⟨#[c]⟩:=fun c=>by
  apply ByteArray.ext
  apply Array.ext'
  rw[ByteArray.data_extract,Array.toList_extract,S0]
  simp[List.extract]
 simp only[List.mem_cons,List.not_mem_nil,or_false]at hx
 rcases hx with rfl|rfl
 ·rw[ex];exact H0 hu
 ·rw[ex];exact Q5 hu
theorem a3L (hx:x∈[(⟨#[38]⟩:ByteArray)++t,(⟨#[33]⟩:ByteArray)++t]):1≤x.size:=by
 simp only[List.mem_cons,List.not_mem_nil,or_false]at hx
 rcases hx with rfl|rfl<;>(rw[ByteArray.size_append];have:(⟨#[38]⟩:ByteArray).size=1:=rfl;have:(⟨#[33]⟩:ByteArray).size=1:=rfl;omega)
theorem P3 (x:ByteArray)(i j:Nat):(x.extract i j).size≤x.size:=by rw[ByteArray.size_extract];omega
theorem W7 (x:ByteArray):(pl x).size≤x.size:=by
 unfold pl
 split
 ·exact P3 _ _ _
 ·exact Nat.le_refl _
variable {a b:ByteArray}
theorem a5V :(!(a.toList==b.toList))=true↔a≠b:=by
 rw[Bool.not_eq_true',←Bool.not_eq_true,Ne,←y0]
theorem bytes_ne' :(a.toList==b.toList)=false↔a≠b:=by
 rw[←Bool.not_eq_true,Ne,←y0]
end Go.Proofs.Ytjfjdgjhihgdkaa
namespace Go.Proofs.Ytjfjdgjhihgdkaa.V
open Go Go.RowKit
variable {P:Program} {T:Tab} {n:Nat} {f:FuncId} {c:Code} {args:List Part}
theorem CallEN {fn:Func}{R:Slot→Prop}{t0:Nat}(hT:TabOK P T)(hm:P.follows .mixedOrders=true)(hf:P.funcs[f]? =some fn)(hb:fn.body=some c)
 (hn:fn.ntmps=n) (hna:Nat.ble args.length n=true) (hcl:args.all Part.closed=true) (hres:fn.results= #[.tmp t0])
 (h:EW P T n c (argL args 0) fun e L=>(e= .ret∨e= .normal)∧∃b k e' sz rows,look L (tk t0)= .lf (.u b k e' sz rows)∧R (.lf (.u b k e' sz rows))):
 ∃s,R s∧CallV P f args fun s'=>∃v:Nm,s'=renS v s:=by
 obtain⟨e,L',⟨hexit,b,k,e',sz,rows,h1,hR⟩,hr⟩:=h.ex
 refine⟨_,hR,CallV.body hf hb (by rw[hn];exact Nat.le_of_ble_eq_true hna) fun E hE hA=> ?_⟩
 have hx:=(hr E ⟨hT,by rw[hE,hn],hm⟩).run (fun _=>none)
 refine D8 (Turn.weaken (V3 (fun _=>none) args hcl)) fun τ e0=> ?_
 subst e0
 refine VW.rel hx fun e τ g w a ⟨ν',L1,⟨k1,k2⟩,hw,_⟩ hrel=> ?_
 subst k1 k2
 refine⟨hexit,[renP ν' (.lf (.u b k e' sz rows))],?_,?_,?_,ν',rfl⟩
 ·have ht:τ (tk t0)=renS ν' (.lf (.u b k e' sz rows)):=n8 hw (by rw[h1]) (by
   intro e0
   simp only[renS,renP,renL]at e0
   cases hν:ν' b with
   |some p=>rw[hν]at e0;cases e0
   |none=>
    rw[hν]at e0
    cases rows with
    |nil=>cases e0
    |cons r rs=>cases e0)
  rw[hres]
  simp only[resParts,resPart,ht,renS]
 ·intro i t hi
  rw[hres]at hi⊢
  cases i with
  |zero=>simp at hi;subst hi;simp[resIdx,isTmp]
  |succ i=>simp at hi
 ·intro i t ty p hi
  rw[hres]at hi
  cases i with
  |zero=>simp at hi
  |succ i=>simp at hi
variable {a b k e sz:Nat}
theorem CallV.nm1 {rows:List (List SV)}(h:CallV P f args fun s'=>∃v:Nm,s'=renS v (.lf (.u a k e sz rows))):
 CallV P f args fun s'=>∃v:Nm,s'=renS v (.lf (.u b 0 e sz rows)):=h.mono fun s ⟨v,h⟩=>⟨fun _=>v a,h⟩
theorem CallV.nm2 {a' b' k' e' sz':Nat}{r1 r2:List (List SV)}(hn:Nat.beq a' b'=false)(h:CallV P f args fun s'=>∃v:Nm,s'=renS v (.agg [.u a k e sz r1,.u b k' e' sz' r2])):
 CallV P f args fun s'=>∃v:Nm,s'=renS v (.agg [.u a' 0 e sz r1,.u b' 0 e' sz' r2]):=h.mono fun s ⟨v,h⟩=>⟨fun x=>bif Nat.beq x a' then v a else v b,by
  subst h
  have e1:Nat.beq a' a'=true:=Nat.beq_refl a'
  have e2:Nat.beq b' a'=false:=by
   cases hh:Nat.beq b' a' with
   |false=>rfl
   |true=>rw[Nat.eq_of_beq_eq_true hh,Nat.beq_refl]at hn;cases hn
  simp only[renS,renP,List.map,renL,e1,e2,cond_true,cond_false]⟩
theorem H2 {k:Nat}:∀{L:SL},(L.all fun p=> !p.2.has k)=true→∀q,(look L q).has k=false
 |[],_,q=>by simp[look,Slot.has,Part.has,Leaf.has]
 |(a,s)::L,h,q=>by
  simp only[List.all_cons,Bool.and_eq_true,Bool.not_eq_true']at h
  rw[n5]
  by_cases e:q=a
  ·rw[if_pos e];exact h.1
  ·rw[if_neg e];exact H2 h.2 q
theorem K5 {ν:Nm}{s:Slot}(h:s.has k=false):renS (setN ν [k] fun _=>none) s=renS ν s:=a3w fun b hb=>by simp at hb;subst hb;exact h
variable {L:SL} {K:Exit→SL→Prop}
theorem e_nil (k:Nat)(L1:SL)(hk:Nat.beq k obN=false)(h:∀ν,den (setN ν [k] fun _=>none) L1=den ν L)(hc:EW P T n c L1 K):EW P T n c L K:=by
 obtain⟨e,L2,h2,hr⟩:=hc.ex
 refine⟨e,L2,h2,fun E cx=>⟨fun ν=> ?_⟩⟩
 rw[←h ν]
 exact((hr E cx).run _).mono fun e τ ⟨ν',L',h1,h2,h3⟩=>⟨ν',L',h1,h2,by
  rw[h3];exact w8 (by simp;intro e0;rw[e0]at hk;simp at hk)⟩
theorem T5 (q i j k e' sz:Nat)(L':SL){ls:List Leaf}{bs:List Blk}(h1:look L (ck q)= .own b ls bs)(hi:ls[i]? =some .nil)(hj:bs[j]? =some .no)
 (hf:(L.all fun p=> !p.2.has k)=true) (hk:Nat.beq k obN=false) (h:(L'.map Prod.fst).map (fun x=>(x,look ((ck q,.own b (ls.set i (.hd k 0 0)) (bs.set j (.mk k 0 e' sz [])))::L) x))=L') (hc:EW P T n c L' K):EW P T n c L K:=by
 refine e_nil k ((ck q,.own b (ls.set i (.hd k 0 0)) (bs.set j (.mk k 0 e' sz [])))::L) hk (fun ν=> ?_) (a3S L' h hc)
 funext x
 simp only[den,n5]
 by_cases e:x=ck q
 ·rw[if_pos e,e]
  have hfree:=H2 hf (ck q)
  rw[h1]at hfree⊢
  rw[←K5 (ν:=ν) hfree]
  have hb:(setN ν [k] fun _=>none) k=none:=F0 (by simp)
  simp only[renS]
  cases(setN ν [k] fun _=>none) b with
  |none=>rfl
  |some p=>
   have e1:(ls.set i (.hd k 0 0)).map (renL (setN ν [k] fun _=>none))=ls.map (renL (setN ν [k] fun _=>none)):=p4 hi (by simp only[renL,hb];rfl)
   have e2:(bs.set j (.mk k 0 e' sz [])).map (renB (setN ν [k] fun _=>none))=bs.map (renB (setN ν [k] fun _=>none)):=p4 hj (by simp only[renB,hb];rfl)
   simp only[e1,e2]
 ·rw[if_neg e]
  exact K5 (H2 hf x)
end Go.Proofs.Ytjfjdgjhihgdkaa.V
namespace Go.Proofs.Ytjfjdgjhihgdkaa
open Go Go.RowKit V
def BASES :List ByteArray:=[(⟨#[110]⟩:ByteArray),(⟨#[98]⟩:ByteArray),(⟨#[111]⟩:ByteArray),(⟨#[110]⟩:ByteArray)]
def SIGNS :List ByteArray:=[(⟨#[38]⟩:ByteArray),(⟨#[33]⟩:ByteArray)]
variable {ks:Kinds} {t:ByteArray}
theorem d8 (h:t∈BASES):plainOk ks t=true:=by
 have hb:isBase t=true:=by
  refine z6.2 ?_
  simp only[BASES,List.mem_cons,List.not_mem_nil,or_false]at h
  rcases h with h|h|h|h
  ·exact .inl h
  ·exact .inr (.inl h)
  ·exact .inr (.inr h)
  ·exact .inl h
 unfold plainOk;rw[hb];rfl
theorem F7 {m k:Nat}(h3:ks.length≤10)(hm:m<ks.length)(hk:k<(nth ks m).length)(hk3:(nth ks m).length≤10):plainOk ks (kn m k)=true:=by
 unfold plainOk;rw[a7r h3 hm hk hk3];simp
variable {s:ByteArray}
theorem L0 (hs:s∈SIGNS)(h:plainOk ks t=true):Valid ks (s++t):=by
 simp[SIGNS]at hs;rcases hs with e|e<;>rw[e]
 ·exact H0 h
 ·exact Q5 h
theorem o0 (hs:s∈SIGNS):s.size≤1:=by simp[SIGNS]at hs;rcases hs with e|e<;>rw[e]<;>decide
structure Few (ks:Kinds):Prop where
 len:ks.length≤10
 row:∀m,m<ks.length→(nth ks m).length≤10
theorem X0 :∀x∈FORMS,0≤x.a∧0≤x.b∧x.b≤100∧x.op.size≤8:=by decide+kernel
structure HdOk (ks:Kinds)(nr:Nat)(f:Fn):Prop where
 args:f.args.length≤2∧∀u∈f.args,Valid ks u∧u.size≤4
 rets:f.rets.length≤2∧∀u∈f.rets,Valid ks u∧u.size≤4
 locals:f.locals.length≤3∧∀u∈f.locals,Valid ks u∧u.size≤4
 takes:f.takes.length≤nr∧∀x∈f.takes,0≤x∧x≤1000
theorem a4O :∀u∈[(⟨#[120]⟩:ByteArray),(⟨#[]⟩:ByteArray),(⟨#[83,48,57]⟩:ByteArray),(⟨#[38,110]⟩:ByteArray),(⟨#[83]⟩:ByteArray)],u.size≤4:=by decide
end Go.Proofs.Ytjfjdgjhihgdkaa
namespace Go.Proofs.Ytjfjdgjhihgdkaa
open Go Go.RowKit V
structure OkIns (i:Ins):Prop where
 op:i.op.size≤8
 a:0≤i.a∧i.a≤1000000
 b:0≤i.b∧i.b≤1000000
structure OutOk (l:List Ins):Prop where
 len:l.length≤40
 ok:∀i∈l,OkIns i
theorem OutOk.nil :OutOk []:=⟨by simp,by simp⟩
variable {op:ByteArray} {ia ib:Nat}
theorem OkIns.mk' (ho:op.size≤8)(hi:ia≤1000000∧ib≤1000000):OkIns ⟨op,(ia:Int),(ib:Int)⟩:=⟨ho,by simp only;omega,by simp only;omega⟩
variable {l:List Ins}
theorem OutOk.app1 (h:OutOk l)(hl:l.length≤36)(ho:op.size≤8)(hi:ia≤1000000∧ib≤1000000):OutOk (l++[⟨op,(ia:Int),(ib:Int)⟩]):=
 ⟨by simp;omega,fun i hm=>(List.mem_append.1 hm).elim (h.ok i) fun hm=>by simp at hm;subst hm;exact OkIns.mk' ho hi⟩
variable {x y:Ins}
theorem OutOk.app3 (h:OutOk l)(hl:l.length≤36){z:Ins}(hx:OkIns x)(hy:OkIns y)(hz:OkIns z):OutOk (l++[x,y,z]):=
 ⟨by simp;omega,fun i hm=>(List.mem_append.1 hm).elim (h.ok i) fun hm=>by simp at hm;rcases hm with rfl|rfl|rfl<;>assumption⟩
structure ListOk (l:List Ins):Prop where
 len:l.length≤42
 ok:∀i∈l,OkIns i
theorem OutOk.code (h:OutOk l):ListOk l:=⟨by have:=h.len;omega,h.ok⟩
theorem OutOk.app2 (h:OutOk l)(hx:OkIns x)(hy:OkIns y):ListOk (l++[x,y]):=
 ⟨by have:=h.len;simp;omega,fun i hm=>(List.mem_append.1 hm).elim (h.ok i) fun hm=>by simp at hm;rcases hm with rfl|rfl<;>assumption⟩
def rk (m:Nat)(t:ByteArray):Nat:=if isKind t=true∧kM t=m then kR t+1 else 0
def Own7 (ks:Kinds)(m:Nat):Prop:=∀r,r<(nth ks m).length→∀i,i<(nth (nth ks m) r).fields.length→plainOk ks (nth (nth (nth ks m) r).fields i)=true∧rk m (nth (nth (nth ks m) r).fields i)≤r
variable {ks:Kinds} {i:Nat}
theorem KOk.fieldP (h:KOk ks){m r:Nat}(hm:m<ks.length)(hr:r<(nth ks m).length)(hi:i<(nth (nth ks m) r).fields.length):plainOk ks (nth (nth (nth ks m) r).fields i)=true∧rk m (nth (nth (nth ks m) r).fields i)≤r:=by
 have hf:=(((h.mods m hm).recs r hr).fields i hi).1
 unfold fieldOk at hf
 unfold plainOk rk
 rw[Bool.or_eq_true]at hf
 rcases hf with hf|hf
 ·refine⟨by rw[hf];rfl,?_⟩
  have hk:isKind (nth (nth (nth ks m) r).fields i)=false:=by
   cases hk:isKind (nth (nth (nth ks m) r).fields i)with
   |false=>rfl
   |true=>
    have:=E5 (of_decide_eq_true hk)
    rw[hf]at this;cases this
  rw[hk];simp
 ·simp only[Bool.and_eq_true,Bool.or_eq_true,decide_eq_true_eq]at hf
  refine⟨by rw[hf.1];simp,?_⟩
  split
  ·rename_i h2
   rcases hf.2 with h3|⟨-,h3⟩<;>omega
  ·omega
variable {P:Program} {f:FuncId} {ps:List Part} {s:Slot}
theorem cl3 {o o':Slot}{kq:Option Nat}(h:Text P f)(hc:CallUX P f ps o o' s kq):AllP [Text P f,CallUX P f ps o o' s kq]:=⟨h,hc,trivial⟩
theorem nokq {args:List Part}:∀(q:Nat) (p:Part),(none:Option Nat)=some q→args[q]? =some p→∃c e sz rows,p= .lf (.ap obN c e sz rows):=fun _ _ h=>by cases h
variable {α:Type}
theorem nokp {p:Nat→α→Prop}:∀q:Nat,(none:Option Nat)=some q→∃x,p q x:=fun _ h=>by cases h
theorem okq {a0 a1 a2 a3 a4 a6:Part}{c e sz:Nat}{rows:List (List SV)}:∀(q:Nat) (p:Part),(some 5:Option Nat)=some q→[a0,a1,a2,a3,a4,.lf (.ap obN c e sz rows),a6][q]? =some p→∃c e sz rows,p= .lf (.ap obN c e sz rows):=
 fun q p h h2=>by cases h;cases h2;exact⟨_,_,_,_,rfl⟩
theorem okp {p:Nat→α→Prop}{x:α}(h:p 5 x):∀q:Nat,(some 5:Option Nat)=some q→∃x,p q x:=fun q e=>by cases e;exact⟨x,h⟩
theorem CallUX.plain {ps':List Part}{q:Nat}(h:CallUX P f ps Slot.hole Slot.hole s (some q))(hps:∀ν:Nm,ps'.map (renP ν)=ps.map (renP fun _=>ν waN)):CallUX P f ps' Slot.hole Slot.hole s none:=fun ν=>by
 rw[hps ν]
 intro g w vs h1 h2 h3 h4 h5
 refine(h (fun _=>ν waN) g w vs h1 h2 h3 h4 h5).mono ?_
 rintro en w' ⟨v,g',so',s',he,k1,k2,k3,k4,k5,k6,⟨ν',ν2,_,rfl,rfl⟩,k7,k8,k9,-⟩
 exact⟨v,g',_,_,he,k1,k2,k3,k4,k5,k6,⟨ν,ν2,rfl,rfl,rfl⟩,k7,k8,k9,fun q p u hq=>by cases hq⟩
def J7 (ks:Kinds)(np:Nat)(st pls:List Mk):Prop:=I7 ks np 100 ⟨st,pls,0⟩
theorem J7.first {np:Nat}{pm:List Mk}(h:∀x∈pm,PlOk ks x)(hn:pm.length=np):J7 ks np [] pm:=⟨(fun x hx=>by cases hx),h,hn,by simp⟩
theorem J7.of {np:Nat}{s:S7}(h:s.code=0→I7 ks np (100+20) s∧s.st.length≤max 12 100)(h0:s.code=0):J7 ks np s.st s.pls:=by
 obtain⟨h1,h2⟩:=h h0
 exact⟨h1.st,h1.pl,h1.n,by simp only at*;omega⟩
variable {st pls:List Mk}
theorem J7.able {np:Nat}(h:J7 ks np st pls)(hi:i<pls.length)(hne:(nth pls i).type≠⟨#[]⟩):IsKind (nth pls i).type→kindIn ks (nth pls i).type=true:=
 ((I7.pl (s:=⟨st,pls,0⟩) h _ (c6 hi)).ty hne).able
theorem J7.np {ks:Kinds}{np:Nat}{st pls:List Mk}(h:J7 ks np st pls):pls.length=np∧st.length≤100:=⟨I7.n (s:=⟨st,pls,0⟩) h,I7.l (s:=⟨st,pls,0⟩) h⟩
theorem J7.pop {np:Nat}(h:J7 ks np st pls)(n:Nat):J7 ks np (st.take n) pls:=by
 have h:I7 ks np 100 ⟨st,pls,0⟩:=h
 exact⟨fun x hx=>h.st x (List.mem_of_mem_take hx),h.pl,h.n,by have:=h.l;simp only[List.length_take]at*;omega⟩
end Go.Proofs.Ytjfjdgjhihgdkaa
namespace Go.Proofs.Ytjfjdgjhihgdkaa
open Go Go.RowKit V
variable {α:Type} {i:Nat}
theorem a1u [Inhabited α]{l r:List α}(h:i<l.length):nth (l++r) i=nth l i:=by unfold nth;rw[List.getElem?_append_left h]
theorem a1z [Inhabited α]{l:List α}{x:α}:nth (l++[x]) l.length=x:=by unfold nth;rw[List.getElem?_append_right (Nat.le_refl _)];simp
variable {a:List Mod} {m:Nat}
theorem a0c (h:m<a.length):nth (kindsOf a) m=(nth a m).records:=by
 unfold nth kindsOf
 rw[List.getElem?_map,List.getElem?_eq_getElem h];rfl
theorem a0L (a:List Mod)(x:Mod):kindsOf (a++[x])=kindsOf a++[x.records]:=by simp[kindsOf]
variable {ks l:Kinds} {t:ByteArray}
theorem a06 (h:plainOk ks t=true):plainOk (ks++l) t=true:=by
 unfold plainOk at h⊢
 rw[Bool.or_eq_true]at h⊢
 rcases h with h|h
 ·exact .inl h
 ·right
  obtain⟨h1,h2,h3⟩:=u5.1 h
  exact u5.2 ⟨h1,by rw[List.length_append];omega,by rw[a1u h2];exact h3⟩
theorem S6 (h:Valid ks t):Valid (ks++l) t:=a06 h
variable {f:Fn}
theorem HdOk.mono {nr nr':Nat}(h:HdOk ks nr f)(hn:nr≤nr'):HdOk (ks++l) nr' f:=
 ⟨⟨h.args.1,fun u hu=>⟨S6 (h.args.2 u hu).1,(h.args.2 u hu).2⟩⟩,⟨h.rets.1,fun u hu=>⟨S6 (h.rets.2 u hu).1,(h.rets.2 u hu).2⟩⟩,⟨h.locals.1,fun u hu=>⟨S6 (h.locals.2 u hu).1,(h.locals.2 u hu).2⟩⟩,⟨Nat.le_trans h.takes.1 hn,h.takes.2⟩⟩
theorem HdOk.nr {ks:Kinds}{nr nr':Nat}{f:Fn}(h:HdOk ks nr f)(hn:nr≤nr'):HdOk ks nr' f:=⟨h.args,h.rets,h.locals,⟨Nat.le_trans h.takes.1 hn,h.takes.2⟩⟩
theorem HdOk.code {ks:Kinds}{nr:Nat}{f:Fn}(h:HdOk ks nr f)(c:List Ins):HdOk ks nr {f with code:=c}:=⟨h.args,h.rets,h.locals,h.takes⟩
structure FnG (ks:Kinds)(nr:Nat)(f:Fn):Prop where
 hd:HdOk ks nr f
 code:ListOk f.code
structure RecG (ks:Kinds)(m:Nat)(l:List Rec):Prop where
 len:l.length≤3
 flds:∀r,r<l.length→(nth l r).fields.length≤3∧∀i,i<(nth l r).fields.length→plainOk ks (nth (nth l r).fields i)=true∧rk m (nth (nth l r).fields i)≤r
structure ModG (ks:Kinds)(m:Nat)(x:Mod):Prop where
 recs:RecG ks m x.records
 fl:x.funcs.length≤10
 fns:∀g∈x.funcs,FnG ks 10 g
 fr:x.friends.length≤10
structure ShG (sh:List Mod):Prop where
 len:sh.length≤3
 base:∀m,m<sh.length→ModG (kindsOf (sh.take (m+1))) m (nth sh m)
variable {rs:List Rec}
theorem RecG.mono (h:RecG ks m rs):RecG (ks++l) m rs:=⟨h.len,fun r hr=>⟨(h.flds r hr).1,fun i hi=>⟨a06 ((h.flds r hr).2 i hi).1,((h.flds r hr).2 i hi).2⟩⟩⟩
variable {x:Mod}
theorem ModG.mono (h:ModG ks m x):ModG (ks++l) m x:=⟨h.recs.mono,h.fl,fun g hg=>⟨(h.fns g hg).hd.mono (Nat.le_refl _),(h.fns g hg).code⟩,h.fr⟩
theorem RecG.nil :RecG ks m []:=⟨by simp,fun r hr=>by simp at hr⟩
theorem RecG.of (h:KOk (ks++[rs])):RecG (ks++[rs]) ks.length rs:=by
 have hm:ks.length<(ks++[rs]).length:=by simp
 have h1:=h.mods _ hm
 have e:nth (ks++[rs]) ks.length=rs:=a1z
 refine⟨by have:=h1.len;rw[e]at this;exact this,fun r hr=> ?_⟩
 have h2:=h1.recs r (by rw[e];exact hr)
 have h3:=h2.len
 rw[e]at h3
 refine⟨h3,fun i hi=> ?_⟩
 have:=h.fieldP hm (r:=r) (i:=i) (by rw[e];exact hr) (by rw[e];exact hi)
 rw[e]at this
 exact this
theorem a4m (a:List Mod)(n:Nat):kindsOf a=kindsOf (a.take n)++kindsOf (a.drop n):=by
 conv=>lhs;rw[←List.take_append_drop n a]
 simp[kindsOf]
theorem ShG.mods {sh:List Mod}(h:ShG sh):∀m,m<sh.length→ModG (kindsOf sh) m (nth sh m):=fun m hm=>by
 rw[a4m sh (m+1)];exact(h.base m hm).mono
theorem ShG.nil :ShG []:=⟨by simp,fun m hm=>by simp at hm⟩
theorem ShG.snoc (h:ShG a)(hl:a.length≤2)(hx:ModG (kindsOf a++[x.records]) a.length x):ShG (a++[x]):=by
 refine⟨by simp;omega,fun m hm=> ?_⟩
 by_cases h1:m<a.length
 ·rw[a1u h1,List.take_append_of_le_length (by omega)];exact h.base m h1
 ·have:m=a.length:=by simp at hm;omega
  subst this
  rw[a1z,List.take_of_length_le (by simp),a0L];exact hx
theorem ShG.take (h:ShG a){n:Nat}(hn:n≤a.length):ShG (a.take n):=
 ⟨by rw[List.length_take];have:=h.len;omega,fun m hm=>by
  rw[List.length_take]at hm
  have e:nth (a.take n) m=nth a m:=by unfold nth;rw[List.getElem?_take,if_pos (by omega)]
  rw[e,List.take_take,Nat.min_eq_left (by omega)];exact h.base m (by omega)⟩
theorem ShG.few (h:ShG a):Few (kindsOf a):=⟨by have:=h.len;rw[D1];omega,fun m hm=>by rw[D1]at hm;rw[a0c hm];have:=(h.mods m hm).recs.len;omega⟩
theorem a6t (h:Few ks)(hk:ks.length≤3)(hr:rs.length≤10):Few (ks++[rs]):=⟨by simp;omega,fun m hm=>by
 by_cases h1:m<ks.length
 ·rw[a1u h1];exact h.row m h1
 ·have:m=ks.length:=by simp at hm;omega
  subst this
  rw[a1z];exact hr⟩
theorem ShG.own (h:ShG a)(hm:m<a.length):Own7 (kindsOf a) m:=fun r hr i hi=>by
 rw[a0c hm]at hr hi⊢
 exact((h.mods m hm).recs.flds r hr).2 i hi
theorem ShG.c7 (h:ShG a)(hm:m<a.length)(hf:HdOk (kindsOf a) 10 f):C7 a (kindsOf a) m f (f.args.length+f.locals.length) where
 hm:=by rw[D1];exact hm
 hk3:=h.few.len
 hr3:=h.few.row m (by rw[D1];exact hm)
 fld:=fun q hq=>by
  rw[a0c hm]at hq⊢
  have h1:=(h.mods m hm).recs.flds q hq
  refine⟨h1.1,fun t ht=> ?_⟩
  obtain⟨i,hi⟩:=List.mem_iff_getElem?.1 ht
  have hl:=(List.getElem?_eq_some_iff.1 hi).1
  have e:nth (nth (nth a m).records q).fields i=t:=by
   show((nth (nth a m).records q).fields[i]?).getD default=t
   rw[hi];rfl
  rw[←e]
  exact(h1.2 i hl).1
 sml:=⟨by have:=hf.args.1;omega,by have:=hf.rets.1;omega,by have:=hf.locals.1;omega,by have:=hf.takes.1;omega⟩
 hnp:=rfl
 shm:=hm
 shl:=by have:=h.len;omega
 fns:=fun j hj g hg=>by
  have h1:=((h.mods j (by omega)).fns g hg).hd
  exact⟨by have:=h1.rets.1;omega,fun t ht=>(h1.rets.2 t ht).1,by have:=h1.args.1;omega,by have:=h1.takes.1;omega,h1.takes.2⟩
 fnl:=fun j hj=>⟨by have:=(h.mods j hj).fl;omega,by have:=(h.mods j hj).fr;omega⟩
theorem ShG.small (h:ShG a):smallS a:=by
 refine⟨by have:=h.len;omega,fun x hx=> ?_⟩
 obtain⟨i,hi⟩:=List.mem_iff_getElem?.1 hx
 have hl:=(List.getElem?_eq_some_iff.1 hi).1
 have e:nth a i=x:=by
  show(a[i]?).getD default=x
  rw[hi];rfl
 have hm:=h.mods i hl
 rw[e]at hm
 refine⟨⟨by have:=hm.recs.len;omega,fun r hr=> ?_⟩,⟨by have:=hm.fl;omega,fun g hg=> ?_⟩,by have:=hm.fr;omega⟩
 ·obtain⟨j,hj⟩:=List.mem_iff_getElem?.1 hr
  have hjl:=(List.getElem?_eq_some_iff.1 hj).1
  have e2:nth x.records j=r:=by
   show(x.records[j]?).getD default=r
   rw[hj];rfl
  have:=(hm.recs.flds j hjl).1
  rw[e2]at this
  unfold Rec.small;omega
 ·have h1:=hm.fns g hg
  exact⟨by have:=h1.hd.args.1;omega,by have:=h1.hd.rets.1;omega,by have:=h1.hd.locals.1;omega,by have:=h1.hd.takes.1;omega,by have:=h1.code.len;omega⟩
theorem a5W :ListOk [⟨⟨#[110,117,109]⟩,1,0⟩,⟨⟨#[102,97,105,108]⟩,0,0⟩]:=⟨by decide,fun i hi=>by simp at hi;rcases hi with rfl|rfl<;>exact⟨by decide,by decide,by decide⟩⟩
theorem a65 [Inhabited α]{P:α→Prop}{l:List α}{y:α}(h:∀x∈l,P x)(hy:P (nth l i)→P y)(hi:i<l.length):∀x∈l.set i y,P x:=fun x hx=>by
 rcases List.mem_or_eq_of_mem_set hx with hx|rfl
 ·exact h x hx
 ·exact hy (h _ (c6 hi))
theorem CallM.nst {P:Program}{f:FuncId}{a:List Part}{o o' s:Slot}{sz:Nat}{rows rows':List (List SV)}(e:rows=rows')(h:CallM P f (.lf (.im false (.sl sz rows'))::a) o o' s):CallM P f (.lf (.im false (.sl sz rows))::a) o o' s:=e▸h
theorem ShG.friends {a:List Mod}(h:ShG a){i:Nat}(hi:i<a.length){l:List Int}(hl:l.length≤10):ShG (a.set i {nth a i with friends:=l}):=by
 have hk:kindsOf (a.set i {nth a i with friends:=l})=kindsOf a:=by
  unfold kindsOf
  apply List.ext_getElem?
  intro q
  rw[List.getElem?_map,List.getElem?_map,List.getElem?_set]
  by_cases e:i=q
  ·subst e
   rw[if_pos rfl,if_pos hi,List.getElem?_eq_getElem hi]
   show some (nth a i).records=some a[i].records
   unfold nth;rw[List.getElem?_eq_getElem hi];rfl
  ·rw[if_neg e]
 refine⟨by rw[List.length_set];exact h.len,fun m hm=> ?_⟩
 rw[List.length_set]at hm
 have hk':∀n,kindsOf ((a.set i {nth a i with friends:=l}).take n)=kindsOf (a.take n):=fun n=>by
  unfold kindsOf at hk⊢;rw[List.map_take,List.map_take,hk]
 rw[hk']
 have h0:=h.base m hm
 by_cases e:i=m
 ·subst e
  have e1:nth (a.set i {nth a i with friends:=l}) i={nth a i with friends:=l}:=by
   show((a.set i {nth a i with friends:=l})[i]?).getD default=_
   rw[List.getElem?_set_self hi];rfl
  rw[e1]
  exact⟨h0.recs,h0.fl,h0.fns,hl⟩
 ·have e1:nth (a.set i {nth a i with friends:=l}) m=nth a m:=by
   show((a.set i {nth a i with friends:=l})[m]?).getD default=(a[m]?).getD default
   rw[List.getElem?_set_ne e]
  rw[e1];exact h0
theorem a3g (h:(x.records.length≤3∧∀r,r<x.records.length→(nth x.records r).fields.length≤3∧∀i,i<(nth x.records r).fields.length→plainOk ks (nth (nth x.records r).fields i)=true∧rk m (nth (nth x.records r).fields i)≤r)∧
 x.funcs.length≤10∧x.friends.length≤10∧∀g∈x.funcs,((g.args.length≤2∧∀u∈g.args,plainOk ks (pl u)=true∧u.size≤4)∧(g.rets.length≤2∧∀u∈g.rets,plainOk ks (pl u)=true∧u.size≤4)∧
  (g.locals.length≤3∧∀u∈g.locals,plainOk ks (pl u)=true∧u.size≤4)∧(g.takes.length≤10∧∀x∈g.takes,0≤x∧x≤1000))∧(g.code.length≤42∧∀i∈g.code,i.op.size≤8∧(0≤i.a∧i.a≤1000000)∧(0≤i.b∧i.b≤1000000))):ModG ks m x:=by
 obtain⟨⟨h1,h2⟩,h3,h4,h5⟩:=h
 exact⟨⟨h1,h2⟩,h3,fun g hg=>let⟨⟨k1,k2,k3,k4⟩,k5,k6⟩:=h5 g hg;⟨⟨k1,k2,k3,k4⟩,k5,fun i hi=>let⟨q1,q2,q3⟩:=k6 i hi;⟨q1,q2,q3⟩⟩,h4⟩
theorem a43 (a:List Mod)(x:Mod)(fs:List Fn):putHd ((a++[x]).map rMod) a.length 1 (.sl 6 (fs.map rFn))=(a++[{x with funcs:=fs}]).map rMod:=by
 have h:=a18 (a.map rMod) [rMod x] 0 1 (.sl 6 (fs.map rFn))
 simp only[Nat.add_zero,List.length_map]at h
 rw[List.map_append,List.map_append]
 show putHd (a.map rMod++[rMod x]) a.length 1 _=_
 rw[←h]
 rfl
end Go.Proofs.Ytjfjdgjhihgdkaa
namespace Go.Proofs.Ytjfjdgjhihgdkaa
open Go Go.RowKit V
theorem A7 (t:ByteArray):
 CallV Try.prog 63 [.lf (.im true (.str t))] (·= .tup [.lf (.im true (.int .i64 ((kM t:Nat):Int))),.lf (.im true (.int .i64 ((kR t:Nat):Int))),.lf (.im true (.bool (isKind t)))]):=by
 refine CallX (fn:=Try.f63) TTok mixed Try.func63 rfl rfl rfl rfl rfl fun E c hMay=> ?_
 refine vx c [(0,.lf (.q t))] [] AllP.nil (by kernel_rfl) ?_
 refine b9 ?_
 obtain⟨zc,hz⟩:∃c,c=((decide ((t.size:Int)≠3))||((decide (((((bt t 0).toNat:Nat):Int):Int)≠83))||((decide (((((bt t 1).toNat:Nat):Int):Int)<48))||((decide (((((bt t 1).toNat:Nat):Int):Int)>57))||((decide (((((bt t 2).toNat:Nat):Int):Int)<48))||(decide (((((bt t 2).toNat:Nat):Int):Int)>57))))))):=⟨_,rfl⟩
 refine vjd c [] [(64,.bool zc)] (by
  rcases bft (decide ((((t.size:Nat):Int):Int)≠3))with g1|g1
  ·have g1p:=d5 g1
   exact runJ [(2,.slot (.bool true)),(27,.slot (.bool zc))] (a2 (kB g1) (kBs true zc))
  ·have g1p:=i5 g1
   rcases bft (decide (((((bt t 0).toNat:Nat):Int):Int)≠83))with g2|g2
   ·have g2p:=d5 g2
    exact runJ [(2,.slot (.bool false)),(5,.byte (bt t 0)),(6,.slot (.bool true)),(27,.slot (.bool zc))] (a2 (kB g1) (a2 (z8 (t:=t) (i:=0) (by omega)) (a2 (kB g2) (kBs true zc))))
   ·have g2p:=i5 g2
    rcases bft (decide (((((bt t 1).toNat:Nat):Int):Int)<48))with g3|g3
    ·have g3p:=d5 g3
     exact runJ [(2,.slot (.bool false)),(5,.byte (bt t 0)),(6,.slot (.bool false)),(10,.byte (bt t 1)),(11,.slot (.bool true)),(27,.slot (.bool zc))] (a2 (kB g1) (a2 (z8 (t:=t) (i:=0) (by omega)) (a2 (kB g2) (a2 (z8 (t:=t) (i:=1) (by omega)) (a2 (kB g3) (kBs true zc))))))
    ·have g3p:=i5 g3
     rcases bft (decide (((((bt t 1).toNat:Nat):Int):Int)>57))with g4|g4
     ·have g4p:=d5 g4
      exact runJ [(2,.slot (.bool false)),(5,.byte (bt t 0)),(6,.slot (.bool false)),(10,.byte (bt t 1)),(11,.slot (.bool false)),(15,.byte (bt t 1)),(16,.slot (.bool true)),(27,.slot (.bool zc))] (a2 (kB g1) (a2 (z8 (t:=t) (i:=0) (by omega)) (a2 (kB g2) (a2 (z8 (t:=t) (i:=1) (by omega)) (a2 (kB g3) (a2 (z8 (t:=t) (i:=1) (by omega)) (a2 (kB g4) (kBs true zc))))))))
     ·have g4p:=i5 g4
      rcases bft (decide (((((bt t 2).toNat:Nat):Int):Int)<48))with g5|g5
      ·have g5p:=d5 g5
       exact runJ [(2,.slot (.bool false)),(5,.byte (bt t 0)),(6,.slot (.bool false)),(10,.byte (bt t 1)),(11,.slot (.bool false)),(15,.byte (bt t 1)),(16,.slot (.bool false)),(20,.byte (bt t 2)),(21,.slot (.bool true)),(27,.slot (.bool zc))] (a2 (kB g1) (a2 (z8 (t:=t) (i:=0) (by omega)) (a2 (kB g2) (a2 (z8 (t:=t) (i:=1) (by omega)) (a2 (kB g3) (a2 (z8 (t:=t) (i:=1) (by omega)) (a2 (kB g4) (a2 (z8 (t:=t) (i:=2) (by omega)) (a2 (kB g5) (kBs true zc))))))))))
      ·have g5p:=i5 g5
       exact runJ [(2,.slot (.bool false)),(5,.byte (bt t 0)),(6,.slot (.bool false)),(10,.byte (bt t 1)),(11,.slot (.bool false)),(15,.byte (bt t 1)),(16,.slot (.bool false)),(20,.byte (bt t 2)),(21,.slot (.bool false)),(25,.byte (bt t 2)),(27,.slot (.bool zc))] (a2 (kB g1) (a2 (z8 (t:=t) (i:=0) (by omega)) (a2 (kB g2) (a2 (z8 (t:=t) (i:=1) (by omega)) (a2 (kB g3) (a2 (z8 (t:=t) (i:=1) (by omega)) (a2 (kB g4) (a2 (z8 (t:=t) (i:=2) (by omega)) (a2 (kB g5) (a2 (z8 (t:=t) (i:=2) (by omega)) (kBs (decide (((((bt t 2).toNat:Nat):Int):Int)>57)) zc)))))))))))) ?_
 subst hz
 refine vcd (fun h1=> ?_) fun h1=> ?_
 ·have hk:¬IsKind t:=by unfold IsKind;simp at h1;omega
  refine vxn c [0,64] [(4,.int 0),(6,.int 0),(8,.bool false)] ?_
  exact xret [.lf (.im true (.int .i64 0)),.lf (.im true (.int .i64 0)),.lf (.im true (.bool false))] rfl (by kernel_rfl) (by simp[slotOf,kM,kR,isKind,hk])
 ·have hk:IsKind t:=by unfold IsKind;simp at h1;omega
  have hs:=hk.1
  refine c5 (vxd c [0,64] [(4,.int (↑(kM t):Int)),(6,.int (↑(kR t):Int)),(8,.bool true)] [(1,.byte (bt t 1)),(2,.slot (.lf (.im true (.int .u8 (((bt t 1).toNat:Int)-48))))),(3,.slot (.int (↑(kM t):Int))),(5,.byte (bt t 2)),(6,.slot (.lf (.im true (.int .u8 (((bt t 2).toNat:Int)-48))))),(7,.slot (.int (↑(kR t):Int)))] (a2 (z8 (t:=t) (i:=1) (by omega)) (a2 (a1 (show(Slot.im (.int .u8 (IntKind.wrap .u8 ((((bt t 1).toNat:Nat):Int)-48))):Slot)= .lf (.im true (.int .u8 (((bt t 1).toNat:Int)-48)))by rw[show IntKind.wrap .u8 ((((bt t 1).toNat:Nat):Int)-48)=(((bt t 1).toNat:Int)-48)from by(have:=hk.2.2.1;have:=hk.2.2.2;simp[IntKind.wrap,IntKind.signed,IntKind.bits];omega)])) (a2 (a1 (show(Slot.im (.int .i64 (IntKind.wrap .i64 (((bt t 1).toNat:Int)-48))):Slot)= .int (↑(kM t):Int)by rw[show IntKind.wrap .i64 (((bt t 1).toNat:Int)-48)=(↑(kM t):Int)from by(have:=hk.2.2.1;have:=hk.2.2.2;simp[kM,hk,IntKind.wrap,IntKind.signed,IntKind.bits];omega)])) (a2 (z8 (t:=t) (i:=2) (by omega)) (a2 (a1 (show(Slot.im (.int .u8 (IntKind.wrap .u8 ((((bt t 2).toNat:Nat):Int)-48))):Slot)= .lf (.im true (.int .u8 (((bt t 2).toNat:Int)-48)))by rw[show IntKind.wrap .u8 ((((bt t 2).toNat:Nat):Int)-48)=(((bt t 2).toNat:Int)-48)from by(have:=hk.2.2.1;have:=hk.2.2.2;simp[IntKind.wrap,IntKind.signed,IntKind.bits];omega)])) (a1 (show(Slot.im (.int .i64 (IntKind.wrap .i64 (((bt t 2).toNat:Int)-48))):Slot)= .int (↑(kR t):Int)by rw[show IntKind.wrap .i64 (((bt t 2).toNat:Int)-48)=(↑(kR t):Int)from by(have:=hk.2.2.1;have:=hk.2.2.2;simp[kR,hk,IntKind.wrap,IntKind.signed,IntKind.bits];omega)]))))))) ?_)
  exact xret [.lf (.im true (.int .i64 ((kM t:Nat):Int))),.lf (.im true (.int .i64 ((kR t:Nat):Int))),.lf (.im true (.bool true))] rfl (by kernel_rfl) (by simp[slotOf,isKind,hk])
theorem P7 (t:ByteArray):
 CallV Try.prog 89 [.lf (.im true (.str t))] (·= .bool (isBase t)):=by
 refine CallX (fn:=Try.f89) TTok mixed Try.func89 rfl rfl rfl rfl rfl fun E c hMay=> ?_
 refine vx c [(0,.lf (.q t))] [] AllP.nil (by kernel_rfl) ?_
 obtain⟨zc,hz⟩:∃c,c=((t.toList==B0.toList)||((t.toList==B3.toList)||(t.toList==B9.toList))):=⟨_,rfl⟩
 refine vjd c [0] [(4,.bool zc)] (by
  rcases bft (t.toList==B0.toList)with g1|g1
  ·exact runJ [(1,.slot (.bool true)),(10,.slot (.bool zc))] (a2 (kB g1) (kBs true zc))
  ·rcases bft (t.toList==B3.toList)with g2|g2
   ·exact runJ [(1,.slot (.bool false)),(4,.slot (.bool true)),(10,.slot (.bool zc))] (a2 (kB g1) (a2 (kB g2) (kBs true zc)))
   ·exact runJ [(1,.slot (.bool false)),(4,.slot (.bool false)),(10,.slot (.bool zc))] (a2 (kB g1) (a2 (kB g2) (kBs (t.toList==B9.toList) zc)))) ?_
 subst hz
 exact rtV rfl (retB (by simp[isBase]))
theorem y1 (a lo hi:Int):
 CallV Try.prog 10 [.lf (.im true (.int .i64 a)),.lf (.im true (.int .i64 lo)),.lf (.im true (.int .i64 hi))] (·= .bool (inI a lo hi)):=by
 refine CallX (fn:=Try.f10) TTok mixed Try.func10 rfl rfl rfl rfl rfl fun E c hMay=> ?_
 refine vx c [(0,.int a),(2,.int lo),(4,.int hi)] [] AllP.nil (by kernel_rfl) ?_
 refine vjd c [0,2,4] [(12,.bool ((decide ((a:Int)≥lo))&&(decide ((a:Int)≤hi))))] (by
  rcases bft (decide ((a:Int)≥lo))with g1|g1
  ·have g1p:=d5 g1
   exact runJ [(2,.slot (.bool true)),(8,.slot (.bool ((decide ((a:Int)≥lo))&&(decide ((a:Int)≤hi)))))] (a2 (kB g1) (kBs (decide ((a:Int)≤hi)) ((decide ((a:Int)≥lo))&&(decide ((a:Int)≤hi)))))
  ·have g1p:=i5 g1
   exact runJ [(2,.slot (.bool false)),(8,.slot (.bool ((decide ((a:Int)≥lo))&&(decide ((a:Int)≤hi)))))] (a2 (kB g1) (kBs false ((decide ((a:Int)≥lo))&&(decide ((a:Int)≤hi)))))) ?_
 exact rtV rfl (retB (by simp[inI]))
theorem F5 (ks:Kinds)(m k:Nat):
 CallV Try.prog 94 [.lf (.im true (.sl 1 (ks.map rRecs))),.lf (.im true (.int .i64 ((m:Nat):Int))),.lf (.im true (.int .i64 ((k:Nat):Int)))] (·= .bool (hasK ks m k)):=by
 refine CallX (fn:=Try.f94) TTok mixed Try.func94 rfl rfl rfl rfl rfl fun E c hMay=> ?_
 refine vx c [(0,.lf (.m 1 ks rRecs)),(2,.int (m:Int)),(4,.int (k:Int))] [] AllP.nil (by kernel_rfl) ?_
 obtain⟨zc,hz⟩:∃c,c=((decide ((m:Int)<(ks.length:Int)))&&(decide ((k:Int)<(((nth ks m).length:Nat):Int)))):=⟨_,rfl⟩
 refine vjd c [0,2,4] [(12,.bool zc)] (by
  rcases bft (decide ((((m:Nat):Int):Int)<((ks.length:Nat):Int)))with g1|g1
  ·have g1p:=d5 g1
   exact runJ [(2,.slot (.int (ks.length:Int))),(3,.slot (.bool true)),(8,.row (rRecs (nth ks m))),(10,.slot (.int (((nth ks m).length:Nat):Int))),(13,.slot (.bool zc))] (a2 (lnl ks rRecs) (a2 (kB g1) (a2 (ixn rRecs ks m) (a2 (lnl (nth ks m) rRec) (kBs (decide ((k:Int)<(((nth ks m).length:Nat):Int))) zc)))))
  ·have g1p:=i5 g1
   exact runJ [(2,.slot (.int (ks.length:Int))),(3,.slot (.bool false)),(13,.slot (.bool zc))] (a2 (lnl ks rRecs) (a2 (kB g1) (kBs false zc)))) ?_
 subst hz
 exact rtV rfl (retB (by simp[hasK]))
theorem H8 (n below:Int)(h0:0≤below)(hb:below≤9223372036854775807):
 CallV Try.prog 98 [.lf (.im true (.int .i64 n)),.lf (.im true (.int .i64 below))] (·= .bool (limOk below n)):=by
 refine CallX (fn:=Try.f98) TTok mixed Try.func98 rfl rfl rfl rfl rfl fun E c hMay=> ?_
 refine vx c [(0,.int n),(2,.int below)] [] AllP.nil (by kernel_rfl) ?_
 refine b9 (vxn c [] [(12,.bool (decide ((below:Int)=0)))] ?_)
 refine vcp (fun h1=> ?_) fun h1=> ?_
 ·refine vxn c [0,2,12] [(8,.bool (decide ((n:Int)=0)))] ?_
  exact rtV rfl (retB (by rw[Bool.eq_iff_iff];simp[limOk,h1];omega))
 ·refine c5 (vxd c [0,2,12] [(8,.bool (inI n 0 (below-1)))] [(2,.slot (.int (below-1))),(3,.ret (.bool (inI n 0 (below-1))))] (a2 (wIo (below-1) (below-1)) (cl tx10 (y1 n 0 (below-1)))) ?_)
  exact rtV rfl (retB (by rw[Bool.eq_iff_iff];simp[limOk,inI];omega))
theorem j5 (a one:Int)(h1:one≠0):
 CallV Try.prog 46 [.lf (.im true (.int .i64 a)),.lf (.im true (.int .i64 one))] (·= .bool (canB a one)):=by
 refine CallX (fn:=Try.f46) TTok mixed Try.func46 rfl rfl rfl rfl rfl fun E c hMay=> ?_
 refine vx c [(0,.int a),(2,.int one)] [] AllP.nil (by kernel_rfl) ?_
 refine vxd c [0,2] [(8,.bool (decide ((remI (quoI a one) 2:Int)=1)))] [(2,.slot (.int (quoI a one))),(3,.slot (.int (remI (quoI a one) 2)))] (a2 (a1 (show(Slot.int (quoI a one))= .int (quoI a one)by rw[show quoI a one=(quoI a one)from by rfl])) (a2 (a1 (show(one:Int)≠0 by exact h1)) (a2 (a1 (show(Slot.int (remI (quoI a one) 2))= .int (remI (quoI a one) 2)from rfl)) (a1 (show(2:Int)≠0 by decide))))) ?_
 exact rtV rfl (retB (by simp[canB]))
theorem i9 (t:ByteArray):
 CallV Try.prog 41 [.lf (.im true (.str t))] (·= .bool (isRef t)):=by
 refine CallX (fn:=Try.f41) TTok mixed Try.func41 rfl rfl rfl rfl rfl fun E c hMay=> ?_
 refine vx c [(0,.lf (.q t))] [] AllP.nil (by kernel_rfl) ?_
 refine vjd c [0] [(4,.bool ((decide ((t.size:Int)>0))&&((decide (((((bt t 0).toNat:Nat):Int):Int)=38))||(decide (((((bt t 0).toNat:Nat):Int):Int)=33)))))] (by
  rcases bft (decide ((((t.size:Nat):Int):Int)>0))with g1|g1
  ·have g1p:=d5 g1
   rcases bft (decide (((((bt t 0).toNat:Nat):Int):Int)=38))with g2|g2
   ·have g2p:=d5 g2
    exact runJ [(2,.slot (.bool true)),(5,.byte (bt t 0)),(6,.slot (.bool true)),(13,.slot (.bool ((decide ((((t.size:Nat):Int):Int)>0))&&((decide (((((bt t 0).toNat:Nat):Int):Int)=38))||(decide (((((bt t 0).toNat:Nat):Int):Int)=33))))))] (a2 (kB g1) (a2 (z8 (t:=t) (i:=0) (by omega)) (a2 (kB g2) (a2 (kB (b:=true) (c:=((decide ((((t.size:Nat):Int):Int)>0))&&((decide (((((bt t 0).toNat:Nat):Int):Int)=38))||(decide (((((bt t 0).toNat:Nat):Int):Int)=33))))) (by first|(simp only[g1,g2,Bool.true_or,Bool.false_or,Bool.or_false,Bool.or_true,Bool.true_and,Bool.false_and,Bool.and_true,Bool.and_false,Bool.not_true,Bool.not_false,cond_true,cond_false];done)|(simp[g1,g2];done))) AllP.nil))))
   ·have g2p:=i5 g2
    exact runJ [(2,.slot (.bool true)),(5,.byte (bt t 0)),(6,.slot (.bool false)),(9,.byte (bt t 0)),(13,.slot (.bool ((decide ((((t.size:Nat):Int):Int)>0))&&((decide (((((bt t 0).toNat:Nat):Int):Int)=38))||(decide (((((bt t 0).toNat:Nat):Int):Int)=33))))))] (a2 (kB g1) (a2 (z8 (t:=t) (i:=0) (by omega)) (a2 (kB g2) (a2 (z8 (t:=t) (i:=0) (by omega)) (a2 (kB (b:=decide (((((bt t 0).toNat:Nat):Int):Int)=33)) (c:=((decide ((((t.size:Nat):Int):Int)>0))&&((decide (((((bt t 0).toNat:Nat):Int):Int)=38))||(decide (((((bt t 0).toNat:Nat):Int):Int)=33))))) (by first|(simp only[g1,g2,Bool.true_or,Bool.false_or,Bool.or_false,Bool.or_true,Bool.true_and,Bool.false_and,Bool.and_true,Bool.and_false,Bool.not_true,Bool.not_false,cond_true,cond_false];done)|(simp[g1,g2];done))) AllP.nil)))))
  ·have g1p:=i5 g1
   exact runJ [(2,.slot (.bool false)),(13,.slot (.bool ((decide ((((t.size:Nat):Int):Int)>0))&&((decide (((((bt t 0).toNat:Nat):Int):Int)=38))||(decide (((((bt t 0).toNat:Nat):Int):Int)=33))))))] (a2 (kB g1) (a2 (kB (b:=false) (c:=((decide ((((t.size:Nat):Int):Int)>0))&&((decide (((((bt t 0).toNat:Nat):Int):Int)=38))||(decide (((((bt t 0).toNat:Nat):Int):Int)=33))))) (by first|(simp only[g1,Bool.true_or,Bool.false_or,Bool.or_false,Bool.or_true,Bool.true_and,Bool.false_and,Bool.and_true,Bool.and_false,Bool.not_true,Bool.not_false,cond_true,cond_false];done)|(simp[g1];done))) AllP.nil))) ?_
 exact rtV rfl (retB (by rw[Bool.eq_iff_iff,A2];simp[Ref];omega))
theorem w9 (t:ByteArray):
 CallV Try.prog 85 [.lf (.im true (.str t))] (·= .lf (.im true (.str (pl t)))):=by
 refine CallX (fn:=Try.f85) TTok mixed Try.func85 rfl rfl rfl rfl rfl fun E c hMay=> ?_
 refine vx c [(0,.lf (.q t))] [] AllP.nil (by kernel_rfl) ?_
 refine b9 (vxd c [] [(8,.bool (isRef t))] [(1,.ret (.bool (isRef t)))] (cl tx41 (i9 t)) ?_)
 refine vcd (fun h1=> ?_) fun h1=> ?_
 ·have hr:Ref t:=A2.1 h1
  have h0:=hr.1
  refine vxd c [0,8] [(4,.lf (.q (t.extract 1 t.size)))] [(1,.cut 1 t.size (.im (.str (t.extract 1 t.size))))] (a2 (a1 (a1 (rfl:(1:Int)=((1:Nat):Int)))) (a2 (a1 (a1 (rfl:(t.size:Nat)=t.size))) (a2 (a1 (show 1≤t.size by omega)) (a2 (a1 (show t.size≤t.size by omega)) (a1 (rfl:(.im (.str (t.extract 1 t.size)):Slot)= .im (.str (t.extract 1 t.size)))))))) ?_
  exact xret [.lf (.im true (.str (t.extract 1 t.size)))] rfl (by kernel_rfl) (by simp[slotOf,pl,hr])
 ·have hr:¬Ref t:=a2t h1
  refine c5 (vxn c [0,8] [(4,.lf (.q t))] ?_)
  exact xret [.lf (.im true (.str t))] rfl (by kernel_rfl) (by simp[slotOf,pl,hr])
theorem I0 (ks:Kinds)(t:ByteArray)(h:IsKind t→kindIn ks t=true):
 CallV Try.prog 47 [.lf (.im true (.sl 1 (ks.map rRecs))),.lf (.im true (.str t))] (·= .int (ableOf ks t)):=by
 refine CallX (fn:=Try.f47) TTok mixed Try.func47 rfl rfl rfl rfl rfl fun E c hMay=> ?_
 refine vx c [(0,.lf (.m 1 ks rRecs)),(2,.lf (.q t))] [] AllP.nil (by kernel_rfl) ?_
 refine b9 ?_
 obtain⟨zc,hz⟩:∃c,c=((isRef t)&&(decide (((((bt t 0).toNat:Nat):Int):Int)=38))):=⟨_,rfl⟩
 refine vjd c [] [(28,.bool zc)] (by
  rcases bft (isRef t)with g1|g1
  ·exact runJ [(1,.ret (.bool (isRef t))),(2,.slot (.bool true)),(4,.byte (bt t 0)),(6,.slot (.bool zc))] (a2 (cl tx41 (i9 t)) (a2 (kB g1) (a2 (z8 (t:=t) (i:=0) (by exact(of_decide_eq_true (by assumption):Ref t).1)) (kBs (decide (((((bt t 0).toNat:Nat):Int):Int)=38)) zc))))
  ·exact runJ [(1,.ret (.bool (isRef t))),(2,.slot (.bool false)),(6,.slot (.bool zc))] (a2 (cl tx41 (i9 t)) (a2 (kB g1) (kBs false zc)))) ?_
 subst hz
 refine vcd (fun h1=> ?_) fun h1=> ?_
 ·have hr:Ref t∧(bt t 0).toNat=38:=by rw[Bool.and_eq_true]at h1;have h2:=h1.2;simp at h2;exact⟨A2.1 h1.1,by omega⟩
  refine vxn c [0,2,28] [(8,.int 3)] ?_
  exact rtV rfl (retI (by simp[ableOf,hr]))
 ·have hr:¬(Ref t∧(bt t 0).toNat=38):=by
   rintro⟨a,b⟩
   rw[A2.2 a]at h1
   simp at h1;omega
  refine c5 (b9 (vxd c [28] [(32,.bool (isRef t))] [(1,.ret (.bool (isRef t)))] (cl tx41 (i9 t)) ?_))
  refine vcd (fun h2=> ?_) fun h2=> ?_
  ·have hq:Ref t:=A2.1 h2
   refine vxn c [0,2,32] [(8,.int 2)] ?_
   exact rtV rfl (retI (by rw[ableOf,if_neg hr,if_pos hq]))
  ·have hq:¬Ref t:=a2t h2
   refine c5 (vxd c [2,32] [(10,.int (↑(kM t):Int)),(12,.int (↑(kR t):Int)),(14,.bool (isKind t))] [(1,.ret (.tup [.lf (.z (↑(kM t):Int)),.lf (.z (↑(kR t):Int)),.lf (.y (isKind t))]))] (cl tx63 (A7 t)) ?_)
   refine b9 (vxn c [14] [(46,.bool (isKind t))] ?_)
   refine vcd (fun h3=> ?_) fun h3=> ?_
   ·have hk:=h (of_decide_eq_true h3)
    obtain⟨hk0,hm,hr2⟩:=u5.1 hk
    refine vxd c [0,10,12,46] [(8,.int ((nth (nth ks (kM t)) (kR t)).able))] [(2,.row (rRecs (nth ks (kM t)))),(5,.row (rRec (nth (nth ks (kM t)) (kR t))))] (a2 (ixn rRecs ks (kM t)) (ixn rRec (nth ks (kM t)) (kR t))) ?_
    exact rtV rfl (retI (by rw[ableOf,if_neg hr,if_neg hq,if_pos hk];rfl))
   ·have hk:¬kindIn ks t=true:=fun hk=>by have:=(u5.1 hk).1;simp[isKind,this]at h3
    refine c5 (vxn c [0,10,12,46] [(8,.int 7)] ?_)
    exact rtV rfl (retI (by rw[ableOf,if_neg hr,if_neg hq,if_neg hk]))
theorem a0n (ks:Kinds)(m r:Nat)(t:ByteArray):
 CallV Try.prog 73 [.lf (.im true (.sl 1 (ks.map rRecs))),.lf (.im true (.int .i64 ((m:Nat):Int))),.lf (.im true (.int .i64 ((r:Nat):Int))),.lf (.im true (.str t))] (·= .bool (fieldOk ks m r t)):=by
 refine CallX (fn:=Try.f73) TTok mixed Try.func73 rfl rfl rfl rfl rfl fun E c hMay=> ?_
 refine vx c [(0,.lf (.m 1 ks rRecs)),(2,.int (m:Int)),(4,.int (r:Int)),(6,.lf (.q t))] [] AllP.nil (by kernel_rfl) ?_
 refine vxd c [] [(18,.int (↑(kM t):Int)),(20,.int (↑(kR t):Int)),(22,.bool (isKind t))] [(1,.ret (.tup [.lf (.z (↑(kM t):Int)),.lf (.z (↑(kR t):Int)),.lf (.y (isKind t))]))] (cl tx63 (A7 t)) ?_
 refine b9 (vxn c [22] [(38,.bool (!(isKind t)))] ?_)
 refine vcd (fun h1=> ?_) fun h1=> ?_
 ·have h1:(isKind t)=false:=o4 h1
  refine vxd c [0,2,4,6,18,20,38] [(16,.bool (isBase t))] [(1,.ret (.bool (isBase t)))] (cl tx89 (P7 t)) ?_
  exact rtV rfl (retB (by simp[fieldOk,kindIn,h1]))
 ·have h1:(isKind t)=true:=o3 h1
  refine c5 ?_
  obtain⟨zc,hz⟩:∃c,c=((hasK ks (kM t) (kR t))&&((decide (((↑(kM t):Int):Int)<(m:Int)))||((decide (((↑(kM t):Int):Int)=(m:Int)))&&(decide (((↑(kR t):Int):Int)<(r:Int)))))):=⟨_,rfl⟩
  refine vjd c [0,2,4,6,18,20,38] [(16,.bool zc)] (by
   rcases bft (hasK ks (kM t) (kR t))with g1|g1
   ·rcases bft (decide ((((kM t:Nat):Int):Int)<((m:Nat):Int)))with g2|g2
    ·have g2p:=d5 g2
     exact runJ [(3,.ret (.bool (hasK ks (kM t) (kR t)))),(4,.slot (.bool true)),(7,.slot (.bool true)),(19,.slot (.bool zc))] (a2 (cl tx94 (F5 ks (kM t) (kR t))) (a2 (kB g1) (a2 (kB g2) (kBs true zc))))
    ·have g2p:=i5 g2
     rcases bft (decide ((((kM t:Nat):Int):Int)=((m:Nat):Int)))with g3|g3
     ·have g3p:=d5 g3
      exact runJ [(3,.ret (.bool (hasK ks (kM t) (kR t)))),(4,.slot (.bool true)),(7,.slot (.bool false)),(11,.slot (.bool true)),(19,.slot (.bool zc))] (a2 (cl tx94 (F5 ks (kM t) (kR t))) (a2 (kB g1) (a2 (kB g2) (a2 (kB g3) (kBs (decide (((↑(kR t):Int):Int)<(r:Int))) zc)))))
     ·have g3p:=i5 g3
      exact runJ [(3,.ret (.bool (hasK ks (kM t) (kR t)))),(4,.slot (.bool true)),(7,.slot (.bool false)),(11,.slot (.bool false)),(19,.slot (.bool zc))] (a2 (cl tx94 (F5 ks (kM t) (kR t))) (a2 (kB g1) (a2 (kB g2) (a2 (kB g3) (kBs false zc)))))
   ·exact runJ [(3,.ret (.bool (hasK ks (kM t) (kR t)))),(4,.slot (.bool false)),(19,.slot (.bool zc))] (a2 (cl tx94 (F5 ks (kM t) (kR t))) (a2 (kB g1) (kBs false zc)))) ?_
  subst hz
  exact rtV rfl (retB (by simp[fieldOk,kindIn,h1,E5 (of_decide_eq_true h1),Int.ofNat_inj]))
theorem X5 (ks:Kinds)(m r:Nat)(hm:m<ks.length)(hr:r<(nth ks m).length)(hA:Ahead ks m r):
 CallV Try.prog 54 [.lf (.im true (.sl 1 (ks.map rRecs))),.lf (.im true (.int .i64 ((m:Nat):Int))),.lf (.im true (.int .i64 ((r:Nat):Int)))] (·= .bool (B (RecOk ks m r))):=by
 refine CallX (fn:=Try.f54) TTok mixed Try.func54 rfl rfl rfl rfl rfl fun E c hMay=> ?_
 refine vx c [(0,.lf (.m 1 ks rRecs)),(2,.int (m:Int)),(4,.int (r:Int))] [] AllP.nil (by kernel_rfl) ?_
 refine vxd c [] [(14,.lf (.ptr 7 0)),(15,.cell 7 [.z ((nth (nth ks m) r).able),.m 1 ((nth (nth ks m) r).fields) rS])] [(2,.row (rRecs (nth ks m))),(5,.row (rRec (nth (nth ks m) r)))] (a2 (ixn rRecs ks m) (ixn rRec (nth ks m) r)) ?_
 refine b9 ?_
 obtain⟨zc,hz⟩:∃c,c=((!(inI ((nth (nth ks m) r).able) 0 15))||(decide ((((((nth (nth ks m) r).fields).length:Nat):Int):Int)>3))):=⟨_,rfl⟩
 refine vjd c [] [(52,.bool zc)] (by
  rcases bft (!(inI ((nth (nth ks m) r).able) 0 15))with g1|g1
  ·have g1p:=o4 g1
   exact runJ [(2,.ret (.bool (inI ((nth (nth ks m) r).able) 0 15))),(3,.slot (.bool true)),(9,.slot (.bool zc))] (a2 (cl tx10 (y1 ((nth (nth ks m) r).able) 0 15)) (a2 (kB g1) (kBs true zc)))
  ·have g1p:=o3 g1
   exact runJ [(2,.ret (.bool (inI ((nth (nth ks m) r).able) 0 15))),(3,.slot (.bool false)),(7,.slot (.int ((((nth (nth ks m) r).fields).length:Nat):Int))),(9,.slot (.bool zc))] (a2 (cl tx10 (y1 ((nth (nth ks m) r).able) 0 15)) (a2 (kB g1) (a2 (lnl ((nth (nth ks m) r).fields) rS) (kBs (decide ((((((nth (nth ks m) r).fields).length:Nat):Int):Int)>3)) zc))))) ?_
 subst hz
 refine vcd (fun h1=> ?_) fun h1=> ?_
 ·refine vxn c [0,2,4,14,15,52] [(12,.bool false)] ?_
  exact rtV rfl (retBF (fun h=>by have:=h.lo;have:=h.hi;have:=h.len;simp[inI]at h1;omega))
 ·have hx:0≤(nth (nth ks m) r).able∧(nth (nth ks m) r).able≤15∧(nth (nth ks m) r).fields.length≤3:=by simp[inI]at h1;omega
  refine c5 (b9 (vxn c [52] [(16,.int 0)] ?_))
  refine c8 (vld (fun l0 n L=>∃(i:Nat),L=upG [] [(16,.int (i:Int))] l0∧n=(nth (nth ks m) r).fields.length-i∧(i≤(nth (nth ks m) r).fields.length∧Upto (fun _ t=>fieldFine ks m r (nth (nth ks m) r).able t) (nth (nth ks m) r).fields i)) _ ⟨0,rfl,rfl,⟨by omega,upto0⟩⟩ ?_)
  rintro n L ⟨i,rfl,rfl,hP1⟩
  refine b9 (vxd c [] [(62,.bool (decide ((i:Int)<((((nth (nth ks m) r).fields).length:Nat):Int))))] [(3,.slot (.int ((((nth (nth ks m) r).fields).length:Nat):Int)))] (lnl ((nth (nth ks m) r).fields) rS) ?_)
  refine vcp (fun h2=> ?_) fun h2=> ?_
  ·refine c5 (b9 (c8 (b9 (vxd c [62] [(86,.bool (!(fieldOk ks m r (nth ((nth (nth ks m) r).fields) i))))] [(6,.row (rS (nth ((nth (nth ks m) r).fields) i))),(8,.ret (.bool (fieldOk ks m r (nth ((nth (nth ks m) r).fields) i))))] (a2 (ixn rS ((nth (nth ks m) r).fields) i) (cl tx73 (a0n ks m r (nth ((nth (nth ks m) r).fields) i)))) ?_))))
   refine vcd (fun h3=> ?_) fun h3=> ?_
   ·have h3:(fieldOk ks m r (nth ((nth (nth ks m) r).fields) i))=false:=o4 h3
    have hf:fieldOk ks m r (nth (nth (nth ks m) r).fields i)=false:=h3
    refine vxn c [0,2,4,14,15,16,86] [(12,.bool false)] ?_
    exact rtV rfl (retBF (fun h=>uptoN (i:=i) (by omega) (fun hq=>Bool.false_ne_true (hf.symm.trans hq.1)) h.fields))
   ·have h3:(fieldOk ks m r (nth ((nth (nth ks m) r).fields) i))=true:=o3 h3
    have hf:fieldOk ks m r (nth (nth (nth ks m) r).fields i)=true:=h3
    have hk:=a30 hf
    have hs:=a5u (a:=(nth (nth ks m) r).able) (b:=ableOf ks (nth (nth (nth ks m) r).fields i)) hx.1 hx.2.1 (a0Y hA hf).1 (a0Y hA hf).2
    refine c5 (vxd c [86] [(18,.int (ableOf ks (nth ((nth (nth ks m) r).fields) i)))] [(4,.row (rS (nth ((nth (nth ks m) r).fields) i))),(6,.ret (.int (ableOf ks (nth ((nth (nth ks m) r).fields) i))))] (a2 (ixn rS ((nth (nth ks m) r).fields) i) (cl tx47 (I0 ks (nth ((nth (nth ks m) r).fields) i) (by assumption)))) ?_)
    refine b9 ?_
    obtain⟨zc,hz⟩:∃c,c=(bif canB ((nth (nth ks m) r).able) 1 then((!(canB (ableOf ks (nth ((nth (nth ks m) r).fields) i)) 1))||((canB ((nth (nth ks m) r).able) 2)&&(!(canB (ableOf ks (nth ((nth (nth ks m) r).fields) i)) 2))))else((canB ((nth (nth ks m) r).able) 2)&&(!(canB (ableOf ks (nth ((nth (nth ks m) r).fields) i)) 2)))):=⟨_,rfl⟩
    refine vjd c [] [(136,.bool zc)] (by
     rcases bft (canB ((nth (nth ks m) r).able) 1)with g2|g2
     ·rcases bft (!(canB (ableOf ks (nth ((nth (nth ks m) r).fields) i)) 1))with g3|g3
      ·have g3p:=o4 g3
       exact runJ [(2,.ret (.bool (canB ((nth (nth ks m) r).able) 1))),(3,.slot (.bool true)),(5,.ret (.bool (canB (ableOf ks (nth ((nth (nth ks m) r).fields) i)) 1))),(6,.slot (.bool true)),(17,.slot (.bool zc))] (a2 (cl tx46 (j5 ((nth (nth ks m) r).able) 1 (by decide))) (a2 (kB g2) (a2 (cl tx46 (j5 (ableOf ks (nth ((nth (nth ks m) r).fields) i)) 1 (by decide))) (a2 (kB g3) (kBs true zc)))))
      ·have g3p:=o3 g3
       rcases bft (canB ((nth (nth ks m) r).able) 2)with g4|g4
       ·exact runJ [(2,.ret (.bool (canB ((nth (nth ks m) r).able) 1))),(3,.slot (.bool true)),(5,.ret (.bool (canB (ableOf ks (nth ((nth (nth ks m) r).fields) i)) 1))),(6,.slot (.bool false)),(11,.ret (.bool (canB ((nth (nth ks m) r).able) 2))),(12,.slot (.bool true)),(14,.ret (.bool (canB (ableOf ks (nth ((nth (nth ks m) r).fields) i)) 2))),(17,.slot (.bool zc))] (a2 (cl tx46 (j5 ((nth (nth ks m) r).able) 1 (by decide))) (a2 (kB g2) (a2 (cl tx46 (j5 (ableOf ks (nth ((nth (nth ks m) r).fields) i)) 1 (by decide))) (a2 (kB g3) (a2 (cl tx46 (j5 ((nth (nth ks m) r).able) 2 (by decide))) (a2 (kB g4) (a2 (cl tx46 (j5 (ableOf ks (nth ((nth (nth ks m) r).fields) i)) 2 (by decide))) (kBs (!(canB (ableOf ks (nth ((nth (nth ks m) r).fields) i)) 2)) zc))))))))
       ·exact runJ [(2,.ret (.bool (canB ((nth (nth ks m) r).able) 1))),(3,.slot (.bool true)),(5,.ret (.bool (canB (ableOf ks (nth ((nth (nth ks m) r).fields) i)) 1))),(6,.slot (.bool false)),(11,.ret (.bool (canB ((nth (nth ks m) r).able) 2))),(12,.slot (.bool false)),(17,.slot (.bool zc))] (a2 (cl tx46 (j5 ((nth (nth ks m) r).able) 1 (by decide))) (a2 (kB g2) (a2 (cl tx46 (j5 (ableOf ks (nth ((nth (nth ks m) r).fields) i)) 1 (by decide))) (a2 (kB g3) (a2 (cl tx46 (j5 ((nth (nth ks m) r).able) 2 (by decide))) (a2 (kB g4) (kBs false zc)))))))
     ·rcases bft (canB ((nth (nth ks m) r).able) 2)with g3|g3
      ·exact runJ [(2,.ret (.bool (canB ((nth (nth ks m) r).able) 1))),(3,.slot (.bool false)),(11,.ret (.bool (canB ((nth (nth ks m) r).able) 2))),(12,.slot (.bool true)),(14,.ret (.bool (canB (ableOf ks (nth ((nth (nth ks m) r).fields) i)) 2))),(17,.slot (.bool zc))] (a2 (cl tx46 (j5 ((nth (nth ks m) r).able) 1 (by decide))) (a2 (kB g2) (a2 (cl tx46 (j5 ((nth (nth ks m) r).able) 2 (by decide))) (a2 (kB g3) (a2 (cl tx46 (j5 (ableOf ks (nth ((nth (nth ks m) r).fields) i)) 2 (by decide))) (kBs (!(canB (ableOf ks (nth ((nth (nth ks m) r).fields) i)) 2)) zc))))))
      ·exact runJ [(2,.ret (.bool (canB ((nth (nth ks m) r).able) 1))),(3,.slot (.bool false)),(11,.ret (.bool (canB ((nth (nth ks m) r).able) 2))),(12,.slot (.bool false)),(17,.slot (.bool zc))] (a2 (cl tx46 (j5 ((nth (nth ks m) r).able) 1 (by decide))) (a2 (kB g2) (a2 (cl tx46 (j5 ((nth (nth ks m) r).able) 2 (by decide))) (a2 (kB g3) (kBs false zc)))))) ?_
    subst hz
    refine vcd (fun h4=> ?_) fun h4=> ?_
    ·refine vxn c [0,2,4,14,15,16,18,136] [(12,.bool false)] ?_
     exact rtV rfl (retBF (fun h=>uptoN (i:=i) (by omega) (fun hq=>by have:=hs.symm.trans hq.2;rw[h4]at this;simp at this) h.fields))
    ·refine c5 ?_
     obtain⟨zc,hz⟩:∃c,c=((decide (((nth (nth ks m) r).able:Int)≥4))&&(!(canB (ableOf ks (nth ((nth (nth ks m) r).fields) i)) 4))):=⟨_,rfl⟩
     refine vjd c [18,136] [(152,.bool zc)] (by
      rcases bft (decide (((nth (nth ks m) r).able:Int)≥4))with g5|g5
      ·have g5p:=d5 g5
       exact runJ [(2,.slot (.bool true)),(5,.ret (.bool (canB (ableOf ks (nth ((nth (nth ks m) r).fields) i)) 4))),(7,.slot (.bool zc))] (a2 (kB g5) (a2 (cl tx46 (j5 (ableOf ks (nth ((nth (nth ks m) r).fields) i)) 4 (by decide))) (kBs (!(canB (ableOf ks (nth ((nth (nth ks m) r).fields) i)) 4)) zc)))
      ·have g5p:=i5 g5
       exact runJ [(2,.slot (.bool false)),(7,.slot (.bool zc))] (a2 (kB g5) (kBs false zc))) ?_
     subst hz
     refine vcd (fun h5=> ?_) fun h5=> ?_
     ·refine vxn c [0,2,4,14,15,16,152] [(12,.bool false)] ?_
      exact rtV rfl (retBF (fun h=>uptoN (i:=i) (by omega) (fun hq=>by have:=hs.symm.trans hq.2;rw[h5]at this;simp at this) h.fields))
     ·exact c5 (vxed c [152] [(16,.int (↑(i+1):Int))] [(1,.slot (.int (↑(i+1):Int)))] (wI1 i) (⟨_,by omega,(i+1),rfl,rfl,⟨by omega,uptoS hP1.2 ⟨hf,by rw[hs,h4,h5];rfl⟩⟩⟩))
  ·refine n4 (vxn c [0,2,4,14,15,16,62] [(12,.bool true)] ?_)
   exact rtV rfl (retBT (⟨hx.1,hx.2.1,hx.2.2,uptoE hP1.2 (by omega)⟩:RecOk ks m r))
theorem Z2 (ks:Kinds):
 CallV Try.prog 40 [.lf (.im true (.sl 1 (ks.map rRecs)))] (·= .tup [.lf (.im true (.int .i64 (badM ks))),.lf (.im true (.int .i64 (badR ks)))]):=by
 refine CallX (fn:=Try.f40) TTok mixed Try.func40 rfl rfl rfl rfl rfl fun E c hMay=> ?_
 refine vx c [(0,.lf (.m 1 ks rRecs))] [] AllP.nil (by kernel_rfl) ?_
 refine b9 (vxd c [] [(16,.bool (decide ((ks.length:Int)>3)))] [(1,.slot (.int (ks.length:Int)))] (lnl ks rRecs) ?_)
 refine vcp (fun h1=> ?_) fun h1=> ?_
 ·refine vxn c [0,16] [(4,.int 3),(6,.int 0)] ?_
  exact rtV rfl (retII (a6Z (by omega)))
 ·refine c5 (b9 (vxn c [16] [(8,.int 0)] ?_))
  refine c8 (vld (fun l0 n L=>∃(i:Nat),L=upG [] [(8,.int (i:Int))] l0∧n=ks.length-i∧(i≤ks.length∧∀j,j<i→ModOk ks j)) _ ⟨0,rfl,rfl,⟨by omega,fun j hj=>by omega⟩⟩ ?_)
  rintro n L ⟨i,rfl,rfl,hP1⟩
  refine b9 (vxd c [] [(24,.bool (decide ((i:Int)<(ks.length:Int))))] [(2,.slot (.int (ks.length:Int)))] (lnl ks rRecs) ?_)
  refine vcp (fun h2=> ?_) fun h2=> ?_
  ·refine c5 (b9 (c8 (b9 (vxd c [24] [(40,.bool (decide (((((nth ks i).length:Nat):Int):Int)>3)))] [(2,.row (rRecs (nth ks i))),(4,.slot (.int (((nth ks i).length:Nat):Int)))] (a2 (ixn rRecs ks i) (lnl (nth ks i) rRec)) ?_))))
   refine vcp (fun h3=> ?_) fun h3=> ?_
   ·refine vxn c [0,8,40] [(4,.int (i:Int)),(6,.int 3)] ?_
    exact rtV rfl (retII (a7s (by omega) (by omega) hP1.2 (by omega)))
   ·refine c5 (vxn c [40] [(10,.int 0)] ?_)
    refine c8 (vld (fun l0 n L=>∃(r:Nat),L=upG [] [(10,.int (r:Int))] l0∧n=(nth ks i).length-r∧(r≤(nth ks i).length∧∀j,j<r→RecOk ks i j)) _ ⟨0,rfl,rfl,⟨by omega,fun j hj=>by omega⟩⟩ ?_)
    rintro n L ⟨r,rfl,rfl,hP2⟩
    refine b9 (vxd c [] [(56,.bool (decide ((r:Int)<(((nth ks i).length:Nat):Int))))] [(3,.row (rRecs (nth ks i))),(5,.slot (.int (((nth ks i).length:Nat):Int)))] (a2 (ixn rRecs ks i) (lnl (nth ks i) rRec)) ?_)
    refine vcp (fun h4=> ?_) fun h4=> ?_
    ·refine c5 (b9 (c8 (vxd c [56] [(70,.bool (!(B (RecOk ks i r))))] [(3,.ret (.bool (B (RecOk ks i r))))] (cl tx54 (X5 ks i r (by omega) (by omega) (a6g hP1.2 hP2.2))) ?_)))
     refine vcd (fun h5=> ?_) fun h5=> ?_
     ·have h5:(B (RecOk ks i r))=false:=o4 h5
      refine vxn c [0,8,10,70] [(4,.int (i:Int)),(6,.int (r:Int))] ?_
      exact rtV rfl (retII (a63 (by omega) (by omega) hP1.2 (by omega) (by omega) hP2.2 (fun hr=>by rw[K2 hr]at h5;cases h5)))
     ·have h5:(B (RecOk ks i r))=true:=o3 h5
      exact c5 (vxed c [70] [(10,.int (↑(r+1):Int))] [(1,.slot (.int (↑(r+1):Int)))] (wI1 r) (⟨_,by omega,(r+1),rfl,rfl,⟨by omega,G9 hP2.2 (a4v.1 h5)⟩⟩))
    ·exact n4 (vxed c [10,56] [(8,.int (↑(i+1):Int))] [(1,.slot (.int (↑(i+1):Int)))] (wI1 i) (⟨_,by omega,(i+1),rfl,rfl,⟨by omega,G9 hP1.2 ⟨by omega,fun q hq=>hP2.2 q (by omega)⟩⟩⟩))
  ·refine n4 (vxn c [0,8,24] [(4,.int (-1)),(6,.int (-1))] ?_)
   exact rtV rfl (retII (a6F (by omega) fun j hj=>hP1.2 j (by omega)))
theorem a0A (ks:Kinds):
 CallV Try.prog 30 [.lf (.im true (.sl 1 (ks.map rRecs)))] (·= .bool (B (KOk ks))):=by
 refine CallX (fn:=Try.f30) TTok mixed Try.func30 rfl rfl rfl rfl rfl fun E c hMay=> ?_
 refine vx c [(0,.lf (.m 1 ks rRecs))] [] AllP.nil (by kernel_rfl) ?_
 refine vxd c [0] [(6,.int (badM ks))] [(1,.ret (.tup [.lf (.z (badM ks)),.lf (.z (badR ks))]))] (cl tx40 (Z2 ks)) ?_
 refine vxn c [6] [(4,.bool (decide ((badM ks:Int)<0)))] ?_
 exact rtV rfl (retBB (by simp[a5S]))
theorem A4 (a:List Mod)(hs:smallS a):
 CallV Try.prog 22 [.lf (.im false (.sl 3 (a.map rMod)))] (·= .lf (.im true (.sl 1 ((kindsOf a).map rRecs)))):=by
 refine CallX (fn:=Try.f22) TTok mixed Try.func22 rfl rfl rfl rfl rfl fun E c hMay=> ?_
 have ha:=hs.1
 have hkl:=D1 a
 refine vx c [(0,.lf (.l 3 a rMod))] [] AllP.nil (by kernel_rfl) ?_
 refine vxn c [] [(6,.lf (.u 8 0 23 1 []))] ?_
 refine b9 (vxn c [] [(8,.int 0)] ?_)
 refine c8 (vld (fun l0 n L=>∃(i:Nat),L=upG [] [(6,.lf (.u 8 0 23 1 (((kindsOf a).take i).map rRecs))),(8,.int (i:Int))] l0∧n=a.length-i∧(i≤a.length)) _ ⟨0,rfl,rfl,by omega⟩ ?_)
 rintro n L ⟨i,rfl,rfl,hP1⟩
 refine b9 (vxd c [] [(24,.bool (decide ((i:Int)<(a.length:Int))))] [(2,.slot (.int (a.length:Int)))] (lnl a rMod) ?_)
 refine vcp (fun h1=> ?_) fun h1=> ?_
 ·obtain⟨x1,hx1⟩:=u3 (l:=a) (i:=i) (by omega)
  have hm:=hs.2 _ (List.mem_of_getElem? hx1)
  have hm1:=hm.1.1
  refine c5 (b9 (c8 (vxn c [24] [(10,.lf (.u 15 0 41 2 []))] ?_)))
  refine b9 (vxn c [] [(12,.int 0)] ?_)
  refine c8 (vld (fun l0 n L=>∃(k:Nat),L=upG [] [(10,.lf (.u 15 0 41 2 ((x1.records.take k).map rRec))),(12,.int (k:Int))] l0∧n=x1.records.length-k∧(k≤x1.records.length)) _ ⟨0,rfl,rfl,by omega⟩ ?_)
  rintro n L ⟨k,rfl,rfl,hP2⟩
  refine b9 (vxd c [] [(46,.bool (decide ((k:Int)<(x1.records.length:Int))))] [(3,.row (rMod x1)),(6,.slot (.int (x1.records.length:Int)))] (a2 (ixh rMod hx1) (lnl x1.records rRec)) ?_)
  refine vcp (fun h2=> ?_) fun h2=> ?_
  ·obtain⟨x2,hx2⟩:=u3 (l:=x1.records) (i:=k) (by omega)
   have hx2s:x2.fields.length≤1048576:=hm.1.2 _ (List.mem_of_getElem? hx2)
   refine c5 (b9 (c8 (vxd c [46] [(14,.lf (.ptr 7 0)),(15,.cell 7 [.z x2.able,.l 1 x2.fields rS])] [(2,.row (rMod x1)),(6,.row (rRec x2))] (a2 (ixh rMod hx1) (ixh rRec hx2)) ?_)))
   refine vxed c [14,15] [(10,.lf (.u 15 0 41 2 ((x1.records.take (k+1)).map rRec)))] [(6,.im),(8,.im),(9,.slot (.lf (.u 15 0 41 2 ((x1.records.take (k+1)).map rRec))))] (a2 (a1 (a4D x2.fields)) (a2 (ap (a:=([]:List (List SV)).length+((x2.fields.map rS):List (List SV)).length) (b:=16) (by simp;omega) (by unfold maxLen;simp;omega)) (a2 (a1 (show(((x1.records.take k).map rRec)++[[.int .i64 x2.able,.sl 1 (x2.fields.map rS)]]:List (List SV))=(x1.records.take (k+1)).map rRec by exact F6 (f:=rRec) (l:=x1.records) hx2)) (a2 (hl (((x1.records.take k).map rRec).length)) (ap (a:=((x1.records.take k).map rRec).length+([[.int .i64 x2.able,.sl 1 (x2.fields.map rS)]]:List (List SV)).length) (b:=32) (by simp;omega) (by unfold maxLen;simp;omega)))))) ?_
   exact vxed c [] [(12,.int (↑(k+1):Int))] [(1,.slot (.int (↑(k+1):Int)))] (wI1 k) (⟨_,by omega,(k+1),rfl,rfl,by omega⟩)
  ·refine n4 (a2Z 5 [(0,.lf (.l 3 a rMod)),(6,.lf (.u 8 0 23 1 (((kindsOf a).take i).map rRecs))),(8,.int (i:Int)),(10,.lf (.m 2 (x1.records.take k) rRec)),(12,.int (k:Int)),(46,.bool (decide ((k:Int)<(x1.records.length:Int))))] (by kernel_rfl) ?_)
   refine vxed c [10,12,46] [(6,.lf (.u 8 0 23 1 (((kindsOf a).take (i+1)).map rRecs)))] [(2,.im),(3,.slot (.lf (.u 8 0 23 1 (((kindsOf a).take (i+1)).map rRecs))))] (a2 (a1 (show((((kindsOf a).take i).map rRecs)++[[.sl 2 ((x1.records.take k).map rRec)]]:List (List SV))=((kindsOf a).take (i+1)).map rRecs by rw[List.take_of_length_le (l:=x1.records) (by omega)];exact F6 (f:=rRecs) (l:=kindsOf a) (a3r hx1))) (a2 (hl ((((kindsOf a).take i).map rRecs).length)) (ap (a:=(((kindsOf a).take i).map rRecs:List (List SV)).length+([[.sl 2 ((x1.records.take k).map rRec)]]:List (List SV)).length) (b:=24) (by simp;omega) (by unfold maxLen;simp;omega)))) ?_
   exact vxed c [] [(8,.int (↑(i+1):Int))] [(1,.slot (.int (↑(i+1):Int)))] (wI1 i) (⟨_,by omega,(i+1),rfl,rfl,by omega⟩)
 ·refine n4 (a2Z 3 [(0,.lf (.l 3 a rMod)),(6,.lf (.m 1 ((kindsOf a).take i) rRecs)),(8,.int (i:Int)),(24,.bool (decide ((i:Int)<(a.length:Int))))] (by kernel_rfl) ?_)
  refine vxn c [0,6,8,24] [(4,.lf (.m 1 ((kindsOf a).take i) rRecs))] ?_
  exact rtV rfl (retL (by rw[List.take_of_length_le (by omega)]))
theorem F8 (n:Nat)(hn:n<10):
 CallV Try.prog 53 [.lf (.im true (.int .i64 ((n:Nat):Int)))] (·= .lf (.im true (.str (dgt ((n:Nat):Int))))):=by
 refine CallX (fn:=Try.f53) TTok mixed Try.func53 rfl rfl rfl rfl rfl fun E c hMay=> ?_
 refine vx c [(0,.int (n:Int))] [] AllP.nil (by kernel_rfl) ?_
 refine b9 (vxn c [] [(8,.bool (decide ((n:Int)<(-9223372036854775807))))] ?_)
 refine vcd (fun h1=> ?_) fun h1=> ?_
 ·exact absurd (d5 h1) (by omega)
 ·have h1:=i5 h1
  refine c5 (b9 (vxn c [8] [(12,.bool (decide ((n:Int)<0)))] ?_))
  refine vcd (fun h2=> ?_) fun h2=> ?_
  ·exact absurd (d5 h2) (by omega)
  ·have h2:=i5 h2
   refine c5 (b9 (vxn c [12] [(24,.bool (decide ((n:Int)<10)))] ?_))
   refine vcd (fun h3=> ?_) fun h3=> ?_
   ·have h3:=d5 h3
    refine vxd c [0,24] [(4,.lf (.q (dgt (n:Int))))] [(1,.slot (.int (48+(n:Int)))),(2,.slot (.lf (.im true (.int .u8 (48+(n:Int)))))),(3,.im),(4,.slot (.lf (.q (dgt (n:Int)))))] (a2 (wIo (48+(n:Int)) (48+(n:Int))) (a2 (a1 (show(Slot.im (.int .u8 (IntKind.wrap .u8 (48+(n:Int)))):Slot)= .lf (.im true (.int .u8 (48+(n:Int))))by rw[show IntKind.wrap .u8 (48+(n:Int))=(48+(n:Int))from by simp[IntKind.wrap,IntKind.signed,IntKind.bits];omega])) (a1 (show([[.int .u8 (48+(n:Int))]]:List (List SV))=bytesR (dgt (n:Int))by exact a6w (by omega) (by omega))))) ?_
    exact rtV rfl (rfl)
   ·exact absurd (show(n:Int)<10 by omega) (i5 h3)
end Go.Proofs.Ytjfjdgjhihgdkaa
