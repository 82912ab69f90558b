/- Part 1 of the proof of FnModuleGoesOn. -/
import Derived.Test.YtjfjdgjhihgdkaaA0
import Derived.Maps.AppendAt
set_option linter.unusedVariables false
set_option linter.unusedSimpArgs false
namespace Go.Proofs.Ytjfjdgjhihgdkaa.V
open Go Go.RowKit
def LeafIs :Leaf→SV→Prop
 | .im true v,x=>v=x
 | .nil,.sl _ []=>True
 | .nil,.nl=>True
 | .hd b n c,x=>x= .hd b n c
 |_,_=>False
def LeavesIs :List Leaf→List SV→Prop
 |[],[]=>True
 |l::ls,x::xs=>LeafIs l x∧LeavesIs ls xs
 |_,_=>False
variable {g:Nat→Tag} {w:World} {k i:Nat}
theorem LeafIs.rel {j:Nat}{v:Value}{l:Leaf}{x:SV}(h:LeafRel g w k i j v l)(hx:LeafIs l x):SRep (Imm g true) w v x:=by
 cases l with
 |im sh y=>
  cases sh with
  |true=>have e:y=x:=hx;subst e;exact h
  |false=>exact hx.elim
 |nil=>
  have e:v= .slice none 0 0:=h
  subst e
  cases x with
  |sl sz rows=>
   cases rows with
   |nil=>exact .nil _ _ _
   |cons r rs=>exact hx.elim
  |nl=>exact .nl _
  |_=>exact hx.elim
 |hd b n c=>
  have e1:v= .slice (some ⟨b,0,none⟩) n c:=h
  have e2:x= .hd b n c:=hx
  subst e1 e2
  exact .hd b n c
 |_=>exact hx.elim
theorem LeavesIs.get :∀{ls:List Leaf} {xs:List SV},LeavesIs ls xs→ls.length=xs.length∧∀{j:Nat} {x:SV},xs[j]? =some x→∃l,ls[j]? =some l∧LeafIs l x
 |[],[],_=>⟨rfl,fun h=>by simp at h⟩
 |l::ls,x::xs,h=>by
  obtain⟨h1,h2⟩:=LeavesIs.get h.2
  refine⟨by simp[h1],fun{j x'} hj=> ?_⟩
  cases j with
  |zero=>simp at hj;subst hj;exact⟨l,rfl,h.1⟩
  |succ j=>exact h2 (by simpa using hj)
 |[],_::_,h=>h.elim
 |_::_,[],h=>h.elim
theorem Y7 {sz:Nat}:∀{rows:List (List SV)},(∀r∈rows,r.length=sz)→∀{i j:Nat} {r:List SV} {x:SV},rows[i]? =some r→r[j]? =some x→rows.flatten[i*sz+j]? =some x
 |[],_,i,j,r,x,h,_=>by simp at h
 |r0::rows,hw,i,j,r,x,h1,h2=>by
  have h0:=hw r0 (by simp)
  cases i with
  |zero=>
   simp at h1;subst h1
   have hj:=(List.getElem?_eq_some_iff.1 h2).1
   simp only[List.flatten_cons,Nat.zero_mul,Nat.zero_add]
   rw[List.getElem?_append_left hj];exact h2
  |succ i=>
   have:=Y7 (rows:=rows) (fun r hr=>hw r (by simp[hr])) (by simpa using h1) h2
   simp only[List.flatten_cons]
   rw[List.getElem?_append_right (by rw[h0,Nat.succ_mul];omega),h0,Nat.succ_mul,show i*sz+sz+j-sz=i*sz+j from by omega]
   exact this
theorem M9 {sz:Nat}:∀{rows:List (List SV)},(∀r∈rows,r.length=sz)→rows.flatten.length=rows.length*sz
 |[],_=>by simp
 |r::rows,h=>by
  have:=M9 (rows:=rows) (fun r hr=>h r (by simp[hr]))
  simp only[List.flatten_cons,List.length_append,List.length_cons,this,h r (by simp),Nat.succ_mul];omega
theorem RowsIn.of_flat {cur:Array Value}{ls:List Leaf}{sz:Nat}{rows:List (List SV)}(h:LeavesRel g w k i cur ls)(hw:∀r∈rows,r.length=sz)(hl:LeavesIs ls rows.flatten):RowsIn g w cur sz rows:=by
 refine⟨hw,fun i r j x h1 h2=> ?_⟩
 obtain⟨e1,e2⟩:=hl.get
 obtain⟨l,hl1,hl2⟩:=e2 (Y7 hw h1 h2)
 have hlt:i*sz+j<cur.size:=by rw[h.1];exact(List.getElem?_eq_some_iff.1 hl1).1
 exact⟨_,Array.getElem?_eq_getElem hlt,(LeafIs.rel (h.2 _ l _ hl1 (Array.getElem?_eq_getElem hlt)) hl2)⟩
variable {P:Program} {E:Env} {o:Oper} {σ:St}
theorem A5 (d:Nat)(t e sz bytes n:Nat)(parts:Array (Nat×Operand))(ps:List (Nat×Part))(ls:List Leaf)(rows:List (List SV))
 (ho:o.op= .buildSlice t n parts) (hd:o.dst=some d) (hn:d<E.n) (he:Elem P t e sz bytes) (hsmall:n*sz≤2^24) (hp:litParts σ parts.toList=some ps)
 (hf:fillL (fun i=>some (i*sz,sz)) (List.replicate (n*sz) .hole) ps=some ls) (hw:∀r∈rows,r.length=sz) (hr:LeavesIs ls rows.flatten) (hl:rows.length=n):
 Step P E o σ fun τ=>∃b,τ=upd σ (tk d) (.lf (.u b n e sz rows)):=by
 refine Step.of_run fun g w a h=> ?_
 obtain⟨i,z,hi,hz,hsz,hby,hzs⟩:=he.ok
 obtain⟨hpl,hpr⟩:=F1 h hp
 have hz2:(zeroValue e).run P w= .ok z w:=by simp[zeroValue,typeInfo,hi,hz]
 obtain⟨zero,hzero⟩:∃zero:Array Value,zero=if n*sz=0 then#[]else z.cells:=⟨_,rfl⟩
 have hinit:LeavesRel g w 0 0 ((Array.range (n*sz)).map (zero[·%zero.size]!)) (List.replicate (n*sz) .hole):=by
  refine⟨by simp,fun j l v h1 h2=> ?_⟩
  rw[List.getElem?_replicate]at h1
  split at h1
  ·cases h1;trivial
  ·cases h1
 obtain⟨out,ho2,hro⟩:=W0 (k:=0) (i:=0) (fun i=>some (i*sz,sz)) ps _ _ _ ls hinit hpl hpr hf
 have hflat:=hro
 have hmax:n≤maxLen:=by
  have hpos:=he.pos
  have:n≤n*sz:=Nat.le_mul_of_pos_right _ hpos
  unfold maxLen;omega
 have hosz:out.size=n*sz:=by rw[hro.1,(LeavesIs.get hr).1,M9 hw,hl]
 obtain⟨g',hrel⟩:=h.newU d n e sz rows out hn (by omega) hmax hosz (RowsIn.of_flat hro hw hr)
 rw[hl]at hrel
 refine⟨_,_,g',_,.inl ?_,⟨_,rfl⟩,by rw[hd];exact hrel⟩
 have e2:(parts.map fun q=>(q.1,a.eval q.2)).toList=parts.toList.map fun q=>(q.1,a.eval q.2):=by simp
 have hsz2:(P.info? e).map (·.size)=some sz:=by rw[hi];simp[hsz]
 simp only[execOp,ho,Instr.buildSlice,Sem.run_bind,run_underlying he.und,Result.andThen_ok,r6 hsz2]
 rw[if_neg (by omega)]
 by_cases h0:n*sz=0
 ·rw[if_pos h0]at hzero
  subst hzero
  rw[if_pos h0]
  simp only[Sem.run_bind,Sem.run_pure,Result.andThen_ok,e2,ho2,newRow,run_newObj]
 ·rw[if_neg h0]at hzero
  subst hzero
  rw[if_neg h0]
  simp only[Sem.run_bind,Sem.run_pure,Result.andThen_ok,hz2,e2,ho2,newRow,run_newObj]
theorem U5 (d:Nat)(t e sz:Nat)(x y:Operand)(b n c:Nat)(k:IntKind)(i:Int){s2:Bool}
 (ho:o.op= .indexAddr t x y) (hd:o.dst=some d) (hn:d<E.n) (ht:P.underlying t=some (.slice e)) (hz:(P.info? e).map (·.size)=some sz)
 (hx:opd σ x= .lf (.hd b n c)) (hy:opd σ y= .lf (.im s2 (.int k i))) (h0:0≤i) (hlt:i<(n:Int)):Step P E o σ (·=upd σ (tk d) (.lf (.ptr b (i.toNat*sz)))):=by
 refine Step.of_run fun g w a h=>⟨.pointer (some ⟨b,i.toNat*sz,none⟩),w,drop (tk d) g,_,.inl ?_,rfl,?_⟩
 ·simp only[execOp,ho,a0N h hx,y6 h hy]
  simp[Instr.indexAt,asIntOf,run_underlying ht,h0,hlt,r6 hz,Addr.add_flat]
 ·rw[hd]
  exact h.set d _ _ hn fun g' hg' hw'=>rfl
theorem a19 (d:Nat)(x:Operand)(i:Nat)(ps:List Part)(p:Part)(ho:o.op= .extract x i)(hd:o.dst=some d)(hn:d<E.n)
 (hx:opd σ x= .tup ps) (hp:ps[i]? =some p) (hb:p.bare=true):Step P E o σ (·=upd σ (tk d) (.one p)):=by
 refine Step.of_run fun g w a h=> ?_
 have hr:=o9 h x
 rw[hx]at hr
 obtain⟨vs,hv,hsz,hrel⟩:=hr
 have hlt:i<vs.size:=by rw[hsz];exact(List.getElem?_eq_some_iff.1 hp).1
 have hpi:=hrel i p vs[i] hp (Array.getElem?_eq_getElem hlt)
 refine⟨vs[i],w,drop (tk d) g,_,.inl ?_,rfl,?_⟩
 ·simp[execOp,ho,hv,Instr.extract,hlt]
 ·rw[hd]
  exact h.set d _ _ hn fun g' hg' hw'=>hpi.bare hb hg'
theorem S3 (d b off:Nat)(x:Operand)(ho:o.op= .nilCheck x)(hd:o.dst=some d)(hn:d<E.n)(hx:opd σ x= .lf (.ptr b off)):Step P E o σ (·=upd σ (tk d) (.lf (.ptr b off))):=by
 refine Step.of_run fun g w a h=>⟨.pointer (some ⟨b,off,none⟩),w,drop (tk d) g,_,.inl ?_,rfl,?_⟩
 ·simp[execOp,ho,G0 h hx]
 ·rw[hd]
  exact h.set d _ _ hn fun g' hg' hw'=>rfl
theorem Q3 (d:Nat)(sh:Bool)(r:List SV)(x:Operand)(ho:o.op= .nilCheck x)(hd:o.dst=some d)(hn:d<E.n)(hx:opd σ x= .lf (.sref sh r)):Step P E o σ (·=upd σ (tk d) (.lf (.sref sh r))):=by
 refine Step.of_run fun g w a h=> ?_
 have hr:=o9 h x
 rw[hx]at hr
 have hr':LeafRel g w (opk x) 0 0 (a.eval x) (.sref sh r):=hr
 refine⟨a.eval x,w,drop (tk d) g,_,.inl ?_,rfl,?_⟩
 ·obtain⟨b,off,e1,_⟩:=hr'
  simp[execOp,ho,e1]
 ·rw[hd]
  exact h.set d _ _ hn fun g' hg' hw'=>LeafRel.bare (k':=tk d) (i':=0) (j':=0) hr' rfl hg'
end Go.Proofs.Ytjfjdgjhihgdkaa.V
namespace Go.Proofs.Ytjfjdgjhihgdkaa.V
open Go Go.RowKit
def cutIn (r:List SV)(j:Nat)(new:List SV):List SV:=r.take j++new++r.drop (j+new.length)
variable {r new:List SV} {j:Nat}
theorem a2J (h:j+new.length≤r.length):(cutIn r j new).length=r.length:=by simp[cutIn];omega
theorem a4F (h:j+new.length≤r.length)(k:Nat):(cutIn r j new)[k]? =if k<j then r[k]? else if k<j+new.length then new[k-j]? else r[k]? :=by
 unfold cutIn
 have ht:(r.take j).length=j:=by rw[List.length_take];omega
 by_cases h1:k<j
 ·rw[if_pos h1,List.append_assoc,List.getElem?_append_left (by omega),List.getElem?_take,if_pos h1]
 ·rw[if_neg h1]
  by_cases h2:k<j+new.length
  ·rw[if_pos h2,List.append_assoc,List.getElem?_append_right (by omega),List.getElem?_append_left (by omega),ht]
  ·rw[if_neg h2,List.getElem?_append_right (by simp;omega),List.getElem?_drop]
   congr 1
   simp;omega
theorem RowsIn.store {g:Nat→Tag}{w:World}{cur:Array Value}{sz:Nat}{rows:List (List SV)}(h:RowsIn g w cur sz rows){i:Nat}(hr:rows[i]? =some r)(hj:j+new.length≤sz)
 (cs:List Value) (hcs:cs.length=new.length) (hn:∀(k:Nat) y x,cs[k]? =some y→new[k]? =some x→SRep (Imm g true) w y x) (hcur:i*sz+sz≤cur.size):
 RowsIn g w (cur.toList.take (i*sz+j)++cs++cur.toList.drop (i*sz+j+new.length)).toArray sz (rows.set i (cutIn r j new)):=by
 have hrl:=h.1 r (List.mem_of_getElem? hr)
 have hil:=(List.getElem?_eq_some_iff.1 hr).1
 have ht:(cur.toList.take (i*sz+j)).length=i*sz+j:=by rw[List.length_take,Array.length_toList];omega
 have get:∀k,(cur.toList.take (i*sz+j)++cs++cur.toList.drop (i*sz+j+new.length)).toArray[k]? =if k<i*sz+j then cur[k]? else if k<i*sz+j+new.length then cs[k-(i*sz+j)]? else cur[k]? :=by
  intro k
  rw[List.getElem?_toArray]
  by_cases h1:k<i*sz+j
  ·rw[if_pos h1,List.append_assoc,List.getElem?_append_left (by omega),List.getElem?_take,if_pos h1,Array.getElem?_toList]
  ·rw[if_neg h1]
   by_cases h2:k<i*sz+j+new.length
   ·rw[if_pos h2,List.append_assoc,List.getElem?_append_right (by omega),List.getElem?_append_left (by omega),ht]
   ·rw[if_neg h2,List.getElem?_append_right (by rw[List.length_append,ht];omega),List.getElem?_drop,List.length_append,ht,hcs,Array.getElem?_toList]
    congr 1;omega
 refine⟨fun r' hr'=> ?_,fun i' r' j' x h1 h2=> ?_⟩
 ·rcases List.mem_or_eq_of_mem_set hr' with hr'|rfl
  ·exact h.1 r' hr'
  ·rw[a2J (by omega)];exact hrl
 ·by_cases hi:i'=i
  ·subst hi
   rw[List.getElem?_set_self hil]at h1
   cases h1
   rw[a4F (by omega)]at h2
   rw[get]
   by_cases c1:j'<j
   ·rw[if_pos c1]at h2
    rw[if_pos (by omega)]
    exact h.2 i' r j' x hr h2
   ·rw[if_neg c1]at h2
    rw[if_neg (by omega)]
    by_cases c2:j'<j+new.length
    ·rw[if_pos c2]at h2
     rw[if_pos (by omega),show i'*sz+j'-(i'*sz+j)=j'-j from by omega]
     have hlt:j'-j<cs.length:=by omega
     exact⟨_,List.getElem?_eq_getElem hlt,hn _ _ x (List.getElem?_eq_getElem hlt) h2⟩
    ·rw[if_neg c2]at h2
     rw[if_neg (by omega)]
     exact h.2 i' r j' x hr h2
  ·rw[List.getElem?_set_ne (fun e=>hi e.symm)]at h1
   have hj':=(List.getElem?_eq_some_iff.1 h2).1
   have hw':=h.1 r' (List.mem_of_getElem? h1)
   rw[get]
   rcases Nat.lt_or_gt_of_ne hi with hlt|hgt
   ·have:=E6 hlt (show j'<sz by omega)
    rw[if_pos (by omega)]
    exact h.2 i' r' j' x h1 h2
   ·have:=Nat.mul_le_mul_right sz (show i+1≤i' from hgt)
    rw[Nat.succ_mul]at this
    rw[if_neg (by omega),if_neg (by omega)]
    exact h.2 i' r' j' x h1 h2
variable {P:Program} {E:Env} {o:Oper} {σ:St}
theorem U4 (kt:Nat)(t e sz m:Nat)(x y:Operand)(b c i j off:Nat)(rows:List (List SV))(r new:List SV)(p:Part)
 (ho:o.op= .store t x y) (hd:o.dst=none) (ht:(P.info? t).map (·.size)=some m) (hx:opd σ x= .lf (.ptr b off)) (hk:σ (tk kt)= .lf (.u b c e sz rows)) (hy:opd σ y= .one p)
 (hp:LeavesIs p.leaves new) (hm:new.length=m) (htold:p.told=true) (hr:rows[i]? =some r) (hoff:off=i*sz+j) (hj:j+m≤sz):
 Step P E o σ (·=upd σ (tk kt) (.lf (.u b c e sz (rows.set i (cutIn r j new))))):=by
 subst hoff
 refine Step.of_run fun g w a h=> ?_
 have hs:=h.slot kt
 rw[hk]at hs
 obtain⟨hv,hg,hc,hmx,cur,hh,hcs,hrows⟩:=hs
 have hyr:=o9 h y
 rw[hy]at hyr
 have hpr:PartRel g w (opk y) 0 (a.eval y) p:=hyr
 obtain⟨hll,hget⟩:=hp.get
 have hbare:p.leaves.all Leaf.bare=true:=by
  rw[List.all_eq_true]
  intro l hl
  obtain⟨q,hq⟩:=List.mem_iff_getElem?.1 hl
  have hqlt:=(List.getElem?_eq_some_iff.1 hq).1
  obtain⟨l',h1,h2⟩:=hget (List.getElem?_eq_getElem (l:=new) (i:=q) (by omega))
  rw[hq]at h1
  cases h1
  cases l<;>first|rfl|exact h2.elim
 have hcells:=hpr.cells hbare (fun l e=>by subst e;exact LeafRel.oneCell (l:=l) hpr htold)
 have hone:∀u∈(a.eval y).cells.toList,u.oneCell'=true:=by
  intro u hu
  obtain⟨q,hq⟩:=List.mem_iff_getElem?.1 hu
  have hq':(a.eval y).cells[q]? =some u:=by simpa using hq
  have hlt:q<p.leaves.length:=by rw[←hcells.1];exact(Array.getElem?_eq_some_iff.1 hq').1
  obtain⟨l,h1,h2⟩:=hget (List.getElem?_eq_getElem (l:=new) (i:=q) (by omega))
  exact(LeafIs.rel (hcells.2 q l u h1 hq') h2).oneCell
 have hsz:(a.eval y).cells.size=m:=by rw[hcells.1,hll,hm]
 have hil:=(List.getElem?_eq_some_iff.1 hr).1
 have hfit:i*sz+sz≤cur.size:=by
  rw[hcs]
  have:=Nat.mul_le_mul_right sz (show i+1≤c by omega)
  rw[Nat.succ_mul]at this;exact this
 have hrun:=K3 (P:=P) (w:=w) ht b (i*sz+j) e cur (a.eval y) hh hsz (by omega) hone
 have hnew:=hrows.store hr (new:=new) (j:=j) (by omega) (a.eval y).cells.toList (by rw[Array.length_toList,hsz,hm]) (fun q v z h1 h2=>by
  obtain⟨l,h3,h4⟩:=hget h2
  exact LeafIs.rel (hcells.2 q l v h3 (by simpa using h1)) h4) hfit
 rw[hm]at hnew
 have hlt:b<w.heap.size:=(Array.getElem?_eq_some_iff.1 hh).1
 have himm:∀sh q,Imm g sh q→Imm g sh q∧(w.setRow b (cur.toList.take (i*sz+j)++(a.eval y).cells.toList++cur.toList.drop (i*sz+j+m)).toArray).heap[q]? =w.heap[q]? :=fun sh q hq=>
  ⟨hq,setRow_other _ _ _ _ fun e0=>by subst e0;rcases hq with e1|⟨_,e1⟩<;>rw[hg]at e1<;>cases e1⟩
 have hown:∀k i' j' q,g q= .own k i' j'→(k,i',j')≠(tk kt,0,0)→g q= .own k i' j'∧(w.setRow b (cur.toList.take (i*sz+j)++(a.eval y).cells.toList++cur.toList.drop (i*sz+j+m)).toArray).heap[q]? =w.heap[q]? :=fun k i' j' q hq hne=>
  ⟨hq,setRow_other _ _ _ _ fun e0=>by subst e0;rw[hg]at hq;cases hq;exact hne rfl⟩
 have hweak:∀q,g q= .weak→g q= .weak∧(w.setRow b (cur.toList.take (i*sz+j)++(a.eval y).cells.toList++cur.toList.drop (i*sz+j+m)).toArray).heap[q]? =w.heap[q]? :=fun q hq=>
  ⟨hq,setRow_other _ _ _ _ fun e0=>by subst e0;rw[hg]at hq;cases hq⟩
 refine⟨undef,w.setRow b (cur.toList.take (i*sz+j)++(a.eval y).cells.toList++cur.toList.drop (i*sz+j+m)).toArray,g,_,.inr ⟨?_,rfl⟩,rfl,?_⟩
 ·simp only[execOp,ho,G0 h hx,Instr.storeAt,Instr.sureAddr,Sem.run_bind,Sem.run_pure,Result.andThen_ok,hrun]
 ·rw[hd]
  exact
   {defers:=h.defers
    os:=h.os
    tape:=h.tape
    output:=h.output
    size:=by simpa[World.setRow]using h.size
    old:=fun q hq hm'=>by
     rw[setRow_other _ _ _ _ ?_]
     ·exact h.old q hq hm'
     ·intro e0;subst e0
      rcases h.mine q _ _ _ hg with e1|e1
      ·omega
      ·exact hm' e1
    many:=h.many
    slot:=fun t'=>by
     by_cases e0:tk t'=tk kt
     ·simp only[upd];rw[if_pos e0]
      have e1:=Z0 e0
      subst e1
      refine⟨?_,hg,by rw[List.length_set];exact hc,hmx,_,setRow_heap w b cur _ _ _ hh,?_,hnew.to himm⟩
      ·rw[List.length_set];exact hv
      ·simp;omega
     ·simp only[upd];rw[if_neg e0]
      refine(h.slot t').to himm fun q i' j' hq=>hown _ i' j' q hq ?_
      intro e1
      exact e0 (congrArg Prod.fst e1)
    cell:=fun t'=>by
     simp only[upd];rw[if_neg (v7 _ _).symm]
     refine(h.cell t').to himm fun q i' j' hq=>hown _ i' j' q hq ?_
     intro e1
     exact v7 _ _ (congrArg Prod.fst e1).symm
    fresh:=fun q hq=>h.fresh q (by simpa[World.setRow]using hq)
    mine:=h.mine
    uniq:=h.uniq
    elder:=h.elder
    soft:=fun q hq e=>(h.soft q hq e).to (setRow_other _ _ _ _ fun e0=>by subst e0;rw[hg]at e;cases e)
    wild:=h.wild}
theorem X9 {P:Program}{E:Env}{σ:St}(d:Nat)(t ty e sz bytes:Nat)(x y:Operand)(rows2:List (List SV))
 (ho:o.op= .call {callee:= .builtin .append,args:= #[x,y],argTypes:= #[t,t]}) (hty:o.type=ty) (hd:o.dst=some d) (hn:d<E.n) (he:Elem P t e sz bytes)
 (hx:opd σ x= .lf .nil) {shy:Bool} (hy:opd σ y= .lf (.im shy (.sl sz rows2))) (hsc:shy=true∨ScalarRows rows2) (hne:rows2≠[])
 (hsmall:rows2.length*bytes≤140737488355328) (hmax:rows2.length≤maxLen):Step P E o σ fun τ=>∃b' c',τ=upd σ (tk d) (.lf (.u b' c' e sz rows2)):=by
 refine Step.of_run fun g w a h=> ?_
 have hvx:=J5 h hx
 have hyr:=E7 h hy
 obtain⟨ay,m,cy,hvy,hm,hcy⟩:=SRep.slice_form hyr
 rw[hvy]at hyr
 obtain⟨i,z,hi,hz,hsz,hby,hzs⟩:=he.ok
 have hexec:execOp a.eval o=(do pure (Next.value (←Builtin.append_ #[t,t] o.type #[a.eval x,a.eval y])):Sem Next):=by
  simp[execOp,ho,resolve,invoke,builtin]
 obtain⟨ad,rfl,hm2,news,hnl,hnc,hn1,hnr⟩:=hyr.cells hne he.pos
 have hown:w.ownsRow 0 e sz (.slice none 0 0) 0 []:=World.ownsRow_nil w 0 e sz
 obtain⟨v',w',hrun,hown',hgrow,hnil,hwhere⟩:=run_append_own_at (P:=P) (w:=w) 0 t o.type e i z sz bytes he.und hi hz hsz hby hzs he.pos _ 0 [] hown ad m cy news (by rw[hnl,hm2]) hnc hn1 (by rw[hm2];omega) (by rw[hm2];simpa using hsmall) (Nat.zero_le _)
 obtain⟨hl',hform⟩:=hown'
 rcases hform with⟨_,h0⟩|⟨b',c',cur',hv',_,hh',hc',hmx',hcs',htk'⟩
 ·exfalso
  have:rows2.length≠0:=fun e=>hne (List.length_eq_zero_iff.1 e)
  omega
 ·have hb':b'=w.heap.size:=by
   rw[hv']at hwhere
   rcases hwhere with e0|e0
   ·simp[Value.ownBlock]at e0
   ·simpa[Value.ownBlock]using e0
  subst hb'
  have hfr:g w.heap.size= .none:=h.fresh _ (Nat.le_refl _)
  have r1:=(h.forget (tk d)).world hgrow.os hgrow.tape hgrow.output hgrow.size fun b0 hb0=> .inl (hgrow.block b0 hb0 (by intro e0;cases e0))
  have hb0:drop (tk d) g w.heap.size= .none:=d7 hfr
  have hlt':w.heap.size<w'.heap.size:=(Array.getElem?_eq_some_iff.1 hh').1
  have r2:=r1.tag1 w.heap.size (.own (tk d) 0 0) hb0 hlt' (.inl h.size) (fun b' k' i' j' e=>by cases e;exact y4 _ _ _ _ _)
  have himm:∀sh x,Imm g sh x→Imm (tag1 (drop (tk d) g) w.heap.size (.own (tk d) 0 0)) sh x∧w'.heap[x]? =w.heap[x]? :=by
   intro sh x hx
   refine⟨Imm.tag1 hb0 (l8.2 hx),?_⟩
   have hxl:x<w.heap.size:=Nat.lt_of_not_le fun hle=>by rcases hx with e|⟨_,e⟩<;>rw[h.fresh x hle]at e<;>cases e
   exact hgrow.block x hxl (by intro e0;cases e0)
  have hrows:RowsIn g w cur' sz ([]++rows2):=RowsIn.append (cur:= #[]) (rows:=[]) ⟨(by intro r hr;cases hr),(by intro i r j x h1;simp at h1)⟩ hyr.width (fun i r j x h1 h2=>let⟨y,hy1,hy2⟩:=hnr i r j x h1 h2;⟨y,hy1,ScalarRows.im hsc h1 h2 hy2⟩) (by simp) (by simp;rw[←hm2];simpa using htk')
  have r3:=(r2.act d v' (a8 ..)).putSlot d (.lf (.u w.heap.size c' e sz rows2)) (by
   rw[n1 (by rw[h.many];exact hn)]
   refine⟨by rw[hv',←hm2];simp,m9 ..,by rw[←hm2];omega,hmx',cur',hh',hcs',?_⟩
   have:=hrows.to himm
   simpa using this)
  rw[j7]at r3
  refine⟨v',w',_,_,.inl ?_,⟨_,c',rfl⟩,by rw[hd];exact r3⟩
  rw[hexec,hvx,hvy,Sem.run_bind,hrun];rfl
def bnd (σ:St):Option Operand→Option (Option Int)
 |none=>some none
 |some x=>match opd σ x with
  | .one (.lf (.im _ (.int _ n)))=>some (some n)
  |_=>none
theorem a3Z (d:Nat)(t e sz:Nat)(x:Operand)(lo hi:Option Operand)(lv hv:Option Int)(rows:List (List SV))(l hh:Nat){sh:Bool}
 (ho:o.op= .slice t x lo hi none) (hd:o.dst=some d) (hn:d<E.n) (he:P.elem t=e∧P.underlying t=some (.slice e)) (hz:(P.info? e).map (·.size)=some sz)
 (hx:opd σ x= .lf (.im sh (.sl sz rows))) (h1:bnd σ lo=some lv) (h2:bnd σ hi=some hv) (hl:lv.getD 0=(l:Int)) (hhv:hv.getD (rows.length:Int)=(hh:Int)) (hle:l≤hh) (hhle:hh≤rows.length):
 Step P E o σ (·=upd σ (tk d) (.lf (.im sh (.sl sz ((rows.take hh).drop l))))):=by
 refine Step.of_run fun g w a h=> ?_
 have hxr:=E7 h hx
 obtain⟨ad,n,cap,e1,e2,hcap⟩:=SRep.slice_form hxr
 rw[e1]at hxr
 have hcut:=hxr.cut l hh cap hle (by omega) (by omega) (Nat.le_refl _)
 have hund:P.underlying t=some (.slice (P.elem t)):=by rw[he.1];exact he.2
 refine⟨sliced ad l hh cap sz,w,drop (tk d) g,_,.inl ?_,rfl,?_⟩
 ·have hlo:∀v,lo=some v→∃k,a.eval v= .int k (l:Int):=by
   intro v hv0
   subst hv0
   simp only[bnd]at h1
   split at h1
   ·rename_i sh' k n' hop
    cases h1
    simp at hl
    subst hl
    exact⟨k,y6 h hop⟩
   ·cases h1
  have hlo0:lo=none→l=0:=by
   intro hv0;subst hv0;cases h1;simp at hl;omega
  have hhi:∀v,hi=some v→∃k,a.eval v= .int k (hh:Int):=by
   intro v hv0
   subst hv0
   simp only[bnd]at h2
   split at h2
   ·rename_i sh' k n' hop
    cases h2
    simp at hhv
    subst hhv
    exact⟨k,y6 h hop⟩
   ·cases h2
  have hhi0:hi=none→hh=n:=by
   intro hv0;subst hv0;cases h2;simp at hhv;omega
  have hz':(sizeOf (P.elem t)).run P w= .ok sz w:=by rw[he.1];exact r6 hz
  simp only[execOp,ho,e1,Sem.run_bind]
  rw[run_sliceAt_slice w t _ _ _ _ hund]
  cases lo with
  |none=>
   have:=hlo0 rfl
   subst this
   cases hi with
   |none=>
    have:=hhi0 rfl
    subst this
    (try simp only[Option.map_none,Option.map_some]);rw[run_slice_all w t ad hh cap hund,hz'];rfl
   |some v=>
    obtain⟨k,hk⟩:=hhi v rfl
    (try simp only[Option.map_none,Option.map_some]);rw[hk,run_slice_h w t ad n cap hund k hh (by omega) (by omega),hz']
    simp
  |some u=>
   obtain⟨k1,hk1⟩:=hlo u rfl
   cases hi with
   |none=>
    have:=hhi0 rfl
    subst this
    (try simp only[Option.map_none,Option.map_some]);rw[hk1,run_slice_l w t ad hh cap hund k1 l (by omega) (by omega),hz']
    simp
   |some v=>
    obtain⟨k,hk⟩:=hhi v rfl
    (try simp only[Option.map_none,Option.map_some]);rw[hk,hk1,run_slice_lh w t ad n cap hund k1 k l hh (by omega) (by omega) (by omega),hz']
    simp
 ·rw[hd]
  exact h.set d _ _ hn fun g' hg' hw'=>hcut.mono (fun _ _=>rfl) fun b hb=>hg' _ _ hb
end Go.Proofs.Ytjfjdgjhihgdkaa.V
namespace Go.Proofs.Ytjfjdgjhihgdkaa.V
open Go Go.RowKit
variable {P:Program} {z:Value} {sz bytes:Nat}
theorem a09 {e:TypeId}(h:(P.info? e).map (fun i=>(i.zero,i.size,i.bytes))=some (some z,sz,bytes)):
 ∃i,P.info? e=some i∧i.zero=some z∧i.size=sz∧i.bytes=bytes:=by
 cases hi:P.info? e with
 |none=>rw[hi]at h;cases h
 |some i=>
  rw[hi]at h
  simp only[Option.map_some,Option.some.injEq,Prod.mk.injEq]at h
  exact⟨i,rfl,h.1,h.2.1,h.2.2⟩
variable {e:Nat}
theorem Elem.of {t:Nat}(hu:P.underlying t=some (.slice e))(h:(P.info? e).map (fun i=>(i.zero,i.size,i.bytes))=some (some z,sz,bytes))(hz:z.cells.size=sz)(hp:0<sz):Elem P t e sz bytes:=
 let⟨i,h1,h2,h3,h4⟩:=a09 h
 ⟨hu,⟨i,z,h1,h2,h3,h4,hz⟩,hp⟩
def zerosAre :List Value→List SV→Bool
 |[],[]=>true
 |v::vs,x::xs=>zeroIs v x&&zerosAre vs xs
 |_,_=>false
theorem U0 :∀{vs:List Value} {xs:List SV},zerosAre vs xs=true→∀{j:Nat} {v:Value} {x:SV},vs[j]? =some v→xs[j]? =some x→zeroIs v x=true
 |[],[],_,j,v,x,h,_=>by simp at h
 |v0::vs,x0::xs,h,j,v,x,h1,h2=>by
  simp only[zerosAre,Bool.and_eq_true]at h
  cases j with
  |zero=>simp at h1 h2;subst h1;subst h2;exact h.1
  |succ j=>exact U0 h.2 (by simpa using h1) (by simpa using h2)
 |[],_::_,h,_,_,_,_,_=>by cases h
 |_::_,[],h,_,_,_,_,_=>by cases h
theorem Zero.of {zs:List SV}(h:(P.info? e).map (fun i=>(i.zero,i.size,i.bytes))=some (some z,sz,bytes))(hz:z.cells.size=sz)(hl:zs.length=sz)(ha:zerosAre z.cells.toList zs=true):Zero P e sz zs:=
 let⟨i,h1,h2,h3,_⟩:=a09 h
 ⟨⟨i,z,h1,h2,h3,hz,hl,fun j v x e1 e2=>U0 ha (by simpa using e1) e2⟩⟩
theorem a6f (h:(P.info? e).map (fun i=>(i.zero,i.size,i.bytes))=some (some z,sz,bytes))(w:World):(zeroValue e).run P w= .ok z w:=by
 obtain⟨i,h1,h2,_⟩:=a09 h
 simp[zeroValue,typeInfo,h1,h2]
theorem Zeros.of {zl:List Leaf}(h:(P.info? e).map (fun i=>(i.zero,i.size,i.bytes))=some (some z,sz,bytes))(hz:z.cells.toList.map litLeaf=zl):
 ∃z,(∀w,(zeroValue e).run P w= .ok z w)∧z.cells.toList.map litLeaf=zl:=⟨z,a6f h,hz⟩
theorem a7d (h:(P.info? e).map (fun i=>(i.zero,i.size,i.bytes))=some (some z,sz,bytes)):(P.info? e).map (·.size)=some sz:=by
 obtain⟨i,h1,_,h3,_⟩:=a09 h
 rw[h1];simp[h3]
theorem a2v {P:Program}:∀(fs:List Field) (ss:List Nat),fs.length=ss.length→(∀(i:Nat) f s,fs[i]? =some f→ss[i]? =some s→(P.info? f.type).map (·.size)=some s)→
 ∀w,((fs.mapM fun f=>do pure (f.offset,←sizeOf f.type)):Sem (List (Nat×Nat))).run P w= .ok ((fs.zip ss).map fun p=>(p.1.offset,p.2)) w
 |[],[],_,_,w=>rfl
 |f::fs,s::ss,hl,h,w=>by
  have h0:=h 0 f s rfl rfl
  have ih:=a2v fs ss (by simpa using hl) (fun i f' s' h1 h2=>h (i+1) f' s' (by simpa using h1) (by simpa using h2)) w
  rw[List.mapM_cons,Sem.run_bind,Sem.run_bind,r6 h0]
  simp only[Result.andThen_ok,Sem.run_pure,Sem.run_bind,ih]
  rfl
 |[],_::_,hl,_,_=>by cases hl
 |_::_,[],hl,_,_=>by cases hl
end Go.Proofs.Ytjfjdgjhihgdkaa.V
namespace Go.Proofs.Ytjfjdgjhihgdkaa.V
open Go Go.RowKit
def resOK (rs:List ResultVar):Bool:=(List.range rs.length).all fun i=>match rs[i]? with
 |some (.tmp t)=>resIdx (tk t) rs 0==some i
 |_=>true
variable {rs:List ResultVar}
theorem H5 (h:resOK rs=true):∀(i:Nat) t,rs[i]? =some (.tmp t)→resIdx (tk t) rs 0=some i:=by
 intro i t hi
 have hlt:=(List.getElem?_eq_some_iff.1 hi).1
 have:=List.all_eq_true.1 h i (List.mem_range.2 hlt)
 rw[hi]at this
 simpa using this
theorem fin {P:Program}{τ:St}{R:Slot→Prop}{e:Exit}(ps:List Part)(he:e= .ret∨e= .normal)(hps:resParts τ rs=some ps)(ho:resOK rs=true)(hl:resLen P ps rs)(hR:R (slotOf ps)):
 (e= .ret∨e= .normal)∧∃ps,resParts τ rs=some ps∧(∀(i:Nat) t,rs[i]? =some (.tmp t)→resIdx (tk t) rs 0=some i)∧resLen P ps rs∧R (slotOf ps):=
 ⟨he,ps,hps,H5 ho,hl,hR⟩
theorem a1G {a b:Int}(h:a=b)(h0: -9223372036854775808≤b)(h1:b≤9223372036854775807):IntKind.i64.wrap a=b:=by
 subst h;exact IntWalk.i64_in _ (by omega)
end Go.Proofs.Ytjfjdgjhihgdkaa.V
namespace Go.Proofs.Ytjfjdgjhihgdkaa.V
open Go Go.RowKit
theorem a4e {P:Program}{E:Env}{o:Oper}{σ:St}{s:Slot}(d:Nat)(f:FuncId)(xs:Array Operand)(ats:Array TypeId)(ps:List Part)
 (ho:o.op= .call {callee:= .value (.func f),args:=xs,argTypes:=ats}) (hd:o.dst=some d) (hn:d<E.n) (hf:Text P f) (hxs:opParts σ xs.toList=some ps) (hc:CallV P f ps (·=s)):
 Step P E o σ (·=upd σ (tk d) s):=
 (Z9 d f xs ats ps ho hd hn hf hxs hc).mono fun τ ⟨s',e,h⟩=>by subst e;exact h
variable {P:Program}
theorem Text.of {f:FuncId}{fn:Func}{c:Code}(h:P.funcs[f]? =some fn)(hb:fn.body=some c)(hn:(fn.name== "runtime.NumGoroutine")=false):Text P f:=⟨fn,c,h,hb,hn⟩
end Go.Proofs.Ytjfjdgjhihgdkaa.V
namespace Go.Proofs.Ytjfjdgjhihgdkaa.V
open Go Go.RowKit
structure OneObj (g:Nat→Tag)(w:World):Prop where
 own:∀b k i j,g b= .own k i j→k=1
 uniq:∀b b' k i j,g b= .own k i j→g b'= .own k i j→b=b'
 fresh:∀b,w.heap.size≤b→g b= .none
 firm:∀b,g b≠.weak
def objTags (k:Nat)(g:Nat→Tag):Nat→Tag:=fun b=>match g b with
 | .own k' i j=>if k'=k then .own 1 i j else .none
 | .weak=> .none
 |t=>t
theorem T7 (k:Nat)(g:Nat→Tag)(b:Nat):objTags k g b≠.weak:=by
 unfold objTags
 cases g b with
 |own x y z=>by_cases hx:x=k<;>simp[hx]
 |_=>simp
def unTag (k:Nat):Tag→Tag
 | .own _ i j=> .own k i j
 |t=>t
def backObj (n k:Nat)(g g1:Nat→Tag):Nat→Tag:=fun b=>if b<n then(match g b with
 | .own k' i j=>if k'=k then unTag k (g1 b)else .own k' i j
 |t=>t)else unTag k (g1 b)
variable {k b i j:Nat} {g:Nat→Tag}
theorem p7 {k':Nat}(h:objTags k g b= .own k' i j):k'=1∧g b= .own k i j:=by
 unfold objTags at h
 cases e:g b with
 |own x y z=>
  rw[e]at h
  by_cases hx:x=k
  ·simp only[hx,if_true,Tag.own.injEq]at h
   obtain⟨h1,h2,h3⟩:=h
   exact⟨h1.symm,by rw[hx,h2,h3]⟩
  ·simp only[hx,if_false]at h;cases h
 |none=>rw[e]at h;cases h
 |imm=>rw[e]at h;cases h
 |lent=>rw[e]at h;cases h
 |weak=>rw[e]at h;cases h
theorem R5 (h:g b= .own k i j):objTags k g b= .own 1 i j:=by
 unfold objTags;rw[h];simp
theorem I8 {sh:Bool}:Imm (objTags k g) sh b↔Imm g sh b:=by
 unfold Imm objTags
 cases e:g b with
 |own x y z=>by_cases hx:x=k<;>simp[hx]
 |none=>simp
 |imm=>simp
 |lent=>simp
 |weak=>simp
theorem a1Y {n:Nat}{g1:Nat→Tag}(h:∀b,g1 b≠.weak):∀b,backObj n k g g1 b= .weak→g b= .weak:=by
 intro b e
 have hu:∀{t:Tag},t≠.weak→unTag k t≠.weak:=by intro t ht;cases t<;>simp[unTag]at*
 unfold backObj at e
 split at e
 ·cases eg:g b with
  |own x y z=>
   rw[eg]at e
   by_cases hx:x=k
   ·simp only[hx,if_true]at e;exact absurd e (hu (h b))
   ·simp only[hx,if_false]at e;cases e
  |none=>rw[eg]at e;cases e
  |imm=>rw[eg]at e;cases e
  |lent=>rw[eg]at e;cases e
  |weak=>rfl
 ·exact absurd e (hu (h b))
theorem PartRel.told {E:Env}{g:Nat→Tag}{w:World}{a:Act}{σ:St}{k:Nat}(h:Rel E g w a σ):∀{xs:List Operand} {ps:List Part},opParts σ xs=some ps→
 xs.length=ps.length∧∀(i:Nat) p v,ps[i]? =some p→(xs.map a.eval)[i]? =some v→PartRel (objTags k g) w 0 i v p
 |[],ps,e=>by cases e;exact⟨rfl,fun i p v h=>by simp at h⟩
 |x::xs,ps,e=>by
  simp only[opParts]at e
  split at e
  ·rename_i p ps' e1 e2
   split at e
   ·rename_i hb
    cases e
    obtain⟨hl,hg⟩:=PartRel.told (k:=k) h e2
    refine⟨by simp[hl],fun i q v h1 h2=> ?_⟩
    have hbare:q.bare=true∧PartRel (objTags k g) w 0 (i-1) v q∨i=0∧q=p∧v=a.eval x:=by
     cases i with
     |zero=>simp at h1 h2;exact .inr ⟨rfl,h1.symm,h2.symm⟩
     |succ i=>
      have hq:=hg i q v (by simpa using h1) (by simpa using h2)
      left
      refine⟨?_,by simpa using hq⟩
      have hall:∀{xs:List Operand} {ps:List Part},opParts σ xs=some ps→∀q∈ps,q.bare=true:=by
       intro xs
       induction xs with
       |nil=>intro ps e;cases e;intro q hq;cases hq
       |cons y ys ih=>
        intro ps e
        simp only[opParts]at e
        split at e
        ·rename_i p0 ps0 e3 e4
         split at e
         ·rename_i hb0
          cases e
          intro q hq
          rcases List.mem_cons.1 hq with rfl|hq
          ·exact(Bool.and_eq_true_iff.1 hb0).1
          ·exact ih e4 q hq
         ·cases e
        ·cases e
      exact hall e2 q (List.mem_of_getElem? (by simpa using h1))
    rcases hbare with⟨hq,hq2⟩|⟨rfl,rfl,rfl⟩
    ·exact PartRel.bare hq2 hq fun sh b hh=>hh
    ·have:=o9 h x
     rw[e1]at this
     rw[Bool.and_eq_true]at hb
     exact PartRel.firm this hb.1 hb.2 fun sh b hh=>I8.2 hh
   ·cases e
  ·cases e
end Go.Proofs.Ytjfjdgjhihgdkaa.V
namespace Go.Proofs.Ytjfjdgjhihgdkaa.V
open Go Go.RowKit
variable {g:Nat→Tag} {w:World}
theorem BlkRel.to {g':Nat→Tag}{w':World}{k j:Nat}{B:Blk}(h:BlkRel g w k j B)(hS:∀sh b,Imm g sh b→Imm g' sh b∧w'.heap[b]? =w.heap[b]?)
 (hO:∀b,g b= .own k 2 j→g' b= .own k 2 j∧w'.heap[b]? =w.heap[b]?):BlkRel g' w' k j B:=by
 cases B with
 |no=>trivial
 |mkh _ _ _ _ _ _ _ _ _=>exact h.elim
 |mk b c e sz rows=>
  obtain⟨h1,h2,h3,cur,h4,h5,h6⟩:=h
  exact⟨(hO b h1).1,h2,h3,cur,(hO b h1).2.trans h4,h5,h6.to hS⟩
variable {E:Env} {σ:St}
theorem Rel.retag1 {a:Act}{σ':St}(h:Rel E g w a σ)(q k1 i1 j1 k2 i2 j2:Nat)(hq:g q= .own k1 i1 j1)
 (hσ:∀k,k≠k1→k≠k2→σ' k=σ k)
 (hslot:∀g',(∀sh b,Imm g sh b→Imm g' sh b)→(∀b,g b= .weak→g' b= .weak∧w.heap[b]? =w.heap[b]?)→(∀b i j,g b= .own k1 i j→(i,j)≠(i1,j1)→(k1,i,j)≠(k2,i2,j2)→g' b= .own k1 i j)→(∀b i j,g b= .own k2 i j→(i,j)≠(i2,j2)→(k2,i,j)≠(k1,i1,j1)→g' b= .own k2 i j)→g' q= .own k2 i2 j2→
  (∀t,tk t=k1∨tk t=k2→SlotRel g' w (tk t) (a.tmps.getD t undef) (σ' (tk t)))∧∀t,ck t=k1∨ck t=k2→CellRel g' w (ck t) (σ' (ck t))):∃g',Rel E g' w a σ':=by
 have himm:∀sh b,Imm g sh b→(if b=q then Tag.own k2 i2 j2 else if g b= .own k2 i2 j2 then .none else g b)=g b:=by
  intro sh b hb
  have h1:b≠q:=fun e=>by subst e;rcases hb with hb|⟨_,hb⟩<;>rw[hq]at hb<;>cases hb
  have h2:g b≠.own k2 i2 j2:=fun e=>by rcases hb with hb|⟨_,hb⟩<;>rw[e]at hb<;>cases hb
  rw[if_neg h1,if_neg h2]
 have hs:=hslot (fun b=>if b=q then .own k2 i2 j2 else if g b= .own k2 i2 j2 then .none else g b)
  (fun sh b hb=>by have e:=himm sh b hb;unfold Imm at hb⊢;simp only[e];exact hb)
  (fun b hb=>by
   have h1:b≠q:=fun e=>by subst e;rw[hq]at hb;cases hb
   have h2:g b≠.own k2 i2 j2:=fun e=>by rw[e]at hb;cases hb
   refine⟨?_,rfl⟩
   show(if b=q then Tag.own k2 i2 j2 else if g b= .own k2 i2 j2 then .none else g b)= .weak
   rw[if_neg h1,if_neg h2];exact hb)
  (fun b i j hb hne hne2=>by
   have h1:b≠q:=fun e=>by subst e;rw[hq]at hb;cases hb;exact hne rfl
   have h2:g b≠.own k2 i2 j2:=fun e=>by rw[e]at hb;cases hb;exact hne2 rfl
   rw[if_neg h1,if_neg h2];exact hb)
  (fun b i j hb hne hne2=>by
   have h1:b≠q:=fun e=>by subst e;rw[hq]at hb;cases hb;exact hne2 rfl
   have h2:g b≠.own k2 i2 j2:=fun e=>by rw[e]at hb;cases hb;exact hne rfl
   rw[if_neg h1,if_neg h2];exact hb)
  (by simp)
 refine⟨_,h.turn (fun k=>k=k1∨k=k2) h.defers rfl rfl rfl (Nat.le_refl _) (fun _ _ _=>rfl) ?_ ?_ rfl (fun _ _=>rfl) hs.1 hs.2 ?_ ?_ ?_ ?_ ?_ (fun b e=>by
  split at e
  ·cases e
  ·split at e
   ·cases e
   ·exact e)⟩
 ·intro b hn hne
  have h1:b≠q:=fun e=>by subst e;exact hn _ _ _ hq (.inl rfl)
  have h2:g b≠.own k2 i2 j2:=fun e=>hn _ _ _ e (.inr rfl)
  rw[if_neg h1,if_neg h2]
 ·intro k hk;exact hσ k (fun e=>hk (.inl e)) (fun e=>hk (.inr e))
 ·intro b hb
  have hlt:q<w.heap.size:=Nat.lt_of_not_le fun hle=>by rw[h.fresh q hle]at hq;cases hq
  have h1:b≠q:=by omega
  have h2:g b≠.own k2 i2 j2:=fun e=>by rw[h.fresh b hb]at e;cases e
  rw[if_neg h1,if_neg h2];exact h.fresh b hb
 ·intro b k i j e
  split at e
  ·rename_i e1;subst e1;exact h.mine b _ _ _ hq
  ·split at e
   ·cases e
   ·exact h.mine b k i j e
 ·intro b b' k i j e e'
  split at e
  ·rename_i e1
   split at e'
   ·rename_i e2;rw[e1,e2]
   ·split at e'
    ·cases e'
    ·rename_i e3;cases e;exact absurd e' e3
  ·split at e
   ·cases e
   ·rename_i e3
    split at e'
    ·cases e';exact absurd e e3
    ·split at e'
     ·cases e'
     ·exact h.uniq b b' k i j e e'
 ·intro b hb hm
  have h1:b≠q:=fun e=>by subst e;rcases h.mine b _ _ _ hq with h1|h1;omega;exact hm h1
  have h2:g b≠.own k2 i2 j2:=fun e=>by rcases h.mine b _ _ _ e with h1|h1;omega;exact hm h1
  rw[if_neg h1,if_neg h2]
 ·intro b hb e
  split at e
  ·cases e
  ·split at e
   ·cases e
   ·exact h.soft b hb e
theorem j8 (t t':Nat):ck t≠tk t':=fun e=>v7 t' t e.symm
theorem V1 (t c b j q qc n e sz:Nat)(ls:List Leaf)(bs:List Blk)(rows:List (List SV))(hc:σ (ck c)= .own b ls bs)(hj:bs[j]? =some (.mk q qc e sz rows))(ht:σ (tk t)= .lf (.hd q n qc))(hn:n=rows.length):
 Turn E σ (·=upd (upd σ (ck c) (.own b ls (bs.set j .no))) (tk t) (.lf (.u q qc e sz rows))):=by
 intro g w a h
 have hcell:=h.cell c
 rw[hc]at hcell
 obtain⟨⟨cur,e0,hg,hh,hl⟩,hbs⟩:=hcell
 obtain⟨k1,k2,k3,cur2,k4,k5,k6⟩:=hbs j _ hj
 have hv:=h.slot t
 rw[ht]at hv
 have hv:a.tmps.getD t undef= .slice (some ⟨q,0,none⟩) n qc:=hv
 obtain⟨g',hr⟩:=h.retag1 (σ':=upd (upd σ (ck c) (.own b ls (bs.set j .no))) (tk t) (.lf (.u q qc e sz rows))) q (ck c) 2 j (tk t) 0 0 k1 (fun k h1 h2=>by rw[d4 _ _ h2,d4 _ _ h1]) (fun g' g1 gw g2 g3 g4=>by
  have hS:∀sh x,Imm g sh x→Imm g' sh x∧w.heap[x]? =w.heap[x]? :=fun sh x hx=>⟨g1 sh x hx,rfl⟩
  refine⟨fun t' ht'=> ?_,fun t' ht'=> ?_⟩
  ·have et:t'=t:=by
    rcases ht' with e1|e1
    ·exact absurd e1 (v7 _ _)
    ·exact Z0 e1
   subst et
   rw[a8]
   exact⟨by rw[hv,hn],g4,k2,k3,cur2,k4,k5,k6.to hS⟩
  ·have et:t'=c:=by
    rcases ht' with e1|e1
    ·exact E9 e1
    ·exact absurd e1 (j8 _ _)
   subst et
   rw[d4 _ _ (j8 _ _),a8]
   refine⟨⟨cur,e0,g2 b 1 0 hg (by intro e1;cases e1) (fun e1=>j8 _ _ (congrArg Prod.fst e1)),hh,hl.to hS fun x i hx=>⟨g2 x 0 i hx (by intro e1;cases e1) (fun e1=>j8 _ _ (congrArg Prod.fst e1)),rfl⟩⟩,fun i B hB=> ?_⟩
   by_cases ei:i=j
   ·subst ei
    rw[List.getElem?_set_self (List.getElem?_eq_some_iff.1 hj).1]at hB
    cases hB;trivial
   ·rw[List.getElem?_set_ne (fun e1=>ei e1.symm)]at hB
    exact(hbs i B hB).to hS fun x hx=>⟨g2 x 2 i hx (by intro e1;cases e1;exact ei rfl) (fun e1=>j8 _ _ (congrArg Prod.fst e1)),rfl⟩)
 exact⟨g',_,rfl,hr⟩
theorem a1f (t c b j q qc e sz:Nat)(ls:List Leaf)(bs:List Blk)(rows:List (List SV))(hc:σ (ck c)= .own b ls bs)(hj:bs[j]? =some .no)(ht:σ (tk t)= .lf (.u q qc e sz rows)):
 Turn E σ (·=upd (upd σ (ck c) (.own b ls (bs.set j (.mk q qc e sz rows)))) (tk t) (.lf (.hd q rows.length qc))):=by
 intro g w a h
 have hcell:=h.cell c
 rw[hc]at hcell
 obtain⟨⟨cur,e0,hg,hh,hl⟩,hbs⟩:=hcell
 have hs:=h.slot t
 rw[ht]at hs
 obtain⟨hv,k1,k2,k3,cur2,k4,k5,k6⟩:=hs
 obtain⟨g',hr⟩:=h.retag1 (σ':=upd (upd σ (ck c) (.own b ls (bs.set j (.mk q qc e sz rows)))) (tk t) (.lf (.hd q rows.length qc))) q (tk t) 0 0 (ck c) 2 j k1 (fun k h1 h2=>by rw[d4 _ _ h1,d4 _ _ h2]) (fun g' g1 gw g2 g3 g4=>by
  have hS:∀sh x,Imm g sh x→Imm g' sh x∧w.heap[x]? =w.heap[x]? :=fun sh x hx=>⟨g1 sh x hx,rfl⟩
  refine⟨fun t' ht'=> ?_,fun t' ht'=> ?_⟩
  ·have et:t'=t:=by
    rcases ht' with e1|e1
    ·exact Z0 e1
    ·exact absurd e1 (v7 _ _)
   subst et
   rw[a8]
   exact hv
  ·have et:t'=c:=by
    rcases ht' with e1|e1
    ·exact absurd e1 (j8 _ _)
    ·exact E9 e1
   subst et
   rw[d4 _ _ (j8 _ _),a8]
   have hO:∀x i' j',g x= .own (ck t') i' j'→(i',j')≠(2,j)→g' x= .own (ck t') i' j':=fun x i' j' hx hne=>g3 x i' j' hx hne (fun e1=>j8 _ _ (congrArg Prod.fst e1))
   refine⟨⟨cur,e0,hO b 1 0 hg (by intro e1;cases e1),hh,hl.to hS fun x i hx=>⟨hO x 0 i hx (by intro e1;cases e1),rfl⟩⟩,fun i B hB=> ?_⟩
   by_cases ei:i=j
   ·subst ei
    rw[List.getElem?_set_self (List.getElem?_eq_some_iff.1 hj).1]at hB
    cases hB
    exact⟨g4,k2,k3,cur2,k4,k5,k6.to hS⟩
   ·rw[List.getElem?_set_ne (fun e1=>ei e1.symm)]at hB
    exact(hbs i B hB).to hS fun x hx=>⟨hO x 2 i hx (by intro e1;cases e1;exact ei rfl),rfl⟩)
 exact⟨g',_,rfl,hr⟩
theorem a54 (c b m:Nat)(ls:List Leaf)(hc:σ (ck c)= .cell b ls):Turn E σ (·=upd σ (ck c) (.own b ls (List.replicate m .no))):=by
 intro g w a h
 have hcell:=h.cell c
 rw[hc]at hcell
 refine⟨g,_,rfl,h.putCell c _ ⟨hcell,fun j B hB=> ?_⟩⟩
 rw[List.getElem?_replicate]at hB
 split at hB
 ·cases hB;trivial
 ·cases hB
theorem a5g (c b:Nat)(ls:List Leaf)(bs:List Blk)(hc:σ (ck c)= .own b ls bs):Turn E σ (·=upd σ (ck c) (.cell b ls)):=by
 intro g w a h
 have hcell:=h.cell c
 rw[hc]at hcell
 exact⟨g,_,rfl,h.putCell c _ hcell.1⟩
theorem RowsIn.take {cur:Array Value}{sz:Nat}{rows:List (List SV)}(h:RowsIn g w cur sz rows)(n:Nat):RowsIn g w cur sz (rows.take n):=
 ⟨fun r hr=>h.1 r (List.mem_of_mem_take hr),fun i r j x h1 h2=>h.2 i r j x (by rw[List.getElem?_take]at h1;split at h1;exact h1;cases h1) h2⟩
theorem a6j (c b i j q qc n e sz:Nat)(ls:List Leaf)(bs:List Blk)(rows:List (List SV))(hc:σ (ck c)= .own b ls bs)(hi:ls[i]? =some (.hd q n qc))(hj:bs[j]? =some (.mk q qc e sz rows))(hn:n=rows.length):
 Turn E σ (·=upd σ (ck c) (.own b (ls.set i (.im true (.sl sz rows))) (bs.set j .no))):=by
 intro g w a h
 have hcell:=h.cell c
 rw[hc]at hcell
 obtain⟨⟨cur,e0,hg,hh,hl⟩,hbs⟩:=hcell
 obtain⟨k1,k2,k3,cur2,k4,k5,k6⟩:=hbs j _ hj
 have hlt:q<w.heap.size:=(Array.getElem?_eq_some_iff.1 k4).1
 have hqb:∀x k' i' j',g x= .own k' i' j'→(k',i',j')≠(ck c,2,j)→x≠q:=fun x k' i' j' hx hne e1=>by subst e1;rw[k1]at hx;cases hx;exact hne rfl
 have hr:Rel E (fun x=>if x=q then .imm else g x) w a (upd σ (ck c) (.own b (ls.set i (.im true (.sl sz rows))) (bs.set j .no))):=by
  have hS:∀sh x,Imm g sh x→Imm (fun x=>if x=q then Tag.imm else g x) sh x∧w.heap[x]? =w.heap[x]? :=fun sh x hx=>⟨by
   unfold Imm at hx⊢
   by_cases e1:x=q
   ·left;simp[e1]
   ·simp only[if_neg e1];exact hx,rfl⟩
  have hweak:∀x,g x= .weak→(fun x=>if x=q then Tag.imm else g x) x= .weak∧w.heap[x]? =w.heap[x]? :=fun x hx=>⟨by
   have:x≠q:=fun e1=>by subst e1;rw[k1]at hx;cases hx
   show(if x=q then Tag.imm else g x)= .weak
   rw[if_neg this];exact hx,rfl⟩
  refine h.turn (fun k=>k=ck c) h.defers rfl rfl rfl (Nat.le_refl _) (fun _ _ _=>rfl) ?_ (fun k hk=>d4 _ _ hk) rfl (fun _ _=>rfl) (fun t ht=>absurd ht (v7 _ _)) ?_ ?_ ?_ ?_ ?_ ?_ (fun b e=>by
   split at e
   ·cases e
   ·exact e)
  ·intro x hx _
   have:x≠q:=fun e1=>by subst e1;exact hx _ _ _ k1 rfl
   rw[if_neg this]
  ·intro t' ht'
   have et:=E9 ht'
   subst et
   rw[a8]
   have hO:∀x i' j',g x= .own (ck t') i' j'→(i',j')≠(2,j)→(if x=q then Tag.imm else g x)= .own (ck t') i' j':=fun x i' j' hx hne=>by
    rw[if_neg (hqb x _ _ _ hx (fun e1=>hne (by cases e1;rfl)))];exact hx
   refine⟨⟨cur,e0,hO b 1 0 hg (by intro e1;cases e1),hh,by rw[List.length_set];exact hl.1,fun i' l v h1 h2=> ?_⟩,fun i' B hB=> ?_⟩
   ·by_cases ei:i'=i
    ·subst ei
     rw[List.getElem?_set_self (List.getElem?_eq_some_iff.1 hi).1]at h1
     cases h1
     have hv:=hl.2 i' _ v hi h2
     have hv:v= .slice (some ⟨q,0,none⟩) n qc:=hv
     show SRep _ _ _ _
     rw[hv,hn]
     refine k6.data k4 (by rw[←hn]at*;exact k2) _ (fun x hx=> .inl (by by_cases e1:x=q<;>simp[e1,hx])) (.inl (by simp))
    ·rw[List.getElem?_set_ne (fun e1=>ei e1.symm)]at h1
     exact(hl.2 i' l v h1 h2).to hS fun x hx=>⟨hO x 0 i' hx (by intro e1;cases e1),rfl⟩
   ·by_cases ei:i'=j
    ·subst ei
     rw[List.getElem?_set_self (List.getElem?_eq_some_iff.1 hj).1]at hB
     cases hB;trivial
    ·rw[List.getElem?_set_ne (fun e1=>ei e1.symm)]at hB
     exact(hbs i' B hB).to hS fun x hx=>⟨hO x 2 i' hx (by intro e1;cases e1;exact ei rfl),rfl⟩
  ·intro x hx
   rw[if_neg (by omega)];exact h.fresh x hx
  ·intro x k' i' j' hx
   split at hx
   ·cases hx
   ·exact h.mine x k' i' j' hx
  ·intro x x' k' i' j' hx hx'
   split at hx
   ·cases hx
   ·split at hx'
    ·cases hx'
    ·exact h.uniq x x' k' i' j' hx hx'
  ·intro x hx hm
   have:x≠q:=fun e1=>by subst e1;rcases h.mine x _ _ _ k1 with h1|h1;omega;exact hm h1
   rw[if_neg this]
  ·intro x hx e1
   by_cases e2:x=q
   ·subst e2;exact⟨cur2,_,k4⟩
   ·simp only[if_neg e2]at e1;exact h.soft x hx e1
 exact⟨_,_,rfl,hr⟩
end Go.Proofs.Ytjfjdgjhihgdkaa.V
namespace Go.Proofs.Ytjfjdgjhihgdkaa.V
open Go Go.RowKit
variable {P:Program} {E:Env} {o:Oper} {σ:St}
theorem Step.turn' {M N:St→Prop}(h:Step P E o σ M)(ht:∀τ,M τ→Turn E τ N):Step P E o σ N:=
 fun g w a next Q hr hn=>h g w a next Q hr fun g' w' a' σ' hp hr'=>let⟨g2,τ2,h2,hr2⟩:=ht σ' hp g' w' a' hr';hn g2 w' a' τ2 h2 hr2
theorem N3 (d:Nat)(t:TypeId)(m:Nat)(agg:Bool)(x:Operand)(b sz i j off:Nat)(rows:List (List SV))(r:List SV)
 (ho:o.op= .load t x) (hd:o.dst=some d) (hn:d<E.n) (ht:Ty P t m agg) (h1:agg=false→m=1) (hx:opd σ x= .lf (.ptr b off))
 (hk:∀g w a,Rel E g w a σ→∃cur e,w.heap[b]? =some (.cells cur e (0,0))∧RowsIn g w cur sz rows)
 (hr:rows[i]? =some r) (hoff:off=i*sz+j) (hj:j+m≤sz):Step P E o σ (·=upd σ (tk d) (.one (partOf agg (imLeaves true ((r.drop j).take m))))):=by
 subst hoff
 refine Step.of_run fun g w a h=> ?_
 obtain⟨cur,e,hh,hrows⟩:=hk g w a h
 have hxp:=G0 h hx
 have hrl:r.length=sz:=hrows.1 r (List.mem_of_getElem? hr)
 obtain⟨vs,hvl,hvc,hvs⟩:=SRep.choose (S:=Imm g true) (w:=w) (b:=b) (off:=i*sz+j) ((r.drop j).take m) 0 (fun q x hq=>by
  rw[Nat.zero_add]
  rw[List.getElem?_take]at hq
  split at hq
  ·rw[List.getElem?_drop]at hq
   obtain⟨y,hy,hry⟩:=hrows.2 i r (j+q) x hr hq
   refine⟨y,?_,hry⟩
   rw[show i*sz+j+q=i*sz+(j+q)from by omega]
   simp[World.cell?,hh,hy]
  ·cases hq)
 have hvl':vs.length=m:=by rw[hvl,List.length_take,List.length_drop];omega
 have hrun:=C1 (P:=P) (w:=w) ht b (i*sz+j) vs hvl' h1 (fun q y hq=>by have:=hvc q y hq;rwa[Nat.zero_add]at this)
 refine⟨if agg then .agg vs.toArray else vs.headD undef,w,drop (tk d) g,_,.inl ?_,rfl,?_⟩
 ·simp only[execOp,ho,hxp,Instr.loadAt,Instr.sureAddr,Sem.run_bind,Sem.run_pure,Result.andThen_ok,hrun]
 ·rw[hd]
  refine h.set d _ _ hn fun g' hg' hw'=> ?_
  have hmono:∀{y x},SRep (Imm g true) w y x→SRep (Imm g' true) w y x:=fun hh=>hh.mono (fun _ _=>rfl) (fun b hb=>hg' _ _ hb)
  cases agg with
  |true=>
   refine⟨vs.toArray,rfl,by simp[imLeaves,hvl],fun q l v hl hv=> ?_⟩
   simp only[imLeaves,List.getElem?_map,Option.map_eq_some_iff]at hl
   obtain⟨x,hx,rfl⟩:=hl
   exact hmono (hvs q v x (by simpa using hv) hx)
  |false=>
   have hsz:=h1 rfl
   subst hsz
   cases hr2:(r.drop j).take 1 with
   |nil=>rw[hr2]at hvl;simp at hvl;rw[hvl]at hvl';simp at hvl'
   |cons x rest=>
    cases vs with
    |nil=>cases hvl'
    |cons y ys=>
     simp only[partOf,imLeaves,hr2,Bool.false_eq_true,if_false,List.map_cons,List.headD_cons]
     exact hmono (hvs 0 y x rfl (by rw[hr2];rfl))
theorem a3s {c b0 jb b cc e sz:Nat}{ls:List Leaf}{bs:List Blk}{rows:List (List SV)}(hc:σ (ck c)= .own b0 ls bs)(hj:bs[jb]? =some (.mk b cc e sz rows)):
 ∀g w a,Rel E g w a σ→∃cur e,w.heap[b]? =some (.cells cur e (0,0))∧RowsIn g w cur sz rows:=by
 intro g w a h
 have hcell:=h.cell c
 rw[hc]at hcell
 obtain⟨_,_,_,cur,k4,_,k6⟩:=hcell.2 jb _ hj
 exact⟨cur,_,k4,k6⟩
theorem N0 (kc jb b0:Nat)(ls:List Leaf)(bs:List Blk)(t e sz m:Nat)(x y:Operand)(b c i j off:Nat)(rows:List (List SV))(r new:List SV)(p:Part)
 (ho:o.op= .store t x y) (hd:o.dst=none) (ht:(P.info? t).map (·.size)=some m) (hx:opd σ x= .lf (.ptr b off)) (hk:σ (ck kc)= .own b0 ls bs) (hjb:bs[jb]? =some (.mk b c e sz rows)) (hy:opd σ y= .one p)
 (hp:LeavesIs p.leaves new) (hm:new.length=m) (htold:p.told=true) (hr:rows[i]? =some r) (hoff:off=i*sz+j) (hj:j+m≤sz):
 Step P E o σ (·=upd σ (ck kc) (.own b0 ls (bs.set jb (.mk b c e sz (rows.set i (cutIn r j new)))))):=by
 subst hoff
 refine Step.of_run fun g w a h=> ?_
 have hcell:=h.cell kc
 rw[hk]at hcell
 obtain⟨⟨cur0,eT,hg0,hh0,hl0⟩,hbs⟩:=hcell
 obtain⟨hg,hc,hmx,cur,hh,hcs,hrows⟩:=hbs jb _ hjb
 have hyr:=o9 h y
 rw[hy]at hyr
 have hpr:PartRel g w (opk y) 0 (a.eval y) p:=hyr
 obtain⟨hll,hget⟩:=hp.get
 have hbare:p.leaves.all Leaf.bare=true:=by
  rw[List.all_eq_true]
  intro l hl
  obtain⟨q,hq⟩:=List.mem_iff_getElem?.1 hl
  have hqlt:=(List.getElem?_eq_some_iff.1 hq).1
  obtain⟨l',h1,h2⟩:=hget (List.getElem?_eq_getElem (l:=new) (i:=q) (by omega))
  rw[hq]at h1
  cases h1
  cases l<;>first|rfl|exact h2.elim
 have hcells:=hpr.cells hbare (fun l e=>by subst e;exact LeafRel.oneCell (l:=l) hpr htold)
 have hone:∀u∈(a.eval y).cells.toList,u.oneCell'=true:=by
  intro u hu
  obtain⟨q,hq⟩:=List.mem_iff_getElem?.1 hu
  have hq':(a.eval y).cells[q]? =some u:=by simpa using hq
  have hlt:q<p.leaves.length:=by rw[←hcells.1];exact(Array.getElem?_eq_some_iff.1 hq').1
  obtain⟨l,h1,h2⟩:=hget (List.getElem?_eq_getElem (l:=new) (i:=q) (by omega))
  exact(LeafIs.rel (hcells.2 q l u h1 hq') h2).oneCell
 have hsz:(a.eval y).cells.size=m:=by rw[hcells.1,hll,hm]
 have hil:=(List.getElem?_eq_some_iff.1 hr).1
 have hfit:i*sz+sz≤cur.size:=by
  rw[hcs]
  have:=Nat.mul_le_mul_right sz (show i+1≤c by omega)
  rw[Nat.succ_mul]at this;exact this
 have hrun:=K3 (P:=P) (w:=w) ht b (i*sz+j) e cur (a.eval y) hh hsz (by omega) hone
 have hnew:=hrows.store hr (new:=new) (j:=j) (by omega) (a.eval y).cells.toList (by rw[Array.length_toList,hsz,hm]) (fun q v z h1 h2=>by
  obtain⟨l,h3,h4⟩:=hget h2
  exact LeafIs.rel (hcells.2 q l v h3 (by simpa using h1)) h4) hfit
 rw[hm]at hnew
 have hlt:b<w.heap.size:=(Array.getElem?_eq_some_iff.1 hh).1
 have himm:∀sh q,Imm g sh q→Imm g sh q∧(w.setRow b (cur.toList.take (i*sz+j)++(a.eval y).cells.toList++cur.toList.drop (i*sz+j+m)).toArray).heap[q]? =w.heap[q]? :=fun sh q hq=>
  ⟨hq,setRow_other _ _ _ _ fun e0=>by subst e0;rcases hq with e1|⟨_,e1⟩<;>rw[hg]at e1<;>cases e1⟩
 have hown:∀k i' j' q,g q= .own k i' j'→(k,i',j')≠(ck kc,2,jb)→g q= .own k i' j'∧(w.setRow b (cur.toList.take (i*sz+j)++(a.eval y).cells.toList++cur.toList.drop (i*sz+j+m)).toArray).heap[q]? =w.heap[q]? :=fun k i' j' q hq hne=>
  ⟨hq,setRow_other _ _ _ _ fun e0=>by subst e0;rw[hg]at hq;cases hq;exact hne rfl⟩
 have hweak:∀q,g q= .weak→g q= .weak∧(w.setRow b (cur.toList.take (i*sz+j)++(a.eval y).cells.toList++cur.toList.drop (i*sz+j+m)).toArray).heap[q]? =w.heap[q]? :=fun q hq=>
  ⟨hq,setRow_other _ _ _ _ fun e0=>by subst e0;rw[hg]at hq;cases hq⟩
 refine⟨undef,w.setRow b (cur.toList.take (i*sz+j)++(a.eval y).cells.toList++cur.toList.drop (i*sz+j+m)).toArray,g,_,.inr ⟨?_,rfl⟩,rfl,?_⟩
 ·simp only[execOp,ho,G0 h hx,Instr.storeAt,Instr.sureAddr,Sem.run_bind,Sem.run_pure,Result.andThen_ok,hrun]
 ·rw[hd]
  exact
   {defers:=h.defers
    os:=h.os
    tape:=h.tape
    output:=h.output
    size:=by simpa[World.setRow]using h.size
    old:=fun q hq hm'=>by
     rw[setRow_other _ _ _ _ ?_]
     ·exact h.old q hq hm'
     ·intro e0;subst e0
      rcases h.mine q _ _ _ hg with e1|e1
      ·omega
      ·exact hm' e1
    many:=h.many
    slot:=fun t'=>by
     simp only[upd];rw[if_neg (v7 _ _)]
     refine(h.slot t').to himm fun q i' j' hq=>hown _ i' j' q hq ?_
     intro e1
     exact v7 _ _ (congrArg Prod.fst e1)
    cell:=fun t'=>by
     by_cases e0:ck t'=ck kc
     ·simp only[upd];rw[if_pos e0]
      have e1:=E9 e0
      subst e1
      refine⟨⟨cur0,eT,hg0,?_,hl0.to himm fun q j' hq=>hown _ 0 j' q hq (fun e2=>absurd (congrArg (fun t=>t.2.1) e2) (by simp))⟩,fun i' B hB=> ?_⟩
      ·rw[(hown _ 1 0 b0 hg0 (fun e2=>absurd (congrArg (fun t=>t.2.1) e2) (by simp))).2];exact hh0
      ·by_cases ei:i'=jb
       ·subst ei
        rw[List.getElem?_set_self (List.getElem?_eq_some_iff.1 hjb).1]at hB
        cases hB
        refine⟨hg,by rw[List.length_set];exact hc,hmx,_,setRow_heap w b cur _ _ _ hh,?_,hnew.to himm⟩
        simp;omega
       ·rw[List.getElem?_set_ne (fun e2=>ei e2.symm)]at hB
        exact(hbs i' B hB).to himm fun q hq=>hown _ 2 i' q hq (fun e2=>ei (congrArg (fun t=>t.2.2) e2))
     ·simp only[upd];rw[if_neg e0]
      refine(h.cell t').to himm fun q i' j' hq=>hown _ i' j' q hq ?_
      intro e1
      exact e0 (congrArg Prod.fst e1)
    fresh:=fun q hq=>h.fresh q (by simpa[World.setRow]using hq)
    mine:=h.mine
    uniq:=h.uniq
    elder:=h.elder
    soft:=fun q hq e=>(h.soft q hq e).to (setRow_other _ _ _ _ fun e0=>by subst e0;rw[hg]at e;cases e)
    wild:=h.wild}
theorem a4l (d kt:Nat)(t e sz b c:Nat)(hi:Operand)(rows:List (List SV))(hh:Nat)(k:IntKind){sh:Bool}
 (ho:o.op= .slice t (.tmp kt) none (some hi) none) (hd:o.dst=some d) (hn:d<E.n) (he:P.elem t=e∧P.underlying t=some (.slice e)) (hz:(P.info? e).map (·.size)=some sz)
 (hx:σ (tk kt)= .lf (.u b c e sz rows)) (h2:opd σ hi= .lf (.im sh (.int k (hh:Int)))) (hle:hh≤rows.length):
 Step P E o σ (·=upd (upd σ (tk kt) Slot.hole) (tk d) (.lf (.u b c e sz (rows.take hh)))):=by
 refine Step.of_run fun g w a h=> ?_
 have hs:=h.slot kt
 rw[hx]at hs
 obtain⟨hv,hg,hc,hmx,cur,hb,hcs,hrows⟩:=hs
 have hund:P.underlying t=some (.slice (P.elem t)):=by rw[he.1];exact he.2
 have hlr:LeafRel g w (tk kt) 0 0 (.slice (some ⟨b,0,none⟩) (rows.take hh).length c) (.u b c e sz (rows.take hh)):=
  ⟨rfl,hg,by rw[List.length_take];omega,hmx,cur,hb,hcs,hrows.take hh⟩
 obtain⟨g',hr⟩:=h.moveU d (tk kt) 0 0 b c e sz (rows.take hh) (.slice (some ⟨b,0,none⟩) (rows.take hh).length c) hn (.inr trivial) hlr
 refine⟨.slice (some ⟨b,0,none⟩) (rows.take hh).length c,w,g',_,.inl ?_,rfl,by rw[hd];exact hr⟩
 have ev:a.eval (.tmp kt)= .slice (some ⟨b,0,none⟩) rows.length c:=hv
 have hz':(sizeOf (P.elem t)).run P w= .ok sz w:=by rw[he.1];exact r6 hz
 simp only[execOp,ho,ev,Sem.run_bind]
 rw[run_sliceAt_slice w t _ _ _ _ hund]
 simp only[Option.map_none,Option.map_some]
 rw[y6 h h2,run_slice_h w t (some ⟨b,0,none⟩) rows.length c hund k hh (by omega) (by omega),hz']
 have e3:(rows.take hh).length=hh:=by rw[List.length_take];omega
 rw[e3]
 simp[sliced,Addr.add_flat]
end Go.Proofs.Ytjfjdgjhihgdkaa.V
namespace Go.Proofs.Ytjfjdgjhihgdkaa.V
open Go Go.RowKit
variable {P:Program} {E:Env} {o:Oper} {σ:St}
theorem Step.pre {σ':St}{post:St→Prop}(ht:Turn E σ (·=σ'))(h:Step P E o σ' post):Step P E o σ post:=
 fun g w a next Q hr hn=>let⟨g',τ,e,hr'⟩:=ht g w a hr;h g' w a next Q (e▸hr') hn
variable {k:Nat}
theorem z4 {x:Operand}{s:Slot}(h:∀t,x= .tmp t→tk t≠k):opd (upd σ k s) x=opd σ x:=by
 cases x with
 |tmp t=>exact d4 _ _ (h t rfl)
 |const v=>cases v<;>rfl
 |global g=>rfl
 |func f=>rfl
theorem V6 {α:Type}{l:List α}{i:Nat}{x:α}(h:l[i]? =some x):(l.drop i).take 1=[x]:=by
 obtain⟨h1,h2⟩:=List.getElem?_eq_some_iff.1 h
 rw[List.drop_eq_getElem_cons h1,h2];rfl
theorem K7 (c b i:Nat)(ls:List Leaf)(bs:List Blk)(hc:σ (ck c)= .own b ls bs):Turn E σ (·=upd σ (ck c) (.own b (ls.set i .hole) bs)):=by
 intro g w a h
 have hcell:=h.cell c
 rw[hc]at hcell
 obtain⟨⟨cur,e,hg,hh,hl⟩,hb⟩:=hcell
 refine⟨g,_,rfl,h.putCell c _ ⟨⟨cur,e,hg,hh,by rw[List.length_set];exact hl.1,fun j l v h1 h2=> ?_⟩,hb⟩⟩
 by_cases ej:i=j
 ·subst ej
  have hlt:i<ls.length:=by have:=(List.getElem?_eq_some_iff.1 h1).1;simpa using this
  rw[List.getElem?_set_self hlt]at h1
  cases h1
  trivial
 ·rw[List.getElem?_set_ne ej]at h1
  exact hl.2 j l v h1 h2
theorem a1i (d c:Nat)(t:TypeId)(x:Operand)(b off jb q qc n e sz:Nat)(ls:List Leaf)(bs:List Blk)(rows:List (List SV))
 (ho:o.op= .load t x) (hd:o.dst=some d) (hn:d<E.n) (ht:Ty P t 1 false) (hx:opd σ x= .lf (.ptr b off)) (hc:σ (ck c)= .own b ls bs) (hl:ls[off]? =some (.hd q n qc)) (hj:bs[jb]? =some (.mk q qc e sz rows)) (hrn:n=rows.length):
 Step P E o σ (·=upd (upd σ (ck c) (.own b (ls.set off .hole) (bs.set jb .no))) (tk d) (.lf (.u q qc e sz rows))):=by
 have h1:=C8 d c t 1 false x b off ls ho hd hn ht (fun _=>rfl) hx (.inr ⟨bs,hc⟩) (by have:=(List.getElem?_eq_some_iff.1 hl).1;omega) (by rw[V6 hl];rfl)
 rw[V6 hl]at h1
 refine h1.turn' fun τ e0=> ?_
 subst e0
 have h2:=V1 (E:=E) (σ:=upd σ (tk d) (.one (partOf false [.hd q n qc]))) d c b jb q qc n e sz ls bs rows (by rw[d4 _ _ (j8 _ _)];exact hc) hj (a8 ..) hrn
 rw[E0 _ _ _ (j8 c d).symm,j7]at h2
 intro g w a hr
 obtain⟨g',τ',e1,hr'⟩:=h2 g w a hr
 subst e1
 obtain⟨g2,τ2,e2,hr2⟩:=K7 c b off ls (bs.set jb .no) (by rw[d4 _ _ (j8 _ _),a8]) g' w a hr'
 subst e2
 refine⟨g2,_,?_,hr2⟩
 rw[E0 _ _ _ (j8 c d).symm,j7]
theorem a1A (c t:Nat)(ty:TypeId)(x:Operand)(b off jb q qc e sz:Nat)(ls:List Leaf)(bs:List Blk)(rows:List (List SV))
 (ho:o.op= .store ty x (.tmp t)) (hd:o.dst=none) (ht:(P.info? ty).map (·.size)=some 1) (hx:opd σ x= .lf (.ptr b off)) (hc:σ (ck c)= .own b ls bs) (hj:bs[jb]? =some .no) (hy:σ (tk t)= .lf (.u q qc e sz rows)) (hl:off+1≤ls.length):
 Step P E o σ (·=upd (upd σ (ck c) (.own b (splice ls off [.hd q rows.length qc]) (bs.set jb (.mk q qc e sz rows)))) (tk t) (.lf (.hd q rows.length qc))):=by
 refine Step.pre (a1f (E:=E) t c b jb q qc e sz ls bs rows hc hj hy) ?_
 have hne:∀t',x= .tmp t'→tk t'≠tk t:=by
  rintro t' rfl e0
  have:opd σ (.tmp t')=σ (tk t'):=rfl
  rw[this,e0,hy]at hx
  cases hx
 have hc1:upd (upd σ (ck c) (.own b ls (bs.set jb (.mk q qc e sz rows)))) (tk t) (.lf (.hd q rows.length qc)) (ck c)= .own b ls (bs.set jb (.mk q qc e sz rows)):=by rw[d4 _ _ (j8 _ _),a8]
 have h1:=z9 (P:=P) (E:=E) (o:=o) (σ:=upd (upd σ (ck c) (.own b ls (bs.set jb (.mk q qc e sz rows)))) (tk t) (.lf (.hd q rows.length qc))) c ty 1 x (.tmp t) b off ls (.lf (.hd q rows.length qc)) ho hd ht
  (by rw[z4 hne,z4 fun t' _=>v7 _ _];exact hx) (.inr ⟨_,hc1⟩) (by show upd _ _ _ _=_;rw[a8]) rfl rfl rfl hl
 rw[hc1]at h1
 refine h1.mono fun τ e0=> ?_
 subst e0
 rw[E0 _ _ _ (j8 c t).symm,j7]
 rfl
theorem a14 (d kt:Nat)(t e sz:Nat)(hi:Operand)(k:IntKind){sh:Bool}
 (ho:o.op= .slice t (.tmp kt) none (some hi) none) (hd:o.dst=some d) (hn:d<E.n) (he:P.elem t=e∧P.underlying t=some (.slice e)) (hz:(P.info? e).map (·.size)=some sz)
 (hx:σ (tk kt)= .lf .nil) (h2:opd σ hi= .lf (.im sh (.int k ((0:Nat):Int)))):Step P E o σ (·=upd σ (tk d) (.lf .nil)):=by
 refine Step.of_run fun g w a h=> ?_
 have hs:=h.slot kt
 rw[hx]at hs
 have ev:a.eval (.tmp kt)= .slice none 0 0:=hs
 have hund:P.underlying t=some (.slice (P.elem t)):=by rw[he.1];exact he.2
 refine⟨.slice none 0 0,w,drop (tk d) g,_,.inl ?_,rfl,by rw[hd];exact h.set d _ _ hn fun g' hg' hw'=>rfl⟩
 have hz':(sizeOf (P.elem t)).run P w= .ok sz w:=by rw[he.1];exact r6 hz
 simp only[execOp,ho,ev,Sem.run_bind]
 rw[run_sliceAt_slice w t _ _ _ _ hund]
 simp only[Option.map_none,Option.map_some]
 rw[y6 h h2,run_slice_h w t none 0 0 hund k ((0:Nat):Int) (by omega) (by omega),hz']
 simp[sliced]
theorem a7w {g:Nat→Tag}{w:World}{j:Nat}(h:BlkRel g w k j (.mk 0 0 0 1 [[]])):False:=by
 obtain⟨_,_,_,cur,_,_,h6⟩:=h
 have:=h6.1 [] (by simp)
 simp at this
end Go.Proofs.Ytjfjdgjhihgdkaa.V
namespace Go.Proofs.Ytjfjdgjhihgdkaa.V
open Go Go.RowKit
def lentTags (g:Nat→Tag):Nat→Tag:=fun b=>match g b with
 | .own .. => .lent
 | .weak=> .lent
 |t=>t
theorem a1y (g:Nat→Tag)(b:Nat):lentTags g b≠.weak:=by unfold lentTags;cases g b<;>simp
variable {g:Nat→Tag} {b:Nat}
theorem a2o :lentTags g b= .imm↔g b= .imm:=by
 unfold lentTags;cases g b<;>simp
theorem F4 {sh:Bool}(h:Imm g sh b):Imm (lentTags g) sh b:=by
 unfold Imm lentTags at*
 rcases h with h|⟨h1,h⟩
 ·left;rw[h]
 ·right;refine⟨h1,?_⟩;rw[h]
variable {k i j:Nat}
theorem U1 (h:g b= .own k i j):Imm (lentTags g) false b:= .inr ⟨rfl,by unfold lentTags;rw[h]⟩
def Leaf.apart :Leaf→Bool
 | .im sh _=>sh
 | .sref sh _=>sh
 | .nst .. =>false
 | .ptr .. =>false
 | .ap .. | .ul .. =>false
 |_=>true
def Part.apart :Part→Bool
 | .lf l=>l.apart
 | .agg ls=>ls.all Leaf.apart
def Slot.apart :Slot→Bool
 | .one p=>p.apart
 | .tup ps=>ps.all Part.apart
 |_=>false
variable {g':Nat→Tag} {w:World} {v:Value}
theorem LeafRel.apart {l:Leaf}(h:LeafRel g w k i j v l)(ha:l.apart=true)(h1:∀b,g b= .imm→g' b= .imm)(h2:∀b,g b= .own k i j→g' b= .own k i j):LeafRel g' w k i j v l:=by
 cases l with
 |im sh x=>cases sh with
  |true=>exact SRep.mono h (fun _ _=>rfl) fun b hb=> .inl (h1 b hb.sh)
  |false=>cases ha
 |u b c e sz rows=>
  obtain⟨hv,hg,hc,hm,cur,hh,hs,hr⟩:=h
  exact⟨hv,h2 b hg,hc,hm,cur,hh,hs,hr.1,fun i r j x k1 k2=>let⟨y,hy,hr'⟩:=hr.2 i r j x k1 k2;⟨y,hy,hr'.mono (fun _ _=>rfl) fun b hb=> .inl (h1 b hb.sh)⟩⟩
 |ap b c e sz rows=>cases ha
 |ul b c e sz rows=>cases ha
 |hd b n c=>exact h
 |ptr b off=>cases ha
 |nst sz rows i2 j2 b n c=>cases ha
 |sref sh row=>cases sh with
  |true=>
   obtain⟨b,off,hv,hb,hr⟩:=h
   exact⟨b,off,hv,fun hne=> .inl (h1 b (hb hne).sh),fun j x hx=>let⟨y,hy,hry⟩:=hr j x hx;⟨y,hy,hry.mono (fun _ _=>rfl) fun b hb=> .inl (h1 b hb.sh)⟩⟩
  |false=>cases ha
 |nil=>exact h
 |hole=>trivial
theorem PartRel.apart {p:Part}(h:PartRel g w k i v p)(ha:p.apart=true)(h1:∀b,g b= .imm→g' b= .imm)(h2:∀b j,g b= .own k i j→g' b= .own k i j):PartRel g' w k i v p:=by
 cases p with
 |lf l=>exact LeafRel.apart h ha h1 fun b=>h2 b 0
 |agg ls=>
  obtain⟨cs,hv,hsz,hl⟩:=h
  exact⟨cs,hv,hsz,fun j l v h3 h4=>(hl j l v h3 h4).apart (List.all_eq_true.1 ha l (List.mem_of_getElem? h3)) h1 fun b=>h2 b j⟩
theorem SlotRel.apart {s:Slot}(h:SlotRel g w k v s)(ha:s.apart=true)(h1:∀b,g b= .imm→g' b= .imm)(h2:∀b i j,g b= .own k i j→g' b= .own k i j):SlotRel g' w k v s:=by
 cases s with
 |one p=>exact PartRel.apart h ha h1 fun b=>h2 b 0
 |tup ps=>
  obtain⟨vs,hv,hsz,hl⟩:=h
  exact⟨vs,hv,hsz,fun i p x h3 h4=>(hl i p x h3 h4).apart (List.all_eq_true.1 ha p (List.mem_of_getElem? h3)) h1 fun b=>h2 b i⟩
 |_=>cases ha
theorem a1J {P:Program}{E:Env}{o:Oper}{σ:St}{R:Slot→Prop}(d:Nat)(f:FuncId)(xs:Array Operand)(ats:Array TypeId)(ps:List Part)
 (ho:o.op= .call {callee:= .value (.func f),args:=xs,argTypes:=ats}) (hd:o.dst=some d) (hn:d<E.n) (hf:Text P f)
 (hxs:∀g w a,Rel E g w a σ→xs.toList.length=ps.length∧∀(i:Nat) p v,ps[i]? =some p→(xs.toList.map a.eval)[i]? =some v→PartRel (lentTags g) w 0 i v p) (hc:CallV P f ps R) (hR:∀s,R s→s.apart=true):
 Step P E o σ fun τ=>∃s,R s∧τ=upd σ (tk d) s:=by
 intro g w a next Q hr hnext
 have hrun:(execOp a.eval o).run P w= .ok (.enter f (xs.map a.eval)) w:=by
  have e:execOp a.eval o=callFunc f (xs.map a.eval):=by
   simp[execOp,ho,resolve,Deferred.ofValue,Act.eval,invoke]
  rw[e,D4 hf]
 unfold Oper.wp
 rw[hrun,Oper.upon_enter]
 obtain⟨hl,hargs⟩:=hxs g w a hr
 refine(hc (lentTags g) w (xs.map a.eval) (E.laid w hr.old) ?_ (a1y g) ?_ ?_ ?_).mono ?_
 ·intro b k i j e;unfold lentTags at e;cases eg:g b<;>rw[eg]at e<;>cases e
 ·intro b hb;unfold lentTags;rw[hr.fresh b hb]
 ·simpa using hl
 ·intro i p v h1 h2
  refine hargs i p v h1 ?_
  have:(xs.map a.eval).toList[i]? =some v:=by simpa using h2
  simpa using this
 ·rintro e w1 ⟨v,g1,s,rfl,hb,hRs,hs,h1,h2,h3,h4,h5⟩
  rw[hd]
  refine hnext _ w1 _ _ ⟨s,hRs,rfl⟩ (hr.called (g1:=fun b=>if b<w.heap.size then lendTags g b else g1 b) d hn hb ?_ ?_ ?_ ?_ ?_ ?_)
  ·refine hs.apart (hR s hRs) (fun b hi=> ?_) (fun b i j ho'=> ?_)
   ·by_cases hlt:b<w.heap.size
    ·simp only[if_pos hlt]
     rw[h1 b hlt]at hi
     have:=a2o.1 hi
     unfold lendTags;rw[this]
    ·simp only[if_neg hlt];exact hi
   ·by_cases hlt:b<w.heap.size
    ·rw[h1 b hlt]at ho'
     unfold lentTags at ho'
     cases eg:g b<;>rw[eg]at ho'<;>cases ho'
    ·simp only[if_neg hlt];exact ho'
  ·intro b hlt;simp only[if_pos hlt]
  ·intro b hle
   have:¬b<w.heap.size:=by have:=hb.size;omega
   simp only[if_neg this];exact h2 b hle
  ·intro b k i j e0
   by_cases hlt:b<w.heap.size
   ·simp only[if_pos hlt]at e0;unfold lendTags at e0;cases eg:g b<;>rw[eg]at e0<;>cases e0
   ·simp only[if_neg hlt]at e0;exact h3 b k i j e0
  ·intro b b' k i j e0 e1
   by_cases hlt:b<w.heap.size
   ·simp only[if_pos hlt]at e0;unfold lendTags at e0;cases eg:g b<;>rw[eg]at e0<;>cases e0
   ·by_cases hlt':b'<w.heap.size
    ·simp only[if_pos hlt']at e1;unfold lendTags at e1;cases eg:g b'<;>rw[eg]at e1<;>cases e1
    ·simp only[if_neg hlt]at e0;simp only[if_neg hlt']at e1;exact h4 b b' k i j e0 e1
  ·intro b hge e0
   have:¬b<w.heap.size:=by omega
   simp only[if_neg this]at e0
   exact h5 b hge e0
variable {E:Env} {a:Act} {σ:St} {c e sz n:Nat} {rows:List (List SV)}
theorem lend_u (h:Rel E g w a σ){t:Nat}(hk:σ (tk t)= .lf (.u b c e sz rows))(hn:n=rows.length):SRep (Imm (lentTags g) false) w (.slice (some ⟨b,0,none⟩) n c) (.sl sz rows):=by
 have hs:=h.slot t
 rw[hk]at hs
 obtain⟨hv,hg,hc,hm,cur,hh,hsz,hr⟩:=hs
 subst hn
 exact hr.data hh hc _ (fun x hx=>F4 (.inl hx)) (U1 hg)
theorem a53 (h:Rel E g w a σ){b0:Nat}{ls:List Leaf}{bs:List Blk}(hk:σ (ck k)= .own b0 ls bs)(hj:bs[j]? =some (.mk b c e sz rows))(hn:n=rows.length):
 SRep (Imm (lentTags g) false) w (.slice (some ⟨b,0,none⟩) n c) (.sl sz rows):=by
 have hs:=h.cell k
 rw[hk]at hs
 obtain⟨hg,hc,hm,cur,hh,hsz,hr⟩:=hs.2 j _ hj
 subst hn
 exact hr.data hh hc _ (fun x hx=>F4 (.inl hx)) (U1 hg)
end Go.Proofs.Ytjfjdgjhihgdkaa.V
namespace Go.Proofs.Ytjfjdgjhihgdkaa.V
open Go Go.RowKit
def Slot.firm :Slot→Bool
 | .one p=>p.firm
 | .tup ps=>ps.all Part.firm
 | .cell _ ls=>ls.all Leaf.firm
 | .own _ ls _=>ls.all Leaf.firm
 | .obj .. =>true
variable {g g':Nat→Tag} {w w':World} {k i k' i':Nat} {v:Value}
theorem LeafRel.toF {j j':Nat}{l:Leaf}(h:LeafRel g w k i j v l)(hf:l.firm=true)
 (hS:∀sh b,Imm g sh b→Imm g' sh b∧w'.heap[b]? =w.heap[b]?)
 (hO:∀b,g b= .own k i j→g' b= .own k' i' j'∧w'.heap[b]? =w.heap[b]?):LeafRel g' w' k' i' j' v l:=by
 cases l with
 |ul b c e sz rows=>
  obtain⟨hv,hg,hc,hm,cur,hh,hs,hr⟩:=h
  exact⟨hv,(hO b hg).1,hc,hm,cur,(hO b hg).2.trans hh,hs,hr.to hS⟩
 |ap b c e sz rows=>cases hf
 |im sh x=>exact SRep.mono h (fun b hb=>(hS _ b hb).2) (fun b hb=>(hS _ b hb).1)
 |u b c e sz rows=>
  obtain⟨hv,hg,hc,hm,cur,hh,hs,hr⟩:=h
  exact⟨hv,(hO b hg).1,hc,hm,cur,(hO b hg).2.trans hh,hs,hr.to hS⟩
 |hd b n c=>exact h
 |ptr b off=>exact h
 |nst sz rows i2 j2 b n c=>
  obtain⟨A,cap,hv,hc,hA,hn⟩:=h
  exact⟨A,cap,hv,hc,(hS _ A hA).1,hn.to (hS _ A hA).2 fun b hb=>hS _ b hb⟩
 |sref sh row=>
  obtain⟨b,off,hv,hb,hr⟩:=h
  refine⟨b,off,hv,fun hne=>(hS _ b (hb hne)).1,fun j x hx=> ?_⟩
  have hne:row≠[]:=by intro e;rw[e]at hx;simp at hx
  obtain⟨y,hy,hry⟩:=hr j x hx
  exact⟨y,by rw[World.cell?_of_block (w:=w) (hS _ b (hb hne)).2];exact hy,hry.mono (fun b hb=>(hS _ b hb).2) (fun b hb=>(hS _ b hb).1)⟩
 |nil=>exact h
 |hole=>trivial
theorem LeavesRel.toF {cs:Array Value}{ls:List Leaf}(h:LeavesRel g w k i cs ls)(hf:ls.all Leaf.firm=true)
 (hS:∀sh b,Imm g sh b→Imm g' sh b∧w'.heap[b]? =w.heap[b]?)
 (hO:∀b j,g b= .own k i j→g' b= .own k' i' j∧w'.heap[b]? =w.heap[b]?):LeavesRel g' w' k' i' cs ls:=
 ⟨h.1,fun j l v hl hv=>(h.2 j l v hl hv).toF (List.all_eq_true.1 hf l (List.mem_of_getElem? hl)) hS fun b hb=>hO b j hb⟩
variable {s:Slot}
theorem SlotRel.firm (h:SlotRel g w k v s)(hb:s.bare=true)(hf:s.firm=true)
 (hS:∀sh b,Imm g sh b→Imm g' sh b):SlotRel g' w k' v s:=by
 cases s with
 |one p=>exact PartRel.firm h hb hf hS
 |tup ps=>
  obtain⟨vs,hv,hsz,hl⟩:=h
  refine⟨vs,hv,hsz,fun i p x h1 h2=>(hl i p x h1 h2).firm ?_ ?_ hS⟩
  ·exact List.all_eq_true.1 hb p (List.mem_of_getElem? h1)
  ·exact List.all_eq_true.1 hf p (List.mem_of_getElem? h1)
 |cell b ls=>cases hb
 |obj b T e s=>cases hb
 |own b ls bs=>cases hb
theorem CellRel.key (h:CellRel g w k s)(hf:s.firm=true)(hS:∀sh b,Imm g sh b→Imm g' sh b∧w'.heap[b]? =w.heap[b]?)
 (hO:∀b i j,g b= .own k i j→g' b= .own k' i j∧w'.heap[b]? =w.heap[b]?):CellRel g' w' k' s:=by
 match s with
 | .one (.lf .hole)=>trivial
 | .cell b ls=>
  obtain⟨cur,e,hg,hh,hl⟩:=h
  exact⟨cur,e,(hO b 1 0 hg).1,(hO b 1 0 hg).2.trans hh,hl.toF hf hS fun b j hb=>hO b 0 j hb⟩
 | .obj b T e s=>exact ObjRel.to h hO
 | .own b ls bs=>
  obtain⟨⟨cur,e,hg,hh,hl⟩,hb⟩:=h
  refine⟨⟨cur,e,(hO b 1 0 hg).1,(hO b 1 0 hg).2.trans hh,hl.toF hf hS fun b j hb=>hO b 0 j hb⟩,fun j B hB=> ?_⟩
  have:=hb j B hB
  cases B with
  |no=>trivial
  |mkh _ _ _ _ _ _ _ _ _=>exact this.elim
  |mk b2 c e2 sz rows=>
   obtain⟨h1,h2,h3,cur2,h4,h5,h6⟩:=this
   exact⟨(hO b2 2 j h1).1,h2,h3,cur2,(hO b2 2 j h1).2.trans h4,h5,h6.to hS⟩
 | .one (.lf (.im ..))| .one (.lf (.u ..))| .one (.lf (.ap ..))| .one (.lf (.ul ..))| .one (.lf (.hd ..))| .one (.lf (.ptr ..))| .one (.lf (.sref ..))| .one (.lf (.nst ..))| .one (.lf .nil)| .one (.agg _)| .tup _=>exact h.elim
def CallO (P:Program)(f:FuncId)(args:List Part)(b:Nat)(so:Slot)(Q0:Slot→Slot→Prop):Prop:=
 ∀(g:Nat→Tag) (w:World) (vs:Array Value),
  (∀w':World,(∀b',b'<w.heap.size→(∀i j,g b'≠.own 1 i j)→w'.heap[b']? =w.heap[b']?)→Lw w')→OneObj g w→vs.size=args.length+1→
  vs[0]? =some (.pointer (some ⟨b,0,none⟩))→(∀(i:Nat) p v,args[i]? =some p→vs[i+1]? =some v→PartRel g w 0 i v p)→CellRel g w 1 so→
  Calls P f vs w fun en w'=>∃v g' so' s,en= .returned v∧w'.os=w.os∧w'.tape=w.tape∧w'.output=w.output∧w.heap.size≤w'.heap.size∧
   (∀b',b'<w.heap.size→(∀i j,g b'≠.own 1 i j)→w'.heap[b']? =w.heap[b']?∧g' b'=g b')∧OneObj g' w'∧Q0 so' s∧CellRel g' w' 1 so'∧SlotRel g' w' 0 v s∧(∀b',g' b'= .imm→g b'≠.imm→Plain w' b')
theorem a32 {P:Program}{E:Env}{o:Oper}{σ:St}(d t:Nat)(f:FuncId)(x:Operand)(xs:List Operand)(axs:Array Operand)(ats:Array TypeId)(ps:List Part)(b:Nat)(so:Slot)(Q0:Slot→Slot→Prop)
 (ho:o.op= .call {callee:= .value (.func f),args:=axs,argTypes:=ats}) (hax:axs.toList=x::xs) (hd:o.dst=some d) (hn:d<E.n) (hf:Text P f) (hx:opd σ x= .lf (.ptr b 0)) (hc:σ (ck t)=so)
 (hxs:opParts σ xs=some ps) (hcall:CallO P f ps b so Q0) (hQ0:∀so' s,Q0 so' s→s.bare=true∧s.firm=true∧so'.firm=true) (hso:so.firm=true):Step P E o σ fun τ=>∃so' s,Q0 so' s∧τ=upd (upd σ (ck t) so') (tk d) s:=by
 intro g w a next Q hr hnext
 have hrun:(execOp a.eval o).run P w= .ok (.enter f (axs.map a.eval)) w:=by
  have e:execOp a.eval o=callFunc f (axs.map a.eval):=by
   simp[execOp,ho,resolve,Deferred.ofValue,Act.eval,invoke]
  rw[e,D4 hf]
 unfold Oper.wp
 rw[hrun,Oper.upon_enter]
 obtain⟨hl,hargs⟩:=PartRel.told (k:=ck t) hr hxs
 have hobj:CellRel g w (ck t) so:=by have:=hr.cell t;rw[hc]at this;exact this
 have hvs:(axs.map a.eval).toList=a.eval x::xs.map a.eval:=by rw[Array.toList_map,hax];rfl
 have hget:∀i:Nat,(axs.map a.eval)[i]? =(a.eval x::xs.map a.eval)[i]? :=fun i=>by rw[←hvs,Array.getElem?_toList]
 have hlt:∀b,g b≠.none→b<w.heap.size:=fun b hn=>Nat.lt_of_not_le fun hle=>hn (hr.fresh b hle)
 refine(hcall (objTags (ck t) g) w (axs.map a.eval) ?_ ⟨fun b k i j h=>(p7 h).1,fun b b' k i j h h'=> ?_,fun b hb=> ?_,T7 _ _⟩ ?_ ?_ ?_ ?_).mono ?_
 ·intro w' hw'
  refine E.laid w' fun b0 hb0 hm0=> ?_
  rw[hw' b0 (Nat.lt_of_lt_of_le hb0 hr.size) fun i j h=> ?_,hr.old b0 hb0 hm0]
  rcases hr.mine _ _ _ _ (p7 h).2 with h|h
  ·omega
  ·exact hm0 h
 ·exact hr.uniq b b' (ck t) i j (p7 h).2 (p7 h').2
 ·unfold objTags;rw[hr.fresh b hb]
 ·rw[←Array.length_toList,hvs];simp[hl]
 ·rw[hget];exact congrArg some (G0 hr hx)
 ·intro i p v h1 h2
  exact hargs i p v h1 (by rw[hget]at h2;simpa using h2)
 ·exact hobj.key hso (fun sh b hb=>⟨I8.2 hb,rfl⟩) fun b i j hb=>⟨R5 hb,rfl⟩
 ·rintro en w1 ⟨v,g1,so',s,rfl,hos,htp,hout,hsz,hfr,hone,hQs,hobj1,hsv,hpl1⟩
  rw[hd]
  have r1:=hr.forget (tk d)
  have hG:∀b i j,drop (tk d) g b= .own (ck t) i j↔g b= .own (ck t) i j:=fun b i j=>by
   rw[C6];exact⟨fun h=>h.1,fun h=>⟨h,fun e=>v7 d t e.symm⟩⟩
  have hsame:∀b',b'<w.heap.size→(∀i j,g b'≠.own (ck t) i j)→w1.heap[b']? =w.heap[b']? :=
   fun b' hb' hno=>(hfr b' hb' fun i j h=>hno i j (p7 h).2).1
  have key:∀b0 k i j,backObj w.heap.size (ck t) (drop (tk d) g) g1 b0= .own k i j→(drop (tk d) g b0= .own k i j∧k≠ck t)∨(k=ck t∧g1 b0= .own 1 i j∧((∃i j,g b0= .own (ck t) i j)∨w.heap.size≤b0)):=by
   intro b0 k i j h
   have hun:∀{tg:Tag},unTag (ck t) tg= .own k i j→tg=g1 b0→k=ck t∧g1 b0= .own 1 i j:=by
    intro tg h1 h2
    cases tg with
    |own x y z=>
     simp only[unTag,Tag.own.injEq]at h1
     obtain⟨e1,e2,e3⟩:=h1
     have:=hone.own b0 x y z h2.symm
     exact⟨e1.symm,by rw[←h2,this,e2,e3]⟩
    |none=>cases h1
    |imm=>cases h1
    |lent=>cases h1
    |weak=>cases h1
   unfold backObj at h
   split at h
   ·rename_i hb0
    cases eg:drop (tk d) g b0 with
    |own x y z=>
     rw[eg]at h
     by_cases hx:x=ck t
     ·simp only[hx,if_true]at h
      obtain⟨k1,k2⟩:=hun h rfl
      exact .inr ⟨k1,k2,.inl ⟨y,z,(hG _ _ _).1 (by rw[eg,hx])⟩⟩
     ·simp only[hx,if_false]at h
      cases h
      exact .inl ⟨rfl,hx⟩
    |none=>rw[eg]at h;cases h
    |imm=>rw[eg]at h;cases h
    |lent=>rw[eg]at h;cases h
    |weak=>rw[eg]at h;cases h
   ·rename_i hb0
    obtain⟨k1,k2⟩:=hun h rfl
    exact .inr ⟨k1,k2,.inr (by omega)⟩
  have himm:∀sh b0,Imm g1 sh b0→Imm (backObj w.heap.size (ck t) (drop (tk d) g) g1) sh b0:=by
   intro sh b0 h0
   unfold Imm backObj at*
   by_cases hb0:b0<w.heap.size
   ·simp only[if_pos hb0]
    by_cases ho':∃i j,g b0= .own (ck t) i j
    ·obtain⟨i,j,ho'⟩:=ho'
     rw[(hG _ _ _).2 ho']
     simp only[if_true]
     rcases h0 with h0|⟨h1,h0⟩
     ·left;rw[h0];rfl
     ·right;refine⟨h1,?_⟩;rw[h0];rfl
    ·have h1:=(hfr b0 hb0 fun i j h=>ho' ⟨i,j,(p7 h).2⟩).2
     have h2:=I8 (k:=ck t) (g:=g) (sh:=sh) (b:=b0)
     have h3:Imm g sh b0:=h2.1 (by unfold Imm;rw[←h1];exact h0)
     have h4:=l8 (k:=tk d).2 h3
     rcases h4 with h4|⟨h5,h4⟩
     ·left;rw[h4]
     ·right;refine⟨h5,?_⟩;rw[h4]
   ·simp only[if_neg hb0]
    rcases h0 with h0|⟨h1,h0⟩
    ·left;rw[h0];rfl
    ·right;refine⟨h1,?_⟩;rw[h0];rfl
  have r2:Rel E (backObj w.heap.size (ck t) (drop (tk d) g) g1) w1 a (upd (upd σ (tk d) Slot.hole) (ck t) so'):=by
   refine r1.turn (fun k=>k=ck t) hr.defers hos htp hout hsz ?_ ?_ ?_ rfl (fun _ _=>rfl) ?_ ?_ ?_ ?_ ?_ ?_ ?_ (a1Y hone.firm)
   ·intro b0 hb0 hno
    exact hsame b0 hb0 fun i j h=>hno _ _ _ ((hG _ _ _).2 h) rfl
   ·intro b0 hno hne
    have hb0:b0<w.heap.size:=Nat.lt_of_not_le fun hle=>hne (r1.fresh b0 hle)
    unfold backObj
    rw[if_pos hb0]
    cases eg:drop (tk d) g b0 with
    |own x y z=>simp only;rw[if_neg (fun e0=>hno x y z eg e0)]
    |_=>rfl
   ·intro k hk;exact d4 _ _ hk
   ·intro t' h;exact absurd h (v7 _ _)
   ·intro t' h
    rw[h,a8]
    refine hobj1.key (hQ0 _ _ hQs).2.2 (fun sh b0 h0=>⟨himm sh b0 h0,rfl⟩) fun b0 i j h0=>⟨?_,rfl⟩
    unfold backObj
    by_cases hb0:b0<w.heap.size
    ·rw[if_pos hb0]
     have:∃i' j',g b0= .own (ck t) i' j':=by
      refine Classical.byContradiction fun hno=> ?_
      have h1:=(hfr b0 hb0 fun i' j' h=>hno ⟨i',j',(p7 h).2⟩).2
      rw[h0]at h1
      exact hno ⟨_,_,(p7 h1.symm).2⟩
     obtain⟨i',j',h1⟩:=this
     rw[(hG _ _ _).2 h1]
     simp only[if_true,h0,unTag]
    ·rw[if_neg hb0,h0];rfl
   ·intro b0 hb0
    have:¬b0<w.heap.size:=by omega
    unfold backObj
    rw[if_neg this,hone.fresh b0 hb0];rfl
   ·intro b0 k i j h
    rcases key b0 k i j h with⟨h1,_⟩|⟨_,_,⟨i',j',h1⟩|h1⟩
    ·exact r1.mine _ _ _ _ h1
    ·exact hr.mine _ _ _ _ h1
    ·exact .inl (Nat.le_trans hr.size h1)
   ·intro b0 b0' k i j h h'
    rcases key b0 k i j h with⟨h1,h2⟩|⟨h1,h2,_⟩<;>rcases key b0' k i j h' with⟨h1',h2'⟩|⟨h1',h2',_⟩
    ·exact r1.uniq _ _ _ _ _ h1 h1'
    ·exact absurd h1' h2
    ·exact absurd h1 h2'
    ·exact hone.uniq _ _ _ _ _ h2 h2'
   ·intro b0 hb0 hm0
    have hb1:b0<w.heap.size:=Nat.lt_of_lt_of_le hb0 hr.size
    unfold backObj
    rw[if_pos hb1]
    cases eg:drop (tk d) g b0 with
    |own x y z=>
     rcases r1.mine _ _ _ _ eg with h|h
     ·omega
     ·exact absurd h hm0
    |_=>rfl
   ·intro b0 hb0 e
    by_cases hb1:b0<w.heap.size
    ·unfold backObj at e
     rw[if_pos hb1]at e
     cases eg:drop (tk d) g b0 with
     |own x y z=>
      rw[eg]at e
      by_cases hx:x=ck t
      ·simp only[hx,if_true]at e
       cases e1:g1 b0 with
       |imm=>
        have e2:=(hG b0 y z).1 (by rw[eg,hx])
        exact hpl1 b0 e1 (by rw[R5 e2];intro e3;cases e3)
       |own _ _ _=>rw[e1]at e;cases e
       |none=>rw[e1]at e;cases e
       |lent=>rw[e1]at e;cases e
       |weak=>rw[e1]at e;cases e
      ·simp only[hx,if_false]at e;cases e
     |imm=>exact(r1.soft b0 hb0 eg).to (hsame b0 hb1 fun i j h=>by have:=(hG _ _ _).2 h;rw[eg]at this;cases this)
     |none=>rw[eg]at e;cases e
     |lent=>rw[eg]at e;cases e
     |weak=>rw[eg]at e;cases e
    ·unfold backObj at e
     rw[if_neg hb1]at e
     cases e1:g1 b0 with
     |imm=>exact hpl1 b0 e1 (by unfold objTags;rw[hr.fresh b0 (by omega)];intro e3;cases e3)
     |own _ _ _=>rw[e1]at e;cases e
     |none=>rw[e1]at e;cases e
     |lent=>rw[e1]at e;cases e
     |weak=>rw[e1]at e;cases e
  have r3:=(r2.act d v (by rw[d4 _ _ (v7 d t),a8])).putSlot d s (by
   rw[n1 (by rw[hr.many];exact hn)]
   exact hsv.firm (hQ0 _ _ hQs).1 (hQ0 _ _ hQs).2.1 himm)
  refine hnext _ w1 _ _ ⟨so',s,hQs,?_⟩ r3
  rw[E0 _ _ _ (j8 t d),j7,E0 _ _ _ (j8 t d).symm]
def stO (b:Nat)(so:Slot)(args:List Part):St:=upd (st0 (.lf (.ptr b 0)::args)) 1 so
variable {P:Program}
theorem CallO.body {f:FuncId}{fn:Func}{c:Code}{args:List Part}{b:Nat}{so:Slot}{Q0:Slot→Slot→Prop}(hf:P.funcs[f]? =some fn)(hb:fn.body=some c)(hn:args.length+1≤fn.ntmps)
 (h:∀(E:Env),E.n=fn.ntmps→VW P E c (stO b so args) fun en τ=>(en= .ret∨en= .normal)∧∃ps,resParts τ fn.results.toList=some ps∧
  (∀(i:Nat) t,fn.results.toList[i]? =some (.tmp t)→resIdx (tk t) fn.results.toList 0=some i)∧resLen P ps fn.results.toList∧(∀p∈ps,p.bare=true)∧(∀p∈ps,p.firm=true)∧(τ 1).firm=true∧Q0 (τ 1) (slotOf ps)):CallO P f args b so Q0:=by
 intro g w vs hlaid hone hsz h0 hargs hobj
 refine calls_of_wp hf hb ?_
 refine h ⟨w,fn.ntmps,g,fun b'=>∃i j,g b'= .own 1 i j,fun w1 h1=>hlaid w1 fun b' hb' hno=>h1 b' hb' fun⟨i,j,h2⟩=>hno i j h2⟩ rfl g w _ _ ?_ ?_
 ·exact
   {defers:=rfl
    os:=rfl
    tape:=rfl
    output:=rfl
    size:=Nat.le_refl _
    old:=fun _ _ _=>rfl
    many:=by simp;omega
    slot:=fun t=>by
     have ek:stO b so args (tk t)=(((.lf (.ptr b 0)::args:List Part)[t]?).map Slot.one).getD Slot.hole:=by
      unfold stO;rw[d4 _ _ (by unfold tk;omega)]
      unfold st0 tk;rw[if_pos (by omega),show 2*t/2=t from by omega]
     rw[ek]
     cases hp:(.lf (.ptr b 0)::args:List Part)[t]? with
     |none=>exact trivial
     |some p=>
      have hlt:t<vs.size:=by rw[hsz];exact(List.getElem?_eq_some_iff.1 hp).1
      have hv:vs[t]? =some vs[t]:=Array.getElem?_eq_getElem hlt
      have e2:(vs++Array.replicate (fn.ntmps-vs.size) undef).getD t undef=vs[t]:=by
       rw[Array.getD_eq_getD_getElem?,Array.getElem?_append_left hlt,hv];rfl
      simp only[Option.map_some,Option.getD_some]
      rw[e2]
      cases t with
      |zero=>
       simp only[List.getElem?_cons_zero,Option.some.injEq]at hp
       subst hp
       rw[h0]at hv
       exact(Option.some.inj hv).symm
      |succ t=>
       have:=hargs t p _ (by simpa using hp) hv
       exact this.to (fun sh b hb=>⟨hb,rfl⟩) fun b j hb=>by have:=hone.own _ _ _ _ hb;omega
    cell:=fun t=>by
     by_cases ht:t=0
     ·subst ht;exact hobj
     ·have ek:stO b so args (ck t)=Slot.hole:=by
       unfold stO;rw[d4 _ _ (by unfold ck;omega)]
       unfold st0 ck;rw[if_neg (by omega)]
      rw[ek];exact trivial
    fresh:=hone.fresh
    mine:=fun b k i j e=>by have:=hone.own _ _ _ _ e;subst this;exact .inr ⟨i,j,e⟩
    uniq:=hone.uniq
    elder:=fun _ _ _=>rfl
    soft:=fun b hb e=>by
     rcases hb with hb|⟨i,j,hb⟩
     ·rw[hone.fresh b hb]at e;cases e
     ·rw[hb]at e;cases e
    wild:=fun b e=>absurd e (hone.firm b)}
 ·rintro en g' w' a' τ ⟨he,ps,hps,hidx,hlen,hbare,hfirm,hfo,hQ⟩ hr
  obtain⟨vs',hvl,hrun,hrel⟩:=a1g (P:=P) hr fn.results.toList fn.results.toList 0 ps hps (fun i t hi=>by rw[Nat.zero_add];exact hidx i t hi) hlen
  have hres:=I2 (P:=P) fn a' vs' hrun
  have ho:CellRel g' w' 1 (τ 1):=hr.cell 0
  have hto:∀sh b,Imm g' sh b→Imm (objTags 1 g') sh b:=fun sh b h=>I8.2 h
  have hsl:SlotRel (objTags 1 g') w' 0 (tupOf vs') (slotOf ps):=R6 hvl fun i p v h1 h2=>by
   have:=hrel i p v h1 h2
   refine this.firm (hbare p (List.mem_of_getElem? h1)) (hfirm p (List.mem_of_getElem? h1)) fun sh b hI=> ?_
   unfold Imm at hI⊢
   rcases hI with hI|⟨e0,hI⟩
   ·left
    unfold retag at hI;unfold objTags
    cases eg:g' b with
    |imm=>rfl
    |none=>rw[eg]at hI;cases hI
    |lent=>rw[eg]at hI;cases hI
    |weak=>rw[eg]at hI;cases hI
    |own x y z=>rw[eg]at hI;cases y with
     |zero=>simp only at hI;split at hI<;>cases hI
     |succ y=>cases hI
   ·right
    refine⟨e0,?_⟩
    unfold retag at hI;unfold objTags
    cases eg:g' b with
    |lent=>rfl
    |weak=>rw[eg]at hI;cases hI
    |none=>rw[eg]at hI;cases hI
    |imm=>rw[eg]at hI;cases hI
    |own x y z=>rw[eg]at hI;cases y with
     |zero=>simp only at hI;split at hI<;>cases hI
     |succ y=>cases hI
  have post:a'.defers=[]∧∃v,(results fn a'.tmps).run P w'= .ok v w'∧∃v' g'' so' s,Ending.returned v= .returned v'∧w'.os=w.os∧w'.tape=w.tape∧w'.output=w.output∧w.heap.size≤w'.heap.size∧
   (∀b',b'<w.heap.size→(∀i j,g b'≠.own 1 i j)→w'.heap[b']? =w.heap[b']?∧g'' b'=g b')∧OneObj g'' w'∧Q0 so' s∧CellRel g'' w' 1 so'∧SlotRel g'' w' 0 v' s∧(∀b',g'' b'= .imm→g b'≠.imm→Plain w' b'):=by
   refine⟨hr.defers,_,hres,_,objTags 1 g',τ 1,slotOf ps,rfl,hr.os,hr.tape,hr.output,hr.size,?_,⟨fun b k i j h=>(p7 h).1,fun b b' k i j h h'=>hr.uniq _ _ _ _ _ (p7 h).2 (p7 h').2,fun b hb=>by unfold objTags;rw[hr.fresh b hb],T7 _ _⟩,hQ,ho.key hfo (fun sh b hb=>⟨hto sh b hb,rfl⟩) fun b i j hb=>⟨R5 hb,rfl⟩,hsl,fun b' e hne=> ?_⟩
   rotate_left
   ·have e1:g' b'= .imm:=by
     unfold objTags at e
     cases eg:g' b' with
     |imm=>rfl
     |none=>rw[eg]at e;cases e
     |lent=>rw[eg]at e;cases e
     |weak=>rw[eg]at e;cases e
     |own x y z=>rw[eg]at e;simp only at e;split at e<;>cases e
    by_cases hb':b'<w.heap.size
    ·by_cases hm:∃i j,g b'= .own 1 i j
     ·exact hr.soft b' (.inr hm) e1
     ·have:=hr.elder b' hb' hm
      rw[e1]at this
      exact absurd this.symm hne
    ·exact hr.soft b' (.inl (by simp only;omega)) e1
   intro b' hb' hno
   have hm:¬∃i j,g b'= .own 1 i j:=fun⟨i,j,h⟩=>hno i j h
   refine⟨hr.old b' hb' hm,?_⟩
   have:=hr.elder b' hb' hm
   simp only at this
   unfold objTags
   rw[this]
   cases eg:g b' with
   |own x y z=>have:=hone.own _ _ _ _ eg;subst this;exact absurd eg (hno _ _)
   |weak=>exact absurd eg (hone.firm _)
   |_=>rfl
  rcases he with rfl|rfl
  ·exact post
  ·exact post
end Go.Proofs.Ytjfjdgjhihgdkaa.V
namespace Go.Proofs.Ytjfjdgjhihgdkaa.V
open Go Go.RowKit
theorem a5a {E:Env}{σ:St}(t j c i b q qc e sz:Nat)(ps ls:List Leaf)(bs:List Blk)(rows:List (List SV))(ht:σ (tk t)= .agg ps)(hp:ps[j]? =some (.u q qc e sz rows))(hc:σ (ck c)= .own b ls bs)(hj:bs[i]? =some .no):
 Turn E σ (·=upd (upd σ (ck c) (.own b ls (bs.set i (.mk q qc e sz rows)))) (tk t) (.agg (ps.set j (.hd q rows.length qc)))):=by
 intro g w a h
 have hcell:=h.cell c
 rw[hc]at hcell
 obtain⟨⟨cur,e0,hg,hh,hl⟩,hbs⟩:=hcell
 have hs:=h.slot t
 rw[ht]at hs
 obtain⟨cs,hv,hpl,hpr⟩:=hs
 have hjlt:=(List.getElem?_eq_some_iff.1 hp).1
 have hcj:cs[j]? =some cs[j]:=Array.getElem?_eq_getElem (by omega)
 obtain⟨hvj,k1,k2,k3,cur2,k4,k5,k6⟩:=hpr j _ _ hp hcj
 obtain⟨g',hr⟩:=h.retag1 (σ':=upd (upd σ (ck c) (.own b ls (bs.set i (.mk q qc e sz rows)))) (tk t) (.agg (ps.set j (.hd q rows.length qc)))) q (tk t) 0 j (ck c) 2 i k1 (fun k h1 h2=>by rw[d4 _ _ h1,d4 _ _ h2]) (fun g' g1 gw g2 g3 g4=>by
  have hS:∀sh x,Imm g sh x→Imm g' sh x∧w.heap[x]? =w.heap[x]? :=fun sh x hx=>⟨g1 sh x hx,rfl⟩
  refine⟨fun t' ht'=> ?_,fun t' ht'=> ?_⟩
  ·have et:t'=t:=by
    rcases ht' with e1|e1
    ·exact Z0 e1
    ·exact absurd e1 (v7 _ _)
   subst et
   rw[a8]
   refine⟨cs,hv,by rw[List.length_set];exact hpl,fun j' l v h1 h2=> ?_⟩
   by_cases ej:j'=j
   ·subst ej
    rw[List.getElem?_set_self hjlt]at h1
    cases h1
    rw[hcj]at h2
    cases h2
    exact hvj
   ·rw[List.getElem?_set_ne (fun e1=>ej e1.symm)]at h1
    exact(hpr j' l v h1 h2).to hS fun x hx=>⟨g2 x 0 j' hx (fun e1=>ej (congrArg Prod.snd e1)) (fun e1=>j8 _ _ (congrArg Prod.fst e1).symm),rfl⟩
  ·have et:t'=c:=by
    rcases ht' with e1|e1
    ·exact absurd e1 (j8 _ _)
    ·exact E9 e1
   subst et
   rw[d4 _ _ (j8 _ _),a8]
   have hO:∀x i' j',g x= .own (ck t') i' j'→(i',j')≠(2,i)→g' x= .own (ck t') i' j':=fun x i' j' hx hne=>g3 x i' j' hx hne (fun e1=>j8 _ _ (congrArg Prod.fst e1))
   refine⟨⟨cur,e0,hO b 1 0 hg (by intro e1;cases e1),hh,hl.to hS fun x i' hx=>⟨hO x 0 i' hx (by intro e1;cases e1),rfl⟩⟩,fun i' B hB=> ?_⟩
   by_cases ei:i'=i
   ·subst ei
    rw[List.getElem?_set_self (List.getElem?_eq_some_iff.1 hj).1]at hB
    cases hB
    exact⟨g4,k2,k3,cur2,k4,k5,k6.to hS⟩
   ·rw[List.getElem?_set_ne (fun e1=>ei e1.symm)]at hB
    exact(hbs i' B hB).to hS fun x hx=>⟨hO x 2 i' hx (fun e1=>ei (congrArg Prod.snd e1)),rfl⟩)
 exact⟨g',_,rfl,hr⟩
def outL :List Leaf→List Blk→List Leaf
 |l::ls,.mk q c e sz rows::bs=> .u q c e sz rows::outL ls bs
 |l::ls,.no::bs=>l::outL ls bs
 |_,_=>[]
def OutV :List Leaf→List Blk→Prop
 |l::ls,.mk q c _ _ rows::bs=>l= .hd q rows.length c∧OutV ls bs
 |l::ls,.no::bs=>l.bare=true∧OutV ls bs
 |[],[]=>True
 |_,_=>False
theorem O0 :∀{ls:List Leaf} {bs:List Blk},OutV ls bs→(outL ls bs).length=ls.length
 |[],[],_=>rfl
 |l::ls,.mk .. ::bs,h=>by simp[outL,O0 h.2]
 |l::ls,.no::bs,h=>by simp[outL,O0 h.2]
 |[],.mk .. ::bs,h=>h.elim
 |[],.no::bs,h=>h.elim
theorem a1v :∀{ls:List Leaf} {bs:List Blk},OutV ls bs→∀{j:Nat} {l:Leaf},(outL ls bs)[j]? =some l→(∃q c e sz rows,l= .u q c e sz rows∧bs[j]? =some (.mk q c e sz rows)∧ls[j]? =some (.hd q rows.length c))∨(l.bare=true∧ls[j]? =some l)
 |[],[],_,j,l,h=>by simp[outL]at h
 |l0::ls,.mk q c e sz rows::bs,hv,j,l,h=>by
  cases j with
  |zero=>simp[outL]at h;subst h;left;exact⟨q,c,e,sz,rows,rfl,rfl,by simp[hv.1]⟩
  |succ j=>exact a1v hv.2 (by simpa[outL]using h)
 |l0::ls,.no::bs,hv,j,l,h=>by
  cases j with
  |zero=>simp[outL]at h;subst h;right;exact⟨hv.1,rfl⟩
  |succ j=>exact a1v hv.2 (by simpa[outL]using h)
 |[],.mk .. ::bs,h,_,_,_=>h.elim
 |[],.no::bs,h,_,_,_=>h.elim
def outTag (k:Nat)(g:Nat→Tag):Nat→Tag:=fun b=>match g b with
 | .own k' i j=>if k'=k∧i=2 then .own 0 0 j else .none
 |t=>t
variable {k b j:Nat} {g:Nat→Tag}
theorem T2 {k' i:Nat}(h:outTag k g b= .own k' i j):k'=0∧i=0∧g b= .own k 2 j:=by
 unfold outTag at h
 cases e:g b with
 |own x y z=>
  rw[e]at h
  by_cases hx:x=k∧y=2
  ·simp only[hx,and_self,if_true]at h;cases h;exact⟨rfl,rfl,by rw[hx.1,hx.2]⟩
  ·simp only[hx,if_false]at h;cases h
 |none=>rw[e]at h;cases h
 |imm=>rw[e]at h;cases h
 |lent=>rw[e]at h;cases h
 |weak=>rw[e]at h;cases h
theorem a47 (h:g b= .own k 2 j):outTag k g b= .own 0 0 j:=by unfold outTag;rw[h];simp
theorem a04 {sh:Bool}(h:Imm g sh b):Imm (outTag k g) sh b:=by
 unfold Imm outTag
 rcases h with h|⟨e,h⟩
 ·rw[h];exact .inl rfl
 ·rw[h];exact .inr ⟨e,rfl⟩
theorem a2Y (h:g b= .weak):outTag k g b= .weak:=by unfold outTag;rw[h]
theorem a4j (h:outTag k g b= .imm):g b= .imm:=by
 unfold outTag at h
 cases e:g b with
 |imm=>rfl
 |own x y z=>rw[e]at h;simp only at h;split at h<;>cases h
 |none=>rw[e]at h;cases h
 |lent=>rw[e]at h;cases h
 |weak=>rw[e]at h;cases h
theorem CallV.bodyO {P:Program}{f:FuncId}{fn:Func}{c:Code}{args:List Part}{R:Slot→Prop}(hf:P.funcs[f]? =some fn)(hb:fn.body=some c)(hn:args.length≤fn.ntmps)(a0:Nat)(ty:TypeId)(sz:Nat)(hres:fn.results= #[.cell a0 ty])(hty:Ty P ty sz true)
 (h:∀E:Env,E.n=fn.ntmps→(∀b,¬E.may b)→VW P E c (st0 args) fun e τ=>(e= .ret∨e= .normal)∧∃b ls bs,τ (ck a0)= .own b ls bs∧τ (tk a0)= .lf (.ptr b 0)∧ls.length=sz∧OutV ls bs∧R (.agg (outL ls bs))):CallV P f args R:=by
 intro g w vs hlaid hown hnw hfresh hsz hargs
 refine calls_of_wp hf hb ?_
 refine h ⟨w,fn.ntmps,g,fun _=>False,fun w1 h=>Lw.stays (fun b hb=>h b hb id) hlaid⟩ rfl (fun _ h=>h) g w _ _ ?_ ?_
 ·exact
   {defers:=rfl
    os:=rfl
    tape:=rfl
    output:=rfl
    size:=Nat.le_refl _
    old:=fun _ _ _=>rfl
    many:=by simp;omega
    slot:=fun t=>by
     have ek:st0 args (tk t)=((args[t]?).map Slot.one).getD Slot.hole:=by
      unfold st0 tk;rw[if_pos (by omega),show 2*t/2=t from by omega]
     rw[ek]
     cases hp:args[t]? with
     |none=>exact trivial
     |some p=>
      have hlt:t<vs.size:=by rw[hsz];exact(List.getElem?_eq_some_iff.1 hp).1
      have hv:vs[t]? =some vs[t]:=Array.getElem?_eq_getElem hlt
      have:=hargs t p _ hp hv
      have e2:(vs++Array.replicate (fn.ntmps-vs.size) undef).getD t undef=vs[t]:=by
       rw[Array.getD_eq_getD_getElem?,Array.getElem?_append_left hlt,hv];rfl
      simp only[Option.map_some,Option.getD_some]
      rw[e2]
      exact this.to (fun sh b hb=>⟨hb,rfl⟩) fun b j hb=>absurd hb (hown b _ _ _)
    cell:=fun t=>by
     have ek:st0 args (ck t)=Slot.hole:=by unfold st0 ck;rw[if_neg (by omega)]
     rw[ek];exact trivial
    fresh:=hfresh
    mine:=fun b k i j e=>absurd e (hown b _ _ _)
    uniq:=fun b b' k i j e=>absurd e (hown b _ _ _)
    elder:=fun _ _ _=>rfl
    soft:=fun b hb e=>by
     rcases hb with hb|hb
     ·rw[hfresh b hb]at e;cases e
     ·exact hb.elim
    wild:=fun b e=>absurd e (hnw b)}
 ·rintro e g' w' a' τ ⟨he,b0,ls,bs,hτc,hτt,hls,hout,hR⟩ hr
  have hs:=hr.slot a0
  rw[hτt]at hs
  have hv:a'.tmps.getD a0 undef= .pointer (some ⟨b0,0,none⟩):=hs
  have hcell:=hr.cell a0
  rw[hτc]at hcell
  obtain⟨⟨cur,eT,hg,hh,hl⟩,hbs⟩:=hcell
  have hrunv:=C1 (P:=P) (w:=w') hty b0 0 cur.toList (by rw[Array.length_toList,hl.1,hls]) (by intro e;cases e) (fun j x hj=>by
   have:cur[j]? =some x:=by simpa using hj
   simp[World.cell?,hh,this])
  have hrun1:(fn.results.toList.mapM (resSem a')).run P w'= .ok [.agg cur] w':=by
   rw[hres]
   simp only[List.mapM_cons,List.mapM_nil,Sem.run_bind,resSem,hv,asAddr,Sem.run_pure,Result.andThen_ok]
   rw[show(loadVar ty ⟨b0,0,none⟩).run P w'= .ok (.agg cur) w' from by simpa using hrunv]
   rfl
  have hrun:=I2 (P:=P) fn a' [.agg cur] hrun1
  have hsl:SlotRel (outTag (ck a0) g') w' 0 (.agg cur) (.agg (outL ls bs)):=by
   refine⟨cur,rfl,by rw[O0 hout];exact hl.1,fun j l v h1 h2=> ?_⟩
   rcases a1v hout h1 with⟨q,cc,e1,sz1,rows,rfl,h3,h4⟩|⟨h3,h4⟩
   ·have hvj:v= .slice (some ⟨q,0,none⟩) rows.length cc:=hl.2 j _ v h4 h2
    obtain⟨k1,k2,k3,cur2,k4,k5,k6⟩:=hbs j _ h3
    exact⟨hvj,a47 k1,k2,k3,cur2,k4,k5,k6.to fun sh b hb=>⟨a04 hb,rfl⟩⟩
   ·exact(hl.2 j l v h4 h2).bare h3 (fun sh b hb=>a04 hb) fun b hb=>a2Y hb
  have hold:∀b,b<w.heap.size→g' b=g b:=fun b hb=>hr.elder b hb id
  have post:a'.defers=[]∧∃v,(results fn a'.tmps).run P w'= .ok v w'∧∃v' g' s,Ending.returned v= .returned v'∧Below w.heap.size w w'∧R s∧SlotRel g' w' 0 v' s∧(∀b,b<w.heap.size→g' b=g b)∧
   (∀b,w'.heap.size≤b→g' b= .none)∧(∀b k i j,g' b= .own k i j→k=0)∧(∀b b' k i j,g' b= .own k i j→g' b'= .own k i j→b=b')∧(∀b,w.heap.size≤b→g' b= .imm→Plain w' b):=by
   refine⟨hr.defers,_,hrun,_,outTag (ck a0) g',_,rfl,⟨hr.os,hr.tape,hr.output,hr.size,fun b hb=>hr.old b hb id⟩,hR,hsl,?_,?_,?_,?_,?_⟩
   ·intro b hb
    have:=hold b hb
    unfold outTag
    cases e:g' b with
    |own x y z=>rw[e]at this;exact absurd this.symm (hown b _ _ _)
    |none=>rw[←this,e]
    |imm=>rw[←this,e]
    |lent=>rw[←this,e]
    |weak=>rw[←this,e]
   ·intro b hb;unfold outTag;rw[hr.fresh b hb]
   ·intro b k i j e;exact(T2 e).1
   ·intro b b' k i j e e'
    exact hr.uniq b b' _ _ _ (T2 e).2.2 (T2 e').2.2
   ·intro b hb e
    exact hr.soft b (.inl hb) (a4j e)
  rcases he with rfl|rfl
  ·exact post
  ·exact post
end Go.Proofs.Ytjfjdgjhihgdkaa.V
namespace Go.Proofs.Ytjfjdgjhihgdkaa.V
open Go Go.RowKit
variable {E:Env} {σ:St}
theorem a17 (t b c e sz:Nat)(rows:List (List SV))(hx:σ (tk t)= .lf (.u b c e sz rows)):Turn E σ (·=upd σ (tk t) (.lf (.ap b c e sz rows))):=by
 intro g w a h
 have hs:=h.slot t
 rw[hx]at hs
 obtain⟨hv,hg,hc,hm,cur,hh,hsz,hr⟩:=hs
 have hlt:b<w.heap.size:=(Array.getElem?_eq_some_iff.1 hh).1
 have hb1:drop (tk t) g b= .none:=D2 hg
 have r2:=(h.forget (tk t)).tag1 b .weak hb1 hlt (h.mine b _ _ _ hg) (fun _ _ _ _ e=>by cases e)
 have r3:=r2.putSlot t (.lf (.ap b c e sz rows)) (by
  refine⟨hv,m9 ..,hc,hm,cur,hh,hsz,hr.1,fun i r j x h1 h2=> ?_⟩
  obtain⟨y,hy,hry⟩:=hr.2 i r j x h1 h2
  exact⟨y,hy,hry.mono (fun _ _=>rfl) fun q hq=>Imm.tag1 hb1 (l8.2 hq)⟩)
 rw[j7]at r3
 exact⟨_,_,rfl,r3⟩
def Leaf.upto (N:Nat):Leaf→Bool
 | .ap _ _ _ sz rows=>Nat.ble (rows.length*sz) N
 |_=>true
def Part.upto (N:Nat):Part→Bool
 | .lf l=>l.upto N
 | .agg ls=>ls.all (Leaf.upto N)
def Slot.upto (N:Nat):Slot→Bool
 | .one p=>p.upto N
 | .tup ps=>ps.all (Part.upto N)
 | .cell _ ls=>ls.all (Leaf.upto N)
 | .own _ ls _=>ls.all (Leaf.upto N)
 | .obj .. =>true
def kill (N:Nat)(σ:St):St:=fun k=>bif (σ k).upto N then σ k else Slot.hole
structure Spare (g:Nat→Tag)(w w':World)(b e N:Nat):Prop where
 os:w'.os=w.os
 tape:w'.tape=w.tape
 output:w'.output=w.output
 size:w'.heap.size=w.heap.size
 tag:g b= .weak
 off:∀q,q≠b→w'.heap[q]? =w.heap[q]?
 at_:∃cur cur',w.heap[b]? =some (.cells cur e (0,0))∧w'.heap[b]? =some (.cells cur' e (0,0))∧cur'.size=cur.size∧∀i,i<N→cur'[i]? =cur[i]?
variable {g:Nat→Tag} {w w':World} {b e N:Nat}
theorem Spare.imm (h:Spare g w w' b e N):∀sh q,Imm g sh q→Imm g sh q∧w'.heap[q]? =w.heap[q]? :=fun sh q hq=>
 ⟨hq,h.off q fun e0=>by subst e0;have ht:=h.tag;rcases hq with e1|⟨_,e1⟩<;>rw[ht]at e1<;>cases e1⟩
theorem Spare.own (h:Spare g w w' b e N):∀{k i j q:Nat},g q= .own k i j→g q= .own k i j∧w'.heap[q]? =w.heap[q]? :=fun{k i j q} hq=>
 ⟨hq,h.off q fun e0=>by subst e0;have ht:=h.tag;rw[ht]at hq;cases hq⟩
variable {k i:Nat} {v:Value}
theorem LeafRel.spare {j:Nat}{l:Leaf}(s:Spare g w w' b e N)(h:LeafRel g w k i j v l)(hu:l.upto N=true):LeafRel g w' k i j v l:=by
 cases l with
 |ap b2 c2 e2 sz2 rows2=>
  obtain⟨hv,hg,hc,hm,cur2,hh,hs,hr⟩:=h
  have hle:rows2.length*sz2≤N:=Nat.le_of_ble_eq_true hu
  by_cases eb:b2=b
  ·subst eb
   obtain⟨cur,cur',h1,h2,h3,h4⟩:=s.at_
   rw[h1]at hh
   cases hh
   refine⟨hv,hg,hc,hm,cur',h2,by rw[h3];exact hs,hr.1,fun i r j x k1 k2=> ?_⟩
   obtain⟨y,hy,hry⟩:=hr.2 i r j x k1 k2
   have hi:i<rows2.length:=(List.getElem?_eq_some_iff.1 k1).1
   have hj:j<sz2:=by rw[←hr.1 r (List.mem_of_getElem? k1)];exact(List.getElem?_eq_some_iff.1 k2).1
   have hlt:i*sz2+j<N:=by
    have:=Nat.mul_le_mul_right sz2 (show i+1≤rows2.length by omega)
    rw[Nat.succ_mul]at this
    omega
   exact⟨y,by rw[h4 _ hlt];exact hy,hry.mono (fun q hq=>(s.imm _ q hq).2) fun _ hq=>hq⟩
  ·exact⟨hv,hg,hc,hm,cur2,(s.off b2 eb).trans hh,hs,hr.to s.imm⟩
 |im sh x=>exact LeafRel.toF h rfl s.imm fun q hq=>s.own hq
 |u b c e sz rows=>exact LeafRel.toF h rfl s.imm fun q hq=>s.own hq
 |ul b c e sz rows=>exact LeafRel.toF h rfl s.imm fun q hq=>s.own hq
 |hd b n c=>exact h
 |ptr b off=>exact h
 |sref sh row=>exact LeafRel.toF h rfl s.imm fun q hq=>s.own hq
 |nst sz rows i2 j2 b n c=>exact LeafRel.toF h rfl s.imm fun q hq=>s.own hq
 |nil=>exact h
 |hole=>trivial
theorem LeavesRel.spare {cs:Array Value}{ls:List Leaf}(s:Spare g w w' b e N)(h:LeavesRel g w k i cs ls)(hu:ls.all (Leaf.upto N)=true):LeavesRel g w' k i cs ls:=
 ⟨h.1,fun j l v h1 h2=>(h.2 j l v h1 h2).spare s (List.all_eq_true.1 hu l (List.mem_of_getElem? h1))⟩
theorem PartRel.spare {p:Part}(s:Spare g w w' b e N)(h:PartRel g w k i v p)(hu:p.upto N=true):PartRel g w' k i v p:=by
 cases p with
 |lf l=>exact LeafRel.spare s h hu
 |agg ls=>obtain⟨cs,hv,h⟩:=h;exact⟨cs,hv,h.spare s hu⟩
variable {s0:Slot}
theorem SlotRel.spare (s:Spare g w w' b e N)(h:SlotRel g w k v s0)(hu:s0.upto N=true):SlotRel g w' k v s0:=by
 cases s0 with
 |one p=>exact PartRel.spare s h hu
 |tup ps=>
  obtain⟨vs,hv,hs,hp⟩:=h
  exact⟨vs,hv,hs,fun i p x h1 h2=>(hp i p x h1 h2).spare s (List.all_eq_true.1 hu p (List.mem_of_getElem? h1))⟩
 |cell b ls=>exact h.elim
 |obj b T e s=>exact h.elim
 |own b ls bs=>exact h.elim
theorem CellRel.spare (s:Spare g w w' b e N)(h:CellRel g w k s0)(hu:s0.upto N=true):CellRel g w' k s0:=by
 match s0 with
 | .one (.lf .hole)=>trivial
 | .cell b2 ls=>
  obtain⟨cur,e2,hg,hh,hl⟩:=h
  exact⟨cur,e2,hg,(s.own hg).2.trans hh,hl.spare s hu⟩
 | .obj b2 T e2 t=>exact ObjRel.to h fun q i j hq=>s.own hq
 | .own b2 ls bs=>
  obtain⟨⟨cur,e2,hg,hh,hl⟩,hb⟩:=h
  refine⟨⟨cur,e2,hg,(s.own hg).2.trans hh,hl.spare s hu⟩,fun j B hB=>(hb j B hB).to s.imm fun q hq=>s.own hq⟩
 | .one (.lf (.im ..))| .one (.lf (.u ..))| .one (.lf (.ap ..))| .one (.lf (.ul ..))| .one (.lf (.hd ..))| .one (.lf (.ptr ..))| .one (.lf (.sref ..))| .one (.lf (.nst ..))| .one (.lf .nil)| .one (.agg _)| .tup _=>exact h.elim
theorem Rel.spare {a:Act}(h:Rel E g w a σ)(s:Spare g w w' b e N):Rel E g w' a (kill N σ) where
 defers:=h.defers
 os:=s.os.trans h.os
 tape:=s.tape.trans h.tape
 output:=s.output.trans h.output
 size:=by rw[s.size];exact h.size
 old:=fun q hq hm=>by
  rw[s.off q fun e0=> ?_,h.old q hq hm]
  subst e0
  rcases h.wild q s.tag with h1|h1
  ·omega
  ·exact hm h1
 many:=h.many
 slot t:=by
  unfold kill
  cases hu:(σ (tk t)).upto N with
  |true=>exact(h.slot t).spare s hu
  |false=>exact trivial
 cell t:=by
  unfold kill
  cases hu:(σ (ck t)).upto N with
  |true=>exact(h.cell t).spare s hu
  |false=>exact trivial
 fresh:=fun q hq=>h.fresh q (by rw[←s.size];exact hq)
 mine:=h.mine
 uniq:=h.uniq
 elder:=h.elder
 soft:=fun q hq e0=>(h.soft q hq e0).to (s.off q fun e1=>by subst e1;rw[s.tag]at e0;cases e0)
 wild:=h.wild
end Go.Proofs.Ytjfjdgjhihgdkaa.V
namespace Go.Proofs.Ytjfjdgjhihgdkaa.V
open Go Go.RowKit
theorem a3C (N:Nat)(σ:St)(k:Nat)(s:Slot):upd (kill N (upd σ k Slot.hole)) k s=upd (kill N σ) k s:=by
 funext q
 by_cases e:q=k
 ·subst e;rw[a8,a8]
 ·rw[d4 _ _ e,d4 _ _ e];unfold kill;rw[d4 _ _ e]
theorem a2z (N:Nat)(σ:St)(k:Nat):kill N (upd σ k Slot.hole) k=Slot.hole:=by unfold kill;rw[a8];rfl
theorem a4Y (N:Nat)(σ:St)(k:Nat):kill N σ k=σ k∨kill N σ k=Slot.hole:=by
 unfold kill
 cases(σ k).upto N
 ·exact .inr rfl
 ·exact .inl rfl
theorem a0F {P:Program}{E:Env}{o:Oper}{σ:St}(d:Nat)(t ty e sz bytes:Nat)(x y:Operand)(b c:Nat)(rows rows2:List (List SV))
 (ho:o.op= .call {callee:= .builtin .append,args:= #[x,y],argTypes:= #[t,t]}) (hty:o.type=ty) (hd:o.dst=some d) (hn:d<E.n) (he:Elem P t e sz bytes)
 (hx:opd σ x= .lf (.ap b c e sz rows)) (hy:opd σ y= .lf (.im true (.sl sz rows2))) (hne:rows2≠[])
 (hsmall:(rows.length+rows2.length)*bytes≤140737488355328) (hmax:rows.length+rows2.length≤maxLen):
 Step P E o σ fun τ=>∃b' c',τ=upd (kill (rows.length*sz) σ) (tk d) (.lf (.ap b' c' e sz (rows++rows2))):=by
 refine Step.of_run fun g w a h=> ?_
 have hs:=o9 h x
 rw[hx]at hs
 obtain⟨hvx,hg,hc,hmx,cur,hh,hcs,hr⟩:=hs
 have hyr:=E7 h hy
 obtain⟨ay,m,cy,hvy,hm,hcy⟩:=SRep.slice_form hyr
 rw[hvy]at hyr
 obtain⟨i,z,hi,hz,hsz,hby,hzs⟩:=he.ok
 have hexec:execOp a.eval o=(do pure (Next.value (←Builtin.append_ #[t,t] o.type #[a.eval x,a.eval y])):Sem Next):=by
  simp[execOp,ho,resolve,invoke,builtin]
 obtain⟨ad,rfl,hm2,news,hnl,hnc,hn1,hnr⟩:=hyr.cells hne he.pos
 have hlt:b<w.heap.size:=(Array.getElem?_eq_some_iff.1 hh).1
 have htake:(cur.toList.take (rows.length*sz)).length=rows.length*sz:=by
  rw[List.length_take,Array.length_toList (xs:=cur),hcs]
  exact Nat.min_eq_left (Nat.mul_le_mul_right _ hc)
 have r1:=h.forget (tk d)
 have htag:drop (tk d) g b= .weak:=p8.2 hg
 have hnl2:news.length=m*i.size:=by rw[hnl,hm2,hsz]
 by_cases hroom:rows.length+m≤c
 ·have hfit:rows.length*i.size+news.length≤cur.size:=by rw[hnl2,hcs,hsz,←Nat.add_mul];exact Nat.mul_le_mul_right _ hroom
  have hrun:=run_append_room (P:=P) w t o.type e i he.und hi b rows.length c cur hh ad m cy news hnl2 hnc hn1 hroom hfit
  generalize hnew:(cur.toList.take (rows.length*i.size)++news++cur.toList.drop (rows.length*i.size+news.length)).toArray=new at hrun
  have hnsz:new.size=cur.size:=by
   rw[←hnew]
   simp only[List.size_toArray,List.length_append,List.length_take,List.length_drop,Array.length_toList]
   omega
  have hlow:∀q,q<rows.length*sz→new[q]? =cur[q]? :=fun q hq=>by
   rw[←hnew,←hsz]at*
   have e1:(cur.toList.take (rows.length*i.size)++news++cur.toList.drop (rows.length*i.size+news.length)).toArray[q]? =(cur.toList.take (rows.length*i.size))[q]? :=by
    rw[List.getElem?_toArray,List.append_assoc,List.getElem?_append_left (by rw[htake];exact hq)]
   rw[e1,List.getElem?_take,if_pos hq,Array.getElem?_toList]
  have htk:new.toList.take ((rows.length+m)*sz)=cur.toList.take (rows.length*sz)++news:=by
   rw[←hnew,hsz]
   have el:(cur.toList.take (rows.length*sz)++news).length=(rows.length+m)*sz:=by rw[List.length_append,htake,hnl2,hsz,Nat.add_mul]
   show(cur.toList.take (rows.length*sz)++news++cur.toList.drop (rows.length*sz+news.length)).take ((rows.length+m)*sz)=_
   rw[←el];exact List.take_left
  have hsp:Spare (drop (tk d) g) w (w.setRow b new) b e (rows.length*sz):=
   {os:=rfl,tape:=rfl,output:=rfl,size:=by simp[World.setRow],tag:=htag,off:=fun q hq=>setRow_other w b q _ hq,at_:=⟨cur,new,hh,setRow_heap w b cur _ e _ hh,hnsz,hlow⟩}
  have r2:=r1.spare hsp
  have himm:∀sh q,Imm g sh q→Imm (drop (tk d) g) sh q∧(w.setRow b new).heap[q]? =w.heap[q]? :=fun sh q hq=>⟨l8.2 hq,(hsp.imm sh q (l8.2 hq)).2⟩
  have hrows:RowsIn g w new sz (rows++rows2):=hr.append hyr.width (fun i r j x h1 h2=>hnr i r j x h1 h2) htake (by rw[←hm2,htk])
  have r3:=(r2.act d (.slice (some ⟨b,0,none⟩) (rows.length+m) c) (a2z _ _ _)).putSlot d (.lf (.ap b c e sz (rows++rows2))) (by
   rw[n1 (by rw[h.many];exact hn)]
   exact⟨by rw[List.length_append,←hm2],htag,by rw[List.length_append,←hm2];exact hroom,hmx,new,setRow_heap w b cur _ e _ hh,by rw[hnsz];exact hcs,hrows.to himm⟩)
  rw[a3C]at r3
  refine⟨_,_,_,_,.inl ?_,⟨b,c,rfl⟩,by rw[hd];exact r3⟩
  rw[hexec,hvx,hvy,Sem.run_bind,hrun];rfl
 ·have hown:w.ownsRow 0 e sz (.slice (some ⟨b,0,none⟩) rows.length c) rows.length (cur.toList.take (rows.length*sz)):=
   ⟨htake,.inr ⟨b,c,cur,rfl,Nat.zero_le _,hh,hc,hmx,hcs,rfl⟩⟩
  obtain⟨v',w',hrun,hown',hgrow,hnil,hwhere⟩:=run_append_own_at (P:=P) (w:=w) 0 t o.type e i z sz bytes he.und hi hz hsz hby hzs he.pos _ rows.length _ hown ad m cy news (by rw[hnl,hm2]) hnc hn1 (by rw[hm2];exact hmax) (by rw[hm2];exact hsmall) (Nat.zero_le _)
  have holds:∀j u,(cur.toList.take (rows.length*sz))[j]? =some u→w.cell? ((⟨b,0,none⟩:Addr).add j)=some u:=hown.cells (g:=b) rfl
  have hmaxN:rows.length+m≤9223372036854775807:=by rw[hm2];simp only[maxLen]at hmax;omega
  have hrun2:=run_append_grow (P:=P) w t o.type e i z he.und hi hz ⟨b,0,none⟩ rows.length c (cur.toList.take (rows.length*sz)) (by rw[hsz];exact htake) holds ad m cy news hnl2 hnc (by omega) (by omega) (by rw[hby];exact growslice_fits (by omega) (by rw[hm2];exact hsmall))
  rw[hrun]at hrun2
  simp only[Result.ok.injEq]at hrun2
  obtain⟨hv2,hw2⟩:=hrun2
  have hold:∀q,q<w.heap.size→w'.heap[q]? =w.heap[q]? :=fun q hq=>by rw[hw2];exact heap_alloc_old w.drew _ hq
  obtain⟨hl',hform⟩:=hown'
  rcases hform with⟨_,h0⟩|⟨b',c',cur',hv',_,hh',hc',hmx',hcs',htk'⟩
  ·exfalso
   have:rows2.length≠0:=fun e=>hne (List.length_eq_zero_iff.1 e)
   omega
  ·have hb':b'=w.heap.size:=by rw[hv2]at hv';cases hv';rfl
   have r2:=(r1.world hgrow.os hgrow.tape hgrow.output hgrow.size fun q hq=> .inl (hold q hq)).weaken (a4Y (rows.length*sz) _)
   have hlt':b'<w'.heap.size:=(Array.getElem?_eq_some_iff.1 hh').1
   have hnone:drop (tk d) g b'= .none:=d7 (h.fresh b' (by omega))
   have r3:=r2.tag1 b' .weak hnone hlt' (.inl (by have:=h.size;omega)) (fun _ _ _ _ e=>by cases e)
   have himm:∀sh q,Imm g sh q→Imm (tag1 (drop (tk d) g) b' .weak) sh q∧w'.heap[q]? =w.heap[q]? :=fun sh q hq=>by
    refine⟨Imm.tag1 hnone (l8.2 hq),hold q (Nat.lt_of_not_le fun hle=> ?_)⟩
    rcases hq with e1|⟨_,e1⟩<;>rw[h.fresh q hle]at e1<;>cases e1
   have hrows:RowsIn g w cur' sz (rows++rows2):=hr.append hyr.width (fun i r j x h1 h2=>hnr i r j x h1 h2) htake (by rw[←hm2,htk'])
   have r4:=(r3.act d v' (a2z _ _ _)).putSlot d (.lf (.ap b' c' e sz (rows++rows2))) (by
    rw[n1 (by rw[h.many];exact hn)]
    exact⟨by rw[hv',List.length_append,←hm2],m9 ..,by rw[List.length_append,←hm2];exact hc',hmx',cur',hh',hcs',hrows.to himm⟩)
   rw[a3C]at r4
   refine⟨v',w',_,_,.inl ?_,⟨b',c',rfl⟩,by rw[hd];exact r4⟩
   rw[hexec,hvx,hvy,Sem.run_bind,hrun];rfl
variable {g g':Nat→Tag} {w w':World} {k i k':Nat} {v:Value}
theorem PartRel.toF {i':Nat}{p:Part}(h:PartRel g w k i v p)(hf:p.firm=true)
 (hS:∀sh b,Imm g sh b→Imm g' sh b∧w'.heap[b]? =w.heap[b]?)
 (hO:∀b j,g b= .own k i j→g' b= .own k' i' j∧w'.heap[b]? =w.heap[b]?):PartRel g' w' k' i' v p:=by
 cases p with
 |lf l=>exact LeafRel.toF h hf hS fun b hb=>hO b 0 hb
 |agg ls=>obtain⟨cs,hv,h⟩:=h;exact⟨cs,hv,h.toF hf hS hO⟩
theorem SlotRel.toF {s:Slot}(h:SlotRel g w k v s)(hf:s.firm=true)
 (hS:∀sh b,Imm g sh b→Imm g' sh b∧w'.heap[b]? =w.heap[b]?)
 (hO:∀b i j,g b= .own k i j→g' b= .own k' i j∧w'.heap[b]? =w.heap[b]?):SlotRel g' w' k' v s:=by
 cases s with
 |one p=>exact PartRel.toF h hf hS fun b j hb=>hO b 0 j hb
 |tup ps=>
  obtain⟨vs,hv,hs,hp⟩:=h
  exact⟨vs,hv,hs,fun i p x h1 h2=>(hp i p x h1 h2).toF (List.all_eq_true.1 hf p (List.mem_of_getElem? h1)) hS fun b j hb=>hO b i j hb⟩
 |cell b ls=>exact h.elim
 |obj b T e s=>exact h.elim
 |own b ls bs=>exact h.elim
def tame (g:Nat→Tag):Nat→Tag:=fun b=>match g b with
 | .weak=> .none
 |t=>t
variable {b:Nat}
theorem a5t (h:g b≠.weak):tame g b=g b:=by
 unfold tame
 cases e:g b with
 |weak=>exact absurd e h
 |_=>rfl
theorem Q9 {j:Nat}:tame g b= .own k i j↔g b= .own k i j:=by
 unfold tame;cases g b<;>simp
theorem a57 :tame g b= .imm↔g b= .imm:=by
 unfold tame;cases g b<;>simp
theorem a1R {sh:Bool}(h:Imm g sh b):Imm (tame g) sh b:=by
 unfold Imm at h⊢
 have:g b≠.weak:=by rcases h with h|⟨_,h⟩<;>rw[h]<;>intro e<;>cases e
 rw[a5t this];exact h
theorem Rel.tame {E:Env}{g:Nat→Tag}{w:World}{a:Act}{σ:St}(h:Rel E g w a σ)(hf:∀k,(σ k).firm=true)(hmay:∀b,E.may b→E.g0 b≠.weak→True)(hel:∀b,g b= .weak→b<E.w0.heap.size→E.may b):Rel E (tame g) w a σ where
 defers:=h.defers
 os:=h.os
 tape:=h.tape
 output:=h.output
 size:=h.size
 old:=h.old
 many:=h.many
 slot t:=(h.slot t).toF (hf _) (fun sh b hb=>⟨a1R hb,rfl⟩) fun b i j hb=>⟨Q9.2 hb,rfl⟩
 cell t:=(h.cell t).key (hf _) (fun sh b hb=>⟨a1R hb,rfl⟩) fun b i j hb=>⟨Q9.2 hb,rfl⟩
 fresh:=fun b hb=>by unfold V.tame;rw[h.fresh b hb]
 mine:=fun b k i j e=>h.mine b k i j (Q9.1 e)
 uniq:=fun b b' k i j e e'=>h.uniq b b' k i j (Q9.1 e) (Q9.1 e')
 elder:=fun b hb hm=>by
  have:g b≠.weak:=fun e=>hm (hel b e hb)
  rw[a5t this];exact h.elder b hb hm
 soft:=fun b hb e=>h.soft b hb (a57.1 e)
 wild:=fun b e=>by unfold V.tame at e;cases eg:g b<;>rw[eg]at e<;>cases e
def still (σ:St):St:=fun k=>bif (σ k).firm then σ k else Slot.hole
theorem a02 (σ:St)(k:Nat):(still σ k).firm=true:=by
 unfold still
 cases h:(σ k).firm with
 |true=>exact h
 |false=>rfl
theorem G7 (σ:St)(k:Nat):still σ k=σ k∨still σ k=Slot.hole:=by
 unfold still
 cases(σ k).firm
 ·exact .inr rfl
 ·exact .inl rfl
theorem a5o {E:Env}{σ:St}(t b c e sz:Nat)(rows:List (List SV))(hx:σ (tk t)= .lf (.ap b c e sz rows)):Turn E σ (·=upd (still σ) (tk t) (.lf (.im true (.sl sz rows)))):=by
 intro g w a h
 have hs:=h.slot t
 rw[hx]at hs
 obtain⟨hv,hg,hc,hm,cur,hh,hsz,hr⟩:=hs
 have hlt:b<w.heap.size:=(Array.getElem?_eq_some_iff.1 hh).1
 have r1:=(h.weaken (G7 σ)).tame (a02 σ) (fun _ _ _=>trivial) (fun q hq hlt=>by
  rcases h.wild q hq with h1|h1
  ·omega
  ·exact h1)
 have hb1:V.tame g b= .none:=by unfold V.tame;rw[hg]
 have r2:=r1.tag1 b .imm hb1 hlt (h.wild b hg) (fun _ _ _ _ e=>by cases e) (fun _=>⟨_,_,hh⟩)
 have r3:=r2.putSlot t (.lf (.im true (.sl sz rows))) (by
  show SRep _ _ _ _
  rw[hv]
  refine hr.data hh hc _ (fun x hx=> .inl ?_) (.inl (m9 ..))
  have:Imm (tag1 (V.tame g) b .imm) true x:=Imm.tag1 hb1 (a1R (.inl hx))
  exact this.sh)
 exact⟨_,_,rfl,r3⟩
end Go.Proofs.Ytjfjdgjhihgdkaa.V
