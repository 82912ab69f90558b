/- Part 2 of the proof of FnModuleGoesOn. -/
import Derived.Test.YtjfjdgjhihgdkaaA1
set_option linter.unusedVariables false
set_option linter.unusedSimpArgs false
namespace Go.Proofs.Ytjfjdgjhihgdkaa.V
open Go Go.RowKit
def uTags (k:Nat)(g:Nat→Tag):Nat→Tag:=fun b=>match g b with
 | .own k' i j=>if k'=k then .own 1 i j else .none
 |t=>t
variable {k b i j:Nat} {g:Nat→Tag}
theorem y9 {k':Nat}(h:uTags k g b= .own k' i j):k'=1∧g b= .own k i j:=by
 unfold uTags at h
 cases e:g b with
 |own x y z=>
  rw[e]at h
  by_cases hx:x=k
  ·simp only[hx,if_true,Tag.own.injEq]at h
   obtain⟨h1,h2,h3⟩:=h
   exact⟨h1.symm,by rw[hx,h2,h3]⟩
  ·simp only[hx,if_false]at h;cases h
 |none=>rw[e]at h;cases h
 |imm=>rw[e]at h;cases h
 |lent=>rw[e]at h;cases h
 |weak=>rw[e]at h;cases h
theorem a3D (h:g b= .own k i j):uTags k g b= .own 1 i j:=by
 unfold uTags;rw[h];simp
theorem a0j {sh:Bool}:Imm (uTags k g) sh b↔Imm g sh b:=by
 unfold Imm uTags
 cases e:g b with
 |own x y z=>by_cases hx:x=k<;>simp[hx]
 |none=>simp
 |imm=>simp
 |lent=>simp
 |weak=>simp
theorem C2 :uTags k g b= .weak↔g b= .weak:=by
 unfold uTags
 cases e:g b with
 |own x y z=>by_cases hx:x=k<;>simp[hx]
 |none=>simp
 |imm=>simp
 |lent=>simp
 |weak=>simp
theorem a15 :uTags k g b= .imm↔g b= .imm:=by
 unfold uTags
 cases e:g b with
 |own x y z=>by_cases hx:x=k<;>simp[hx]
 |none=>simp
 |imm=>simp
 |lent=>simp
 |weak=>simp
def backU (n k:Nat)(g g1:Nat→Tag):Nat→Tag:=fun b=>if b<n then(match g b with
 | .own k' i j=>if k'=k then unTag k (g1 b)else .own k' i j
 | .weak=>unTag k (g1 b)
 |t=>t)else unTag k (g1 b)
structure TwoObj (g:Nat→Tag)(w:World):Prop where
 own:∀b k i j,g b= .own k i j→k=1
 uniq:∀b b' k i j,g b= .own k i j→g b'= .own k i j→b=b'
 fresh:∀b,w.heap.size≤b→g b= .none
def CallU (P:Program)(f:FuncId)(args:List Part)(so:Slot)(Q0:Slot→Slot→Prop)(kq:Option Nat):Prop:=
 ∀(g:Nat→Tag) (w:World) (vs:Array Value),
  (∀w':World,(∀b',b'<w.heap.size→(∀i j,g b'≠.own 1 i j)→g b'≠.weak→w'.heap[b']? =w.heap[b']?)→Lw w')→TwoObj g w→vs.size=args.length→
  (∀(i:Nat) p v,args[i]? =some p→vs[i]? =some v→PartRel g w 0 i v p)→CellRel g w 1 so→
  Calls P f vs w fun en w'=>∃v g' so' s,en= .returned v∧w'.os=w.os∧w'.tape=w.tape∧w'.output=w.output∧w.heap.size≤w'.heap.size∧
   (∀b',b'<w.heap.size→(∀i j,g b'≠.own 1 i j)→g b'≠.weak→w'.heap[b']? =w.heap[b']?∧g' b'=g b')∧TwoObj g' w'∧Q0 so' s∧CellRel g' w' 1 so'∧SlotRel g' w' 0 v s∧
   (∀b',g' b'= .imm→g b'≠.imm→Plain w' b')∧∀q p u,kq=some q→args[q]? =some p→vs[q]? =some u→PartRel g' w' 0 q u p
def opPartsU (σ:St):List Operand→Option (List Part)
 |[]=>some []
 |x::xs=>match opd σ x,opPartsU σ xs with
  | .one p,some ps=>if p.bare then some (p::ps)else none
  |_,_=>none
theorem a6Q {E:Env}{g:Nat→Tag}{w:World}{a:Act}{σ:St}{k:Nat}(h:Rel E g w a σ):∀{xs:List Operand} {ps:List Part},opPartsU σ xs=some ps→
 xs.length=ps.length∧∀(i:Nat) p v,ps[i]? =some p→(xs.map a.eval)[i]? =some v→p.bare=true∧(∃x,xs[i]? =some x∧opd σ x= .one p∧v=a.eval x)∧PartRel (uTags k g) w 0 i v p
 |[],ps,e=>by cases e;exact⟨rfl,fun i p v h=>by simp at h⟩
 |x::xs,ps,e=>by
  simp only[opPartsU]at e
  split at e
  ·rename_i p ps' e1 e2
   split at e
   ·rename_i hb
    cases e
    obtain⟨hl,hg⟩:=a6Q (k:=k) h e2
    refine⟨by simp[hl],fun i q v h1 h2=> ?_⟩
    cases i with
    |zero=>
     simp at h1 h2
     subst h1 h2
     have:=o9 h x
     rw[e1]at this
     exact⟨hb,⟨x,rfl,e1,rfl⟩,PartRel.bare this hb (fun sh b hh=>a0j.2 hh) fun b hh=>C2.2 hh⟩
    |succ i=>
     obtain⟨k1,⟨x',k2,k3⟩,k4⟩:=hg i q v (by simpa using h1) (by simpa using h2)
     exact⟨k1,⟨x',by simpa using k2,k3⟩,PartRel.bare k4 k1 (fun sh b hh=>hh) fun b hh=>hh⟩
   ·cases e
  ·cases e
variable {E:Env} {σ:St}
theorem Rel.turnU {g':Nat→Tag}{w w':World}{a:Act}{σ':St}(h:Rel E g w a σ)(t:Nat)
 (hos:w'.os=w.os) (htp:w'.tape=w.tape) (hout:w'.output=w.output) (hsz:w.heap.size≤w'.heap.size)
 (hold:∀b,b<w.heap.size→(∀i j,g b≠.own (ck t) i j)→g b≠.weak→w'.heap[b]? =w.heap[b]?)
 (htag:∀b,(∀i j,g b≠.own (ck t) i j)→g b≠.none→g b≠.weak→g' b=g b)
 (hσ:∀k,k≠ck t→σ' k=σ k∧(σ k).firm=true)
 (hcell:CellRel g' w' (ck t) (σ' (ck t)))
 (hfresh:∀b,w'.heap.size≤b→g' b= .none)
 (hmine:∀b k i j,g' b= .own k i j→E.w0.heap.size≤b∨E.may b)
 (huniq:∀b b' k i j,g' b= .own k i j→g' b'= .own k i j→b=b')
 (helder:∀b,b<E.w0.heap.size→¬E.may b→g' b=g b)
 (hsoft:∀b,E.w0.heap.size≤b∨E.may b→g' b= .imm→Plain w' b)
 (hwild:∀b,g' b= .weak→E.w0.heap.size≤b∨E.may b):Rel E g' w' a σ':=by
 have lt:∀b,g b≠.none→b<w.heap.size:=fun b hb=>Nat.lt_of_not_le fun hle=>hb (h.fresh b hle)
 have hS:∀sh b,Imm g sh b→Imm g' sh b∧w'.heap[b]? =w.heap[b]? :=by
  intro sh b hb
  have hn:∀i j,g b≠.own (ck t) i j:=by
   intro i j e
   rcases hb with hb|⟨_,hb⟩<;>rw[hb]at e<;>cases e
  have hn':g b≠.none:=by
   rcases hb with hb|⟨_,hb⟩<;>rw[hb]<;>intro e<;>cases e
  have hn2:g b≠.weak:=by
   rcases hb with hb|⟨_,hb⟩<;>rw[hb]<;>intro e<;>cases e
  refine⟨?_,hold b (lt b hn') hn hn2⟩
  unfold Imm
  rw[htag b hn hn' hn2]
  exact hb
 have hO:∀k,k≠ck t→∀b i j,g b= .own k i j→g' b= .own k i j∧w'.heap[b]? =w.heap[b]? :=by
  intro k hk b i j hb
  have hn:∀i' j',g b≠.own (ck t) i' j':=by
   intro i' j' e;rw[hb]at e;cases e;exact hk rfl
  have hn':g b≠.none:=by rw[hb];intro e;cases e
  have hn2:g b≠.weak:=by rw[hb];intro e;cases e
  exact⟨(htag b hn hn' hn2).trans hb,hold b (lt b hn') hn hn2⟩
 exact
  {defers:=h.defers
   os:=hos.trans h.os
   tape:=htp.trans h.tape
   output:=hout.trans h.output
   size:=Nat.le_trans h.size hsz
   old:=fun b hb hm=>by
    rw[hold b (Nat.lt_of_lt_of_le hb h.size) ?_ ?_,h.old b hb hm]
    ·intro i j e
     rcases h.mine b _ i j e with hle|hmay
     ·exact absurd hb (Nat.not_lt.2 hle)
     ·exact absurd hmay hm
    ·intro e
     rcases h.wild b e with hle|hmay
     ·exact absurd hb (Nat.not_lt.2 hle)
     ·exact absurd hmay hm
   many:=h.many
   slot:=fun t'=>by
    rw[(hσ (tk t') (v7 _ _)).1]
    exact(h.slot t').toF (hσ (tk t') (v7 _ _)).2 hS (hO _ (v7 _ _))
   cell:=fun t'=>by
    by_cases hk:ck t'=ck t
    ·rw[hk];exact hcell
    ·rw[(hσ _ hk).1]
     exact(h.cell t').key (hσ _ hk).2 hS (hO _ hk)
   fresh:=hfresh
   mine:=hmine
   uniq:=huniq
   elder:=fun b hb hm=>(helder b hb hm).trans (h.elder b hb hm)
   soft:=hsoft
   wild:=hwild}
def putAll (σ:St)(s:Slot):List Nat→St
 |[]=>σ
 |r::rs=>upd (putAll σ s rs) (tk r) s
theorem R1 {σ:St}{s:Slot}{k:Nat}:∀{rs:List Nat},k∈rs.map tk→putAll σ s rs k=s
 |[],h=>by cases h
 |r::rs,h=>by
  simp only[putAll]
  by_cases e:k=tk r
  ·rw[e,a8]
  ·rw[d4 _ _ e]
   simp only[List.map_cons,List.mem_cons]at h
   exact R1 (h.resolve_left e)
theorem H4 {σ:St}{s:Slot}{k:Nat}:∀{rs:List Nat},k∉rs.map tk→putAll σ s rs k=σ k
 |[],h=>rfl
 |r::rs,h=>by
  simp only[List.map_cons,List.mem_cons,not_or]at h
  simp only[putAll]
  rw[d4 _ _ h.1]
  exact H4 h.2
theorem Rel.putAll {E:Env}{g:Nat→Tag}{w:World}{a:Act}{s:Slot}:∀{rs:List Nat} {σ:St},Rel E g w a σ→(∀r∈rs,SlotRel g w (tk r) (a.tmps.getD r undef) s)→Rel E g w a (putAll σ s rs)
 |[],σ,h,_=>h
 |r::rs,σ,h,hs=>(Rel.putAll h fun r' hr'=>hs r' (List.mem_cons_of_mem _ hr')).putSlot r s (hs r (by simp))
def keptS (σ:St)(xs:List Operand)(rs:List Nat):Option Nat→St
 |none=>still σ
 |some q=>match xs[q]? with
  |some (.tmp kt)=>putAll (still σ) (σ (tk kt)) (kt::rs)
  |_=>still σ
theorem M2 {P:Program}{E:Env}{o:Oper}{σ:St}(d t:Nat)(f:FuncId)(axs:Array Operand)(ats:Array TypeId)(ps:List Part)(so:Slot)(Q0:Slot→Slot→Prop)(kq:Option Nat)(rs:List Nat)
 (ho:o.op= .call {callee:= .value (.func f),args:=axs,argTypes:=ats}) (hd:o.dst=some d) (hn:d<E.n) (hf:Text P f) (hc:so=σ (ck t)∨so=Slot.hole)
 (hxs:opPartsU σ axs.toList=some ps) (hcall:CallU P f ps so Q0 kq) (hQ0:∀so' s,Q0 so' s→s.bare=true∧so'.firm=true) (hso:so.firm=true)
 (hkd:∀q kt,kq=some q→axs.toList[q]? =some (.tmp kt)→(∀r∈kt::rs,r≠d∧σ (tk r)=σ (tk kt))∧((∃b c e sz rows,σ (tk kt)= .lf (.ap b c e sz rows))∨σ (tk kt)= .lf .nil)):
 Step P E o σ fun τ=>∃so' s,Q0 so' s∧τ=upd (upd (keptS σ axs.toList rs kq) (ck t) so') (tk d) s:=by
 intro g w a next Q hr hnext
 have hrun:(execOp a.eval o).run P w= .ok (.enter f (axs.map a.eval)) w:=by
  have e:execOp a.eval o=callFunc f (axs.map a.eval):=by
   simp[execOp,ho,resolve,Deferred.ofValue,Act.eval,invoke]
  rw[e,D4 hf]
 unfold Oper.wp
 rw[hrun,Oper.upon_enter]
 obtain⟨hl,hargs⟩:=a6Q (k:=ck t) hr hxs
 have hobj:CellRel g w (ck t) so:=by
  rcases hc with e|e
  ·rw[e];exact hr.cell t
  ·rw[e];exact trivial
 have hvs:(axs.map a.eval).toList=axs.toList.map a.eval:=by rw[Array.toList_map]
 have hget:∀i:Nat,(axs.map a.eval)[i]? =(axs.toList.map a.eval)[i]? :=fun i=>by rw[←hvs,Array.getElem?_toList]
 refine(hcall (uTags (ck t) g) w (axs.map a.eval) ?_ ⟨fun b k i j h=>(y9 h).1,fun b b' k i j h h'=> ?_,fun b hb=> ?_⟩ ?_ ?_ ?_).mono ?_
 ·intro w' hw'
  refine E.laid w' fun b0 hb0 hm0=> ?_
  rw[hw' b0 (Nat.lt_of_lt_of_le hb0 hr.size) (fun i j h=> ?_) fun h=> ?_,hr.old b0 hb0 hm0]
  ·rcases hr.mine _ _ _ _ (y9 h).2 with h|h
   ·omega
   ·exact hm0 h
  ·rcases hr.wild _ (C2.1 h)with h|h
   ·omega
   ·exact hm0 h
 ·exact hr.uniq b b' (ck t) i j (y9 h).2 (y9 h').2
 ·unfold uTags;rw[hr.fresh b hb]
 ·rw[←Array.length_toList,hvs];simp only[List.length_map];exact hl
 ·intro i p v h1 h2
  exact(hargs i p v h1 (by rw[hget]at h2;exact h2)).2.2
 ·exact hobj.key hso (fun sh b hb=>⟨a0j.2 hb,rfl⟩) fun b i j hb=>⟨a3D hb,rfl⟩
 ·rintro en w1 ⟨v,g1,so',s,rfl,hos,htp,hout,hsz,hfr,htwo,hQs,hobj1,hsv,hpl1,hkept⟩
  rw[hd]
  have r1:=(hr.forget (tk d)).weaken (G7 _)
  have hG:∀b i j,drop (tk d) g b= .own (ck t) i j↔g b= .own (ck t) i j:=fun b i j=>by
   rw[C6];exact⟨fun h=>h.1,fun h=>⟨h,fun e=>v7 d t e.symm⟩⟩
  have hsame:∀b',b'<w.heap.size→(∀i j,g b'≠.own (ck t) i j)→g b'≠.weak→w1.heap[b']? =w.heap[b']? :=
   fun b' hb' hno hnw=>(hfr b' hb' (fun i j h=>hno i j (y9 h).2) fun h=>hnw (C2.1 h)).1
  have hun:∀{tg tg1:Tag} {b0 k i j:Nat},unTag (ck t) tg= .own k i j→tg=g1 b0→k=ck t∧g1 b0= .own 1 i j:=by
   intro tg _ b0 k i j h1 h2
   cases tg with
   |own x y z=>
    simp only[unTag,Tag.own.injEq]at h1
    obtain⟨e1,e2,e3⟩:=h1
    have:=htwo.own b0 x y z h2.symm
    exact⟨e1.symm,by rw[←h2,this,e2,e3]⟩
   |none=>cases h1
   |imm=>cases h1
   |lent=>cases h1
   |weak=>cases h1
  have key:∀b0 k i j,backU w.heap.size (ck t) (drop (tk d) g) g1 b0= .own k i j→(drop (tk d) g b0= .own k i j∧k≠ck t)∨(k=ck t∧g1 b0= .own 1 i j∧((∃i j,g b0= .own (ck t) i j)∨g b0= .weak∨w.heap.size≤b0)):=by
   intro b0 k i j h
   unfold backU at h
   split at h
   ·rename_i hb0
    cases eg:drop (tk d) g b0 with
    |own x y z=>
     rw[eg]at h
     by_cases hx:x=ck t
     ·simp only[hx,if_true]at h
      obtain⟨k1,k2⟩:=hun (tg1:= .none) h rfl
      exact .inr ⟨k1,k2,.inl ⟨y,z,(hG _ _ _).1 (by rw[eg,hx])⟩⟩
     ·simp only[hx,if_false]at h
      cases h
      exact .inl ⟨rfl,hx⟩
    |none=>rw[eg]at h;cases h
    |imm=>rw[eg]at h;cases h
    |lent=>rw[eg]at h;cases h
    |weak=>
     rw[eg]at h
     obtain⟨k1,k2⟩:=hun (tg1:= .none) h rfl
     exact .inr ⟨k1,k2,.inr (.inl (p8.1 eg))⟩
   ·rename_i hb0
    obtain⟨k1,k2⟩:=hun (tg1:= .none) h rfl
    exact .inr ⟨k1,k2,.inr (.inr (by omega))⟩
  have back:∀b0 tg,(∀x y z,tg≠.own x y z)→tg≠.none→g1 b0=tg→backU w.heap.size (ck t) (drop (tk d) g) g1 b0=tg:=by
   intro b0 tg hno hnn h0
   have hu:unTag (ck t) (g1 b0)=tg:=by rw[h0];cases tg<;>first|rfl|exact absurd rfl (hno _ _ _)
   unfold backU
   by_cases hb0:b0<w.heap.size
   ·simp only[if_pos hb0]
    by_cases ho':∃i j,g b0= .own (ck t) i j
    ·obtain⟨i,j,ho'⟩:=ho'
     rw[(hG _ _ _).2 ho']
     simp only[if_true]
     exact hu
    ·by_cases hw':g b0= .weak
     ·rw[p8.2 hw'];exact hu
     ·have h1:=(hfr b0 hb0 (fun i j h=>ho' ⟨i,j,(y9 h).2⟩) fun h=>hw' (C2.1 h)).2
      rw[h0]at h1
      cases eg:g b0 with
      |own x y z=>
       have e1:uTags (ck t) g b0= .none:=by
        unfold uTags;rw[eg]
        by_cases hx:x=ck t
        ·subst hx;exact absurd ⟨y,z,eg⟩ ho'
        ·simp only[hx,if_false]
       rw[e1]at h1;exact absurd h1 hnn
      |none=>
       have e1:uTags (ck t) g b0= .none:=by unfold uTags;rw[eg]
       rw[e1]at h1;exact absurd h1 hnn
      |imm=>
       have e1:uTags (ck t) g b0= .imm:=by unfold uTags;rw[eg]
       have e2:drop (tk d) g b0= .imm:=by
        rcases l8 (k:=tk d) (sh:=true).2 (.inl eg)with h|⟨h,_⟩
        ·exact h
        ·cases h
       rw[e2];rw[e1]at h1;exact h1.symm
      |lent=>
       have e1:uTags (ck t) g b0= .lent:=by unfold uTags;rw[eg]
       have e2:drop (tk d) g b0= .lent:=by
        rcases l8 (k:=tk d) (sh:=false).2 (.inr ⟨rfl,eg⟩)with h|⟨_,h⟩
        ·rw[W6.1 h]at eg;cases eg
        ·exact h
       rw[e2];rw[e1]at h1;exact h1.symm
      |weak=>exact absurd eg hw'
   ·simp only[if_neg hb0];exact hu
  have himm:∀sh b0,Imm g1 sh b0→Imm (backU w.heap.size (ck t) (drop (tk d) g) g1) sh b0:=by
   intro sh b0 h0
   rcases h0 with h0|⟨h1,h0⟩
   ·exact .inl (back b0 _ (by intro x y z e;cases e) (by intro e;cases e) h0)
   ·exact .inr ⟨h1,back b0 _ (by intro x y z e;cases e) (by intro e;cases e) h0⟩
  have hweak:∀b0,g1 b0= .weak→backU w.heap.size (ck t) (drop (tk d) g) g1 b0= .weak:=fun b0 h0=>back b0 _ (by intro x y z e;cases e) (by intro e;cases e) h0
  have r2:Rel E (backU w.heap.size (ck t) (drop (tk d) g) g1) w1 a (upd (still (upd σ (tk d) Slot.hole)) (ck t) so'):=by
   refine r1.turnU t hos htp hout hsz ?_ ?_ ?_ ?_ ?_ ?_ ?_ ?_ ?_ ?_
   ·intro b0 hb0 hno hnw
    exact hsame b0 hb0 (fun i j h=>hno _ _ ((hG _ _ _).2 h)) fun h=>hnw (p8.2 h)
   ·intro b0 hno hne hnw
    have hb0:b0<w.heap.size:=Nat.lt_of_not_le fun hle=>hne (r1.fresh b0 hle)
    unfold backU
    rw[if_pos hb0]
    cases eg:drop (tk d) g b0 with
    |own x y z=>simp only;rw[if_neg (fun e0=>hno y z (by rw[eg,e0]))]
    |weak=>exact absurd eg hnw
    |_=>rfl
   ·intro k hk;exact⟨d4 _ _ hk,a02 _ _⟩
   ·rw[a8]
    refine hobj1.key (hQ0 _ _ hQs).2 (fun sh b0 h0=>⟨himm sh b0 h0,rfl⟩) fun b0 i j h0=>⟨?_,rfl⟩
    unfold backU
    by_cases hb0:b0<w.heap.size
    ·rw[if_pos hb0]
     by_cases ho':∃i' j',g b0= .own (ck t) i' j'
     ·obtain⟨i',j',h1⟩:=ho'
      rw[(hG _ _ _).2 h1]
      simp only[if_true,h0,unTag]
     ·by_cases hw':g b0= .weak
      ·rw[p8.2 hw',h0];rfl
      ·have h1:=(hfr b0 hb0 (fun i j h=>ho' ⟨i,j,(y9 h).2⟩) fun h=>hw' (C2.1 h)).2
       rw[h0]at h1
       exact absurd ⟨_,_,(y9 h1.symm).2⟩ ho'
    ·rw[if_neg hb0,h0];rfl
   ·intro b0 hb0
    have:¬b0<w.heap.size:=by omega
    unfold backU
    rw[if_neg this,htwo.fresh b0 hb0];rfl
   ·intro b0 k i j h
    rcases key b0 k i j h with⟨h1,_⟩|⟨_,_,⟨i',j',h1⟩|h1|h1⟩
    ·exact r1.mine _ _ _ _ h1
    ·exact hr.mine _ _ _ _ h1
    ·exact hr.wild _ h1
    ·exact .inl (Nat.le_trans hr.size h1)
   ·intro b0 b0' k i j h h'
    rcases key b0 k i j h with⟨h1,h2⟩|⟨h1,h2,_⟩<;>rcases key b0' k i j h' with⟨h1',h2'⟩|⟨h1',h2',_⟩
    ·exact r1.uniq _ _ _ _ _ h1 h1'
    ·exact absurd h1' h2
    ·exact absurd h1 h2'
    ·exact htwo.uniq _ _ _ _ _ h2 h2'
   ·intro b0 hb0 hm0
    have hb1:b0<w.heap.size:=Nat.lt_of_lt_of_le hb0 hr.size
    unfold backU
    rw[if_pos hb1]
    cases eg:drop (tk d) g b0 with
    |own x y z=>
     rcases r1.mine _ _ _ _ eg with h|h
     ·omega
     ·exact absurd h hm0
    |weak=>
     rcases r1.wild _ eg with h|h
     ·omega
     ·exact absurd h hm0
    |_=>rfl
   ·intro b0 hb0 e
    by_cases hb1:b0<w.heap.size
    ·unfold backU at e
     rw[if_pos hb1]at e
     have fin:unTag (ck t) (g1 b0)= .imm→g b0≠.imm→Plain w1 b0:=by
      intro e0 hne
      cases e1:g1 b0 with
      |imm=>exact hpl1 b0 e1 (by rw[Ne,a15];exact hne)
      |own _ _ _=>rw[e1]at e0;cases e0
      |none=>rw[e1]at e0;cases e0
      |lent=>rw[e1]at e0;cases e0
      |weak=>rw[e1]at e0;cases e0
     cases eg:drop (tk d) g b0 with
     |own x y z=>
      rw[eg]at e
      by_cases hx:x=ck t
      ·simp only[hx,if_true]at e
       exact fin e (by rw[(hG b0 y z).1 (by rw[eg,hx])];intro e3;cases e3)
      ·simp only[hx,if_false]at e;cases e
     |imm=>exact(r1.soft b0 hb0 eg).to (hsame b0 hb1 (fun i j h=>by have:=(hG _ _ _).2 h;rw[eg]at this;cases this) fun h=>by have:=p8 (k:=tk d).2 h;rw[eg]at this;cases this)
     |none=>rw[eg]at e;cases e
     |lent=>rw[eg]at e;cases e
     |weak=>
      rw[eg]at e
      exact fin e (by rw[p8.1 eg];intro e3;cases e3)
    ·unfold backU at e
     rw[if_neg hb1]at e
     cases e1:g1 b0 with
     |imm=>exact hpl1 b0 e1 (by unfold uTags;rw[hr.fresh b0 (by omega)];intro e3;cases e3)
     |own _ _ _=>rw[e1]at e;cases e
     |none=>rw[e1]at e;cases e
     |lent=>rw[e1]at e;cases e
     |weak=>rw[e1]at e;cases e
   ·intro b0 e
    by_cases hb1:b0<w.heap.size
    ·unfold backU at e
     rw[if_pos hb1]at e
     cases eg:drop (tk d) g b0 with
     |own x y z=>exact r1.mine _ _ _ _ eg
     |weak=>exact r1.wild _ eg
     |none=>rw[eg]at e;cases e
     |imm=>rw[eg]at e;cases e
     |lent=>rw[eg]at e;cases e
    ·exact .inl (by have:=hr.size;omega)
  have fin:∀σ2,Rel E (backU w.heap.size (ck t) (drop (tk d) g) g1) w1 a σ2→σ2 (tk d)=Slot.hole→upd σ2 (tk d) s=upd (upd (keptS σ axs.toList rs kq) (ck t) so') (tk d) s→next (a.put (some d) v) w1:=by
   intro σ2 r3 h0 he
   have r4:=(r3.act d v h0).putSlot d s (by
    rw[n1 (by rw[hr.many];exact hn)]
    exact hsv.bare (hQ0 _ _ hQs).1 himm hweak)
   exact hnext _ w1 _ _ ⟨so',s,hQs,he⟩ r4
  have hst:∀k,k≠tk d→still (upd σ (tk d) Slot.hole) k=still σ k:=fun k hk=>by unfold still;rw[d4 _ _ hk]
  have hst0:still (upd σ (tk d) Slot.hole) (tk d)=Slot.hole:=by unfold still;rw[a8];rfl
  have plain:keptS σ axs.toList rs kq=still σ→next (a.put (some d) v) w1:=fun hk=>fin _ r2 (by rw[d4 _ _ (v7 d t),hst0]) (by
   rw[hk]
   funext k
   by_cases e1:k=tk d
   ·subst e1;rw[a8,a8]
   ·rw[d4 _ _ e1,d4 _ _ e1]
    by_cases e2:k=ck t
    ·subst e2;rw[a8,a8]
    ·rw[d4 _ _ e2,d4 _ _ e2,hst k e1])
  cases kq with
  |none=>exact plain rfl
  |some q=>
   cases hxq:axs.toList[q]? with
   |none=>exact plain (by simp only[keptS,hxq])
   |some x=>
    cases x with
    |tmp kt=>
     obtain⟨hrs,hform⟩:=hkd q kt rfl hxq
     obtain⟨p,hp⟩:∃p,ps[q]? =some p:=by
      have hlt:q<ps.length:=by rw[←hl];exact(List.getElem?_eq_some_iff.1 hxq).1
      exact⟨_,List.getElem?_eq_getElem hlt⟩
     have hev:(axs.toList.map a.eval)[q]? =some (a.eval (.tmp kt)):=by rw[List.getElem?_map,hxq];rfl
     obtain⟨hbare,⟨x',hx1,hx2,-⟩,-⟩:=hargs q p _ hp hev
     rw[hxq]at hx1
     cases hx1
     have hk1:=hkept q p _ rfl hp (by rw[hget];exact hev)
     have hσk:σ (tk kt)= .one p:=hx2
     have hks:keptS σ axs.toList rs (some q)=putAll (still σ) (.one p) (kt::rs):=by simp only[keptS,hxq,hσk]
     have hval:∀r∈kt::rs,a.tmps.getD r undef=a.tmps.getD kt undef:=by
      intro r hr'
      have h1:=hr.slot r
      have h2:=hr.slot kt
      rw[(hrs r hr').2]at h1
      rcases hform with⟨b0,c0,e0,sz0,rows0,hf0⟩|hf0
      ·rw[hf0]at h1 h2
       have h3:a.tmps.getD r undef= .slice (some ⟨b0,0,none⟩) rows0.length c0:=h1.1
       have h4:a.tmps.getD kt undef= .slice (some ⟨b0,0,none⟩) rows0.length c0:=h2.1
       rw[h3,h4]
      ·rw[hf0]at h1 h2
       have h3:a.tmps.getD r undef= .slice none 0 0:=h1
       have h4:a.tmps.getD kt undef= .slice none 0 0:=h2
       rw[h3,h4]
     have r3:=r2.putAll (s:= .one p) (rs:=kt::rs) fun r hr'=>by
      rw[hval r hr']
      exact PartRel.bare hk1 hbare himm hweak
     have hnk:tk d∉(kt::rs).map tk:=fun hm=>by
      obtain⟨r,hr1,hr2⟩:=List.mem_map.1 hm
      exact(hrs r hr1).1 (by have e2:2*r=2*d:=hr2;exact Nat.eq_of_mul_eq_mul_left (show 0<2 by decide) e2)
     have hck:ck t∉(kt::rs).map tk:=fun hm=>by
      obtain⟨r,hr1,hr2⟩:=List.mem_map.1 hm
      exact v7 r t hr2
     refine fin _ r3 (by rw[H4 hnk,d4 _ _ (v7 d t),hst0]) ?_
     rw[hks]
     funext k
     by_cases e1:k=tk d
     ·subst e1;rw[a8,a8]
     ·rw[d4 _ _ e1,d4 _ _ e1]
      by_cases e3:k∈(kt::rs).map tk
      ·rw[R1 e3]
       by_cases e2:k=ck t
       ·exact absurd (e2▸e3) hck
       ·rw[d4 _ _ e2,R1 e3]
      ·rw[H4 e3]
       by_cases e2:k=ck t
       ·subst e2;rw[a8,a8]
       ·rw[d4 _ _ e2,d4 _ _ e2,H4 e3,hst k e1]
    |const c=>exact plain (by simp only[keptS,hxq])
    |global c=>exact plain (by simp only[keptS,hxq])
    |func c=>exact plain (by simp only[keptS,hxq])
def stU (so:Slot)(args:List Part):St:=upd (st0 args) 1 so
variable {P:Program}
theorem CallU.body {f:FuncId}{fn:Func}{c:Code}{args:List Part}{so:Slot}{Q0:Slot→Slot→Prop}{kq:Option Nat}(hf:P.funcs[f]? =some fn)(hb:fn.body=some c)(hn:args.length≤fn.ntmps)
 (h:∀(E:Env),E.n=fn.ntmps→VW P E c (stU so args) fun en τ=>(en= .ret∨en= .normal)∧∃ps,resParts τ fn.results.toList=some ps∧
  (∀(i:Nat) t,fn.results.toList[i]? =some (.tmp t)→resIdx (tk t) fn.results.toList 0=some i)∧resLen P ps fn.results.toList∧(∀p∈ps,p.bare=true)∧
  (∀q p,kq=some q→args[q]? =some p→τ (tk q)= .one p∧((∃b c e sz rows,p= .lf (.ap b c e sz rows))∨p= .lf .nil))∧
  ∃so',(so'=τ 1∨so'=Slot.hole)∧so'.firm=true∧Q0 so' (slotOf ps)):CallU P f args so Q0 kq:=by
 intro g w vs hlaid htwo hsz hargs hobj
 refine calls_of_wp hf hb ?_
 refine h ⟨w,fn.ntmps,g,fun b'=>(∃i j,g b'= .own 1 i j)∨g b'= .weak,fun w1 h1=>hlaid w1 fun b' hb' hno hnw=>h1 b' hb' fun h2=>h2.elim (fun⟨i,j,h2⟩=>hno i j h2) hnw⟩ rfl g w _ _ ?_ ?_
 ·exact
   {defers:=rfl
    os:=rfl
    tape:=rfl
    output:=rfl
    size:=Nat.le_refl _
    old:=fun _ _ _=>rfl
    many:=by simp;omega
    slot:=fun t=>by
     have ek:stU so args (tk t)=((args[t]?).map Slot.one).getD Slot.hole:=by
      unfold stU;rw[d4 _ _ (by unfold tk;omega)]
      unfold st0 tk;rw[if_pos (by omega),show 2*t/2=t from by omega]
     rw[ek]
     cases hp:args[t]? with
     |none=>exact trivial
     |some p=>
      have hlt:t<vs.size:=by rw[hsz];exact(List.getElem?_eq_some_iff.1 hp).1
      have hv:vs[t]? =some vs[t]:=Array.getElem?_eq_getElem hlt
      have e2:(vs++Array.replicate (fn.ntmps-vs.size) undef).getD t undef=vs[t]:=by
       rw[Array.getD_eq_getD_getElem?,Array.getElem?_append_left hlt,hv];rfl
      simp only[Option.map_some,Option.getD_some]
      rw[e2]
      have:=hargs t p _ hp hv
      exact this.to (fun sh b hb=>⟨hb,rfl⟩) fun b j hb=>by have:=htwo.own _ _ _ _ hb;omega
    cell:=fun t=>by
     by_cases ht:t=0
     ·subst ht;exact hobj
     ·have ek:stU so args (ck t)=Slot.hole:=by
       unfold stU;rw[d4 _ _ (by unfold ck;omega)]
       unfold st0 ck;rw[if_neg (by omega)]
      rw[ek];exact trivial
    fresh:=htwo.fresh
    mine:=fun b k i j e=>by have:=htwo.own _ _ _ _ e;subst this;exact .inr (.inl ⟨i,j,e⟩)
    uniq:=htwo.uniq
    elder:=fun _ _ _=>rfl
    soft:=fun b hb e=>by
     rcases hb with hb|⟨i,j,hb⟩|hb
     ·rw[htwo.fresh b hb]at e;cases e
     ·rw[hb]at e;cases e
     ·rw[hb]at e;cases e
    wild:=fun b e=> .inr (.inr e)}
 ·rintro en g' w' a' τ ⟨he,ps,hps,hidx,hlen,hbare,hkp,so',hso',hfo,hQ⟩ hr
  obtain⟨vs',hvl,hrun,hrel⟩:=a1g (P:=P) hr fn.results.toList fn.results.toList 0 ps hps (fun i t hi=>by rw[Nat.zero_add];exact hidx i t hi) hlen
  have hres:=I2 (P:=P) fn a' vs' hrun
  have ho:CellRel g' w' 1 so':=by
   rcases hso' with e|e
   ·rw[e];exact hr.cell 0
   ·rw[e];exact trivial
  have hto:∀sh b,Imm g' sh b→Imm (uTags 1 g') sh b:=fun sh b h=>a0j.2 h
  have hsl:SlotRel (uTags 1 g') w' 0 (tupOf vs') (slotOf ps):=R6 hvl fun i p v h1 h2=>by
   have:=hrel i p v h1 h2
   refine this.bare (hbare p (List.mem_of_getElem? h1)) (fun sh b hI=> ?_) fun b hW=>C2.2 ?_
   ·unfold Imm at hI⊢
    rcases hI with hI|⟨e0,hI⟩
    ·left
     unfold retag at hI;unfold uTags
     cases eg:g' b with
     |imm=>rfl
     |none=>rw[eg]at hI;cases hI
     |lent=>rw[eg]at hI;cases hI
     |weak=>rw[eg]at hI;cases hI
     |own x y z=>rw[eg]at hI;cases y with
      |zero=>simp only at hI;split at hI<;>cases hI
      |succ y=>cases hI
    ·right
     refine⟨e0,?_⟩
     unfold retag at hI;unfold uTags
     cases eg:g' b with
     |lent=>rfl
     |weak=>rw[eg]at hI;cases hI
     |none=>rw[eg]at hI;cases hI
     |imm=>rw[eg]at hI;cases hI
     |own x y z=>rw[eg]at hI;cases y with
      |zero=>simp only at hI;split at hI<;>cases hI
      |succ y=>cases hI
   ·unfold retag at hW
    cases eg:g' b with
    |weak=>rfl
    |imm=>rw[eg]at hW;cases hW
    |none=>rw[eg]at hW;cases hW
    |lent=>rw[eg]at hW;cases hW
    |own x y z=>rw[eg]at hW;cases y with
     |zero=>simp only at hW;split at hW<;>cases hW
     |succ y=>cases hW
  have post:a'.defers=[]∧∃v,(results fn a'.tmps).run P w'= .ok v w'∧∃v' g'' so' s,Ending.returned v= .returned v'∧w'.os=w.os∧w'.tape=w.tape∧w'.output=w.output∧w.heap.size≤w'.heap.size∧
   (∀b',b'<w.heap.size→(∀i j,g b'≠.own 1 i j)→g b'≠.weak→w'.heap[b']? =w.heap[b']?∧g'' b'=g b')∧TwoObj g'' w'∧Q0 so' s∧CellRel g'' w' 1 so'∧SlotRel g'' w' 0 v' s∧(∀b',g'' b'= .imm→g b'≠.imm→Plain w' b')∧
   ∀q p u,kq=some q→args[q]? =some p→vs[q]? =some u→PartRel g'' w' 0 q u p:=by
   refine⟨hr.defers,_,hres,_,uTags 1 g',so',slotOf ps,rfl,hr.os,hr.tape,hr.output,hr.size,?_,⟨fun b k i j h=>(y9 h).1,fun b b' k i j h h'=>hr.uniq _ _ _ _ _ (y9 h).2 (y9 h').2,fun b hb=>by unfold uTags;rw[hr.fresh b hb]⟩,hQ,ho.key hfo (fun sh b hb=>⟨hto sh b hb,rfl⟩) fun b i j hb=>⟨a3D hb,rfl⟩,hsl,fun b' e hne=> ?_,fun q p u hq hp hu=> ?_⟩
   ·intro b' hb' hno hnw
    have hm:¬((∃i j,g b'= .own 1 i j)∨g b'= .weak):=fun h=>h.elim (fun⟨i,j,h⟩=>hno i j h) hnw
    refine⟨hr.old b' hb' hm,?_⟩
    have:=hr.elder b' hb' hm
    simp only at this
    unfold uTags
    rw[this]
    cases eg:g b' with
    |own x y z=>have:=htwo.own _ _ _ _ eg;subst this;exact absurd eg (hno _ _)
    |_=>rfl
   ·have e1:g' b'= .imm:=a15.1 e
    by_cases hb':b'<w.heap.size
    ·by_cases hm:(∃i j,g b'= .own 1 i j)∨g b'= .weak
     ·exact hr.soft b' (.inr hm) e1
     ·have:=hr.elder b' hb' hm
      rw[e1]at this
      exact absurd this.symm hne
    ·exact hr.soft b' (.inl (by simp only;omega)) e1
   ·obtain⟨h1,h2⟩:=hkp q p hq hp
    have hs:=hr.slot q
    rw[h1]at hs
    have hu0:=hargs q p u hp hu
    rcases h2 with⟨b,c,e,sz,rows,rfl⟩|rfl
    ·have hv:u=a'.tmps.getD q undef:=by
      have h3:u= .slice (some ⟨b,0,none⟩) rows.length c:=hu0.1
      have h4:a'.tmps.getD q undef= .slice (some ⟨b,0,none⟩) rows.length c:=hs.1
      rw[h3,h4]
     rw[hv]
     exact PartRel.bare (k:=tk q) (i:=0) (p:= .lf (.ap b c e sz rows)) hs rfl hto fun b0 hb0=>C2.2 hb0
    ·exact hu0
  rcases he with rfl|rfl
  ·exact post
  ·exact post
end Go.Proofs.Ytjfjdgjhihgdkaa.V
namespace Go.Proofs.Ytjfjdgjhihgdkaa.V
open Go Go.RowKit
def putHd (rows:List (List SV))(i j:Nat)(x:SV):List (List SV):=rows.modify i fun r=>r.set j x
def Src (g:Nat→Tag)(w:World)(v:Value)(sz:Nat)(rows2:List (List SV)):Prop:=
 ∃ay m cy,v= .slice ay m cy∧m=rows2.length∧m≤cy∧(∀r∈rows2,r.length=sz)∧(rows2≠[]→∃ad,ay=some ad∧∃news:List Value,news.length=rows2.length*sz∧
  (∀(j:Nat) u,news[j]? =some u→w.cell? (ad.add j)=some u)∧(∀u∈news,u.oneCell'=true)∧∀i r j x,rows2[i]? =some r→r[j]? =some x→∃y,news[i*sz+j]? =some y∧SRep (Imm g true) w y x)
variable {g:Nat→Tag} {w:World} {b n c e sz:Nat} {rows:List (List SV)}
theorem RowsIn.src {cur:Array Value}(hr:RowsIn g w cur sz rows)(hh:w.heap[b]? =some (.cells cur e (0,0)))(hc:rows.length≤c)(hsz:0<sz)(hn:n=rows.length):
 Src g w (.slice (some ⟨b,0,none⟩) n c) sz rows:=by
 subst hn
 have hs:=hr.data hh hc (fun x=>Imm g true x∨x=b) (fun x hx=> .inl (.inl hx)) (.inr rfl)
 refine⟨_,_,_,rfl,rfl,hc,hr.1,fun hne=> ?_⟩
 obtain⟨ad,ha,-,news,h1,h2,h3,h4⟩:=hs.cells hne hsz
 refine⟨ad,ha,news,h1,h2,h3,fun i r j x k1 k2=> ?_⟩
 obtain⟨y,hy,-⟩:=h4 i r j x k1 k2
 refine⟨y,hy,?_⟩
 obtain⟨y2,hy2,hs2⟩:=hr.2 i r j x k1 k2
 cases ha
 have h5:=h2 _ _ hy
 have e:(⟨b,0,none⟩:Addr).add (i*sz+j)=⟨b,i*sz+j,none⟩:=by
  unfold Addr.add
  split
  ·rename_i h0;rw[h0]
  ·simp
 rw[e]at h5
 have h6:w.cell? ⟨b,i*sz+j,none⟩=some y2:=by simp[World.cell?,hh,hy2]
 rw[h6]at h5
 cases h5
 exact hs2
variable {E:Env} {a:Act} {σ:St} {t:Nat}
theorem src_u (h:Rel E g w a σ){y:Operand}(hsz:0<sz)(hk:σ (tk t)= .lf (.u b c e sz rows))(hy:opd σ y= .lf (.hd b n c))(hn:n=rows.length):Src g w (a.eval y) sz rows:=by
 have hs:=h.slot t
 rw[hk]at hs
 obtain⟨hv,hg,hc,hm,cur,hh,hcs,hr⟩:=hs
 rw[a0N h hy]
 exact hr.src hh hc hsz hn
variable {o:Oper}
theorem Y6 {P:Program}{E:Env}{σ:St}(d:Nat)(t ty e sz bytes:Nat)(x y:Operand)(kt b c:Nat)(rows rows2:List (List SV))
 (ho:o.op= .call {callee:= .builtin .append,args:= #[x,y],argTypes:= #[t,t]}) (hty:o.type=ty) (hd:o.dst=some d) (hn:d<E.n) (he:Elem P t e sz bytes)
 (hk:σ (tk kt)= .lf (.u b c e sz rows)) (hx:x= .tmp kt∨opd σ x= .lf (.hd b rows.length c)) (hy:∀g w a,Rel E g w a σ→Src g w (a.eval y) sz rows2)
 (hsmall:(rows.length+rows2.length)*bytes≤140737488355328) (hmax:rows.length+rows2.length≤maxLen):
 Step P E o σ fun τ=>∃b' c',τ=upd (upd σ (tk kt) Slot.hole) (tk d) (.lf (.u b' c' e sz (rows++rows2))):=by
 refine Step.of_run fun g w a h=> ?_
 have hs:=h.slot kt
 rw[hk]at hs
 have hvk:a.tmps.getD kt undef= .slice (some ⟨b,0,none⟩) rows.length c:=hs.1
 have hvx:a.eval x= .slice (some ⟨b,0,none⟩) rows.length c:=by
  rcases hx with rfl|hx
  ·exact hvk
  ·exact a0N h hx
 obtain⟨ay,m,cy,hvy,hm,hcy,hwid,hcells⟩:=hy g w a h
 obtain⟨i,z,hi,hz,hsz,hby,hzs⟩:=he.ok
 have hexec:execOp a.eval o=(do pure (Next.value (←Builtin.append_ #[t,t] o.type #[a.eval x,a.eval y])):Sem Next):=by
  simp[execOp,ho,resolve,invoke,builtin]
 by_cases hempty:rows2=[]
 ·subst hempty
  simp at hm
  subst hm
  have hrun:=u4 (P:=P) (w:=w) t o.type e i he.und hi (some ⟨b,0,none⟩) rows.length c hs.2.2.1 ay cy
  obtain⟨g',hr⟩:=h.moveU d (tk kt) 0 0 b c e sz rows (.slice (some ⟨b,0,none⟩) rows.length c) hn (.inr trivial) ⟨rfl,hs.2⟩
  refine⟨_,w,g',_,.inl ?_,⟨b,c,rfl⟩,by rw[hd];simpa using hr⟩
  rw[hexec,hvx,hvy,Sem.run_bind,hrun];rfl
 ·have hm2:=hm
  obtain⟨ad,rfl,news,hnl,hnc,hn1,hnr⟩:=hcells hempty
  obtain⟨_,hg,hc,hmx,cur,hh,hcs,hr⟩:=hs
  have hlt:b<w.heap.size:=(Array.getElem?_eq_some_iff.1 hh).1
  have htake:(cur.toList.take (rows.length*sz)).length=rows.length*sz:=by
   rw[List.length_take,Array.length_toList (xs:=cur),hcs]
   exact Nat.min_eq_left (Nat.mul_le_mul_right _ hc)
  have hown:w.ownsRow 0 e sz (.slice (some ⟨b,0,none⟩) rows.length c) rows.length (cur.toList.take (rows.length*sz)):=
   ⟨htake,.inr ⟨b,c,cur,rfl,Nat.zero_le _,hh,hc,hmx,hcs,rfl⟩⟩
  obtain⟨v',w',hrun,hown',hgrow,hnil,hwhere⟩:=run_append_own_at (P:=P) (w:=w) 0 t o.type e i z sz bytes he.und hi hz hsz hby hzs he.pos _ rows.length _ hown ad m cy news (by rw[hnl,hm2]) hnc hn1 (by rw[hm2];exact hmax) (by rw[hm2];exact hsmall) (Nat.zero_le _)
  obtain⟨hl',hform⟩:=hown'
  rcases hform with⟨_,h0⟩|⟨b',c',cur',hv',_,hh',hc',hmx',hcs',htk'⟩
  ·exfalso
   have:rows2.length≠0:=fun e=>hempty (List.length_eq_zero_iff.1 e)
   omega
  ·have r1:=(h.forget (tk kt)).forget (tk d)
   have hb2:drop (tk d) (drop (tk kt) g) b= .none:=d7 (D2 hg)
   have hbl:Value.ownBlock (.slice (some ⟨b,0,none⟩) rows.length c)=some b:=rfl
   have r2:Rel E (drop (tk d) (drop (tk kt) g)) w' a (upd (upd σ (tk kt) Slot.hole) (tk d) Slot.hole):=by
    refine r1.world hgrow.os hgrow.tape hgrow.output hgrow.size fun b0 hb0=> ?_
    by_cases e0:b0=b
    ·subst e0;exact .inr ⟨hb2,h.mine b0 _ _ _ hg⟩
    ·exact .inl (hgrow.block b0 hb0 (by rw[hbl];intro e;cases e;exact e0 rfl))
   have hlt':b'<w'.heap.size:=(Array.getElem?_eq_some_iff.1 hh').1
   have hb':b'=b∨w.heap.size≤b':=by
    rw[hv']at hwhere
    rcases hwhere with e|e
    ·left;simp only[Value.ownBlock,Option.some.injEq]at e;exact e
    ·right;simp only[Value.ownBlock,Option.some.injEq]at e;omega
   have hnone:drop (tk d) (drop (tk kt) g) b'= .none:=by
    rcases hb' with rfl|hge
    ·exact hb2
    ·exact d7 (d7 (h.fresh b' hge))
   have r3:=r2.tag1 b' (.own (tk d) 0 0) hnone hlt' (by
    rcases hb' with rfl|hge
    ·exact h.mine b' _ _ _ hg
    ·left;have:=h.size;omega) (fun b'' k' i' j' e=>by cases e;exact y4 _ _ _ _ _)
   have himm:∀sh x,Imm g sh x→Imm (tag1 (drop (tk d) (drop (tk kt) g)) b' (.own (tk d) 0 0)) sh x∧w'.heap[x]? =w.heap[x]? :=by
    intro sh x hx
    refine⟨Imm.tag1 hnone (l8.2 (l8.2 hx)),?_⟩
    have hxl:x<w.heap.size:=Nat.lt_of_not_le fun hle=>by rcases hx with e|⟨_,e⟩<;>rw[h.fresh x hle]at e<;>cases e
    refine hgrow.block x hxl ?_
    rw[hbl];intro e;cases e
    rcases hx with e|⟨_,e⟩<;>rw[hg]at e<;>cases e
   have hrows:RowsIn g w cur' sz (rows++rows2):=hr.append hwid (fun i r j x h1 h2=>hnr i r j x h1 h2) htake (by rw[←hm2,htk'])
   have r4:=(r3.act d v' (a8 ..)).putSlot d (.lf (.u b' c' e sz (rows++rows2))) (by
    rw[n1 (by rw[h.many];exact hn)]
    refine⟨by rw[hv',List.length_append,←hm2],m9 ..,by rw[List.length_append,←hm2];exact hc',hmx',cur',hh',hcs',hrows.to himm⟩)
   rw[j7]at r4
   refine⟨v',w',_,_,.inl ?_,⟨b',c',rfl⟩,by rw[hd];exact r4⟩
   rw[hexec,hvx,hvy,Sem.run_bind,hrun];rfl
theorem O2 {P:Program}{E:Env}{σ:St}(d:Nat)(t ty e sz bytes:Nat)(x y:Operand)(rows2:List (List SV))
 (ho:o.op= .call {callee:= .builtin .append,args:= #[x,y],argTypes:= #[t,t]}) (hty:o.type=ty) (hd:o.dst=some d) (hn:d<E.n) (he:Elem P t e sz bytes)
 (hx:opd σ x= .lf .nil) (hy:∀g w a,Rel E g w a σ→Src g w (a.eval y) sz rows2) (hne:rows2≠[])
 (hsmall:rows2.length*bytes≤140737488355328) (hmax:rows2.length≤maxLen):Step P E o σ fun τ=>∃b' c',τ=upd σ (tk d) (.lf (.u b' c' e sz rows2)):=by
 refine Step.of_run fun g w a h=> ?_
 have hvx:=J5 h hx
 obtain⟨ay,m,cy,hvy,hm,hcy,hwid,hcells⟩:=hy g w a h
 obtain⟨i,z,hi,hz,hsz,hby,hzs⟩:=he.ok
 have hexec:execOp a.eval o=(do pure (Next.value (←Builtin.append_ #[t,t] o.type #[a.eval x,a.eval y])):Sem Next):=by
  simp[execOp,ho,resolve,invoke,builtin]
 have hm2:=hm
 obtain⟨ad,rfl,news,hnl,hnc,hn1,hnr⟩:=hcells hne
 have hown:w.ownsRow 0 e sz (.slice none 0 0) 0 []:=World.ownsRow_nil w 0 e sz
 obtain⟨v',w',hrun,hown',hgrow,hnil,hwhere⟩:=run_append_own_at (P:=P) (w:=w) 0 t o.type e i z sz bytes he.und hi hz hsz hby hzs he.pos _ 0 [] hown ad m cy news (by rw[hnl,hm2]) hnc hn1 (by rw[hm2];omega) (by rw[hm2];simpa using hsmall) (Nat.zero_le _)
 obtain⟨hl',hform⟩:=hown'
 rcases hform with⟨_,h0⟩|⟨b',c',cur',hv',_,hh',hc',hmx',hcs',htk'⟩
 ·exfalso
  have:rows2.length≠0:=fun e=>hne (List.length_eq_zero_iff.1 e)
  omega
 ·have hb':b'=w.heap.size:=by
   rw[hv']at hwhere
   rcases hwhere with e0|e0
   ·simp[Value.ownBlock]at e0
   ·simpa[Value.ownBlock]using e0
  subst hb'
  have hfr:g w.heap.size= .none:=h.fresh _ (Nat.le_refl _)
  have r1:=(h.forget (tk d)).world hgrow.os hgrow.tape hgrow.output hgrow.size fun b0 hb0=> .inl (hgrow.block b0 hb0 (by intro e0;cases e0))
  have hb0:drop (tk d) g w.heap.size= .none:=d7 hfr
  have hlt':w.heap.size<w'.heap.size:=(Array.getElem?_eq_some_iff.1 hh').1
  have r2:=r1.tag1 w.heap.size (.own (tk d) 0 0) hb0 hlt' (.inl h.size) (fun b' k' i' j' e=>by cases e;exact y4 _ _ _ _ _)
  have himm:∀sh x,Imm g sh x→Imm (tag1 (drop (tk d) g) w.heap.size (.own (tk d) 0 0)) sh x∧w'.heap[x]? =w.heap[x]? :=by
   intro sh x hx
   refine⟨Imm.tag1 hb0 (l8.2 hx),?_⟩
   have hxl:x<w.heap.size:=Nat.lt_of_not_le fun hle=>by rcases hx with e|⟨_,e⟩<;>rw[h.fresh x hle]at e<;>cases e
   exact hgrow.block x hxl (by intro e0;cases e0)
  have hrows:RowsIn g w cur' sz ([]++rows2):=RowsIn.append (cur:= #[]) (rows:=[]) ⟨(by intro r hr;cases hr),(by intro i r j x h1;simp at h1)⟩ hwid (fun i r j x h1 h2=>hnr i r j x h1 h2) (by simp) (by simp;rw[←hm2];simpa using htk')
  have r3:=(r2.act d v' (a8 ..)).putSlot d (.lf (.u w.heap.size c' e sz rows2)) (by
   rw[n1 (by rw[h.many];exact hn)]
   refine⟨by rw[hv',←hm2];simp,m9 ..,by rw[←hm2];omega,hmx',cur',hh',hcs',?_⟩
   have:=hrows.to himm
   simpa using this)
  rw[j7]at r3
  refine⟨v',w',_,_,.inl ?_,⟨_,c',rfl⟩,by rw[hd];exact r3⟩
  rw[hexec,hvx,hvy,Sem.run_bind,hrun];rfl
theorem M5 {P:Program}{E:Env}{σ:St}(d:Nat)(t ty e sz bytes:Nat)(x y:Operand)
 (ho:o.op= .call {callee:= .builtin .append,args:= #[x,y],argTypes:= #[t,t]}) (hty:o.type=ty) (hd:o.dst=some d) (hn:d<E.n) (he:Elem P t e sz bytes)
 (hx:opd σ x= .lf .nil) (hy:∀g w a,Rel E g w a σ→Src g w (a.eval y) sz []):Step P E o σ (·=upd σ (tk d) (.lf .nil)):=by
 refine Step.of_run fun g w a h=> ?_
 have hvx:=J5 h hx
 obtain⟨ay,m,cy,hvy,hm,hcy,hwid,hcells⟩:=hy g w a h
 obtain⟨i,z,hi,hz,hsz,hby,hzs⟩:=he.ok
 have hexec:execOp a.eval o=(do pure (Next.value (←Builtin.append_ #[t,t] o.type #[a.eval x,a.eval y])):Sem Next):=by
  simp[execOp,ho,resolve,invoke,builtin]
 simp at hm
 subst hm
 have hrun:=u4 (P:=P) (w:=w) t o.type e i he.und hi none 0 0 (Nat.le_refl _) ay cy
 refine⟨.slice none 0 0,w,drop (tk d) g,_,.inl ?_,rfl,by rw[hd];exact h.set d _ _ hn fun g' hg' hw'=>rfl⟩
 rw[hexec,hvx,hvy,Sem.run_bind,hrun];rfl
def lobjTags (k:Nat)(g:Nat→Tag):Nat→Tag:=fun b=>match g b with
 | .own k' i j=>if k'=k then .own 1 i j else .lent
 | .weak=> .lent
 |t=>t
theorem a1P (k:Nat)(g:Nat→Tag)(b:Nat):lobjTags k g b≠.weak:=by
 unfold lobjTags
 cases g b with
 |own x y z=>by_cases hx:x=k<;>simp[hx]
 |_=>simp
variable {k k' i j:Nat}
theorem r8 (h:lobjTags k g b= .own k' i j):k'=1∧g b= .own k i j:=by
 unfold lobjTags at h
 cases e:g b with
 |own x y z=>
  rw[e]at h
  by_cases hx:x=k
  ·simp only[hx,if_true,Tag.own.injEq]at h
   obtain⟨h1,h2,h3⟩:=h
   exact⟨h1.symm,by rw[hx,h2,h3]⟩
  ·simp only[hx,if_false]at h;cases h
 |none=>rw[e]at h;cases h
 |imm=>rw[e]at h;cases h
 |lent=>rw[e]at h;cases h
 |weak=>rw[e]at h;cases h
theorem a0e (h:g b= .own k i j):lobjTags k g b= .own 1 i j:=by
 unfold lobjTags;rw[h];simp
theorem a2F :lobjTags k g b= .imm↔g b= .imm:=by
 unfold lobjTags
 cases e:g b with
 |own x y z=>by_cases hx:x=k<;>simp[hx]
 |none=>simp
 |imm=>simp
 |lent=>simp
 |weak=>simp
theorem z7 {sh:Bool}(h:Imm g sh b):Imm (lobjTags k g) sh b:=by
 unfold Imm lobjTags at*
 rcases h with h|⟨h1,h⟩
 ·left;rw[h]
 ·right;refine⟨h1,?_⟩;rw[h]
def Slot.apartO :Slot→Bool
 | .cell _ ls=>ls.all Leaf.apart
 | .own _ ls _=>ls.all Leaf.apart
 |_=>false
variable {g':Nat→Tag} {w':World} {i' j':Nat} {v:Value} {l:Leaf}
theorem LeafRel.apartK (h:LeafRel g w k i j v l)(ha:l.apart=true)(h1:∀b,g b= .imm→g' b= .imm∧w'.heap[b]? =w.heap[b]?)
 (h2:∀b,g b= .own k i j→g' b= .own k' i' j'∧w'.heap[b]? =w.heap[b]?):LeafRel g' w' k' i' j' v l:=by
 cases l with
 |im sh x=>cases sh with
  |true=>exact SRep.mono h (fun b hb=>(h1 b hb.sh).2) fun b hb=> .inl (h1 b hb.sh).1
  |false=>cases ha
 |u b c e sz rows=>
  obtain⟨hv,hg,hc,hm,cur,hh,hs,hr⟩:=h
  exact⟨hv,(h2 b hg).1,hc,hm,cur,(h2 b hg).2.trans hh,hs,hr.1,fun i r j x k1 k2=>let⟨y,hy,hr'⟩:=hr.2 i r j x k1 k2;⟨y,hy,hr'.mono (fun b hb=>(h1 b hb.sh).2) fun b hb=> .inl (h1 b hb.sh).1⟩⟩
 |ap b c e sz rows=>cases ha
 |ul b c e sz rows=>cases ha
 |hd b n c=>exact h
 |ptr b off=>cases ha
 |nst sz rows i2 j2 b n c=>cases ha
 |sref sh row=>cases sh with
  |true=>
   obtain⟨b,off,hv,hb,hr⟩:=h
   refine⟨b,off,hv,fun hne=> .inl (h1 b (hb hne).sh).1,fun j x hx=> ?_⟩
   have hne:row≠[]:=by intro e;rw[e]at hx;simp at hx
   obtain⟨y,hy,hry⟩:=hr j x hx
   exact⟨y,by rw[World.cell?_of_block (w:=w) (h1 b (hb hne).sh).2];exact hy,hry.mono (fun b hb=>(h1 b hb.sh).2) fun b hb=> .inl (h1 b hb.sh).1⟩
  |false=>cases ha
 |nil=>exact h
 |hole=>trivial
variable {ls:List Leaf}
theorem LeavesRel.apartK {cs:Array Value}(h:LeavesRel g w k i cs ls)(ha:ls.all Leaf.apart=true)(h1:∀b,g b= .imm→g' b= .imm∧w'.heap[b]? =w.heap[b]?)
 (h2:∀b j,g b= .own k i j→g' b= .own k' i' j∧w'.heap[b]? =w.heap[b]?):LeavesRel g' w' k' i' cs ls:=
 ⟨h.1,fun j l v hl hv=>(h.2 j l v hl hv).apartK (List.all_eq_true.1 ha l (List.mem_of_getElem? hl)) h1 fun b hb=>h2 b j hb⟩
variable {s:Slot}
theorem CellRel.keyA (h:CellRel g w k s)(ha:s.apartO=true)(h1:∀b,g b= .imm→g' b= .imm∧w'.heap[b]? =w.heap[b]?)
 (hO:∀b i j,g b= .own k i j→g' b= .own k' i j∧w'.heap[b]? =w.heap[b]?):CellRel g' w' k' s:=by
 cases s with
 |cell b ls=>
  obtain⟨cur,e,hg,hh,hl⟩:=h
  exact⟨cur,e,(hO b 1 0 hg).1,(hO b 1 0 hg).2.trans hh,hl.apartK ha h1 fun b j hb=>hO b 0 j hb⟩
 |own b ls bs=>
  obtain⟨⟨cur,e,hg,hh,hl⟩,hb⟩:=h
  refine⟨⟨cur,e,(hO b 1 0 hg).1,(hO b 1 0 hg).2.trans hh,hl.apartK ha h1 fun b j hb=>hO b 0 j hb⟩,fun j B hB=> ?_⟩
  have:=hb j B hB
  cases B with
  |no=>trivial
  |mkh _ _ _ _ _ _ _ _ _=>exact this.elim
  |mk b2 c e2 sz rows=>
   obtain⟨k1,k2,k3,cur2,k4,k5,k6⟩:=this
   exact⟨(hO b2 2 j k1).1,k2,k3,cur2,(hO b2 2 j k1).2.trans k4,k5,k6.1,fun i r j x q1 q2=>let⟨y,hy,hr'⟩:=k6.2 i r j x q1 q2;⟨y,hy,hr'.mono (fun b hb=>(h1 b hb.sh).2) fun b hb=> .inl (h1 b hb.sh).1⟩⟩
 |_=>cases ha
theorem LeafRel.apartB (h:LeafRel g w k i j v l)(hb:l.bare=true)(ha:l.apart=true)(h1:∀b,g b= .imm→g' b= .imm):LeafRel g' w k' i' j' v l:=by
 cases l with
 |u b c e sz rows=>cases hb
 |im sh x=>cases sh with
  |true=>exact SRep.mono h (fun _ _=>rfl) fun b hb=> .inl (h1 b hb.sh)
  |false=>cases ha
 |ap b c e sz rows=>cases ha
 |ul b c e sz rows=>cases ha
 |hd b n c=>exact h
 |ptr b off=>cases ha
 |nst sz rows i2 j2 b n c=>cases ha
 |sref sh row=>cases sh with
  |true=>
   obtain⟨b,off,hv,hb,hr⟩:=h
   exact⟨b,off,hv,fun hne=> .inl (h1 b (hb hne).sh),fun j x hx=>let⟨y,hy,hry⟩:=hr j x hx;⟨y,hy,hry.mono (fun _ _=>rfl) fun b hb=> .inl (h1 b hb.sh)⟩⟩
  |false=>cases ha
 |nil=>exact h
 |hole=>trivial
theorem PartRel.apartB {p:Part}(h:PartRel g w k i v p)(hb:p.bare=true)(ha:p.apart=true)(h1:∀b,g b= .imm→g' b= .imm):PartRel g' w k' i' v p:=by
 cases p with
 |lf l=>exact LeafRel.apartB h hb ha h1
 |agg ls=>
  obtain⟨cs,hv,hsz,hls⟩:=h
  exact⟨cs,hv,hsz,fun j l v k1 k2=>(hls j l v k1 k2).apartB (List.all_eq_true.1 hb l (List.mem_of_getElem? k1)) (List.all_eq_true.1 ha l (List.mem_of_getElem? k1)) h1⟩
theorem SlotRel.apartB (h:SlotRel g w k v s)(hb:s.bare=true)(ha:s.apart=true)(h1:∀b,g b= .imm→g' b= .imm):SlotRel g' w k' v s:=by
 cases s with
 |one p=>exact PartRel.apartB h hb ha h1
 |tup ps=>
  obtain⟨vs,hv,hsz,hl⟩:=h
  exact⟨vs,hv,hsz,fun i p x k1 k2=>(hl i p x k1 k2).apartB (List.all_eq_true.1 hb p (List.mem_of_getElem? k1)) (List.all_eq_true.1 ha p (List.mem_of_getElem? k1)) h1⟩
 |_=>cases ha
theorem a3l {P:Program}{E:Env}{σ:St}(d t:Nat)(f:FuncId)(x:Operand)(xs:List Operand)(axs:Array Operand)(ats:Array TypeId)(ps:List Part)(b:Nat)(so:Slot)(Q0:Slot→Slot→Prop)
 (ho:o.op= .call {callee:= .value (.func f),args:=axs,argTypes:=ats}) (hax:axs.toList=x::xs) (hd:o.dst=some d) (hn:d<E.n) (hf:Text P f) (hx:opd σ x= .lf (.ptr b 0)) (hc:σ (ck t)=so)
 (hxs:∀g w a,Rel E g w a σ→xs.length=ps.length∧∀(i:Nat) p v,ps[i]? =some p→(xs.map a.eval)[i]? =some v→PartRel (lobjTags (ck t) g) w 0 i v p) (hcall:CallO P f ps b so Q0) (hQ0:∀so' s,Q0 so' s→s.bare=true∧s.apart=true∧so'.apartO=true) (hso:so.firm=true):Step P E o σ fun τ=>∃so' s,Q0 so' s∧τ=upd (upd σ (ck t) so') (tk d) s:=by
 intro g w a next Q hr hnext
 have hrun:(execOp a.eval o).run P w= .ok (.enter f (axs.map a.eval)) w:=by
  have e:execOp a.eval o=callFunc f (axs.map a.eval):=by
   simp[execOp,ho,resolve,Deferred.ofValue,Act.eval,invoke]
  rw[e,D4 hf]
 unfold Oper.wp
 rw[hrun,Oper.upon_enter]
 obtain⟨hl,hargs⟩:=hxs g w a hr
 have hobj:CellRel g w (ck t) so:=by have:=hr.cell t;rw[hc]at this;exact this
 have hvs:(axs.map a.eval).toList=a.eval x::xs.map a.eval:=by rw[Array.toList_map,hax];rfl
 have hget:∀i:Nat,(axs.map a.eval)[i]? =(a.eval x::xs.map a.eval)[i]? :=fun i=>by rw[←hvs,Array.getElem?_toList]
 have hlt:∀b,g b≠.none→b<w.heap.size:=fun b hn=>Nat.lt_of_not_le fun hle=>hn (hr.fresh b hle)
 refine(hcall (lobjTags (ck t) g) w (axs.map a.eval) ?_ ⟨fun b k i j h=>(r8 h).1,fun b b' k i j h h'=> ?_,fun b hb=> ?_,a1P _ _⟩ ?_ ?_ ?_ ?_).mono ?_
 ·intro w' hw'
  refine E.laid w' fun b0 hb0 hm0=> ?_
  rw[hw' b0 (Nat.lt_of_lt_of_le hb0 hr.size) fun i j h=> ?_,hr.old b0 hb0 hm0]
  rcases hr.mine _ _ _ _ (r8 h).2 with h|h
  ·omega
  ·exact hm0 h
 ·exact hr.uniq b b' (ck t) i j (r8 h).2 (r8 h').2
 ·unfold lobjTags;rw[hr.fresh b hb]
 ·rw[←Array.length_toList,hvs];simp[hl]
 ·rw[hget];exact congrArg some (G0 hr hx)
 ·intro i p v h1 h2
  exact hargs i p v h1 (by rw[hget]at h2;simpa using h2)
 ·exact hobj.key hso (fun sh b hb=>⟨z7 hb,rfl⟩) fun b i j hb=>⟨a0e hb,rfl⟩
 ·rintro en w1 ⟨v,g1,so',s,rfl,hos,htp,hout,hsz,hfr,hone,hQs,hobj1,hsv,hpl1⟩
  rw[hd]
  have r1:=hr.forget (tk d)
  have hG:∀b i j,drop (tk d) g b= .own (ck t) i j↔g b= .own (ck t) i j:=fun b i j=>by
   rw[C6];exact⟨fun h=>h.1,fun h=>⟨h,fun e=>v7 d t e.symm⟩⟩
  have hsame:∀b',b'<w.heap.size→(∀i j,g b'≠.own (ck t) i j)→w1.heap[b']? =w.heap[b']? :=
   fun b' hb' hno=>(hfr b' hb' fun i j h=>hno i j (r8 h).2).1
  have key:∀b0 k i j,backObj w.heap.size (ck t) (drop (tk d) g) g1 b0= .own k i j→(drop (tk d) g b0= .own k i j∧k≠ck t)∨(k=ck t∧g1 b0= .own 1 i j∧((∃i j,g b0= .own (ck t) i j)∨w.heap.size≤b0)):=by
   intro b0 k i j h
   have hun:∀{tg:Tag},unTag (ck t) tg= .own k i j→tg=g1 b0→k=ck t∧g1 b0= .own 1 i j:=by
    intro tg h1 h2
    cases tg with
    |own x y z=>
     simp only[unTag,Tag.own.injEq]at h1
     obtain⟨e1,e2,e3⟩:=h1
     have:=hone.own b0 x y z h2.symm
     exact⟨e1.symm,by rw[←h2,this,e2,e3]⟩
    |none=>cases h1
    |imm=>cases h1
    |lent=>cases h1
    |weak=>cases h1
   unfold backObj at h
   split at h
   ·rename_i hb0
    cases eg:drop (tk d) g b0 with
    |own x y z=>
     rw[eg]at h
     by_cases hx:x=ck t
     ·simp only[hx,if_true]at h
      obtain⟨k1,k2⟩:=hun h rfl
      exact .inr ⟨k1,k2,.inl ⟨y,z,(hG _ _ _).1 (by rw[eg,hx])⟩⟩
     ·simp only[hx,if_false]at h
      cases h
      exact .inl ⟨rfl,hx⟩
    |none=>rw[eg]at h;cases h
    |imm=>rw[eg]at h;cases h
    |lent=>rw[eg]at h;cases h
    |weak=>rw[eg]at h;cases h
   ·rename_i hb0
    obtain⟨k1,k2⟩:=hun h rfl
    exact .inr ⟨k1,k2,.inr (by omega)⟩
  have himm:∀b0,g1 b0= .imm→backObj w.heap.size (ck t) (drop (tk d) g) g1 b0= .imm:=by
   intro b0 h0
   unfold backObj
   by_cases hb0:b0<w.heap.size
   ·simp only[if_pos hb0]
    by_cases ho':∃i j,g b0= .own (ck t) i j
    ·obtain⟨i,j,ho'⟩:=ho'
     rw[(hG _ _ _).2 ho']
     simp only[if_true,h0];rfl
    ·have h1:=(hfr b0 hb0 fun i j h=>ho' ⟨i,j,(r8 h).2⟩).2
     rw[h0]at h1
     have h3:g b0= .imm:=a2F.1 h1.symm
     rw[W6.2 h3]
   ·simp only[if_neg hb0,h0];rfl
  have r2:Rel E (backObj w.heap.size (ck t) (drop (tk d) g) g1) w1 a (upd (upd σ (tk d) Slot.hole) (ck t) so'):=by
   refine r1.turn (fun k=>k=ck t) hr.defers hos htp hout hsz ?_ ?_ ?_ rfl (fun _ _=>rfl) ?_ ?_ ?_ ?_ ?_ ?_ ?_ (a1Y hone.firm)
   ·intro b0 hb0 hno
    exact hsame b0 hb0 fun i j h=>hno _ _ _ ((hG _ _ _).2 h) rfl
   ·intro b0 hno hne
    have hb0:b0<w.heap.size:=Nat.lt_of_not_le fun hle=>hne (r1.fresh b0 hle)
    unfold backObj
    rw[if_pos hb0]
    cases eg:drop (tk d) g b0 with
    |own x y z=>simp only;rw[if_neg (fun e0=>hno x y z eg e0)]
    |_=>rfl
   ·intro k hk;exact d4 _ _ hk
   ·intro t' h;exact absurd h (v7 _ _)
   ·intro t' h
    rw[h,a8]
    refine hobj1.keyA (hQ0 _ _ hQs).2.2 (fun b0 h0=>⟨himm b0 h0,rfl⟩) fun b0 i j h0=>⟨?_,rfl⟩
    unfold backObj
    by_cases hb0:b0<w.heap.size
    ·rw[if_pos hb0]
     have:∃i' j',g b0= .own (ck t) i' j':=by
      refine Classical.byContradiction fun hno=> ?_
      have h1:=(hfr b0 hb0 fun i' j' h=>hno ⟨i',j',(r8 h).2⟩).2
      rw[h0]at h1
      exact hno ⟨_,_,(r8 h1.symm).2⟩
     obtain⟨i',j',h1⟩:=this
     rw[(hG _ _ _).2 h1]
     simp only[if_true,h0,unTag]
    ·rw[if_neg hb0,h0];rfl
   ·intro b0 hb0
    have:¬b0<w.heap.size:=by omega
    unfold backObj
    rw[if_neg this,hone.fresh b0 hb0];rfl
   ·intro b0 k i j h
    rcases key b0 k i j h with⟨h1,_⟩|⟨_,_,⟨i',j',h1⟩|h1⟩
    ·exact r1.mine _ _ _ _ h1
    ·exact hr.mine _ _ _ _ h1
    ·exact .inl (Nat.le_trans hr.size h1)
   ·intro b0 b0' k i j h h'
    rcases key b0 k i j h with⟨h1,h2⟩|⟨h1,h2,_⟩<;>rcases key b0' k i j h' with⟨h1',h2'⟩|⟨h1',h2',_⟩
    ·exact r1.uniq _ _ _ _ _ h1 h1'
    ·exact absurd h1' h2
    ·exact absurd h1 h2'
    ·exact hone.uniq _ _ _ _ _ h2 h2'
   ·intro b0 hb0 hm0
    have hb1:b0<w.heap.size:=Nat.lt_of_lt_of_le hb0 hr.size
    unfold backObj
    rw[if_pos hb1]
    cases eg:drop (tk d) g b0 with
    |own x y z=>
     rcases r1.mine _ _ _ _ eg with h|h
     ·omega
     ·exact absurd h hm0
    |_=>rfl
   ·intro b0 hb0 e
    by_cases hb1:b0<w.heap.size
    ·unfold backObj at e
     rw[if_pos hb1]at e
     cases eg:drop (tk d) g b0 with
     |own x y z=>
      rw[eg]at e
      by_cases hx:x=ck t
      ·simp only[hx,if_true]at e
       cases e1:g1 b0 with
       |imm=>
        have e2:=(hG b0 y z).1 (by rw[eg,hx])
        exact hpl1 b0 e1 (by rw[a0e e2];intro e3;cases e3)
       |own _ _ _=>rw[e1]at e;cases e
       |none=>rw[e1]at e;cases e
       |lent=>rw[e1]at e;cases e
       |weak=>rw[e1]at e;cases e
      ·simp only[hx,if_false]at e;cases e
     |imm=>exact(r1.soft b0 hb0 eg).to (hsame b0 hb1 fun i j h=>by have:=(hG _ _ _).2 h;rw[eg]at this;cases this)
     |none=>rw[eg]at e;cases e
     |lent=>rw[eg]at e;cases e
     |weak=>rw[eg]at e;cases e
    ·unfold backObj at e
     rw[if_neg hb1]at e
     cases e1:g1 b0 with
     |imm=>exact hpl1 b0 e1 (by unfold lobjTags;rw[hr.fresh b0 (by omega)];intro e3;cases e3)
     |own _ _ _=>rw[e1]at e;cases e
     |none=>rw[e1]at e;cases e
     |lent=>rw[e1]at e;cases e
     |weak=>rw[e1]at e;cases e
  have r3:=(r2.act d v (by rw[d4 _ _ (v7 d t),a8])).putSlot d s (by
   rw[n1 (by rw[hr.many];exact hn)]
   exact hsv.apartB (hQ0 _ _ hQs).1 (hQ0 _ _ hQs).2.1 himm)
  refine hnext _ w1 _ _ ⟨so',s,hQs,?_⟩ r3
  rw[E0 _ _ _ (j8 t d),j7,E0 _ _ _ (j8 t d).symm]
theorem SRep.put {S S':Nat→Prop}{rows':List (List SV)}{X:SV}(h:SRep S w v (.sl sz rows))(hr:rows=putHd rows' i j (.hd b n c))(hS:∀b,S b→S' b)
 (hX:SRep S' w (.slice (some ⟨b,0,none⟩) n c) X):SRep S' w v (.sl sz (putHd rows' i j X)):=by
 have hlen:(putHd rows' i j X).length=rows.length:=by rw[hr];simp[putHd]
 generalize hx:SV.sl sz rows=x at h
 have get:∀(i':Nat) (r':List SV) (j':Nat) (x':SV),(putHd rows' i j X)[i']? =some r'→r'[j']? =some x'→∃(r:List SV) (x:SV),rows[i']? =some r∧r[j']? =some x∧(x'=x∨(x= .hd b n c∧x'=X)):=by
  intro i' r' j' x' h1 h2
  subst hr
  unfold putHd at h1⊢
  rw[List.getElem?_modify]at h1⊢
  cases hq:rows'[i']? with
  |none=>rw[hq]at h1;simp at h1
  |some r0=>
   rw[hq]at h1
   by_cases hi:i=i'
   ·simp only[hi,if_true,Option.map_eq_map,Option.map_some,Option.some.injEq]at h1⊢
    subst h1
    rw[List.getElem?_set]at h2
    by_cases hj:j=j'
    ·subst hj
     simp only[if_true]at h2
     split at h2
     ·rename_i hlt
      cases h2
      exact⟨_,_,rfl,by rw[List.getElem?_set];simp[hlt],.inr ⟨rfl,rfl⟩⟩
     ·cases h2
    ·rw[if_neg hj]at h2
     exact⟨_,_,rfl,by rw[List.getElem?_set,if_neg hj];exact h2,.inl rfl⟩
   ·simp only[if_neg hi,Option.map_eq_map,Option.map_some,id,Option.some.injEq]at h1⊢
    subst h1
    exact⟨_,_,rfl,h2,.inl rfl⟩
 have hw:(∀r∈rows,r.length=sz)→∀r∈putHd rows' i j X,r.length=sz:=by
  intro hw r hm
  obtain⟨i',hi'⟩:=List.mem_iff_getElem?.1 hm
  subst hr
  unfold putHd at hi' hw
  rw[List.getElem?_modify]at hi'
  cases hq:rows'[i']? with
  |none=>rw[hq]at hi';simp at hi'
  |some r0=>
   rw[hq]at hi'
   have h0:=hw (if i=i' then r0.set j (.hd b n c)else r0) (List.mem_iff_getElem?.2 ⟨i',by rw[List.getElem?_modify,hq];by_cases hi:i=i'<;>simp[hi]⟩)
   by_cases hi:i=i'
   ·simp only[hi,if_true,Option.map_eq_map,Option.map_some,Option.some.injEq]at hi' h0
    subst hi'
    simpa using h0
   ·simp only[if_neg hi,Option.map_eq_map,Option.map_some,id,Option.some.injEq]at hi' h0
    subst hi'
    exact h0
 cases h with
 |nil sz' a cap=>
  cases hx
  have:putHd rows' i j X=[]:=List.length_eq_zero_iff.1 (by rw[hlen];rfl)
  rw[this];exact .nil _ _ _
 |sl b0 off n0 cap sz' rows0 cv hn hc hwd hSb hcell hrep=>
  cases hx
  refine .sl b0 off n0 cap sz _ cv (by rw[hlen];exact hn) hc (hw hwd) (hS _ hSb) (fun i' r' j' x' h1 h2=> ?_) (fun i' r' j' x' h1 h2=> ?_)
  ·obtain⟨r,x,k1,k2,-⟩:=get i' r' j' x' h1 h2
   exact hcell i' r j' x k1 k2
  ·obtain⟨r,x,k1,k2,k3⟩:=get i' r' j' x' h1 h2
   have hs:=hrep i' r j' x k1 k2
   rcases k3 with k3|⟨k3,k4⟩
   ·rw[k3];exact hs.mono (fun _ _=>rfl) hS
   ·subst k3 k4
    have:cv (i'*sz+j')= .slice (some ⟨b,0,none⟩) n c:=by
     generalize hcv:cv (i'*sz+j')=y at hs
     cases hs;rfl
    rw[this];exact hX
 |_=>cases hx
variable {t0:Nat}
theorem a6L (h:Rel E g w a σ)(hk:σ (tk t)= .lf (.u b c e sz rows))(hn:n=rows.length):SRep (Imm (lobjTags (ck t0) g) false) w (.slice (some ⟨b,0,none⟩) n c) (.sl sz rows):=by
 have hs:=h.slot t
 rw[hk]at hs
 obtain⟨hv,hg,hc,hm,cur,hh,hsz,hr⟩:=hs
 subst hn
 exact hr.data hh hc _ (fun x hx=>z7 (.inl hx)) (.inr ⟨rfl,by unfold lobjTags;rw[hg];simp only;rw[if_neg (v7 t t0)]⟩)
theorem a6d (h:Rel E g w a σ){b0:Nat}{bs:List Blk}(hne:k≠t0)(hk:σ (ck k)= .own b0 ls bs)(hj:bs[j]? =some (.mk b c e sz rows))(hn:n=rows.length):
 SRep (Imm (lobjTags (ck t0) g) false) w (.slice (some ⟨b,0,none⟩) n c) (.sl sz rows):=by
 have hs:=h.cell k
 rw[hk]at hs
 obtain⟨hg,hc,hm,cur,hh,hsz,hr⟩:=hs.2 j _ hj
 subst hn
 exact hr.data hh hc _ (fun x hx=>z7 (.inl hx)) (.inr ⟨rfl,by unfold lobjTags;rw[hg];simp only;rw[if_neg (fun e=>hne (by have e2:2*k+1=2*t0+1:=e;omega))]⟩)
end Go.Proofs.Ytjfjdgjhihgdkaa.V
namespace Go.Proofs.Ytjfjdgjhihgdkaa.V
open Go Go.RowKit
variable {g:Nat→Tag} {sh:Bool}
theorem Imm.any {b:Nat}(h:Imm g sh b):Imm g false b:=by
 rcases h with h|⟨_,h⟩
 ·exact .inl h
 ·exact .inr ⟨rfl,h⟩
def SrcL (g:Nat→Tag)(w:World)(v:Value)(sz:Nat)(rows2:List (List SV)):Prop:=
 ∃ay m cy,v= .slice ay m cy∧m=rows2.length∧m≤cy∧(∀r∈rows2,r.length=sz)∧(rows2≠[]→∃ad,ay=some ad∧∃news:List Value,news.length=rows2.length*sz∧
  (∀(j:Nat) u,news[j]? =some u→w.cell? (ad.add j)=some u)∧(∀u∈news,u.oneCell'=true)∧∀i r j x,rows2[i]? =some r→r[j]? =some x→∃y,news[i*sz+j]? =some y∧SRep (Imm g false) w y x)
variable {E:Env} {w:World} {a:Act} {σ:St} {sz:Nat} {rows:List (List SV)}
theorem a5K (h:Rel E g w a σ){y:Operand}(hsz:0<sz)(hy:opd σ y= .lf (.im sh (.sl sz rows))):SrcL g w (a.eval y) sz rows:=by
 have hyr:=E7 h hy
 obtain⟨ay,m,cy,hvy,hm,hcy⟩:=SRep.slice_form hyr
 rw[hvy]at hyr⊢
 refine⟨_,_,_,rfl,hm,hcy,hyr.width,fun hne=> ?_⟩
 obtain⟨ad,ha,-,news,h1,h2,h3,h4⟩:=hyr.cells hne hsz
 exact⟨ad,ha,news,h1,h2,h3,fun i r j x k1 k2=>let⟨y,hy,hs⟩:=h4 i r j x k1 k2;⟨y,hy,hs.mono (fun _ _=>rfl) fun b hb=>hb.any⟩⟩
theorem a7q (t b c e sz:Nat)(rows:List (List SV))(hx:σ (tk t)= .lf (.u b c e sz rows)):Turn E σ (·=upd σ (tk t) (.lf (.ul b c e sz rows))):=by
 intro g w a h
 have hs:=h.slot t
 rw[hx]at hs
 obtain⟨hv,hg,hc,hm,cur,hh,hsz,hr⟩:=hs
 exact⟨g,_,rfl,h.putSlot t (.lf (.ul b c e sz rows)) ⟨hv,hg,hc,hm,cur,hh,hsz,hr.lent⟩⟩
theorem a2C (t b c e sz:Nat)(rows:List (List SV))(hx:σ (tk t)= .lf (.ul b c e sz rows)):Turn E σ (·=upd σ (tk t) (.lf (.im false (.sl sz rows)))):=by
 intro g w a h
 have hs:=h.slot t
 rw[hx]at hs
 obtain⟨hv,hg,hc,hm,cur,hh,hsz,hr⟩:=hs
 have hlt:b<w.heap.size:=(Array.getElem?_eq_some_iff.1 hh).1
 have hb1:drop (tk t) g b= .none:=D2 hg
 have r2:=(h.forget (tk t)).tag1 b .imm hb1 hlt (h.mine b _ _ _ hg) (fun _ _ _ _ e=>by cases e) (fun _=>⟨_,_,hh⟩)
 have hI:∀q,Imm g false q→Imm (tag1 (drop (tk t) g) b .imm) false q:=fun q hq=>Imm.tag1 hb1 (l8.2 hq)
 have r3:=r2.putSlot t (.lf (.im false (.sl sz rows))) (by
  show SRep _ _ _ _
  rw[hv]
  refine .sl b 0 rows.length c sz rows (fun j=>cur.getD j undef) rfl hc hr.1 (.inl (m9 ..)) ?_ ?_
  ·intro i r j x h1 h2
   obtain⟨y,hy,_⟩:=hr.2 i r j x h1 h2
   simp[World.cell?,hh,hy,Array.getD_eq_getD_getElem?]
  ·intro i r j x h1 h2
   obtain⟨y,hy,hs⟩:=hr.2 i r j x h1 h2
   rw[Array.getD_eq_getD_getElem?,hy]
   exact hs.mono (fun _ _=>rfl) hI)
 rw[j7]at r3
 exact⟨_,_,rfl,r3⟩
theorem a0m (t:Nat)(v:SV)(hx:σ (tk t)= .lf (.im true v)):Turn E σ (·=upd σ (tk t) (.lf (.im false v))):=by
 intro g w a h
 have hs:=h.slot t
 rw[hx]at hs
 exact⟨g,_,rfl,h.putSlot t (.lf (.im false v)) (SRep.mono hs (fun _ _=>rfl) fun b hb=>Imm.any hb)⟩
theorem RowsInL.append {cur cur':Array Value}{rows2:List (List SV)}{news:List Value}(h:RowsInL g w cur sz rows)(hw:∀r∈rows2,r.length=sz)
 (hn:∀i r j x,rows2[i]? =some r→r[j]? =some x→∃y,news[i*sz+j]? =some y∧SRep (Imm g false) w y x) (hl:(cur.toList.take (rows.length*sz)).length=rows.length*sz)
 (hc:cur'.toList.take ((rows.length+rows2.length)*sz)=cur.toList.take (rows.length*sz)++news):RowsInL g w cur' sz (rows++rows2):=by
 have get:∀k,k<(rows.length+rows2.length)*sz→cur'[k]? =(cur.toList.take (rows.length*sz)++news)[k]? :=by
  intro k hk
  rw[←hc,List.getElem?_take,if_pos hk,Array.getElem?_toList]
 refine⟨fun r hr=> ?_,fun i r j x h1 h2=> ?_⟩
 ·rcases List.mem_append.1 hr with hr|hr
  ·exact h.1 r hr
  ·exact hw r hr
 ·have hj:=(List.getElem?_eq_some_iff.1 h2).1
  by_cases hi:i<rows.length
  ·rw[List.getElem?_append_left hi]at h1
   have hwd:=h.1 r (List.mem_of_getElem? h1)
   obtain⟨y,hy,hs⟩:=h.2 i r j x h1 h2
   refine⟨y,?_,hs⟩
   have hlt:=E6 hi (show j<sz by omega)
   rw[get _ (by rw[Nat.add_mul];omega),List.getElem?_append_left (by rw[hl];exact hlt),List.getElem?_take,if_pos hlt,Array.getElem?_toList]
   exact hy
  ·rw[List.getElem?_append_right (by omega)]at h1
   have hwd:=hw r (List.mem_of_getElem? h1)
   have hi2:=(List.getElem?_eq_some_iff.1 h1).1
   obtain⟨y,hy,hs⟩:=hn _ r j x h1 h2
   refine⟨y,?_,hs⟩
   have hlt:=E6 hi2 (show j<sz by omega)
   have e1:i*sz+j=rows.length*sz+((i-rows.length)*sz+j):=by
    have:i=rows.length+(i-rows.length):=by omega
    rw[this,Nat.add_mul];simp;omega
   rw[get _ (by rw[Nat.add_mul];omega),List.getElem?_append_right (by rw[hl];omega),hl,e1,Nat.add_sub_cancel_left]
   exact hy
theorem Rel.moveUL (h:Rel E g w a σ)(d k i j b c e sz:Nat)(rows:List (List SV))(v:Value)(hn:d<E.n)(hk:σ k≠Slot.hole∨True)
 (hl:LeafRel g w k i j v (.ul b c e sz rows)):∃g',Rel E g' w (a.put (some d) v) (upd (upd σ k Slot.hole) (tk d) (.lf (.ul b c e sz rows))):=by
 obtain⟨hv,hg,hc,hm,cur,hh,hs,hr⟩:=hl
 have hlt:b<w.heap.size:=(Array.getElem?_eq_some_iff.1 hh).1
 have r1:=(h.forget k).forget (tk d)
 have hb1:drop k g b= .none:=D2 hg
 have hb2:drop (tk d) (drop k g) b= .none:=d7 hb1
 have r2:=r1.tag1 b (.own (tk d) 0 0) hb2 hlt (h.mine b k i j hg) (fun b' k' i' j' e=>by cases e;exact y4 _ _ _ _ _)
 have r3:=(r2.act d v (a8 ..)).putSlot d (.lf (.ul b c e sz rows)) (by
  rw[n1 (by rw[h.many];exact hn)]
  refine⟨hv,m9 ..,hc,hm,cur,hh,hs,hr.to fun sh b' hb'=>⟨?_,rfl⟩⟩
  exact Imm.tag1 hb2 (l8.2 (l8.2 hb')))
 rw[j7]at r3
 exact⟨_,r3⟩
variable {o:Oper}
theorem U9 {P:Program}{E:Env}{σ:St}(d:Nat)(t ty e sz bytes:Nat)(x y:Operand)(kt b c:Nat)(rows rows2:List (List SV))
 (ho:o.op= .call {callee:= .builtin .append,args:= #[x,y],argTypes:= #[t,t]}) (hty:o.type=ty) (hd:o.dst=some d) (hn:d<E.n) (he:Elem P t e sz bytes)
 (hk:σ (tk kt)= .lf (.ul b c e sz rows)) (hx:x= .tmp kt∨opd σ x= .lf (.hd b rows.length c)) (hy:∀g w a,Rel E g w a σ→SrcL g w (a.eval y) sz rows2)
 (hsmall:(rows.length+rows2.length)*bytes≤140737488355328) (hmax:rows.length+rows2.length≤maxLen):
 Step P E o σ fun τ=>∃b' c',τ=upd (upd σ (tk kt) Slot.hole) (tk d) (.lf (.ul b' c' e sz (rows++rows2))):=by
 refine Step.of_run fun g w a h=> ?_
 have hs:=h.slot kt
 rw[hk]at hs
 have hvk:a.tmps.getD kt undef= .slice (some ⟨b,0,none⟩) rows.length c:=hs.1
 have hvx:a.eval x= .slice (some ⟨b,0,none⟩) rows.length c:=by
  rcases hx with rfl|hx
  ·exact hvk
  ·exact a0N h hx
 obtain⟨ay,m,cy,hvy,hm,hcy,hwid,hcells⟩:=hy g w a h
 obtain⟨i,z,hi,hz,hsz,hby,hzs⟩:=he.ok
 have hexec:execOp a.eval o=(do pure (Next.value (←Builtin.append_ #[t,t] o.type #[a.eval x,a.eval y])):Sem Next):=by
  simp[execOp,ho,resolve,invoke,builtin]
 by_cases hempty:rows2=[]
 ·subst hempty
  simp at hm
  subst hm
  have hrun:=u4 (P:=P) (w:=w) t o.type e i he.und hi (some ⟨b,0,none⟩) rows.length c hs.2.2.1 ay cy
  obtain⟨g',hr⟩:=h.moveUL d (tk kt) 0 0 b c e sz rows (.slice (some ⟨b,0,none⟩) rows.length c) hn (.inr trivial) ⟨rfl,hs.2⟩
  refine⟨_,w,g',_,.inl ?_,⟨b,c,rfl⟩,by rw[hd];simpa using hr⟩
  rw[hexec,hvx,hvy,Sem.run_bind,hrun];rfl
 ·have hm2:=hm
  obtain⟨ad,rfl,news,hnl,hnc,hn1,hnr⟩:=hcells hempty
  obtain⟨_,hg,hc,hmx,cur,hh,hcs,hr⟩:=hs
  have hlt:b<w.heap.size:=(Array.getElem?_eq_some_iff.1 hh).1
  have htake:(cur.toList.take (rows.length*sz)).length=rows.length*sz:=by
   rw[List.length_take,Array.length_toList (xs:=cur),hcs]
   exact Nat.min_eq_left (Nat.mul_le_mul_right _ hc)
  have hown:w.ownsRow 0 e sz (.slice (some ⟨b,0,none⟩) rows.length c) rows.length (cur.toList.take (rows.length*sz)):=
   ⟨htake,.inr ⟨b,c,cur,rfl,Nat.zero_le _,hh,hc,hmx,hcs,rfl⟩⟩
  obtain⟨v',w',hrun,hown',hgrow,hnil,hwhere⟩:=run_append_own_at (P:=P) (w:=w) 0 t o.type e i z sz bytes he.und hi hz hsz hby hzs he.pos _ rows.length _ hown ad m cy news (by rw[hnl,hm2]) hnc hn1 (by rw[hm2];exact hmax) (by rw[hm2];exact hsmall) (Nat.zero_le _)
  obtain⟨hl',hform⟩:=hown'
  rcases hform with⟨_,h0⟩|⟨b',c',cur',hv',_,hh',hc',hmx',hcs',htk'⟩
  ·exfalso
   have:rows2.length≠0:=fun e=>hempty (List.length_eq_zero_iff.1 e)
   omega
  ·have r1:=(h.forget (tk kt)).forget (tk d)
   have hb2:drop (tk d) (drop (tk kt) g) b= .none:=d7 (D2 hg)
   have hbl:Value.ownBlock (.slice (some ⟨b,0,none⟩) rows.length c)=some b:=rfl
   have r2:Rel E (drop (tk d) (drop (tk kt) g)) w' a (upd (upd σ (tk kt) Slot.hole) (tk d) Slot.hole):=by
    refine r1.world hgrow.os hgrow.tape hgrow.output hgrow.size fun b0 hb0=> ?_
    by_cases e0:b0=b
    ·subst e0;exact .inr ⟨hb2,h.mine b0 _ _ _ hg⟩
    ·exact .inl (hgrow.block b0 hb0 (by rw[hbl];intro e;cases e;exact e0 rfl))
   have hlt':b'<w'.heap.size:=(Array.getElem?_eq_some_iff.1 hh').1
   have hb':b'=b∨w.heap.size≤b':=by
    rw[hv']at hwhere
    rcases hwhere with e|e
    ·left;simp only[Value.ownBlock,Option.some.injEq]at e;exact e
    ·right;simp only[Value.ownBlock,Option.some.injEq]at e;omega
   have hnone:drop (tk d) (drop (tk kt) g) b'= .none:=by
    rcases hb' with rfl|hge
    ·exact hb2
    ·exact d7 (d7 (h.fresh b' hge))
   have r3:=r2.tag1 b' (.own (tk d) 0 0) hnone hlt' (by
    rcases hb' with rfl|hge
    ·exact h.mine b' _ _ _ hg
    ·left;have:=h.size;omega) (fun b'' k' i' j' e=>by cases e;exact y4 _ _ _ _ _)
   have himm:∀sh x,Imm g sh x→Imm (tag1 (drop (tk d) (drop (tk kt) g)) b' (.own (tk d) 0 0)) sh x∧w'.heap[x]? =w.heap[x]? :=by
    intro sh x hx
    refine⟨Imm.tag1 hnone (l8.2 (l8.2 hx)),?_⟩
    have hxl:x<w.heap.size:=Nat.lt_of_not_le fun hle=>by rcases hx with e|⟨_,e⟩<;>rw[h.fresh x hle]at e<;>cases e
    refine hgrow.block x hxl ?_
    rw[hbl];intro e;cases e
    rcases hx with e|⟨_,e⟩<;>rw[hg]at e<;>cases e
   have hrows:RowsInL g w cur' sz (rows++rows2):=hr.append hwid (fun i r j x h1 h2=>hnr i r j x h1 h2) htake (by rw[←hm2,htk'])
   have r4:=(r3.act d v' (a8 ..)).putSlot d (.lf (.ul b' c' e sz (rows++rows2))) (by
    rw[n1 (by rw[h.many];exact hn)]
    refine⟨by rw[hv',List.length_append,←hm2],m9 ..,by rw[List.length_append,←hm2];exact hc',hmx',cur',hh',hcs',hrows.to himm⟩)
   rw[j7]at r4
   refine⟨v',w',_,_,.inl ?_,⟨b',c',rfl⟩,by rw[hd];exact r4⟩
   rw[hexec,hvx,hvy,Sem.run_bind,hrun];rfl
theorem M4 {P:Program}{E:Env}{σ:St}(d:Nat)(t ty e sz bytes:Nat)(x y:Operand)(rows2:List (List SV))
 (ho:o.op= .call {callee:= .builtin .append,args:= #[x,y],argTypes:= #[t,t]}) (hty:o.type=ty) (hd:o.dst=some d) (hn:d<E.n) (he:Elem P t e sz bytes)
 (hx:opd σ x= .lf .nil) (hy:∀g w a,Rel E g w a σ→SrcL g w (a.eval y) sz rows2) (hne:rows2≠[])
 (hsmall:rows2.length*bytes≤140737488355328) (hmax:rows2.length≤maxLen):Step P E o σ fun τ=>∃b' c',τ=upd σ (tk d) (.lf (.ul b' c' e sz rows2)):=by
 refine Step.of_run fun g w a h=> ?_
 have hvx:=J5 h hx
 obtain⟨ay,m,cy,hvy,hm,hcy,hwid,hcells⟩:=hy g w a h
 obtain⟨i,z,hi,hz,hsz,hby,hzs⟩:=he.ok
 have hexec:execOp a.eval o=(do pure (Next.value (←Builtin.append_ #[t,t] o.type #[a.eval x,a.eval y])):Sem Next):=by
  simp[execOp,ho,resolve,invoke,builtin]
 have hm2:=hm
 obtain⟨ad,rfl,news,hnl,hnc,hn1,hnr⟩:=hcells hne
 have hown:w.ownsRow 0 e sz (.slice none 0 0) 0 []:=World.ownsRow_nil w 0 e sz
 obtain⟨v',w',hrun,hown',hgrow,hnil,hwhere⟩:=run_append_own_at (P:=P) (w:=w) 0 t o.type e i z sz bytes he.und hi hz hsz hby hzs he.pos _ 0 [] hown ad m cy news (by rw[hnl,hm2]) hnc hn1 (by rw[hm2];omega) (by rw[hm2];simpa using hsmall) (Nat.zero_le _)
 obtain⟨hl',hform⟩:=hown'
 rcases hform with⟨_,h0⟩|⟨b',c',cur',hv',_,hh',hc',hmx',hcs',htk'⟩
 ·exfalso
  have:rows2.length≠0:=fun e=>hne (List.length_eq_zero_iff.1 e)
  omega
 ·have hb':b'=w.heap.size:=by
   rw[hv']at hwhere
   rcases hwhere with e0|e0
   ·simp[Value.ownBlock]at e0
   ·simpa[Value.ownBlock]using e0
  subst hb'
  have hfr:g w.heap.size= .none:=h.fresh _ (Nat.le_refl _)
  have r1:=(h.forget (tk d)).world hgrow.os hgrow.tape hgrow.output hgrow.size fun b0 hb0=> .inl (hgrow.block b0 hb0 (by intro e0;cases e0))
  have hb0:drop (tk d) g w.heap.size= .none:=d7 hfr
  have hlt':w.heap.size<w'.heap.size:=(Array.getElem?_eq_some_iff.1 hh').1
  have r2:=r1.tag1 w.heap.size (.own (tk d) 0 0) hb0 hlt' (.inl h.size) (fun b' k' i' j' e=>by cases e;exact y4 _ _ _ _ _)
  have himm:∀sh x,Imm g sh x→Imm (tag1 (drop (tk d) g) w.heap.size (.own (tk d) 0 0)) sh x∧w'.heap[x]? =w.heap[x]? :=by
   intro sh x hx
   refine⟨Imm.tag1 hb0 (l8.2 hx),?_⟩
   have hxl:x<w.heap.size:=Nat.lt_of_not_le fun hle=>by rcases hx with e|⟨_,e⟩<;>rw[h.fresh x hle]at e<;>cases e
   exact hgrow.block x hxl (by intro e0;cases e0)
  have hrows:RowsInL g w cur' sz ([]++rows2):=RowsInL.append (cur:= #[]) (rows:=[]) ⟨(by intro r hr;cases hr),(by intro i r j x h1;simp at h1)⟩ hwid (fun i r j x h1 h2=>hnr i r j x h1 h2) (by simp) (by simp;rw[←hm2];simpa using htk')
  have r3:=(r2.act d v' (a8 ..)).putSlot d (.lf (.ul w.heap.size c' e sz rows2)) (by
   rw[n1 (by rw[h.many];exact hn)]
   refine⟨by rw[hv',←hm2];simp,m9 ..,by rw[←hm2];omega,hmx',cur',hh',hcs',?_⟩
   have:=hrows.to himm
   simpa using this)
  rw[j7]at r3
  refine⟨v',w',_,_,.inl ?_,⟨_,c',rfl⟩,by rw[hd];exact r3⟩
  rw[hexec,hvx,hvy,Sem.run_bind,hrun];rfl
theorem K1 {P:Program}{E:Env}{σ:St}(d:Nat)(t ty e sz bytes:Nat)(x y:Operand)
 (ho:o.op= .call {callee:= .builtin .append,args:= #[x,y],argTypes:= #[t,t]}) (hty:o.type=ty) (hd:o.dst=some d) (hn:d<E.n) (he:Elem P t e sz bytes)
 (hx:opd σ x= .lf .nil) (hy:∀g w a,Rel E g w a σ→SrcL g w (a.eval y) sz []):Step P E o σ (·=upd σ (tk d) (.lf .nil)):=by
 refine Step.of_run fun g w a h=> ?_
 have hvx:=J5 h hx
 obtain⟨ay,m,cy,hvy,hm,hcy,hwid,hcells⟩:=hy g w a h
 obtain⟨i,z,hi,hz,hsz,hby,hzs⟩:=he.ok
 have hexec:execOp a.eval o=(do pure (Next.value (←Builtin.append_ #[t,t] o.type #[a.eval x,a.eval y])):Sem Next):=by
  simp[execOp,ho,resolve,invoke,builtin]
 simp at hm
 subst hm
 have hrun:=u4 (P:=P) (w:=w) t o.type e i he.und hi none 0 0 (Nat.le_refl _) ay cy
 refine⟨.slice none 0 0,w,drop (tk d) g,_,.inl ?_,rfl,by rw[hd];exact h.set d _ _ hn fun g' hg' hw'=>rfl⟩
 rw[hexec,hvx,hvy,Sem.run_bind,hrun];rfl
end Go.Proofs.Ytjfjdgjhihgdkaa.V
namespace Go.Proofs.Ytjfjdgjhihgdkaa.V
open Go Go.RowKit
variable {S:Nat→Prop} {w:World} {v:Value}
theorem SRep.nl_form (h:SRep S w v .nl):∃a,v= .slice a 0 0:=by
 cases h with
 |nl a=>exact⟨a,rfl⟩
theorem SRep.hd_form {b n c:Nat}(h:SRep S w v (.hd b n c)):v= .slice (some ⟨b,0,none⟩) n c:=by
 cases h with
 |hd=>rfl
def ScalarH (rows:List (List SV)):Prop:=∀r∈rows,∀x∈r,x.isVal=true∨∃b n c,x= .hd b n c
theorem ScalarH.im {g:Nat→Tag}{rows:List (List SV)}{sh:Bool}(h:sh=true∨ScalarH rows){i j:Nat}{r:List SV}{x:SV}{y:Value}(h1:rows[i]? =some r)(h2:r[j]? =some x)(hs:SRep (Imm g sh) w y x):SRep (Imm g true) w y x:=by
 rcases h with rfl|h
 ·exact hs
 ·rcases h r (List.mem_of_getElem? h1) x (List.mem_of_getElem? h2)with h|⟨b,n,c,rfl⟩
  ·exact hs.scal h
  ·rw[hs.hd_form];exact .hd b n c
variable {o:Oper}
theorem a1a {P:Program}{E:Env}{σ:St}(d:Nat)(t ty e sz bytes:Nat)(x y:Operand)(rows2:List (List SV))
 (ho:o.op= .call {callee:= .builtin .append,args:= #[x,y],argTypes:= #[t,t]}) (hty:o.type=ty) (hd:o.dst=some d) (hn:d<E.n) (he:Elem P t e sz bytes)
 (hx:∀g w a,Rel E g w a σ→∃ad,a.eval x= .slice ad 0 0) {shy:Bool} (hy:opd σ y= .lf (.im shy (.sl sz rows2))) (hsc:shy=true∨ScalarH rows2) (hne:rows2≠[])
 (hsmall:rows2.length*bytes≤140737488355328) (hmax:rows2.length≤maxLen):Step P E o σ fun τ=>∃b' c',τ=upd σ (tk d) (.lf (.u b' c' e sz rows2)):=by
 refine Step.of_run fun g w a h=> ?_
 obtain⟨ad0,hvx⟩:=hx g w a h
 have hyr:=E7 h hy
 obtain⟨ay,m,cy,hvy,hm,hcy⟩:=SRep.slice_form hyr
 rw[hvy]at hyr
 obtain⟨i,z,hi,hz,hsz,hby,hzs⟩:=he.ok
 have hexec:execOp a.eval o=(do pure (Next.value (←Builtin.append_ #[t,t] o.type #[a.eval x,a.eval y])):Sem Next):=by
  simp[execOp,ho,resolve,invoke,builtin]
 obtain⟨ad,rfl,hm2,news,hnl,hnc,hn1,hnr⟩:=hyr.cells hne he.pos
 have hown:w.ownsRow 0 e sz (.slice none 0 0) 0 []:=World.ownsRow_nil w 0 e sz
 obtain⟨v',w',hrun,hown',hgrow,hnil,hwhere⟩:=run_append_own_at (P:=P) (w:=w) 0 t o.type e i z sz bytes he.und hi hz hsz hby hzs he.pos _ 0 [] hown ad m cy news (by rw[hnl,hm2]) hnc hn1 (by rw[hm2];omega) (by rw[hm2];simpa using hsmall) (Nat.zero_le _)
 obtain⟨hl',hform⟩:=hown'
 rcases hform with⟨_,h0⟩|⟨b',c',cur',hv',_,hh',hc',hmx',hcs',htk'⟩
 ·exfalso
  have:rows2.length≠0:=fun e=>hne (List.length_eq_zero_iff.1 e)
  omega
 ·have hb':b'=w.heap.size:=by
   rw[hv']at hwhere
   rcases hwhere with e0|e0
   ·simp[Value.ownBlock]at e0
   ·simpa[Value.ownBlock]using e0
  subst hb'
  have hfr:g w.heap.size= .none:=h.fresh _ (Nat.le_refl _)
  have r1:=(h.forget (tk d)).world hgrow.os hgrow.tape hgrow.output hgrow.size fun b0 hb0=> .inl (hgrow.block b0 hb0 (by intro e0;cases e0))
  have hb0:drop (tk d) g w.heap.size= .none:=d7 hfr
  have hlt':w.heap.size<w'.heap.size:=(Array.getElem?_eq_some_iff.1 hh').1
  have r2:=r1.tag1 w.heap.size (.own (tk d) 0 0) hb0 hlt' (.inl h.size) (fun b' k' i' j' e=>by cases e;exact y4 _ _ _ _ _)
  have himm:∀sh x,Imm g sh x→Imm (tag1 (drop (tk d) g) w.heap.size (.own (tk d) 0 0)) sh x∧w'.heap[x]? =w.heap[x]? :=by
   intro sh x hx
   refine⟨Imm.tag1 hb0 (l8.2 hx),?_⟩
   have hxl:x<w.heap.size:=Nat.lt_of_not_le fun hle=>by rcases hx with e|⟨_,e⟩<;>rw[h.fresh x hle]at e<;>cases e
   exact hgrow.block x hxl (by intro e0;cases e0)
  have hrows:RowsIn g w cur' sz ([]++rows2):=RowsIn.append (cur:= #[]) (rows:=[]) ⟨(by intro r hr;cases hr),(by intro i r j x h1;simp at h1)⟩ hyr.width (fun i r j x h1 h2=>let⟨y,hy1,hy2⟩:=hnr i r j x h1 h2;⟨y,hy1,ScalarH.im hsc h1 h2 hy2⟩) (by simp) (by simp;rw[←hm2];simpa using htk')
  have r3:=(r2.act d v' (a8 ..)).putSlot d (.lf (.u w.heap.size c' e sz rows2)) (by
   rw[n1 (by rw[h.many];exact hn)]
   refine⟨by rw[hv',←hm2];simp,m9 ..,by rw[←hm2];omega,hmx',cur',hh',hcs',?_⟩
   have:=hrows.to himm
   simpa using this)
  rw[j7]at r3
  refine⟨v',w',_,_,.inl ?_,⟨_,c',rfl⟩,by rw[hd];exact r3⟩
  have hz2:(Builtin.append_ #[t,t] o.type #[.slice ad0 0 0,.slice (some ad) m cy]).run P w=(Builtin.append_ #[t,t] o.type #[.slice none 0 0,.slice (some ad) m cy]).run P w:=by
   cases ad0 with
   |none=>rfl
   |some q=>
    have hpos:0<m:=by rw[hm2];exact List.length_pos_iff.2 hne
    have h9:m≤9223372036854775807:=by rw[hm2];simp only[maxLen]at hmax;omega
    rw[run_append_grow (P:=P) w t o.type e i z he.und hi hz q 0 0 [] (by simp) (by intro j v e0;simp at e0) ad m cy news (by rw[hnl,hm2,hsz]) hnc (by omega) (by omega) (by rw[hby];exact growslice_fits (by omega) (by rw[Nat.zero_add,hm2];exact hsmall)),
     run_append_nil (P:=P) w t o.type e i z he.und hi hz ad m cy news (by rw[hnl,hm2,hsz]) hnc hpos (by omega) (by rw[hby,hm2];omega)]
    simp
  rw[hexec,hvx,hvy,Sem.run_bind,hz2,hrun];rfl
variable {E:Env} {σ:St}
theorem a4W (t b n c:Nat)(sh:Bool)(hx:σ (tk t)= .lf (.im sh (.hd b n c))):Turn E σ (·=upd σ (tk t) (.lf (.hd b n c))):=by
 intro g w a h
 have hs:=h.slot t
 rw[hx]at hs
 exact⟨g,_,rfl,h.putSlot t _ (SRep.hd_form hs)⟩
theorem X1 {P:Program}{E:Env}{σ:St}(d:Nat)(t ty e sz bytes:Nat)(y:Operand)(kt kc b0 jb b c:Nat)(ls:List Leaf)(bs:List Blk)(rows rows2:List (List SV))
 (ho:o.op= .call {callee:= .builtin .append,args:= #[.tmp kt,y],argTypes:= #[t,t]}) (hty:o.type=ty) (hd:o.dst=some d) (hn:d<E.n) (he:Elem P t e sz bytes)
 (hk:σ (ck kc)= .own b0 ls bs) (hj:bs[jb]? =some (.mk b c e sz rows)) (hx:σ (tk kt)= .lf (.hd b rows.length c)) (hdk:d≠kt) (hyk:y≠.tmp kt) (hy:opd σ y= .lf (.im true (.sl sz rows2)))
 (hsmall:(rows.length+rows2.length)*bytes≤140737488355328) (hmax:rows.length+rows2.length≤maxLen):
 Step P E o σ fun τ=>∃b' c',τ=upd (upd (upd σ (tk kt) Slot.hole) (ck kc) (.own b0 ls (bs.set jb (.mk b' c' e sz (rows++rows2))))) (tk d) (.lf (.hd b' (rows++rows2).length c')):=by
 refine Step.pre (V1 kt kc b0 jb b c rows.length e sz ls bs rows hk hj hx rfl) ?_
 have hy2:opd (upd (upd σ (ck kc) (.own b0 ls (bs.set jb .no))) (tk kt) (.lf (.u b c e sz rows))) y= .lf (.im true (.sl sz rows2)):=by
  rw[z4 fun t' e0 e1=>hyk (by rw[e0];exact congrArg _ (Z0 e1)),z4 fun t' e0 e1=>(v7 _ _) e1];exact hy
 refine Step.turn' (I5 d t ty e sz bytes (.tmp kt) y kt b c rows rows2 ho hty hd hn he (a8 ..) (.inl rfl) hy2 (.inl rfl) hsmall hmax) ?_
 rintro τ ⟨b',c',rfl⟩
 intro g w a hr
 have hc:(upd (upd (upd (upd σ (ck kc) (.own b0 ls (bs.set jb .no))) (tk kt) (.lf (.u b c e sz rows))) (tk kt) Slot.hole) (tk d) (.lf (.u b' c' e sz (rows++rows2)))) (ck kc)= .own b0 ls (bs.set jb .no):=by
  rw[d4 _ _ (j8 _ _),d4 _ _ (j8 _ _),d4 _ _ (j8 _ _),a8]
 have hlt:=(List.getElem?_eq_some_iff.1 hj).1
 obtain⟨g',τ',h1,h2⟩:=a1f d kc b0 jb b' c' e sz ls (bs.set jb .no) (rows++rows2) hc (by rw[List.getElem?_set_self hlt]) (a8 ..) g w a hr
 subst h1
 refine⟨g',_,⟨b',c',?_⟩,h2⟩
 rw[List.set_set]
 funext q
 by_cases e1:q=tk d
 ·subst e1;rw[a8,a8]
 ·rw[d4 _ _ e1,d4 _ _ e1]
  by_cases e2:q=ck kc
  ·subst e2;rw[a8,a8]
  ·rw[d4 _ _ e2,d4 _ _ e2,d4 _ _ e1]
   by_cases e3:q=tk kt
   ·subst e3;rw[a8,a8]
   ·rw[d4 _ _ e3,d4 _ _ e3,d4 _ _ e3,d4 _ _ e2]
theorem D6 {P:Program}{E:Env}{σ:St}(d:Nat)(t ty e sz bytes:Nat)(x y:Operand)(kc b0 jb:Nat)(ls:List Leaf)(bs:List Blk)(rows2:List (List SV))
 (ho:o.op= .call {callee:= .builtin .append,args:= #[x,y],argTypes:= #[t,t]}) (hty:o.type=ty) (hd:o.dst=some d) (hn:d<E.n) (he:Elem P t e sz bytes)
 (hk:σ (ck kc)= .own b0 ls bs) (hj:bs[jb]? =some .no) (hx:∀g w a,Rel E g w a σ→∃ad,a.eval x= .slice ad 0 0) {shy:Bool} (hy:opd σ y= .lf (.im shy (.sl sz rows2))) (hne:rows2≠[])
 (hsmall:rows2.length*bytes≤140737488355328) (hmax:rows2.length≤maxLen) (hsc:shy=true∨ScalarH rows2):
 Step P E o σ fun τ=>∃b' c',τ=upd (upd σ (ck kc) (.own b0 ls (bs.set jb (.mk b' c' e sz rows2)))) (tk d) (.lf (.hd b' rows2.length c')):=by
 refine Step.turn' (a1a d t ty e sz bytes x y rows2 ho hty hd hn he hx hy hsc hne hsmall hmax) ?_
 rintro τ ⟨b',c',rfl⟩
 intro g w a hr
 obtain⟨g',τ',h1,h2⟩:=a1f d kc b0 jb b' c' e sz ls bs rows2 (by rw[d4 _ _ (j8 _ _)];exact hk) hj (a8 ..) g w a hr
 subst h1
 refine⟨g',_,⟨b',c',?_⟩,h2⟩
 funext q
 by_cases e1:q=tk d
 ·subst e1;rw[a8,a8]
 ·rw[d4 _ _ e1,d4 _ _ e1]
  by_cases e2:q=ck kc
  ·subst e2;rw[a8,a8]
  ·rw[d4 _ _ e2,d4 _ _ e2,d4 _ _ e1]
theorem a4k (c b:Nat)(ls:List Leaf)(bs:List Blk)(hc:σ (ck c)= .own b ls bs):Turn E σ (·=upd σ (ck c) (.own b (ls.map fun _=> .hole) bs)):=by
 intro g w a h
 have hcell:=h.cell c
 rw[hc]at hcell
 obtain⟨⟨cur,e0,hg,hh,hl⟩,hbs⟩:=hcell
 refine⟨g,_,rfl,h.putCell c _ ⟨⟨cur,e0,hg,hh,by rw[List.length_map];exact hl.1,fun j l v h1 h2=> ?_⟩,hbs⟩⟩
 rw[List.getElem?_map,Option.map_eq_some_iff]at h1
 obtain⟨_,_,rfl⟩:=h1
 trivial
theorem a4E (c b i1 i2 q1 c1 e1 sz1 q qc n e sz ri rj:Nat)(ls:List Leaf)(bs:List Blk)(rows1 rows:List (List SV))(hc:σ (ck c)= .own b ls bs)
 (hi:bs[i1]? =some (.mk q1 c1 e1 sz1 (putHd rows1 ri rj (.hd q n qc)))) (hj:bs[i2]? =some (.mk q qc e sz rows)) (hn:n=rows.length) (hne:i1≠i2):
 Turn E σ (·=upd σ (ck c) (.own b ls ((bs.set i1 (.mk q1 c1 e1 sz1 (putHd rows1 ri rj (.sl sz rows)))).set i2 .no))):=by
 intro g w a h
 have hcell:=h.cell c
 rw[hc]at hcell
 obtain⟨⟨cur,e0,hg,hh,hl⟩,hbs⟩:=hcell
 obtain⟨k1,k2,k3,cur2,k4,k5,k6⟩:=hbs i2 _ hj
 obtain⟨m1,m2,m3,cur3,m4,m5,m6⟩:=hbs i1 _ hi
 have hqb:∀x k' i' j',g x= .own k' i' j'→(k',i',j')≠(ck c,2,i2)→x≠q:=fun x k' i' j' hx hne e1=>by subst e1;rw[k1]at hx;cases hx;exact hne rfl
 have hS:∀sh x,Imm g sh x→Imm (fun x=>if x=q then Tag.imm else g x) sh x∧w.heap[x]? =w.heap[x]? :=fun sh x hx=>⟨by
  unfold Imm at hx⊢
  by_cases e1:x=q
  ·left;simp[e1]
  ·simp only[if_neg e1];exact hx,rfl⟩
 have hlt:q<w.heap.size:=(Array.getElem?_eq_some_iff.1 k4).1
 have hweak:∀x,g x= .weak→(fun x=>if x=q then Tag.imm else g x) x= .weak∧w.heap[x]? =w.heap[x]? :=fun x hx=>⟨by
  have:x≠q:=fun e1=>by subst e1;rw[k1]at hx;cases hx
  show(if x=q then Tag.imm else g x)= .weak
  rw[if_neg this];exact hx,rfl⟩
 have hO:∀x i' j',g x= .own (ck c) i' j'→(i',j')≠(2,i2)→(if x=q then Tag.imm else g x)= .own (ck c) i' j':=fun x i' j' hx hne=>by
  rw[if_neg (hqb x _ _ _ hx (fun e1=>hne (by cases e1;rfl)))];exact hx
 have hlen:∀(y:SV),(putHd rows1 ri rj y).length=rows1.length:=fun y=>by simp[putHd]
 have hr:Rel E (fun x=>if x=q then .imm else g x) w a (upd σ (ck c) (.own b ls ((bs.set i1 (.mk q1 c1 e1 sz1 (putHd rows1 ri rj (.sl sz rows)))).set i2 .no))):=by
  refine h.turn (fun k=>k=ck c) h.defers rfl rfl rfl (Nat.le_refl _) (fun _ _ _=>rfl) ?_ (fun k hk=>d4 _ _ hk) rfl (fun _ _=>rfl) (fun t ht=>absurd ht (v7 _ _)) ?_ ?_ ?_ ?_ ?_ ?_ (fun b e=>by
   split at e
   ·cases e
   ·exact e)
  ·intro x hx _
   have:x≠q:=fun e1=>by subst e1;exact hx _ _ _ k1 rfl
   rw[if_neg this]
  ·intro t' ht'
   have et:=E9 ht'
   subst et
   rw[a8]
   refine⟨⟨cur,e0,hO b 1 0 hg (by intro e1;cases e1),hh,hl.to hS fun x j' hx=>⟨hO x 0 j' hx (by intro e1;cases e1),rfl⟩⟩,fun i' B hB=> ?_⟩
   by_cases ei:i'=i2
   ·subst ei
    rw[List.getElem?_set_self (by rw[List.length_set];exact(List.getElem?_eq_some_iff.1 hj).1)]at hB
    cases hB;trivial
   ·rw[List.getElem?_set_ne (fun e1=>ei e1.symm)]at hB
    by_cases ei1:i'=i1
    ·subst ei1
     rw[List.getElem?_set_self (List.getElem?_eq_some_iff.1 hi).1]at hB
     cases hB
     refine⟨hO q1 2 i' m1 (by intro e1;cases e1;exact ei rfl),by rw[hlen];rw[hlen]at m2;exact m2,m3,cur3,m4,m5,?_⟩
     refine⟨fun r hr=> ?_,fun i3 r j3 x h1 h2=> ?_⟩
     ·obtain⟨p,hp⟩:=List.mem_iff_getElem?.1 hr
      unfold putHd at hp
      rw[List.getElem?_modify]at hp
      cases hp0:rows1[p]? with
      |none=>rw[hp0]at hp;cases hp
      |some r0=>
       have h9:=m6.1 (if ri=p then r0.set rj (.hd q n qc)else r0) (List.mem_iff_getElem?.2 ⟨p,by unfold putHd;rw[List.getElem?_modify,hp0];by_cases hi:ri=p<;>simp[hi]⟩)
       rw[hp0]at hp
       by_cases hi:ri=p
       ·simp only[hi,if_true,Option.map_eq_map,Option.map_some,Option.some.injEq]at hp h9
        subst hp
        simpa using h9
       ·simp only[if_neg hi,Option.map_eq_map,Option.map_some,id,Option.some.injEq]at hp h9
        subst hp
        exact h9
     ·unfold putHd at h1
      rw[List.getElem?_modify]at h1
      cases hp0:rows1[i3]? with
      |none=>rw[hp0]at h1;cases h1
      |some r0=>
       rw[hp0]at h1
       have hrow:(putHd rows1 ri rj (.hd q n qc))[i3]? =some (if ri=i3 then r0.set rj (.hd q n qc)else r0):=by
        unfold putHd;rw[List.getElem?_modify,hp0];by_cases hi:ri=i3<;>simp[hi]
       by_cases hi:ri=i3
       ·subst hi
        simp only[if_true,Option.map_eq_map,Option.map_some,Option.some.injEq]at h1 hrow
        subst h1
        rw[List.getElem?_set]at h2
        by_cases hjj:rj=j3
        ·subst hjj
         simp only[if_true]at h2
         split at h2
         ·rename_i hlt
          cases h2
          obtain⟨y,hy,hs⟩:=m6.2 ri _ rj (.hd q n qc) hrow (by rw[List.getElem?_set_self hlt])
          refine⟨y,hy,?_⟩
          rw[SRep.hd_form hs,hn]
          exact k6.data k4 k2 _ (fun x hx=> .inl (by by_cases e1:x=q<;>simp[e1,hx])) (.inl (by simp))
         ·cases h2
        ·rw[if_neg hjj]at h2
         obtain⟨y,hy,hs⟩:=m6.2 ri _ j3 x hrow (by rw[List.getElem?_set,if_neg hjj];exact h2)
         exact⟨y,hy,hs.mono (fun _ _=>rfl) fun b hb=>(hS _ b hb).1⟩
       ·simp only[if_neg hi,Option.map_eq_map,Option.map_some,id,Option.some.injEq]at h1 hrow
        subst h1
        obtain⟨y,hy,hs⟩:=m6.2 i3 _ j3 x hrow h2
        exact⟨y,hy,hs.mono (fun _ _=>rfl) fun b hb=>(hS _ b hb).1⟩
    ·rw[List.getElem?_set_ne (fun e1=>ei1 e1.symm)]at hB
     exact(hbs i' B hB).to hS fun x hx=>⟨hO x 2 i' hx (by intro e1;cases e1;exact ei rfl),rfl⟩
  ·intro x hx
   rw[if_neg (by omega)];exact h.fresh x hx
  ·intro x k' i' j' hx
   split at hx
   ·cases hx
   ·exact h.mine x k' i' j' hx
  ·intro x x' k' i' j' hx hx'
   split at hx
   ·cases hx
   ·split at hx'
    ·cases hx'
    ·exact h.uniq x x' k' i' j' hx hx'
  ·intro x hx hm
   have:x≠q:=fun e1=>by subst e1;rcases h.mine x _ _ _ k1 with h1|h1;omega;exact hm h1
   rw[if_neg this]
  ·intro x hx e1
   by_cases e2:x=q
   ·subst e2;exact⟨cur2,_,k4⟩
   ·simp only[if_neg e2]at e1;exact h.soft x hx e1
 exact⟨_,_,rfl,hr⟩
end Go.Proofs.Ytjfjdgjhihgdkaa.V
namespace Go.Proofs.Ytjfjdgjhihgdkaa.V
open Go Go.RowKit
abbrev Nm :=Nat→Option (Nat×Nat)
def badLeaf :Leaf:= .im true (.sl 1 [[]])
def renL (ν:Nm):Leaf→Leaf
 | .u b _ e sz rows=>match ν b with
  |some p=> .u p.1 p.2 e sz rows
  |none=>if rows.isEmpty then .nil else badLeaf
 | .ul b _ e sz rows=>match ν b with
  |some p=> .ul p.1 p.2 e sz rows
  |none=>if rows.isEmpty then .nil else badLeaf
 | .ap b _ e sz rows=>match ν b with
  |some p=> .ap p.1 p.2 e sz rows
  |none=>if rows.isEmpty then .nil else badLeaf
 | .hd b n _=>match ν b with
  |some p=> .hd p.1 n p.2
  |none=>if n=0 then .nil else badLeaf
 | .ptr b off=>match ν b with
  |some p=> .ptr p.1 off
  |none=>badLeaf
 | .nst sz rows i j b n _=>match ν b with
  |some p=> .im false (.sl sz (putHd rows i j (.hd p.1 n p.2)))
  |none=>badLeaf
 |l=>l
def renP (ν:Nm):Part→Part
 | .lf l=> .lf (renL ν l)
 | .agg ls=> .agg (ls.map (renL ν))
def badBlk :Blk:= .mk 0 0 0 1 [[]]
def renB (ν:Nm):Blk→Blk
 | .mk b _ e sz rows=>match ν b with
  |some p=> .mk p.1 p.2 e sz rows
  |none=>if rows.isEmpty then .no else badBlk
 | .mkh b _ e sz rows i j b' n'=>match ν b,ν b' with
  |some p,some p'=> .mk p.1 p.2 e sz (putHd rows i j (.hd p'.1 n' p'.2))
  |_,_=>badBlk
 | .no=> .no
def renS (ν:Nm):Slot→Slot
 | .one p=> .one (renP ν p)
 | .tup ps=> .tup (ps.map (renP ν))
 | .cell b ls=>match ν b with
  |some p=> .cell p.1 (ls.map (renL ν))
  |none=> .lf badLeaf
 | .obj b T e s=>match ν b with
  |some p=> .obj p.1 T e s
  |none=> .lf badLeaf
 | .own b ls bs=>match ν b with
  |some p=> .own p.1 (ls.map (renL ν)) (bs.map (renB ν))
  |none=> .lf badLeaf
abbrev SL :=List (Nat×Slot)
def look :SL→Nat→Slot
 |[],_=> .hole
 |(k,s)::r,k'=>bif Nat.beq k' k then s else look r k'
def den (ν:Nm)(L:SL):St:=fun k=>renS ν (look L k)
theorem n5 (k:Nat)(s:Slot)(r:SL)(k':Nat):look ((k,s)::r) k'=if k'=k then s else look r k':=by
 simp only[look]
 cases h:Nat.beq k' k with
 |true=>rw[if_pos (Nat.eq_of_beq_eq_true h)];rfl
 |false=>rw[if_neg (Nat.ne_of_beq_eq_false h)];rfl
variable {g:Nat→Tag} {w:World}
theorem y8 {k i j:Nat}{v:Value}(h:LeafRel g w k i j v badLeaf):False:=by
 have h1:SRep (Imm g true) w v (.sl 1 [[]]):=h
 have:=h1.width [] (by simp)
 simp at this
variable {P:Program} {E:Env} {o:Oper} {σ:St}
theorem Step.absurd {post:St→Prop}(h:∀g w a,Rel E g w a σ→False):Step P E o σ post:=fun g w a _ _ hr _=>(h g w a hr).elim
variable {a:Act} {x:Operand}
theorem u9 (h:Rel E g w a σ)(hx:opd σ x= .lf badLeaf):False:=by
 have:=o9 h x
 rw[hx]at this
 exact y8 (k:=0) (i:=0) (j:=0) this
variable {t:Nat}
theorem z2 (h:Rel E g w a σ)(hx:σ (tk t)= .lf badLeaf):False:=by
 have:=h.slot t
 rw[hx]at this
 exact y8 (k:=0) (i:=0) (j:=0) this
theorem i6 (h:Rel E g w a σ)(hx:σ (ck t)= .lf badLeaf):False:=by
 have:=h.cell t
 rw[hx]at this
 exact this
def apN :Nat:=999999
def Leaf.has (b:Nat):Leaf→Bool
 | .u b' _ _ _ _=>Nat.beq b' b
 | .ul b' _ _ _ _=>Nat.beq b' b
 | .ap b' _ _ _ _=>Nat.beq b' b||Nat.beq apN b
 | .hd b' _ _=>Nat.beq b' b
 | .ptr b' _=>Nat.beq b' b
 | .nst _ _ _ _ b' _ _=>Nat.beq b' b
 |_=>false
def Part.has (b:Nat):Part→Bool
 | .lf l=>l.has b
 | .agg ls=>ls.any (Leaf.has b)
def Blk.has (b:Nat):Blk→Bool
 | .mk b' _ _ _ _=>Nat.beq b' b
 | .mkh b' _ _ _ _ _ _ b2 _=>Nat.beq b' b||Nat.beq b2 b
 | .no=>false
def Slot.has (b:Nat):Slot→Bool
 | .one p=>p.has b
 | .tup ps=>ps.any (Part.has b)
 | .cell b' ls=>Nat.beq b' b||ls.any (Leaf.has b)
 | .obj b' _ _ _=>Nat.beq b' b
 | .own b' ls bs=>Nat.beq b' b||(ls.any (Leaf.has b)||bs.any (Blk.has b))
def inN :List Nat→Nat→Bool
 |[],_=>false
 |x::xs,b=>Nat.beq b x||inN xs b
variable {nm:List Nat} {b:Nat}
theorem u2 :inN nm b=true↔b∈nm:=by
 induction nm with
 |nil=>simp[inN]
 |cons x xs ih=>simp[inN,ih]
def setN (ν:Nm)(nm:List Nat)(v:Nm):Nm:=fun b=>match inN nm b with
 |true=>v b
 |false=>ν b
theorem a1m (ν v:Nm):setN ν [] v=ν:=rfl
variable {ν v:Nm}
theorem y3 :setN ν [b] v b=v b:=by simp[setN,inN]
theorem w8 (h:b∉nm):setN ν nm v b=ν b:=by
 have:inN nm b=false:=by
  cases e:inN nm b with
  |false=>rfl
  |true=>exact absurd (u2.1 e) h
 simp only[setN,this]
theorem F0 (h:b∈nm):setN ν nm v b=v b:=by simp only[setN,u2.2 h]
def Slot.hasN (nm:List Nat)(s:Slot):Bool:=nm.any fun b=>s.has b
variable {s:Slot}
theorem a3M (h:s.hasN nm=false):∀b∈nm,s.has b=false:=by
 intro b hb
 unfold Slot.hasN at h
 rw[List.any_eq_false]at h
 simpa using h b hb
variable {l:Leaf}
theorem H9 (h:∀b∈nm,l.has b=false):renL (setN ν nm v) l=renL ν l:=by
 have key:∀b',(∀b∈nm,Nat.beq b' b=false)→setN ν nm v b'=ν b':=fun b' hb=>w8 fun hm=>by have:=hb b' hm;simp at this
 cases l<;>simp only[Leaf.has]at h<;>simp only[renL]
 all_goals first|rfl|rw[key _ h]|rw[key _ fun b hb=>(Bool.or_eq_false_iff.1 (h b hb)).1]
theorem a1S {l:Blk}(h:∀b∈nm,l.has b=false):renB (setN ν nm v) l=renB ν l:=by
 have key:∀b',(∀b∈nm,Nat.beq b' b=false)→setN ν nm v b'=ν b':=fun b' hb=>w8 fun hm=>by have:=hb b' hm;simp at this
 cases l with
 |no=>rfl
 |mk b0 _ _ _ _=>simp only[Blk.has]at h;simp only[renB];rw[key _ h]
 |mkh b0 _ _ _ _ _ _ b2 _=>
  simp only[Blk.has]at h
  simp only[renB]
  rw[key b0 fun b hb=>(Bool.or_eq_false_iff.1 (h b hb)).1,key b2 fun b hb=>(Bool.or_eq_false_iff.1 (h b hb)).2]
variable {p:Part}
theorem a3x (h:∀b∈nm,p.has b=false):renP (setN ν nm v) p=renP ν p:=by
 cases p with
 |lf l=>simp only[renP];rw[H9 h]
 |agg ls=>
  simp only[renP];congr 1
  exact List.map_congr_left fun l hl=>H9 fun b hb=>by have:=h b hb;simp only[Part.has,List.any_eq_false]at this;simpa using this l hl
theorem a3w (h:∀b∈nm,s.has b=false):renS (setN ν nm v) s=renS ν s:=by
 have key:∀b',(∀b∈nm,Nat.beq b' b=false)→setN ν nm v b'=ν b':=fun b' hb=>w8 fun hm=>by have:=hb b' hm;simp at this
 cases s with
 |one p=>simp only[renS];rw[a3x h]
 |tup ps=>
  simp only[renS];congr 1
  exact List.map_congr_left fun l hl=>a3x fun b hb=>by have:=h b hb;simp only[Slot.has,List.any_eq_false]at this;simpa using this l hl
 |cell b' ls=>
  simp only[renS]
  rw[key b' fun b hb=>by have:=h b hb;simp only[Slot.has,Bool.or_eq_false_iff]at this;exact this.1]
  have e:ls.map (renL (setN ν nm v))=ls.map (renL ν):=List.map_congr_left fun l hl=>H9 fun b hb=>by
   have:=h b hb;simp only[Slot.has,Bool.or_eq_false_iff,List.any_eq_false]at this;simpa using this.2 l hl
  rw[e]
 |obj b' T e s=>
  simp only[renS]
  rw[key b' fun b hb=>by have:=h b hb;simpa only[Slot.has]using this]
 |own b' ls bs=>
  simp only[renS]
  rw[key b' fun b hb=>by have:=h b hb;simp only[Slot.has,Bool.or_eq_false_iff]at this;exact this.1]
  have e:ls.map (renL (setN ν nm v))=ls.map (renL ν):=List.map_congr_left fun l hl=>H9 fun b hb=>by
   have:=h b hb;simp only[Slot.has,Bool.or_eq_false_iff,List.any_eq_false]at this;simpa using this.2.1 l hl
  have e2:bs.map (renB (setN ν nm v))=bs.map (renB ν):=List.map_congr_left fun l hl=>a1S fun b hb=>by
   have:=h b hb;simp only[Slot.has,Bool.or_eq_false_iff,List.any_eq_false]at this;simpa using this.2.2 l hl
  rw[e,e2]
def Weak (τ τ2:St):Prop:=∀k,τ2 k=τ k∨τ2 k=Slot.hole
theorem Weak.refl (τ:St):Weak τ τ:=fun _=> .inl rfl
theorem Weak.trans {a b c:St}(h1:Weak a b)(h2:Weak b c):Weak a c:=fun k=>by
 rcases h2 k with h|h
 ·rcases h1 k with h'|h'
  ·exact .inl (h.trans h')
  ·exact .inr (h.trans h')
 ·exact .inr h
def AllP :List Prop→Prop
 |[]=>True
 |p::ps=>p∧AllP ps
variable {ps:List Prop}
theorem AllP.cons {p:Prop}(h:p)(hs:AllP ps):AllP (p::ps):=⟨h,hs⟩
theorem AllP.nil :AllP []:=trivial
theorem AllP.app {qs:List Prop}(h:AllP (ps++qs)):AllP ps∧AllP qs:=by
 induction ps with
 |nil=>exact⟨trivial,h⟩
 |cons p ps ih=>exact⟨⟨h.1,(ih h.2).1⟩,(ih h.2).2⟩
def renW (ν:Nm)(ws:SL):SL:=ws.map fun p=>(p.1,renS ν p.2)
structure Ex where
 R:List Nat
 ws:SL
 nm:List Nat
 c:List Prop
def SoundOp (P:Program)(E:Env)(o:Oper)(L:SL)(ex:Ex):Prop:=
 AllP ex.c→∀(ν:Nm) (τ:St),(∀k∈ex.R,τ k=den ν L k)→Step P E o τ fun τ'=>∃v,Weak τ' (updL τ (renW (setN ν ex.nm v) ex.ws))
variable {L:SL} {R:List Nat}
theorem SoundOp.plain {ws:SL}{c:List Prop}
 (h:AllP c→∀(ν:Nm) (τ:St),(∀k∈R,τ k=den ν L k)→Step P E o τ (·=updL τ (renW ν ws))):SoundOp P E o L ⟨R,ws,[],c⟩:=
 fun hc ν τ hτ=>(h hc ν τ hτ).mono fun τ' e=>⟨ν,by rw[e];exact Weak.refl _⟩
abbrev ox (L:SL)(x:Operand):Slot:=opd (look L) x
def ok (x:Operand):List Nat:=match x with
 | .tmp t=>[tk t]
 |_=>[]
theorem N7 (ν:Nm)(v:Value):renL ν (litLeaf v)=litLeaf v:=by
 unfold litLeaf
 split<;>rfl
variable {τ:St}
theorem a1l (h:∀k∈R,τ k=den ν L k)(hx:∀k∈ok x,k∈R):opd τ x=renS ν (ox L x):=by
 cases x with
 |tmp t=>exact h _ (hx _ (by simp[ok]))
 |const v=>
  unfold ox opd
  split
  ·rename_i heq;cases heq
  ·rename_i cs heq;cases heq
   simp only[renS,renP,Slot.agg,List.map_map]
   congr 2
   exact List.map_congr_left fun v _=>(N7 ν v).symm
  ·rename_i heq;cases heq;simp only[renS,renP,Slot.lf,N7]
  ·rename_i heq;cases heq
  ·rename_i heq;rfl
 |global g=>rfl
 |func f=>rfl
theorem i8 (h:∀k∈R,τ k=den ν L k)(hx:∀k∈ok x,k∈R)(hs:ox L x=s):opd τ x=renS ν s:=by
 rw[a1l h hx,hs]
theorem K0 (h:l.bare=true):(renL ν l).bare=true:=by
 cases l<;>simp only[Leaf.bare]at h<;>simp only[renL]<;>first|rfl|(cases h)|skip
 ·split
  ·rfl
  ·split<;>rfl
 ·split
  ·rfl
  ·split<;>rfl
 ·split<;>rfl
 ·split<;>rfl
theorem A0 (h:p.bare=true):(renP ν p).bare=true:=by
 cases p with
 |lf l=>exact K0 h
 |agg ls=>
  simp only[Part.bare,renP,List.all_map]at h⊢
  exact List.all_eq_true.2 fun l hl=>K0 (List.all_eq_true.1 h l hl)
theorem G6 (h:s.bare=true):(renS ν s).bare=true:=by
 cases s with
 |one p=>exact A0 h
 |tup ps=>
  simp only[Slot.bare,renS,List.all_map]at h⊢
  exact List.all_eq_true.2 fun l hl=>A0 (List.all_eq_true.1 h l hl)
 |cell b ls=>cases h
 |obj b T e s=>cases h
 |own b ls bs=>cases h
def mapN (f:Nat→Nat):Leaf→Leaf
 | .u b c e sz rows=> .u (f b) c e sz rows
 | .ul b c e sz rows=> .ul (f b) c e sz rows
 | .ap b c e sz rows=> .ap (f b) c e sz rows
 | .hd b n c=> .hd (f b) n c
 | .ptr b off=> .ptr (f b) off
 | .nst sz rows i j b n c=> .nst sz rows i j (f b) n c
 |l=>l
def mapB (f:Nat→Nat):Blk→Blk
 | .mk b c e sz rows=> .mk (f b) c e sz rows
 | .mkh b c e sz rows i j b' n'=> .mkh (f b) c e sz rows i j (f b') n'
 | .no=> .no
def Slot.mapN (f:Nat→Nat):Slot→Slot
 | .one (.lf l)=> .one (.lf (V.mapN f l))
 | .one (.agg ls)=> .one (.agg (ls.map (V.mapN f)))
 | .tup ps=> .tup (ps.map fun| .lf l=> .lf (V.mapN f l)| .agg ls=> .agg (ls.map (V.mapN f)))
 | .cell b ls=> .cell (f b) (ls.map (V.mapN f))
 | .obj b T e s=> .obj (f b) T e s
 | .own b ls bs=> .own (f b) (ls.map (V.mapN f)) (bs.map (mapB f))
variable {f:Nat→Nat}
theorem X3 {g:Nat→Nat}(hg:∀b,g (f b)=b)(l:Leaf):renL (fun b=>ν (g b)) (mapN f l)=renL ν l:=by
 cases l<;>simp only[mapN,renL,hg]
theorem a5H {g:Nat→Nat}(hg:∀b,g (f b)=b)(s:Slot):renS (fun b=>ν (g b)) (s.mapN f)=renS ν s:=by
 have hm:∀ls:List Leaf,(ls.map (mapN f)).map (renL fun b=>ν (g b))=ls.map (renL ν):=fun ls=>by
  rw[List.map_map];exact List.map_congr_left fun l _=>X3 hg l
 match s with
 | .one (.lf l)=>simp only[Slot.mapN,renS,renP,X3 hg]
 | .one (.agg ls)=>simp only[Slot.mapN,renS,renP,hm]
 | .tup ps=>
  simp only[Slot.mapN,renS,List.map_map]
  congr 1
  refine List.map_congr_left fun p _=> ?_
  cases p<;>simp only[Function.comp_apply,renP,X3 hg,hm]
 | .cell b ls=>simp only[Slot.mapN,renS,hm,hg]
 | .obj b T e s=>simp only[Slot.mapN,renS,hg]
 | .own b ls bs=>
  have hb:(bs.map (mapB f)).map (renB fun b=>ν (g b))=bs.map (renB ν):=by
   rw[List.map_map]
   refine List.map_congr_left fun B _=> ?_
   cases B<;>simp only[Function.comp_apply,mapB,renB,hg]
  simp only[Slot.mapN,renS,hm,hg,hb]
theorem J0 (ν:Nm)(f:Nat→Nat)(l:Leaf):renL ν (mapN f l)=renL (fun b=>ν (f b)) l:=by cases l<;>rfl
theorem u6 (ν:Nm)(f:Nat→Nat)(s:Slot):renS ν (s.mapN f)=renS (fun b=>ν (f b)) s:=by
 have hm:∀ls:List Leaf,(ls.map (mapN f)).map (renL ν)=ls.map (renL fun b=>ν (f b)):=fun ls=>by
  rw[List.map_map];exact List.map_congr_left fun l _=>J0 ν f l
 match s with
 | .one (.lf l)=>simp only[Slot.mapN,renS,renP,J0]
 | .one (.agg ls)=>simp only[Slot.mapN,renS,renP,hm]
 | .tup ps=>
  simp only[Slot.mapN,renS,List.map_map]
  congr 1
  refine List.map_congr_left fun p _=> ?_
  cases p<;>simp only[Function.comp_apply,renP,J0,hm]
 | .cell b ls=>simp only[Slot.mapN,renS,hm]
 | .obj b T e s=>simp only[Slot.mapN,renS]
 | .own b ls bs=>
  have hb:(bs.map (mapB f)).map (renB ν)=bs.map (renB fun b=>ν (f b)):=by
   rw[List.map_map]
   refine List.map_congr_left fun B _=> ?_
   cases B<;>rfl
  simp only[Slot.mapN,renS,hm,hb]
def Leaf.within (nm:List Nat):Leaf→Bool
 | .u b _ _ _ _=>inN nm b
 | .ul b _ _ _ _=>inN nm b
 | .ap b _ _ _ _=>inN nm b
 | .hd b _ _=>inN nm b
 | .ptr b _=>inN nm b
 | .nst _ _ _ _ b _ _=>inN nm b
 |_=>true
def Part.within (nm:List Nat):Part→Bool
 | .lf l=>l.within nm
 | .agg ls=>ls.all (Leaf.within nm)
def Blk.within (nm:List Nat):Blk→Bool
 | .mk b _ _ _ _=>inN nm b
 | .mkh b _ _ _ _ _ _ b' _=>inN nm b&&inN nm b'
 | .no=>true
def Slot.within (nm:List Nat):Slot→Bool
 | .one p=>p.within nm
 | .tup ps=>ps.all (Part.within nm)
 | .cell b ls=>inN nm b&&ls.all (Leaf.within nm)
 | .obj b _ _ _=>inN nm b
 | .own b ls bs=>inN nm b&&(ls.all (Leaf.within nm)&&bs.all (Blk.within nm))
variable {ν':Nm}
theorem M3 (h:l.within nm=true)(he:∀b∈nm,ν b=ν' b):renL ν l=renL ν' l:=by
 cases l<;>simp only[Leaf.within]at h<;>simp only[renL]<;>first|rfl|rw[he _ (u2.1 h)]
theorem R9 (h:p.within nm=true)(he:∀b∈nm,ν b=ν' b):renP ν p=renP ν' p:=by
 cases p with
 |lf l=>simp only[renP];rw[M3 h he]
 |agg ls=>simp only[renP];congr 1;exact List.map_congr_left fun l hl=>M3 (List.all_eq_true.1 h l hl) he
theorem a3Y {l:Blk}(h:l.within nm=true)(he:∀b∈nm,ν b=ν' b):renB ν l=renB ν' l:=by
 cases l with
 |no=>rfl
 |mk b0 _ _ _ _=>simp only[Blk.within]at h;simp only[renB];rw[he _ (u2.1 h)]
 |mkh b0 _ _ _ _ _ _ b2 _=>
  simp only[Blk.within,Bool.and_eq_true]at h
  simp only[renB];rw[he _ (u2.1 h.1),he _ (u2.1 h.2)]
theorem r7 (h:s.within nm=true)(he:∀b∈nm,ν b=ν' b):renS ν s=renS ν' s:=by
 cases s with
 |one p=>simp only[renS];rw[R9 h he]
 |tup ps=>simp only[renS];congr 1;exact List.map_congr_left fun p hp=>R9 (List.all_eq_true.1 h p hp) he
 |cell b ls=>
  simp only[Slot.within,Bool.and_eq_true]at h
  have e:ls.map (renL ν)=ls.map (renL ν'):=List.map_congr_left fun l hl=>M3 (List.all_eq_true.1 h.2 l hl) he
  simp only[renS];rw[he _ (u2.1 h.1),e]
 |obj b T e s=>simp only[renS];rw[he _ (u2.1 h)]
 |own b ls bs=>
  simp only[Slot.within,Bool.and_eq_true]at h
  have e:ls.map (renL ν)=ls.map (renL ν'):=List.map_congr_left fun l hl=>M3 (List.all_eq_true.1 h.2.1 l hl) he
  have e2:bs.map (renB ν)=bs.map (renB ν'):=List.map_congr_left fun l hl=>a3Y (List.all_eq_true.1 h.2.2 l hl) he
  simp only[renS];rw[he _ (u2.1 h.1),e,e2]
def posN :List Nat→Nat→Nat
 |[],_=>0
 |x::xs,b=>bif Nat.beq x b then 0 else posN xs b+1
def atN :List Nat→Nat→Nat
 |[],_=>0
 |x::_,0=>x
 |_::xs,i+1=>atN xs i
theorem V8 :∀{ns:List Nat} {b:Nat},b∈ns→atN ns (posN ns b)=b
 |[],b,h=>by cases h
 |x::xs,b,h=>by
  simp only[posN]
  cases e:Nat.beq x b with
  |true=>exact Nat.eq_of_beq_eq_true e
  |false=>
   rcases List.mem_cons.1 h with rfl|h
   ·simp at e
   ·exact V8 h
theorem O3 :∀{ns:List Nat} {i:Nat},i<ns.length→atN ns i∈ns
 |[],i,h=>by simp at h
 |x::xs,0,h=>by simp[atN]
 |x::xs,i+1,h=>by simp only[atN];exact List.mem_cons_of_mem _ (O3 (by simpa using h))
def nodupN :List Nat→Bool
 |[]=>true
 |x::xs=> !inN xs x&&nodupN xs
theorem Q7 :∀{ns:List Nat} {i:Nat},nodupN ns=true→i<ns.length→posN ns (atN ns i)=i
 |[],i,_,h=>by simp at h
 |x::xs,0,_,h=>by simp[atN,posN]
 |x::xs,i+1,hn,h=>by
  simp only[nodupN,Bool.and_eq_true,Bool.not_eq_true']at hn
  have hm:=O3 (ns:=xs) (i:=i) (by simpa using h)
  simp only[atN,posN]
  have e:Nat.beq x (atN xs i)=false:=by
   cases e:Nat.beq x (atN xs i)with
   |false=>rfl
   |true=>
    rw[←Nat.eq_of_beq_eq_true e]at hm
    rw[u2.2 hm]at hn
    cases hn.1
  rw[e]
  simp only[cond_false]
  rw[Q7 hn.2 (by simpa using h)]
def upN :Nat→Nat→List Nat
 |0,_=>[]
 |n+1,i=>i::upN n (i+1)
theorem a1j :∀{n i b:Nat},b∈upN n i→i≤b∧b<i+n
 |0,i,b,h=>by cases h
 |n+1,i,b,h=>by
  simp only[upN,List.mem_cons]at h
  rcases h with rfl|h
  ·omega
  ·have:=a1j h;omega
def blkNames :List Blk→Option (List Nat)
 |[]=>some []
 | .mk b _ _ _ _::bs=>match blkNames bs with
  |some ns=>some (b::ns)
  |none=>none
 | .mkh .. ::_=>none
 | .no::_=>none
def obN :Nat:=1000000
def posO (ns:List Nat)(b:Nat):Nat:=obN+posN ns b
def atO (ns:List Nat)(i:Nat):Nat:=atN ns (i-obN)
theorem P5 {ns:List Nat}(h:b∈ns):atO ns (posO ns b)=b:=by
 unfold atO posO;rw[Nat.add_sub_cancel_left];exact V8 h
def CallM (P:Program)(f:FuncId)(args:List Part)(o o' s:Slot):Prop:=
 ∀(ν:Nm) (b c:Nat),ν obN=some (b,c)→CallO P f args b (renS ν o) fun so' s'=>∃ν':Nm,ν' obN=ν obN∧so'=renS ν' o'∧s'=s
end Go.Proofs.Ytjfjdgjhihgdkaa.V
namespace Go.Proofs.Ytjfjdgjhihgdkaa.V
open Go Go.RowKit
inductive Wit where
 |slot (s:Slot)
 |row (r:List SV)
 |elem (i j:Nat) (r:List SV) (rows:Option (List (List SV)))
 |ret (s:Slot)
 |retU (e sz:Nat) (rows:List (List SV))
 |byte (c:UInt8)
 |cut (l h:Nat) (s:Slot)
 |im
 |num (r:Int)
 |obj (s:ByteArray)
 |out (j:Nat)
 |inn (j:Nat)
 |retN (s:Slot) (nm:List Nat)
 |mth (ls:List Leaf) (bs:List Blk) (s:Slot)
 |nsw (rows:List (List SV)) (i:Nat) (x:SV)
 |lnt (rows:List (List SV))
 |apw (nm:Nat) (rows:List (List SV)) (rs:List Nat)
 |cu (o:Option Slot) (s:Slot) (nm:Nat) (kq:Option Nat) (rs:List Nat)
 |hel (r:List SV)
 |hst (i j:Nat) (r:List SV)
 |gap (nm k j:Nat) (rows:List (List SV))
 |cg (k:Nat) (o s:Slot) (qs ns:List Nat)
def ovr (w:Option Wit)(s:Slot):Slot×List Prop:=match w with
 |some (.slot s')=>(s',[s=s'])
 |_=>(s,[])
def fin1 (d:Nat)(R:List Nat)(s:Slot)(c:List Prop)(w:Option Wit):Option Ex:=
 some ⟨R,[(tk d,(ovr w s).1)],[],(ovr w s).2++c⟩
variable {P:Program} {E:Env} {o:Oper} {L:SL} {d:Nat} {R:List Nat} {c:List Prop} {w:Option Wit} {ex:Ex}
theorem l7 {s:Slot}(he:fin1 d R s c w=some ex)
 (h:AllP c→∀(ν:Nm) (τ:St),(∀k∈R,τ k=den ν L k)→Step P E o τ (·=upd τ (tk d) (renS ν s))):SoundOp P E o L ex:=by
 cases he
 refine SoundOp.plain fun hc ν τ hτ=> ?_
 obtain⟨h1,h2⟩:=hc.app
 have e:(ovr w s).1=s:=by
  unfold ovr at h1⊢
  split
  ·simp only at h1;exact h1.1.symm
  ·rfl
 rw[e]
 exact h h2 ν τ hτ
theorem SoundOp.weak {ws:SL}
 (h:AllP c→∀(ν:Nm) (τ:St),(∀k∈R,τ k=den ν L k)→Step P E o τ (fun τ'=>Weak τ' (updL τ (renW ν ws)))):SoundOp P E o L ⟨R,ws,[],c⟩:=
 fun hc ν τ hτ=>(h hc ν τ hτ).mono fun τ' e=>⟨ν,e⟩
def Slot.homes (b:Nat):Slot→Bool
 | .one (.lf (.u b' _ _ _ _))=>Nat.beq b' b
 | .cell b' _=>Nat.beq b' b
 | .obj b' _ _ _=>Nat.beq b' b
 | .own b' _ _=>Nat.beq b' b
 |_=>false
def home (b:Nat):SL→Option Nat
 |[]=>none
 |(k,s)::r=>bif s.homes b then some k else home b r
def homeJ (b:Nat):List Blk→Nat→Option Nat
 |[],_=>none
 | .mk b' _ _ _ _::bs,i=>bif Nat.beq b' b then some i else homeJ b bs (i+1)
 | .mkh b' _ _ _ _ _ _ _ _::bs,i=>bif Nat.beq b' b then some i else homeJ b bs (i+1)
 | .no::bs,i=>homeJ b bs (i+1)
def homeB (b:Nat):SL→Option (Nat×Nat)
 |[]=>none
 |(k,.own _ _ bs)::r=>match homeJ b bs 0 with
  |some j=>some (k,j)
  |none=>homeB b r
 |_::r=>homeB b r
def xCopy (mv:Bool)(d:Nat)(x:Operand)(L:SL)(w:Option Wit):Option Ex:=
 match ox L x with
 | .one (.lf (.u b c e sz rows))=>match x with
  | .tmp t=>bif mv then some ⟨[tk t],[(tk d,.lf (.hd b rows.length 0))],[],[]⟩
   else bif Nat.beq t d then none else some ⟨[tk t],[(tk t,Slot.hole),(tk d,.lf (.u b 0 e sz rows))],[],[]⟩
  |_=>none
 | .one (.lf (.hd b n c))=>bif mv then some ⟨ok x,[(tk d,.lf (.hd b n 0))],[],[]⟩else match home b L with
  |some k=>match look L (tk (k/2))with
   | .one (.lf (.u b' _ e sz rows))=>bif Nat.beq b' b&& !Nat.beq (k/2) d then some ⟨tk (k/2)::ok x,[(tk (k/2),Slot.hole),(tk d,.lf (.u b 0 e sz rows))],[],[n=rows.length]⟩else none
   |_=>none
  |none=>some ⟨ok x,[(tk d,.lf (.hd b n 0))],[],[]⟩
 |s=>bif s.bare then fin1 d (ok x) s [] w else none
variable {σ:St}
theorem v9 (k k2:Nat)(s:Slot):Weak (upd σ k2 s) (upd (upd σ k Slot.hole) k2 s):=fun k'=>by
 unfold upd
 split
 ·exact .inl rfl
 ·split
  ·exact .inr rfl
  ·exact .inl rfl
variable {x:Operand}
theorem X8 {mv:Bool}(ho:o.op= .move x∨o.op= .assign x)(hd:o.dst=some d)(hn:d<E.n)
 (he:xCopy mv d x L w=some ex):SoundOp P E o L ex:=by
 unfold xCopy at he
 split at he
 ·rename_i b c e sz rows hx
  cases x with
  |tmp t=>
   simp only at he
   cases mv with
   |true=>
    cases he
    refine SoundOp.plain fun _ ν τ hτ=> ?_
    have h:=i8 (x:= .tmp t) hτ (by simp[ok]) hx
    simp only[renS,renP,renL,opd]at h
    simp only[renW,List.map,updL,renS,renP,renL,Slot.lf]
    cases hb:ν b with
    |some p=>rw[hb]at h;exact a4c d t _ _ _ _ _ ho hd hn h
    |none=>
     rw[hb]at h
     simp only at h⊢
     cases rows with
     |nil=>exact E8 d (.tmp t) _ ho hd hn h rfl
     |cons r rs=>
      simp only[List.isEmpty_cons,List.length_cons]at h⊢
      exact E8 d (.tmp t) _ ho hd hn h rfl
   |false=>
    simp only[cond_false]at he
    cases htd:Nat.beq t d with
    |true=>rw[htd]at he;cases he
    |false=>
     rw[htd]at he
     cases he
     refine SoundOp.weak fun _ ν τ hτ=> ?_
     have h:=i8 (x:= .tmp t) hτ (by simp[ok]) hx
     simp only[renS,renP,renL,opd]at h
     simp only[renW,List.map,updL,renS,renP,renL,Slot.lf,Slot.hole]
     cases hb:ν b with
     |some p=>rw[hb]at h;exact(a5I d t _ _ _ _ _ ho hd hn h).mono fun _ e=>e▸Weak.refl _
     |none=>
      rw[hb]at h
      simp only at h⊢
      exact(E8 d (.tmp t) _ ho hd hn h (by cases rows<;>rfl)).mono fun _ e=>e▸v9 _ _ _
  |const v=>cases he
  |global g=>cases he
  |func f=>cases he
 ·rename_i b n c hx
  cases mv with
  |true=>
   cases he
   refine SoundOp.plain fun _ ν τ hτ=> ?_
   have h:=i8 hτ (by simp) hx
   simp only[renW,List.map,updL,renS,renP,renL,Slot.lf]at h⊢
   exact E8 d x _ ho hd hn h (by cases ν b<;>simp only[]<;>first|rfl|(split<;>rfl))
  |false=>
   simp only[cond_false]at he
   split at he
   ·rename_i k hk
    split at he
    ·rename_i b' c' e sz rows hu
     cases hbb:Nat.beq b' b&& !Nat.beq (k/2) d with
     |false=>rw[hbb]at he;cases he
     |true=>
      rw[hbb]at he
      cases he
      rw[Bool.and_eq_true]at hbb
      obtain rfl:=Nat.eq_of_beq_eq_true hbb.1
      refine SoundOp.weak fun hc ν τ hτ=> ?_
      have h:=i8 hτ (fun k hk=>by simp[hk]) hx
      have h2:=hτ (tk (k/2)) (by simp)
      simp only[den,hu]at h2
      simp only[renW,List.map,updL,renS,renP,renL,Slot.lf,Slot.hole]at h h2⊢
      have hnr:n=rows.length:=hc.1
      cases hb:ν b' with
      |some p=>rw[hb]at h h2;exact(a5r d x (k/2) _ _ _ _ _ _ ho hd hn h h2 hnr).mono fun _ e=>e▸Weak.refl _
      |none=>
       rw[hb]at h h2
       simp only at h h2⊢
       have e1:(if n=0 then Leaf.nil else badLeaf)=if rows.isEmpty then Leaf.nil else badLeaf:=by
        cases rows with
        |nil=>simp at hnr;simp[hnr]
        |cons r rs=>simp at hnr;simp[hnr]
       rw[e1]at h
       exact(E8 d x _ ho hd hn h (by cases rows<;>rfl)).mono fun _ e=>e▸v9 _ _ _
    ·cases he
   ·cases he
    refine SoundOp.plain fun _ ν τ hτ=> ?_
    have h:=i8 hτ (by simp) hx
    simp only[renW,List.map,updL,renS,renP,renL,Slot.lf]at h⊢
    exact E8 d x _ ho hd hn h (by cases ν b<;>simp only[]<;>first|rfl|(split<;>rfl))
 ·rename_i s hu hh
  cases hb:(ox L x).bare with
  |false=>rw[hb]at he;cases he
  |true=>
   rw[hb]at he
   refine l7 he fun _ ν τ hτ=> ?_
   exact E8 d x _ ho hd hn (a1l hτ (by simp)) (G6 hb)
def xPick (d:Nat)(c x y:Operand)(L:SL)(w:Option Wit):Option Ex:=
 match ox L c with
 | .one (.lf (.im _ (.bool b)))=>match b with
  |true=>bif (ox L x).bare then fin1 d (ok c++ok x) (ox L x) [] w else none
  |false=>bif (ox L y).bare then fin1 d (ok c++ok y) (ox L y) [] w else none
 |_=>none
variable {sh:Bool}
theorem step_pick' (d:Nat)(c x y:Operand)(b:Bool)(s:Slot)(ho:o.op= .pick c x y)(hd:o.dst=some d)
 (hn:d<E.n) (hc:opd σ c= .lf (.im sh (.bool b))) (hx:opd σ (if b then x else y)=s) (hb:s.bare=true):Step P E o σ (·=upd σ (tk d) s):=by
 refine Step.of_run fun g w a h=>⟨a.eval (if b then x else y),w,drop (tk d) g,_,.inl ?_,rfl,?_⟩
 ·have hc':=K8 h hc
  cases b<;>simp[execOp,ho,hc',asBool]
 ·rw[hd]
  refine h.set d _ _ hn fun g' hg' hw'=> ?_
  have:=o9 h (if b then x else y)
  rw[hx]at this
  exact this.bare hb hg'
variable {y:Operand}
theorem a22 {c:Operand}(ho:o.op= .pick c x y)(hd:o.dst=some d)(hn:d<E.n)
 (he:xPick d c x y L w=some ex):SoundOp P E o L ex:=by
 unfold xPick at he
 split at he
 ·rename_i sh b hc
  split at he
  ·cases hb:(ox L x).bare with
   |false=>rw[hb]at he;cases he
   |true=>
    rw[hb]at he
    refine l7 he fun _ ν τ hτ=> ?_
    refine step_pick' d c x y true _ ho hd hn (sh:=sh) ?_ (a1l hτ (fun k hk=>List.mem_append_right _ (by simpa using hk))) (G6 hb)
    have:=i8 hτ (fun k hk=>by simp[hk]) hc
    simpa only[renS,renP,renL]using this
  ·cases hb:(ox L y).bare with
   |false=>rw[hb]at he;cases he
   |true=>
    rw[hb]at he
    refine l7 he fun _ ν τ hτ=> ?_
    refine step_pick' d c x y false _ ho hd hn (sh:=sh) ?_ (a1l hτ (fun k hk=>List.mem_append_right _ (by simpa using hk))) (G6 hb)
    have:=i8 hτ (fun k hk=>by simp[hk]) hc
    simpa only[renS,renP,renL]using this
 ·cases he
theorem o8 {ν:Nm}{τ:St}{v:SV}(h:∀k∈R,τ k=den ν L k)(hx:∀k∈ok x,k∈R)(hs:ox L x= .one (.lf (.im sh v))):opd τ x= .lf (.im sh v):=by
 have:=i8 h hx hs
 simpa only[renS,renP,renL]using this
def IntKind.eqb (a b:IntKind):Bool:=decide (a=b)
structure StrFit (a b:ByteArray):Prop where
 le:((a.size+b.size:Nat):Int)≤IntKind.i64.max
def binV (op:BinOp)(bool:Bool):SV→SV→Option (SV×List Prop)
 | .int k a,.int k' b=>bif IntKind.eqb k k' then(match op with
  | .quo=>some (.int k (k.wrap (a.tdiv b)),[b≠0])
  | .rem=>some (.int k (a.tmod b),[b≠0])
  |op=>match intOp op k a b with
   |some r=>some (r,[])
   |none=>none)else none
 | .str a,.str b=>match op with
  | .add=>some (.str (a++b),[StrFit a b])
  |op=>match strOp op a b with
   |some r=>some (r,[])
   |none=>none
 | .bool a,.bool b=>bif bool then(match boolOp op a b with
  |some r=>some (.bool r,[])
  |none=>none)else none
 |_,_=>none
def xBin (bool:Bool)(d:Nat)(op:BinOp)(x y:Operand)(L:SL)(w:Option Wit):Option Ex:=
 match ox L x,ox L y with
 | .one (.lf (.im _ a)),.one (.lf (.im _ b))=>match binV op bool a b with
  |some (r,c)=>match r.val with
   |some _=>fin1 d (ok x++ok y) (.im r) c w
   |none=>none
  |none=>none
 |_,_=>none
variable {op:BinOp} {t t':TypeId}
theorem a3W {bool:Bool}(ho:o.op= .binOp op t x y t')(hd:o.dst=some d)(hn:d<E.n)
 (ht:bool=true→P.underlying t=some .bool) (he:xBin bool d op x y L w=some ex):SoundOp P E o L ex:=by
 unfold xBin at he
 split at he
 ·rename_i s1 a s2 b hx hy
  split at he
  ·rename_i r c hr
   split at he
   ·rename_i v hv
    refine l7 he fun hc ν τ hτ=> ?_
    have h1:=o8 hτ (fun k hk=>by simp[hk]) hx
    have h2:=o8 hτ (fun k hk=>by simp[hk]) hy
    unfold binV at hr
    split at hr
    ·rename_i k a k' b
     cases hk:IntKind.eqb k k' with
     |false=>rw[hk]at hr;cases hr
     |true=>
      rw[hk]at hr
      have hkk:k=k':=by simpa[IntKind.eqb]using hk
      subst hkk
      simp only[cond_true]at hr
      split at hr
      ·cases hr
       exact V5 d _ t t' x y k a b _ _ v ho hd hn h1 h2 (if_neg hc.1) rfl hv
      ·cases hr
       exact V5 d _ t t' x y k a b _ _ v ho hd hn h1 h2 (if_neg hc.1) rfl hv
      ·split at hr
       ·rename_i r' hr'
        cases hr
        exact V5 d _ t t' x y k a b _ _ v ho hd hn h1 h2 hr' rfl hv
       ·cases hr
    ·rename_i a b
     split at hr
     ·cases hr
      exact a3H d _ t t' x y a b _ _ v ho hd hn h1 h2 (if_neg (by have:=hc.1.le;omega)) rfl hv
     ·split at hr
      ·rename_i r' hr'
       cases hr
       exact a3H d _ t t' x y a b _ _ v ho hd hn h1 h2 hr' rfl hv
      ·cases hr
    ·rename_i a b
     cases hb:bool with
     |false=>rw[hb]at hr;cases hr
     |true=>
      rw[hb]at hr
      simp only[cond_true]at hr
      split at hr
      ·rename_i r' hr'
       cases hr
       exact a42 d op t t' (ht hb) x y a b _ ho hd hn h1 h2 hr'
      ·cases hr
    ·cases hr
   ·cases he
  ·cases he
 ·cases he
structure NumOp (op:BinOp)(k:IntKind)(a b r:Int):Prop where
 eq:intOp op k a b=some (.int k r)
def xNum (d:Nat)(op:BinOp)(x y:Operand)(L:SL)(r:Int):Option Ex:=
 match ox L x,ox L y with
 | .one (.lf (.im _ (.int k a))),.one (.lf (.im _ (.int k' b)))=>bif IntKind.eqb k k' then some ⟨ok x++ok y,[(tk d,.im (.int k r))],[],[NumOp op k a b r]⟩else none
 |_,_=>none
theorem a3T {r:Int}(ho:o.op= .binOp op t x y t')(hd:o.dst=some d)(hn:d<E.n)
 (he:xNum d op x y L r=some ex):SoundOp P E o L ex:=by
 unfold xNum at he
 split at he
 ·rename_i s1 k a s2 k' b hx hy
  cases hk:IntKind.eqb k k' with
  |false=>rw[hk]at he;cases he
  |true=>
   rw[hk]at he
   have hkk:k=k':=by simpa[IntKind.eqb]using hk
   subst hkk
   cases he
   refine SoundOp.plain fun hc ν τ hτ=> ?_
   have h1:=o8 hτ (fun k hk=>by simp[hk]) hx
   have h2:=o8 hτ (fun k hk=>by simp[hk]) hy
   exact V5 d _ t t' x y k a b _ _ (.int k r) ho hd hn h1 h2 hc.1.eq rfl rfl
 ·cases he
def xUn (d:Nat)(op:UnOp)(x:Operand)(L:SL)(w:Option Wit):Option Ex:=
 match op,ox L x with
 | .not,.one (.lf (.im _ (.bool b)))=>fin1 d (ok x) (.bool !b) [] w
 | .neg,.one (.lf (.im _ (.int k n)))=>fin1 d (ok x) (.im (.int k (k.wrap (0-n)))) [] w
 |_,_=>none
theorem a5j {op:UnOp}(ho:o.op= .unOp op t x)(hd:o.dst=some d)(hn:d<E.n)
 (he:xUn d op x L w=some ex):SoundOp P E o L ex:=by
 unfold xUn at he
 split at he
 ·rename_i s1 b hx
  exact l7 he fun hc ν τ hτ=>a6k d t x b ho hd hn (o8 hτ (by simp) hx)
 ·rename_i s1 k n hx
  exact l7 he fun hc ν τ hτ=>a6x d t x k n _ ho hd hn (o8 hτ (by simp) hx) rfl
 ·cases he
end Go.Proofs.Ytjfjdgjhihgdkaa.V
