/- Part 3 of the proof of FnModuleGoesOn. -/
import Derived.Test.YtjfjdgjhihgdkaaA2
import Derived.Laws.Strings2
import Derived.Laws.IdiomStrings
set_option linter.unusedVariables false
set_option linter.unusedSimpArgs false
namespace Go.Proofs.Ytjfjdgjhihgdkaa.V
open Go Go.RowKit
inductive Sh where
 |int (k:IntKind)
 |bool
 |str
 |sl (e:TypeId)
 |st (fs:List (Nat×Nat))
 |other
def Sh.agg :Sh→Bool
 | .st _=>true
 |_=>false
structure TI where
 sh:Sh
 size:Nat
 bytes:Nat
 zero:List Leaf
 zsv:List SV
def ShOK (P:Program)(t:TypeId)(zero:List Leaf):Sh→Prop
 | .int k=>P.underlying t=some (.int k)
 | .bool=>P.underlying t=some .bool
 | .str=>P.underlying t=some .string
 | .sl e=>P.underlying t=some (.slice e)∧P.elem t=e
 | .st fs=>(∃fa,P.underlying t=some (.struct fa)∧∀(j:Nat) p,fs[j]? =some p→∃f,fa[j]? =some f∧f.offset=p.1∧(P.info? f.type).map (·.size)=some p.2)∧StructTy P t fs zero
 | .other=>∃ds,P.underlying t=some ds∧(∀fs,ds≠.struct fs)∧∀n e,ds≠.array n e
structure TyOK (P:Program)(t:TypeId)(i:TI):Prop where
 info:∃z,(P.info? t).map (fun i=>(i.zero,i.size,i.bytes))=some (some z,i.size,i.bytes)∧z.cells.size=i.size∧z.cells.toList.map litLeaf=i.zero∧
  (i.zsv=[]∨(i.zsv.length=i.size∧zerosAre z.cells.toList i.zsv=true))
 pos:0<i.size
 one:i.sh.agg=false→i.size=1
 sh:ShOK P t i.zero i.sh
variable {P:Program} {t:TypeId} {i:TI}
theorem TyOK.size_eq (h:TyOK P t i):(P.info? t).map (·.size)=some i.size:=let⟨z,h1,_⟩:=h.info;a7d h1
theorem TyOK.ty (h:TyOK P t i):Ty P t i.size i.sh.agg:=by
 have hs:=h.size_eq
 have h1:=h.one
 have h2:=h.sh
 cases he:i.sh with
 |int k=>rw[he]at h1 h2;have e:=h1 rfl;rw[e]at hs⊢;exact Ty.one (ds:= .int k) h2 hs (by intro _ e;cases e) (by intro _ _ e;cases e)
 |bool=>rw[he]at h1 h2;have e:=h1 rfl;rw[e]at hs⊢;exact Ty.one (ds:= .bool) h2 hs (by intro _ e;cases e) (by intro _ _ e;cases e)
 |str=>rw[he]at h1 h2;have e:=h1 rfl;rw[e]at hs⊢;exact Ty.one (ds:= .string) h2 hs (by intro _ e;cases e) (by intro _ _ e;cases e)
 |sl e0=>rw[he]at h1 h2;have e:=h1 rfl;rw[e]at hs⊢;exact Ty.one (ds:= .slice e0) h2.1 hs (by intro _ e;cases e) (by intro _ _ e;cases e)
 |st fs=>rw[he]at h2;obtain⟨⟨fa,hu,_⟩,_⟩:=h2;exact Ty.struct hu hs
 |other=>rw[he]at h1 h2;have e:=h1 rfl;rw[e]at hs⊢;obtain⟨ds,hu,a1,a2⟩:=h2;exact Ty.one hu hs a1 a2
abbrev Tab :=List (Nat×TI)
def Tab.get :Tab→Nat→Option TI
 |[],_=>none
 |(k,i)::r,t=>bif Nat.beq t k then some i else Tab.get r t
def TabOK (P:Program):Tab→Prop
 |[]=>True
 |(k,i)::r=>TyOK P k i∧TabOK P r
theorem TabOK.get :∀{T:Tab},TabOK P T→∀{t:Nat} {i:TI},T.get t=some i→TyOK P t i
 |[],_,t,i,h=>by cases h
 |(k,i0)::r,hT,t,i,h=>by
  simp only[Tab.get]at h
  cases hb:Nat.beq t k with
  |true=>rw[hb]at h;cases h;obtain rfl:=Nat.eq_of_beq_eq_true hb;exact hT.1
  |false=>rw[hb]at h;exact TabOK.get hT.2 h
variable {E:Env} {o:Oper} {σ:St}
theorem a3j (d kt:Nat)(t:TypeId)(m:Nat)(agg:Bool)(x:Operand)(b c e sz i j off:Nat)(rows:List (List SV))(r:List SV)
 (ho:o.op= .load t x) (hd:o.dst=some d) (hn:d<E.n) (ht:Ty P t m agg) (h1:agg=false→m=1) (hx:opd σ x= .lf (.ptr b off)) (hk:σ (tk kt)= .lf (.u b c e sz rows))
 (hr:rows[i]? =some r) (hoff:off=i*sz+j) (hj:j+m≤sz):Step P E o σ (·=upd σ (tk d) (.one (partOf agg (imLeaves true ((r.drop j).take m))))):=by
 subst hoff
 refine Step.of_run fun g w a h=> ?_
 have hs:=h.slot kt
 rw[hk]at hs
 obtain⟨hv,hg,hc,hmx,cur,hh,hcs,hrows⟩:=hs
 have hxp:=G0 h hx
 have hrl:r.length=sz:=hrows.1 r (List.mem_of_getElem? hr)
 obtain⟨vs,hvl,hvc,hvs⟩:=SRep.choose (S:=Imm g true) (w:=w) (b:=b) (off:=i*sz+j) ((r.drop j).take m) 0 (fun q x hq=>by
  rw[Nat.zero_add]
  rw[List.getElem?_take]at hq
  split at hq
  ·rw[List.getElem?_drop]at hq
   obtain⟨y,hy,hry⟩:=hrows.2 i r (j+q) x hr hq
   refine⟨y,?_,hry⟩
   rw[show i*sz+j+q=i*sz+(j+q)from by omega]
   simp[World.cell?,hh,hy]
  ·cases hq)
 have hvl':vs.length=m:=by rw[hvl,List.length_take,List.length_drop];omega
 have hrun:=C1 (P:=P) (w:=w) ht b (i*sz+j) vs hvl' h1 (fun q y hq=>by have:=hvc q y hq;rwa[Nat.zero_add]at this)
 refine⟨if agg then .agg vs.toArray else vs.headD undef,w,drop (tk d) g,_,.inl ?_,rfl,?_⟩
 ·simp only[execOp,ho,hxp,Instr.loadAt,Instr.sureAddr,Sem.run_bind,Sem.run_pure,Result.andThen_ok,hrun]
 ·rw[hd]
  refine h.set d _ _ hn fun g' hg' hw'=> ?_
  have hmono:∀{y x},SRep (Imm g true) w y x→SRep (Imm g' true) w y x:=fun hh=>hh.mono (fun _ _=>rfl) (fun b hb=>hg' _ _ hb)
  cases agg with
  |true=>
   refine⟨vs.toArray,rfl,by simp[imLeaves,hvl],fun q l v hl hv=> ?_⟩
   simp only[imLeaves,List.getElem?_map,Option.map_eq_some_iff]at hl
   obtain⟨x,hx,rfl⟩:=hl
   exact hmono (hvs q v x (by simpa using hv) hx)
  |false=>
   have hsz:=h1 rfl
   subst hsz
   cases hr2:(r.drop j).take 1 with
   |nil=>rw[hr2]at hvl;simp at hvl;rw[hvl]at hvl';simp at hvl'
   |cons x rest=>
    cases vs with
    |nil=>cases hvl'
    |cons y ys=>
     simp only[partOf,imLeaves,hr2,Bool.false_eq_true,if_false,List.map_cons,List.headD_cons]
     exact hmono (hvs 0 y x rfl (by rw[hr2];rfl))
def xLoadB (ti:TI)(d:Nat)(x:Operand)(b off:Nat)(L:SL)(w:Option Wit):Option Ex:=
 match homeB b L with
 |none=>none
 |some (k,jb)=>match look L (ck (k/2))with
  | .own b0 ls bs=>match bs[jb]?,w with
   |some (.mk b' _ e sz rows),some (.elem i j r _)=>bif Nat.beq b' b then
    some ⟨ck (k/2)::ok x,[(tk d,.one (partOf ti.sh.agg (imLeaves true ((r.drop j).take ti.size))))],[],[rows[i]? =some r,off=i*sz+j,j+ti.size≤sz]⟩else none
   |_,_=>none
  |_=>none
def xLoadO (ti:TI)(d:Nat)(x:Operand)(b off k b':Nat)(ls:List Leaf)(bs:List Blk)(w:Option Wit):Option Ex:=
 match w with
 |some (.out jb)=>match ls[off]?,bs[jb]? with
  |some (.hd q n _),some (.mk q' _ e sz rows)=>bif Nat.beq b' b&&(Nat.beq q' q&& !ti.sh.agg)then
   some ⟨ck (k/2)::ok x,[(ck (k/2),.own b (ls.set off .hole) (bs.set jb .no)),(tk d,.lf (.u q 0 e sz rows))],[],[n=rows.length]⟩else none
  |_,_=>none
 |w=>bif Nat.beq b' b&&(Nat.ble (off+ti.size) ls.length&&((ls.drop off).take ti.size).all Leaf.bare)then
  fin1 d (ck (k/2)::ok x) (.one (partOf ti.sh.agg ((ls.drop off).take ti.size))) [] w else none
def xLoad (T:Tab)(t:TypeId)(d:Nat)(x:Operand)(L:SL)(w:Option Wit):Option Ex:=
 match T.get t with
 |none=>none
 |some ti=>match ox L x with
  | .one (.lf (.sref sh r))=>bif Nat.ble ti.size r.length then fin1 d (ok x) (.one (partOf ti.sh.agg (imLeaves sh (r.take ti.size)))) [] w else none
  | .one (.lf (.ptr b off))=>match home b L with
   |none=>xLoadB ti d x b off L w
   |some k=>match look L (ck (k/2))with
    | .cell b' ls=>bif Nat.beq b' b&&(Nat.ble (off+ti.size) ls.length&&((ls.drop off).take ti.size).all Leaf.bare)then
     fin1 d (ck (k/2)::ok x) (.one (partOf ti.sh.agg ((ls.drop off).take ti.size))) [] w else none
    | .own b' ls bs=>xLoadO ti d x b off k b' ls bs w
    |_=>match look L (tk (k/2)),w with
     | .one (.lf (.u b' _ e sz rows)),some (.elem i j r _)=>bif Nat.beq b' b then
      some ⟨tk (k/2)::ok x,[(tk d,.one (partOf ti.sh.agg (imLeaves true ((r.drop j).take ti.size))))],[],[rows[i]? =some r,off=i*sz+j,j+ti.size≤sz]⟩else none
     |_,_=>none
  |_=>none
theorem a27 (ν:Nm)(agg:Bool)(sh:Bool)(r:List SV):renP ν (partOf agg (imLeaves sh r))=partOf agg (imLeaves sh r):=by
 cases agg with
 |true=>simp only[partOf,if_true,renP,imLeaves,List.map_map];congr 1
 |false=>simp only[partOf,Bool.false_eq_true,if_false,renP,imLeaves];cases r<;>rfl
theorem a2w (ν:Nm)(agg:Bool)(ls:List Leaf):renP ν (partOf agg ls)=partOf agg (ls.map (renL ν)):=by
 cases agg with
 |true=>rfl
 |false=>simp only[partOf,Bool.false_eq_true,if_false,renP];cases ls<;>rfl
variable {ν:Nm} {ls:List Leaf}
theorem v8 (h:ls.all Leaf.bare=true):(ls.map (renL ν)).all Leaf.bare=true:=by
 rw[List.all_map]
 exact List.all_eq_true.2 fun l hl=>K0 (List.all_eq_true.1 h l hl)
variable {bs:List Blk} {j:Nat}
theorem a0O (h:(bs.map (renB ν))[j]? =some .no):(bs.set j .no).map (renB ν)=bs.map (renB ν):=by
 rw[List.map_set]
 apply List.ext_getElem?
 intro i
 by_cases e:i=j
 ·subst e
  have hlt:=(List.getElem?_eq_some_iff.1 h).1
  rw[List.getElem?_set_self hlt,h];rfl
 ·rw[List.getElem?_set_ne (fun e1=>e e1.symm)]
variable {b:Nat}
theorem A6 {g:Nat→Tag}{w:World}{a:Act}{c:Nat}(h:Rel E g w a σ)(hc:σ (ck c)= .own b ls bs)(hj:bs[j]? =some badBlk):False:=by
 have:=h.cell c
 rw[hc]at this
 exact a7w (this.2 j _ hj)
variable {ti:TI} {d off:Nat} {x:Operand} {L:SL} {w:Option Wit} {ex:Ex}
theorem a2D (hty:TyOK P t ti)(ho:o.op= .load t x)(hd:o.dst=some d)(hn:d<E.n)(hx:ox L x= .one (.lf (.ptr b off)))
 (he:xLoadB ti d x b off L w=some ex):SoundOp P E o L ex:=by
 unfold xLoadB at he
 split at he
 ·cases he
 ·rename_i k jb hk
  split at he
  ·rename_i b0 ls bs hc
   split at he
   ·rename_i b' cc e sz rows i j r rr hjb
    cases hb:Nat.beq b' b with
    |false=>rw[hb]at he;cases he
    |true=>
     rw[hb]at he
     cases he
     obtain rfl:=Nat.eq_of_beq_eq_true hb
     refine SoundOp.plain fun hcs ν τ hτ=> ?_
     have h:=i8 hτ (fun k hk=>by simp[hk]) hx
     have h2:=hτ (ck (k/2)) (by simp)
     simp only[den,hc,renS]at h2
     simp only[renS,renP,renL]at h
     simp only[renW,List.map,updL,renS,a27]
     cases hν0:ν b0 with
     |none=>rw[hν0]at h2;exact Step.absurd fun g w a hr=>i6 hr h2
     |some p0=>
      rw[hν0]at h2
      cases hν:ν b' with
      |none=>rw[hν]at h;exact Step.absurd fun g w a hr=>u9 hr h
      |some p=>
       rw[hν]at h
       have hj2:(bs.map (renB ν))[jb]? =some (.mk p.1 p.2 e sz rows):=by rw[List.getElem?_map,hjb];simp only[Option.map_some,renB,hν]
       exact N3 d t ti.size _ x p.1 sz i j off rows r ho hd hn hty.ty hty.one h (a3s h2 hj2) hcs.1 hcs.2.1 hcs.2.2.1
   ·cases he
  ·cases he
variable {k b':Nat}
theorem a2K (hty:TyOK P t ti)(ho:o.op= .load t x)(hd:o.dst=some d)(hn:d<E.n)(hx:ox L x= .one (.lf (.ptr b off)))
 (hc:look L (ck (k/2))= .own b' ls bs) (he:xLoadO ti d x b off k b' ls bs w=some ex):SoundOp P E o L ex:=by
 unfold xLoadO at he
 split at he
 ·rename_i jb
  split at he
  ·rename_i q n qc q' qc' e sz rows hl hjb
   cases hb:Nat.beq b' b&&(Nat.beq q' q&& !ti.sh.agg)with
   |false=>rw[hb]at he;cases he
   |true=>
    rw[hb]at he
    cases he
    rw[Bool.and_eq_true,Bool.and_eq_true]at hb
    obtain⟨hb1,hb2,hb3⟩:=hb
    obtain rfl:=Nat.eq_of_beq_eq_true hb1
    obtain rfl:=Nat.eq_of_beq_eq_true hb2
    have hag:ti.sh.agg=false:=by simpa using hb3
    have ht1:Ty P t 1 false:=by have h1:=hty.ty;rw[hag,hty.one hag]at h1;exact h1
    refine SoundOp.plain fun hcs ν τ hτ=> ?_
    have h:=i8 hτ (fun k hk=>by simp[hk]) hx
    have h2:=hτ (ck (k/2)) (by simp)
    simp only[den,hc,renS]at h2
    simp only[renS,renP,renL]at h
    simp only[renW,List.map,updL,renS,renP,renL,Slot.lf]
    have hrn:n=rows.length:=hcs.1
    cases hν0:ν b' with
    |none=>rw[hν0]at h2;exact Step.absurd fun g w a hr=>i6 hr h2
    |some p0=>
     rw[hν0]at h h2
     simp only at h h2⊢
     cases hν:ν q' with
     |some p=>
      have hj2:(bs.map (renB ν))[jb]? =some (.mk p.1 p.2 e sz rows):=by rw[List.getElem?_map,hjb];simp only[Option.map_some,renB,hν]
      have hl2:(ls.map (renL ν))[off]? =some (.hd p.1 n p.2):=by rw[List.getElem?_map,hl];simp only[Option.map_some,renL,hν]
      rw[List.map_set,List.map_set]
      exact a1i d (k/2) t x p0.1 off jb p.1 p.2 n e sz _ _ rows ho hd hn ht1 h h2 hl2 hj2 hrn
     |none=>
      cases rows with
      |cons r rs=>
       refine Step.absurd fun g w a hr=>A6 (j:=jb) hr h2 ?_
       rw[List.getElem?_map,hjb];simp only[Option.map_some,renB,hν];rfl
      |nil=>
       have hn0:n=0:=hrn
       subst hn0
       have hj2:(bs.map (renB ν))[jb]? =some .no:=by rw[List.getElem?_map,hjb];simp only[Option.map_some,renB,hν];rfl
       have hl2:(ls.map (renL ν))[off]? =some .nil:=by rw[List.getElem?_map,hl];simp only[Option.map_some,renL,hν,if_true]
       have h3:=C8 (P:=P) (E:=E) (o:=o) (σ:=τ) d (k/2) t 1 false x p0.1 off (ls.map (renL ν)) ho hd hn ht1 (fun _=>rfl) h (.inr ⟨_,h2⟩) (by have:=(List.getElem?_eq_some_iff.1 hl2).1;omega) (by rw[V6 hl2];rfl)
       rw[V6 hl2]at h3
       refine h3.turn' fun τ' e0=> ?_
       subst e0
       intro g1 w1 a1 hr1
       obtain⟨g2,τ2,e2,hr2⟩:=K7 (k/2) p0.1 off (ls.map (renL ν)) (bs.map (renB ν)) (by rw[d4 _ _ (j8 _ _)];exact h2) g1 w1 a1 hr1
       subst e2
       refine⟨g2,_,?_,hr2⟩
       rw[a0O hj2,List.map_set,E0 _ _ _ (j8 _ _).symm]
       rfl
  ·cases he
 ·cases hb:Nat.beq b' b&&(Nat.ble (off+ti.size) ls.length&&((ls.drop off).take ti.size).all Leaf.bare)with
  |false=>rw[hb]at he;cases he
  |true=>
   rw[hb]at he
   rw[Bool.and_eq_true,Bool.and_eq_true]at hb
   obtain⟨hb1,hb2,hb3⟩:=hb
   obtain rfl:=Nat.eq_of_beq_eq_true hb1
   refine l7 he fun _ ν τ hτ=> ?_
   have h:=i8 hτ (fun k hk=>by simp[hk]) hx
   have h2:=hτ (ck (k/2)) (by simp)
   simp only[den,hc,renS]at h2
   simp only[renS,renP,renL]at h
   cases hν:ν b' with
   |none=>rw[hν]at h2;exact Step.absurd fun g w a hr=>i6 hr h2
   |some p=>
    rw[hν]at h h2
    simp only[renS,a2w]
    have e1:((ls.drop off).take ti.size).map (renL ν)=((ls.map (renL ν)).drop off).take ti.size:=by rw[List.map_take,List.map_drop]
    rw[e1]
    exact C8 d (k/2) t ti.size _ x p.1 off _ ho hd hn hty.ty hty.one h (.inr ⟨_,h2⟩) (by rw[List.length_map];exact Nat.le_of_ble_eq_true hb2) (by rw[←e1];exact v8 hb3)
variable {T:Tab}
theorem a3c (hT:TabOK P T)(ho:o.op= .load t x)(hd:o.dst=some d)(hn:d<E.n)
 (he:xLoad T t d x L w=some ex):SoundOp P E o L ex:=by
 unfold xLoad at he
 split at he
 ·cases he
 ·rename_i ti hti
  have hty:=hT.get hti
  split at he
  ·rename_i sh r hx
   cases hb:Nat.ble ti.size r.length with
   |false=>rw[hb]at he;cases he
   |true=>
    rw[hb]at he
    refine l7 he fun _ ν τ hτ=> ?_
    have h:=i8 hτ (by simp) hx
    simp only[renS,a27]
    exact a0x d t ti.size _ x r ho hd hn hty.ty hty.one h (Nat.le_of_ble_eq_true hb)
  ·rename_i b off hx
   split at he
   ·exact a2D hty ho hd hn hx he
   ·rename_i k hk
    split at he
    ·rename_i b' ls hc
     cases hb:Nat.beq b' b&&(Nat.ble (off+ti.size) ls.length&&((ls.drop off).take ti.size).all Leaf.bare)with
     |false=>rw[hb]at he;cases he
     |true=>
      rw[hb]at he
      rw[Bool.and_eq_true,Bool.and_eq_true]at hb
      obtain⟨hb1,hb2,hb3⟩:=hb
      obtain rfl:=Nat.eq_of_beq_eq_true hb1
      refine l7 he fun _ ν τ hτ=> ?_
      have h:=i8 hτ (fun k hk=>by simp[hk]) hx
      have h2:=hτ (ck (k/2)) (by simp)
      simp only[den,hc,renS]at h2
      simp only[renS,renP,renL]at h
      cases hν:ν b' with
      |none=>rw[hν]at h2;exact Step.absurd fun g w a hr=>i6 hr h2
      |some p=>
       rw[hν]at h h2
       simp only[renS,a2w]
       have e1:((ls.drop off).take ti.size).map (renL ν)=((ls.map (renL ν)).drop off).take ti.size:=by rw[List.map_take,List.map_drop]
       rw[e1]
       exact C8 d (k/2) t ti.size _ x p.1 off _ ho hd hn hty.ty hty.one h (.inl h2) (by rw[List.length_map];exact Nat.le_of_ble_eq_true hb2) (by rw[←e1];exact v8 hb3)
    ·rename_i b' ls bs hc;exact a2K hty ho hd hn hx hc he
    ·split at he
     ·rename_i b' c e sz rows i j r rr hu
      cases hb:Nat.beq b' b with
      |false=>rw[hb]at he;cases he
      |true=>
       rw[hb]at he
       cases he
       obtain rfl:=Nat.eq_of_beq_eq_true hb
       refine SoundOp.plain fun hc ν τ hτ=> ?_
       have h:=i8 hτ (fun k hk=>by simp[hk]) hx
       have h2:=hτ (tk (k/2)) (by simp)
       simp only[den,hu,renS,renP,renL]at h2
       simp only[renS,renP,renL]at h
       simp only[renW,List.map,updL,renS,a27]
       cases hν:ν b' with
       |none=>rw[hν]at h;exact Step.absurd fun g w a hr=>u9 hr h
       |some p=>
        rw[hν]at h h2
        exact a3j d (k/2) t ti.size _ x p.1 _ _ _ i j off rows r ho hd hn hty.ty hty.one h h2 hc.1 hc.2.1 hc.2.2.1
     ·cases he
  ·cases he
def isNew :List Leaf→List SV→Option (List SV)
 |[],_=>some []
 | .im true v::ls,old=>match isNew ls old.tail with
  |some r=>some (v::r)
  |none=>none
 | .nil::ls,.sl sz _::old=>match isNew ls old with
  |some r=>some (.sl sz []::r)
  |none=>none
 |_::_,_=>none
theorem E1 {ν:Nm}:∀{ls:List Leaf} {old new:List SV},isNew ls old=some new→LeavesIs (ls.map (renL ν)) new
 |[],old,new,h=>by simp only[isNew]at h;cases h;exact trivial
 | .im true v::ls,old,new,h=>by
  simp only[isNew]at h
  split at h
  ·rename_i r hr;cases h;exact⟨rfl,E1 hr⟩
  ·cases h
 | .nil::ls,.sl sz rows::old,new,h=>by
  simp only[isNew]at h
  split at h
  ·rename_i r hr;cases h;exact⟨trivial,E1 hr⟩
  ·cases h
 | .im false v::ls,old,new,h=>by simp[isNew]at h
 | .u .. ::ls,old,new,h=>by simp[isNew]at h
 | .hd .. ::ls,old,new,h=>by simp[isNew]at h
 | .ptr .. ::ls,old,new,h=>by simp[isNew]at h
 | .sref .. ::ls,old,new,h=>by simp[isNew]at h
 | .ul .. ::ls,old,new,h=>by simp[isNew]at h
 | .nst .. ::ls,old,new,h=>by simp[isNew]at h
 | .hole::ls,old,new,h=>by simp[isNew]at h
 | .nil::ls,[],new,h=>by simp[isNew]at h
 | .nil::ls,.int .. ::old,new,h=>by simp[isNew]at h
 | .nil::ls,.bool .. ::old,new,h=>by simp[isNew]at h
 | .nil::ls,.str .. ::old,new,h=>by simp[isNew]at h
 | .nil::ls,.fn .. ::old,new,h=>by simp[isNew]at h
theorem S2 {new:List SV}(h:LeavesIs (ls.map (renL ν)) new):(ls.map (renL ν)).all Leaf.told=true:=by
 rw[List.all_eq_true]
 intro l hl
 obtain⟨q,hq⟩:=List.mem_iff_getElem?.1 hl
 obtain⟨h1,h2⟩:=h.get
 have hlt:=(List.getElem?_eq_some_iff.1 hq).1
 obtain⟨l',e1,e2⟩:=h2 (List.getElem?_eq_getElem (l:=new) (i:=q) (by omega))
 rw[hq]at e1
 cases e1
 cases l<;>first|rfl|exact e2.elim
theorem i7 (ν:Nm)(p:Part):(renP ν p).leaves=p.leaves.map (renL ν):=by cases p<;>rfl
theorem a11 {l:Leaf}(h:l.told=true):(renL ν l).told=true:=by
 cases l<;>simp only[Leaf.told]at h<;>simp only[renL]<;>first|rfl|(cases h)|skip
 all_goals (split<;>first|rfl|(split<;>rfl))
variable {p:Part}
theorem Q1 (h:p.told=true):(renP ν p).told=true:=by
 cases p with
 |lf l=>exact a11 h
 |agg ls=>
  simp only[Part.told,renP,List.all_map]at h⊢
  exact List.all_eq_true.2 fun l hl=>a11 (List.all_eq_true.1 h l hl)
theorem a2V (h:p.leaves.all Leaf.told=true):p.told=true:=by
 cases p with
 |lf l=>simpa[Part.leaves,Part.told]using h
 |agg ls=>simpa[Part.leaves,Part.told]using h
def xStoreB (ti:TI)(x y:Operand)(off b:Nat)(p:Part)(L:SL)(w:Option Wit):Option Ex:=
 match homeB b L with
 |none=>none
 |some (k,jb)=>match look L (ck (k/2))with
  | .own b0 ls bs=>match bs[jb]?,w with
   |some (.mk b' _ e sz rows),some (.elem i j r rr)=>match isNew p.leaves (r.drop j)with
    |some new=>bif Nat.beq b' b&&Nat.beq new.length ti.size then
     some ⟨ck (k/2)::(ok x++ok y),[(ck (k/2),.own b0 ls (bs.set jb (.mk b 0 e sz (rr.getD (rows.set i (cutIn r j new))))))],[],[rows[i]? =some r,off=i*sz+j,j+ti.size≤sz,∀z,rr=some z→rows.set i (cutIn r j new)=z]⟩else none
    |none=>none
   |_,_=>none
  |_=>none
def xStoreO (ti:TI)(x y:Operand)(off b k b':Nat)(ls:List Leaf)(bs:List Blk)(p:Part)(L:SL)(w:Option Wit):Option Ex:=
 match w with
 |some (.inn jb)=>match y with
  | .tmp t=>match look L (tk t),bs[jb]? with
   | .one (.lf (.u q _ e sz rows)),some .no=>bif Nat.beq b' b&&(Nat.beq ti.size 1&&Nat.ble (off+1) ls.length)then
    some ⟨ck (k/2)::(ok x++[tk t]),[(ck (k/2),.own b (splice ls off [.hd q rows.length 0]) (bs.set jb (.mk q 0 e sz rows))),(tk t,.lf (.hd q rows.length 0))],[],[]⟩else none
   |_,_=>none
  |_=>none
 |_=>bif Nat.beq b' b&&(Nat.ble (off+ti.size) ls.length&&(Nat.beq p.leaves.length ti.size&&(p.leaves.all Leaf.bare&&p.told)))then
  some ⟨ck (k/2)::(ok x++ok y),[(ck (k/2),.own b (splice ls off p.leaves) bs)],[],[]⟩else none
def xStore (T:Tab)(t:TypeId)(x y:Operand)(L:SL)(w:Option Wit):Option Ex:=
 match T.get t with
 |none=>none
 |some ti=>match ox L x,ox L y with
  | .one (.lf (.ptr b off)),.one p=>match home b L with
   |none=>xStoreB ti x y off b p L w
   |some k=>match look L (ck (k/2))with
    | .cell b' ls=>bif Nat.beq b' b&&(Nat.ble (off+ti.size) ls.length&&(Nat.beq p.leaves.length ti.size&&(p.leaves.all Leaf.bare&&p.told)))then
     some ⟨ck (k/2)::(ok x++ok y),[(ck (k/2),.cell b (splice ls off p.leaves))],[],[]⟩else none
    | .own b' ls bs=>xStoreO ti x y off b k b' ls bs p L w
    |_=>match look L (tk (k/2)),w with
     | .one (.lf (.u b' _ e sz rows)),some (.elem i j r rr)=>match isNew p.leaves (r.drop j)with
      |some new=>bif Nat.beq b' b&&Nat.beq new.length ti.size then
       some ⟨tk (k/2)::(ok x++ok y),[(tk (k/2),.lf (.u b 0 e sz (rr.getD (rows.set i (cutIn r j new)))))],[],[rows[i]? =some r,off=i*sz+j,j+ti.size≤sz,∀z,rr=some z→rows.set i (cutIn r j new)=z]⟩else none
      |none=>none
     |_,_=>none
  |_,_=>none
theorem L8 (f:Leaf→Leaf)(ls:List Leaf)(off:Nat)(new:List Leaf):(splice ls off new).map f=splice (ls.map f) off (new.map f):=by
 simp[splice,List.map_take,List.map_drop]
variable {y:Operand}
theorem a1I (hty:TyOK P t ti)(ho:o.op= .store t x y)(hd:o.dst=none)
 (hx:ox L x= .one (.lf (.ptr b off))) (hy:ox L y= .one p) (he:xStoreB ti x y off b p L w=some ex):SoundOp P E o L ex:=by
 unfold xStoreB at he
 split at he
 ·cases he
 ·rename_i k jb hk
  split at he
  ·rename_i b0 ls bs hc
   split at he
   ·rename_i b' cc e sz rows i j r rr hjb
    split at he
    ·rename_i new hnew
     cases hb:Nat.beq b' b&&Nat.beq new.length ti.size with
     |false=>rw[hb]at he;cases he
     |true=>
      rw[hb]at he
      cases he
      rw[Bool.and_eq_true]at hb
      obtain rfl:=Nat.eq_of_beq_eq_true hb.1
      refine SoundOp.plain fun hcs ν τ hτ=> ?_
      have h:=i8 hτ (fun k hk=>by simp[hk]) hx
      have hy':=i8 hτ (fun k hk=>by simp[hk]) hy
      have h2:=hτ (ck (k/2)) (by simp)
      simp only[den,hc,renS]at h2
      simp only[renS,renP,renL]at h
      simp only[renS]at hy'
      have hrr:rr.getD (rows.set i (cutIn r j new))=rows.set i (cutIn r j new):=by
       cases rr with
       |none=>rfl
       |some z=>exact(hcs.2.2.2.1 z rfl).symm
      rw[hrr]
      simp only[renW,List.map,updL,renS]
      cases hν0:ν b0 with
      |none=>rw[hν0]at h2;exact Step.absurd fun g w a hr=>i6 hr h2
      |some p0=>
       rw[hν0]at h2
       cases hν:ν b' with
       |none=>rw[hν]at h;exact Step.absurd fun g w a hr=>u9 hr h
       |some q=>
        rw[hν]at h
        have hj2:(bs.map (renB ν))[jb]? =some (.mk q.1 q.2 e sz rows):=by rw[List.getElem?_map,hjb];simp only[Option.map_some,renB,hν]
        have his:LeavesIs (renP ν p).leaves new:=by rw[i7];exact E1 hnew
        have h3:=N0 (P:=P) (E:=E) (o:=o) (σ:=τ) (k/2) jb p0.1 _ _ t e sz ti.size x y q.1 q.2 i j off rows r new (renP ν p) ho hd hty.size_eq h h2 hj2 hy' his (Nat.eq_of_beq_eq_true hb.2)
         (a2V (by rw[i7];exact S2 (by rw[←i7];exact his))) hcs.1 hcs.2.1 hcs.2.2.1
        rw[List.map_set]
        simp only[renB,hν]
        exact h3
    ·cases he
   ·cases he
  ·cases he
theorem a1o (hty:TyOK P t ti)(ho:o.op= .store t x y)(hd:o.dst=none)
 (hx:ox L x= .one (.lf (.ptr b off))) (hy:ox L y= .one p) (hc:look L (ck (k/2))= .own b' ls bs) (he:xStoreO ti x y off b k b' ls bs p L w=some ex):SoundOp P E o L ex:=by
 unfold xStoreO at he
 split at he
 ·rename_i jb
  split at he
  ·rename_i t'
   split at he
   ·rename_i q qc e sz rows hu hjb
    cases hb:Nat.beq b' b&&(Nat.beq ti.size 1&&Nat.ble (off+1) ls.length)with
    |false=>rw[hb]at he;cases he
    |true=>
     rw[hb]at he
     cases he
     rw[Bool.and_eq_true,Bool.and_eq_true]at hb
     obtain⟨hb1,hb2,hb3⟩:=hb
     obtain rfl:=Nat.eq_of_beq_eq_true hb1
     refine SoundOp.plain fun hcs ν τ hτ=> ?_
     have h:=i8 hτ (fun k hk=>by simp[hk]) hx
     have h2:=hτ (ck (k/2)) (by simp)
     have h4:=hτ (tk t') (by simp)
     have hz:=hty.size_eq
     rw[Nat.eq_of_beq_eq_true hb2]at hz
     simp only[den,hc,renS]at h2
     simp only[den,hu,renS,renP,renL]at h4
     simp only[renS,renP,renL]at h
     simp only[renW,List.map,updL,renS,renP,renL,Slot.lf,L8,List.map_cons,List.map_nil]
     cases hν0:ν b' with
     |none=>rw[hν0]at h2;exact Step.absurd fun g w a hr=>i6 hr h2
     |some p0=>
      rw[hν0]at h h2
      simp only at h h2⊢
      have hj2:(bs.map (renB ν))[jb]? =some .no:=by rw[List.getElem?_map,hjb];rfl
      have hlen:off+1≤(ls.map (renL ν)).length:=by rw[List.length_map];exact Nat.le_of_ble_eq_true hb3
      cases hν:ν q with
      |some p1=>
       rw[hν]at h4
       rw[List.map_set]
       simp only[renB,hν]
       exact a1A (k/2) t' t x p0.1 off jb p1.1 p1.2 e sz _ _ rows ho hd hz h h2 hj2 h4 hlen
      |none=>
       cases rows with
       |cons r rs=>
        rw[hν]at h4
        exact Step.absurd fun g w a hr=>z2 hr h4
       |nil=>
        rw[hν]at h4
        simp only[List.isEmpty_nil,if_true]at h4
        have h3:=z9 (P:=P) (E:=E) (o:=o) (σ:=τ) (k/2) t 1 x (.tmp t') p0.1 off (ls.map (renL ν)) (.lf .nil) ho hd hz h (.inr ⟨_,h2⟩) h4 rfl rfl rfl hlen
        refine h3.mono fun τ' e0=> ?_
        subst e0
        have e2:(bs.set jb (.mk q 0 e sz [])).map (renB ν)=bs.map (renB ν):=by
         rw[←a0O hj2,List.map_set,List.map_set]
         simp only[renB,hν];rfl
        rw[e2,h2]
        simp only[List.length_nil,if_true]
        have e3:upd (upd τ (ck (k/2)) (.own p0.1 (splice (ls.map (renL ν)) off [.nil]) (bs.map (renB ν)))) (tk t') (.lf .nil)=upd τ (ck (k/2)) (.own p0.1 (splice (ls.map (renL ν)) off [.nil]) (bs.map (renB ν))):=by
         funext k'
         simp only[upd]
         split
         ·rename_i e4;rw[e4,if_neg (j8 _ _).symm,h4]
         ·rfl
        exact e3.symm
   ·cases he
  ·cases he
 ·cases hb:Nat.beq b' b&&(Nat.ble (off+ti.size) ls.length&&(Nat.beq p.leaves.length ti.size&&(p.leaves.all Leaf.bare&&p.told)))with
  |false=>rw[hb]at he;cases he
  |true=>
   rw[hb]at he
   cases he
   rw[Bool.and_eq_true,Bool.and_eq_true,Bool.and_eq_true,Bool.and_eq_true]at hb
   obtain⟨hb1,hb2,hb3,hb4,hb5⟩:=hb
   obtain rfl:=Nat.eq_of_beq_eq_true hb1
   refine SoundOp.plain fun _ ν τ hτ=> ?_
   have h:=i8 hτ (fun k hk=>by simp[hk]) hx
   have hy':=i8 hτ (fun k hk=>by simp[hk]) hy
   have h2:=hτ (ck (k/2)) (by simp)
   simp only[den,hc,renS]at h2
   simp only[renS,renP,renL]at h
   simp only[renS]at hy'
   simp only[renW,List.map,updL,renS]
   cases hν:ν b' with
   |none=>rw[hν]at h2;exact Step.absurd fun g w a hr=>i6 hr h2
   |some q=>
    rw[hν]at h h2
    simp only[L8]
    rw[←i7]
    have h3:=z9 (P:=P) (E:=E) (o:=o) (σ:=τ) (k/2) t ti.size x y q.1 off _ (renP ν p) ho hd hty.size_eq h (.inr ⟨_,h2⟩) hy' (by rw[i7,List.length_map];exact Nat.eq_of_beq_eq_true hb3) (by rw[i7];exact v8 hb4) (Q1 hb5)
     (by rw[List.length_map];exact Nat.le_of_ble_eq_true hb2)
    rw[h2]at h3
    exact h3
theorem a2e (hT:TabOK P T)(ho:o.op= .store t x y)(hd:o.dst=none)
 (he:xStore T t x y L w=some ex):SoundOp P E o L ex:=by
 unfold xStore at he
 split at he
 ·cases he
 ·rename_i ti hti
  have hty:=hT.get hti
  split at he
  ·rename_i b off p hx hy
   split at he
   ·exact a1I hty ho hd hx hy he
   ·rename_i k hk
    split at he
    ·rename_i b' ls hc
     cases hb:Nat.beq b' b&&(Nat.ble (off+ti.size) ls.length&&(Nat.beq p.leaves.length ti.size&&(p.leaves.all Leaf.bare&&p.told)))with
     |false=>rw[hb]at he;cases he
     |true=>
      rw[hb]at he
      cases he
      rw[Bool.and_eq_true,Bool.and_eq_true,Bool.and_eq_true,Bool.and_eq_true]at hb
      obtain⟨hb1,hb2,hb3,hb4,hb5⟩:=hb
      obtain rfl:=Nat.eq_of_beq_eq_true hb1
      refine SoundOp.plain fun _ ν τ hτ=> ?_
      have h:=i8 hτ (fun k hk=>by simp[hk]) hx
      have hy':=i8 hτ (fun k hk=>by simp[hk]) hy
      have h2:=hτ (ck (k/2)) (by simp)
      simp only[den,hc,renS]at h2
      simp only[renS,renP,renL]at h
      simp only[renS]at hy'
      simp only[renW,List.map,updL,renS]
      cases hν:ν b' with
      |none=>rw[hν]at h2;exact Step.absurd fun g w a hr=>i6 hr h2
      |some q=>
       rw[hν]at h h2
       simp only[L8]
       rw[←i7]
       have h3:=z9 (P:=P) (E:=E) (o:=o) (σ:=τ) (k/2) t ti.size x y q.1 off _ (renP ν p) ho hd hty.size_eq h (.inl h2) hy' (by rw[i7,List.length_map];exact Nat.eq_of_beq_eq_true hb3) (by rw[i7];exact v8 hb4) (Q1 hb5)
        (by rw[List.length_map];exact Nat.le_of_ble_eq_true hb2)
       rw[h2]at h3
       exact h3
    ·rename_i b' ls bs hc;exact a1o hty ho hd hx hy hc he
    ·split at he
     ·rename_i b' c e sz rows i j r rr hu
      split at he
      ·rename_i new hnew
       cases hb:Nat.beq b' b&&Nat.beq new.length ti.size with
       |false=>rw[hb]at he;cases he
       |true=>
        rw[hb]at he
        cases he
        rw[Bool.and_eq_true]at hb
        obtain rfl:=Nat.eq_of_beq_eq_true hb.1
        refine SoundOp.plain fun hc ν τ hτ=> ?_
        have h:=i8 hτ (fun k hk=>by simp[hk]) hx
        have hy':=i8 hτ (fun k hk=>by simp[hk]) hy
        have h2:=hτ (tk (k/2)) (by simp)
        simp only[den,hu,renS,renP,renL]at h2
        simp only[renS,renP,renL]at h
        simp only[renS]at hy'
        have hrr:rr.getD (rows.set i (cutIn r j new))=rows.set i (cutIn r j new):=by
         cases rr with
         |none=>rfl
         |some z=>exact(hc.2.2.2.1 z rfl).symm
        rw[hrr]
        simp only[renW,List.map,updL,renS,renP,renL,Slot.lf]
        cases hν:ν b' with
        |none=>rw[hν]at h;exact Step.absurd fun g w a hr=>u9 hr h
        |some q=>
         rw[hν]at h h2
         have his:LeavesIs (renP ν p).leaves new:=by rw[i7];exact E1 hnew
         exact U4 (k/2) t e sz ti.size x y q.1 q.2 i j off rows r new (renP ν p) ho hd hty.size_eq h h2 hy' his (Nat.eq_of_beq_eq_true hb.2) (a2V (by rw[i7];exact S2 (by rw[←i7];exact his))) hc.1 hc.2.1 hc.2.2.1
      ·cases he
     ·cases he
  ·cases he
def xField (T:Tab)(t:TypeId)(d:Nat)(x:Operand)(j:Nat)(L:SL)(w:Option Wit):Option Ex:=
 match T.get t with
 |none=>none
 |some ti=>match ti.sh with
  | .st fs=>match fs[j]? with
   |none=>none
   |some p=>bif Nat.ble 1 p.2 then(match ox L x with
    | .one (.lf (.ptr b off))=>fin1 d (ok x) (.lf (.ptr b (off+p.1))) [] w
    | .one (.lf (.sref sh r))=>bif Nat.ble p.1 r.length then fin1 d (ok x) (.lf (.sref sh (r.drop p.1))) [] w else none
    |_=>none)else none
  |_=>none
theorem a2A (hT:TabOK P T)(ho:o.op= .fieldAddr t x j)(hd:o.dst=some d)(hn:d<E.n)
 (he:xField T t d x j L w=some ex):SoundOp P E o L ex:=by
 unfold xField at he
 split at he
 ·cases he
 ·rename_i ti hti
  have hty:=(hT.get hti).sh
  split at he
  ·rename_i fs hfs
   rw[hfs]at hty
   obtain⟨⟨fa,hu,hfa⟩,_⟩:=hty
   split at he
   ·cases he
   ·rename_i p hp
    obtain⟨f,hf,ho2,hs⟩:=hfa j p hp
    cases hb:Nat.ble 1 p.2 with
    |false=>rw[hb]at he;cases he
    |true=>
     rw[hb]at he
     simp only[cond_true]at he
     have hpos:=Nat.le_of_ble_eq_true hb
     split at he
     ·rename_i b off hx
      refine l7 he fun _ ν τ hτ=> ?_
      have h:=i8 hτ (by simp) hx
      simp only[renS,renP,renL,Slot.lf]at h⊢
      cases hν:ν b with
      |none=>rw[hν]at h;exact Step.absurd fun g w a hr=>u9 hr h
      |some q=>
       rw[hν]at h
       rw[←ho2]
       exact a0t d t fa f j p.2 q.1 off x ho hd hn hu hf hs hpos h
     ·rename_i sh r hx
      cases hb2:Nat.ble p.1 r.length with
      |false=>rw[hb2]at he;cases he
      |true=>
       rw[hb2]at he
       refine l7 he fun _ ν τ hτ=> ?_
       have h:=i8 hτ (by simp) hx
       simp only[renS,renP,renL,Slot.lf]at h⊢
       rw[←ho2]
       exact X6 d t fa f j p.2 x r ho hd hn hu hf hs hpos h (by rw[ho2];exact Nat.le_of_ble_eq_true hb2)
     ·cases he
  ·cases he
def xIndexAddr (T:Tab)(t:TypeId)(d:Nat)(x y:Operand)(L:SL)(w:Option Wit):Option Ex:=
 match T.get t with
 |none=>none
 |some ti=>match ti.sh with
  | .sl e=>match T.get e with
   |none=>none
   |some te=>match ox L x,ox L y with
    | .one (.lf (.im sh (.sl sz rows))),.one (.lf (.im _ (.int k i)))=>match w with
     |some (.row r)=>bif Nat.beq sz te.size then some ⟨ok x++ok y,[(tk d,.lf (.sref sh r))],[],[0≤i,rows[i.toNat]? =some r]⟩else none
     |_=>none
    | .one (.lf (.hd b n _)),.one (.lf (.im _ (.int k i)))=>some ⟨ok x++ok y,[(tk d,.lf (.ptr b (i.toNat*te.size)))],[],[0≤i,i<(n:Int)]⟩
    |_,_=>none
  |_=>none
theorem U8 (hT:TabOK P T)(ho:o.op= .indexAddr t x y)(hd:o.dst=some d)(hn:d<E.n)
 (he:xIndexAddr T t d x y L w=some ex):SoundOp P E o L ex:=by
 unfold xIndexAddr at he
 split at he
 ·cases he
 ·rename_i ti hti
  have hty:=(hT.get hti).sh
  split at he
  ·rename_i e hsl
   rw[hsl]at hty
   split at he
   ·cases he
   ·rename_i te hte
    have htz:=(hT.get hte).size_eq
    split at he
    ·rename_i sh sz rows s2 k i hx hy
     split at he
     ·rename_i r
      cases hb:Nat.beq sz te.size with
      |false=>rw[hb]at he;cases he
      |true=>
       rw[hb]at he
       cases he
       rw[←Nat.eq_of_beq_eq_true hb]at htz
       refine SoundOp.plain fun hc ν τ hτ=> ?_
       exact a0q d t e sz x y rows k i r ho hd hn hty.1 htz (o8 hτ (fun k hk=>by simp[hk]) hx) (o8 hτ (fun k hk=>by simp[hk]) hy) hc.1 hc.2.1
     ·cases he
    ·rename_i b n c s2 k i hx hy
     cases he
     refine SoundOp.plain fun hc ν τ hτ=> ?_
     have h:=i8 hτ (fun k hk=>by simp[hk]) hx
     simp only[renS,renP,renL]at h
     simp only[renW,List.map,updL,renS,renP,renL,Slot.lf]
     cases hν:ν b with
     |none=>
      rw[hν]at h
      have hn0:n≠0:=by have:=hc.1;have:=hc.2.1;omega
      simp only[if_neg hn0]at h
      exact Step.absurd fun g w a hr=>u9 hr h
     |some q=>
      rw[hν]at h
      exact U5 d t e te.size x y q.1 n q.2 k i ho hd hn hty.1 htz h (o8 hτ (fun k hk=>by simp[hk]) hy) hc.1 hc.2.1
    ·cases he
  ·cases he
end Go.Proofs.Ytjfjdgjhihgdkaa.V
namespace Go.Proofs.Ytjfjdgjhihgdkaa.V
open Go Go.RowKit
variable {P:Program} {E:Env} {o:Oper} {σ:St} {sh:Bool}
theorem a0s (d:Nat)(t:TypeId)(x:Operand)(lo hi:Option Operand)(lv hv:Option Int)(s:ByteArray)(l hh:Nat)
 (ho:o.op= .slice t x lo hi none) (hd:o.dst=some d) (hn:d<E.n) (he:P.underlying t=some .string)
 (hx:opd σ x= .lf (.im sh (.str s))) (h1:bnd σ lo=some lv) (h2:bnd σ hi=some hv) (hl:lv.getD 0=(l:Int)) (hhv:hv.getD (s.size:Int)=(hh:Int)) (hle:l≤hh) (hhle:hh≤s.size):
 Step P E o σ (·=upd σ (tk d) (.lf (.im true (.str (s.extract l hh))))):=by
 refine Step.of_run fun g w a h=> ?_
 have e1:=Z7 h hx
 refine⟨.string (s.extract l hh),w,drop (tk d) g,_,.inl ?_,rfl,?_⟩
 ·have hlo:∀v,lo=some v→∃k,a.eval v= .int k (l:Int):=by
   intro v hv0
   subst hv0
   simp only[bnd]at h1
   split at h1
   ·rename_i sh' k n' hop
    cases h1
    simp at hl
    subst hl
    exact⟨k,y6 h hop⟩
   ·cases h1
  have hlo0:lo=none→l=0:=by
   intro hv0;subst hv0;cases h1;simp at hl;omega
  have hhi:∀v,hi=some v→∃k,a.eval v= .int k (hh:Int):=by
   intro v hv0
   subst hv0
   simp only[bnd]at h2
   split at h2
   ·rename_i sh' k n' hop
    cases h2
    simp at hhv
    subst hhv
    exact⟨k,y6 h hop⟩
   ·cases h2
  have hhi0:hi=none→hh=s.size:=by
   intro hv0;subst hv0;cases h2;simp at hhv;omega
  simp only[execOp,ho,e1,Sem.run_bind]
  rw[Go.run_sliceAt_string w t _ _ _ _ he]
  cases lo with
  |none=>
   have:=hlo0 rfl
   subst this
   cases hi with
   |none=>
    have:=hhi0 rfl
    subst this
    (try simp only[Option.map_none,Option.map_some]);rw[run_slice_string_all w t s he];rfl
   |some v=>
    obtain⟨k,hk⟩:=hhi v rfl
    (try simp only[Option.map_none,Option.map_some]);rw[hk,run_slice_string_h w t s he k hh (by omega) (by omega)]
    simp
  |some u=>
   obtain⟨k1,hk1⟩:=hlo u rfl
   cases hi with
   |none=>
    have:=hhi0 rfl
    subst this
    (try simp only[Option.map_none,Option.map_some]);rw[hk1,run_slice_string_l w t s he k1 l (by omega) (by omega)]
    simp
   |some v=>
    obtain⟨k,hk⟩:=hhi v rfl
    (try simp only[Option.map_none,Option.map_some]);rw[hk,hk1,run_slice_string w t s k1 k l hh he (by omega) (by omega) (by omega)]
    simp
 ·rw[hd]
  exact h.set d _ _ hn fun g' hg' hw'=> .str _
theorem a2Q (d:Nat)(t e sz:Nat)(x:Operand)(hi mx:Operand)(rows:List (List SV))(hh m:Nat){s2 s3:Bool}{k2 k3:IntKind}
 (ho:o.op= .slice t x none (some hi) (some mx)) (hd:o.dst=some d) (hn:d<E.n) (he:P.elem t=e∧P.underlying t=some (.slice e)) (hz:(P.info? e).map (·.size)=some sz)
 (hx:opd σ x= .lf (.im sh (.sl sz rows))) (h2:opd σ hi= .lf (.im s2 (.int k2 (hh:Int)))) (h3:opd σ mx= .lf (.im s3 (.int k3 (m:Int)))) (hle:hh≤m) (hhle:m≤rows.length):
 Step P E o σ (·=upd σ (tk d) (.lf (.im sh (.sl sz (rows.take hh))))):=by
 refine Step.of_run fun g w a h=> ?_
 have hxr:=E7 h hx
 obtain⟨ad,n,cap,e1,e2,hcap⟩:=SRep.slice_form hxr
 rw[e1]at hxr
 have hcut:=hxr.cut 0 hh m (Nat.zero_le _) (by omega) hle (by omega)
 have hund:P.underlying t=some (.slice (P.elem t)):=by rw[he.1];exact he.2
 refine⟨sliced ad 0 hh m sz,w,drop (tk d) g,_,.inl ?_,rfl,?_⟩
 ·have hz':(sizeOf (P.elem t)).run P w= .ok sz w:=by rw[he.1];exact r6 hz
  simp only[execOp,ho,e1,Sem.run_bind]
  rw[run_sliceAt_slice w t _ _ _ _ hund]
  simp only[Option.map_none,Option.map_some]
  rw[y6 h h2,y6 h h3,run_slice_hm w t ad n cap hund k2 k3 hh m (by omega) (by omega) (by omega),hz']
  simp
 ·rw[hd]
  refine h.set d _ _ hn fun g' hg' hw'=> ?_
  have:=hcut.mono (S':=Imm g' sh) (fun _ _=>rfl) fun b hb=>hg' _ _ hb
  show SRep _ _ _ _
  simpa using this
theorem V0 {P:Program}{E:Env}{σ:St}(d:Nat)(t ty e sz bytes:Nat)(x y:Operand)
 (ho:o.op= .call {callee:= .builtin .append,args:= #[x,y],argTypes:= #[t,t]}) (hty:o.type=ty) (hd:o.dst=some d) (hn:d<E.n) (he:Elem P t e sz bytes)
 (hx:opd σ x= .lf .nil) {shy:Bool} (hy:opd σ y= .lf (.im shy (.sl sz []))):Step P E o σ (·=upd σ (tk d) (.lf .nil)):=by
 refine Step.of_run fun g w a h=> ?_
 have hvx:=J5 h hx
 have hyr:=E7 h hy
 obtain⟨ay,m,cy,hvy,hm,hcy⟩:=SRep.slice_form hyr
 obtain⟨i,z,hi,hz,hsz,hby,hzs⟩:=he.ok
 have hexec:execOp a.eval o=(do pure (Next.value (←Builtin.append_ #[t,t] o.type #[a.eval x,a.eval y])):Sem Next):=by
  simp[execOp,ho,resolve,invoke,builtin]
 simp at hm
 subst hm
 have hrun:=u4 (P:=P) (w:=w) t o.type e i he.und hi none 0 0 (Nat.le_refl _) ay cy
 refine⟨.slice none 0 0,w,drop (tk d) g,_,.inl ?_,rfl,by rw[hd];exact h.set d _ _ hn fun g' hg' hw'=>rfl⟩
 rw[hexec,hvx,hvy,Sem.run_bind,hrun];rfl
theorem Step.turn {M N:St→Prop}(h:Step P E o σ M)(ht:∀τ,M τ→Turn E τ N):Step P E o σ N:=
 fun g w a next Q hr hn=>h g w a next Q hr fun g' w' a' σ' hp hr'=>let⟨g2,τ2,h2,hr2⟩:=ht σ' hp g' w' a' hr';hn g2 w' a' τ2 h2 hr2
theorem Step.frozen {d e sz:Nat}{rows:List (List SV)}(h:Step P E o σ fun τ=>∃b c,τ=upd σ (tk d) (.lf (.u b c e sz rows))):
 Step P E o σ (·=upd σ (tk d) (.lf (.im true (.sl sz rows)))):=
 h.turn fun τ ⟨b,c,e0⟩=>by
  subst e0
  intro g w a hr
  obtain⟨g',τ',h1,h2⟩:=C0 d b c e sz rows (a8 ..) g w a hr
  subst h1
  rw[j7]at h2
  exact⟨g',_,rfl,h2⟩
end Go.Proofs.Ytjfjdgjhihgdkaa.V
namespace Go.Proofs.Ytjfjdgjhihgdkaa.V
open Go Go.RowKit
variable {ν:Nm}
theorem a3f {b:Nat}{v:Nm}{ls:List Leaf}(h:ls.any (Leaf.has b)=false):ls.map (renL (setN ν [b] v))=ls.map (renL ν):=by
 rw[List.any_eq_false]at h
 exact List.map_congr_left fun l hl=>H9 (by simpa using h l hl)
theorem a0V (ν:Nm)(l:Leaf):aliasL (renL ν l)=renL ν (aliasL l):=by
 cases l with
 |u b c e sz rows=>
  simp only[renL,aliasL]
  cases hν:ν b with
  |some p=>rfl
  |none=>cases rows<;>rfl
 |ul b c e sz rows=>
  simp only[renL,aliasL]
  cases hν:ν b with
  |some p=>rfl
  |none=>cases rows<;>rfl
 |ap b c e sz rows=>
  simp only[renL,aliasL]
  cases hν:ν b with
  |some p=>rfl
  |none=>cases rows<;>rfl
 |hd b n c=>
  simp only[renL,aliasL]
  cases hν:ν b with
  |some p=>rfl
  |none=>
   simp only
   by_cases h0:n=0
   ·rw[if_pos h0]
   ·rw[if_neg h0];rfl
 |ptr b off=>
  simp only[renL,aliasL]
  cases hν:ν b<;>rfl
 |nst sz rows i j b n c=>
  simp only[renL,aliasL]
  cases hν:ν b<;>rfl
 |_=>rfl
theorem a2g (ν:Nm)(p:Part):aliasP (renP ν p)=renP ν (aliasP p):=by
 cases p with
 |lf l=>simp only[renP,aliasP,a0V]
 |agg ls=>simp only[renP,aliasP,List.map_map];congr 1;exact List.map_congr_left fun l _=>a0V ν l
def xBox (d:Nat)(x:Operand)(L:SL):Option Ex:=
 match ox L x with
 | .one p=>bif (aliasP p).leaves.all Leaf.bare&&((aliasP p).told&& !(aliasP p).leaves.any (Leaf.has d))then some ⟨ok x,[(ck d,.cell d (aliasP p).leaves),(tk d,.lf (.ptr d 0))],[d],[]⟩else none
 |_=>none
variable {P:Program} {E:Env} {o:Oper} {e:TypeId} {d:Nat} {x:Operand} {L:SL} {ex:Ex}
theorem a39 (ho:o.op= .box e x)(hd:o.dst=some d)(hn:d<E.n)
 (he:xBox d x L=some ex):SoundOp P E o L ex:=by
 unfold xBox at he
 split at he
 ·rename_i p hx
  cases hb:(aliasP p).leaves.all Leaf.bare&&((aliasP p).told&& !(aliasP p).leaves.any (Leaf.has d))with
  |false=>rw[hb]at he;cases he
  |true=>
   rw[hb]at he
   cases he
   rw[Bool.and_eq_true,Bool.and_eq_true]at hb
   obtain⟨h1,h2,h3⟩:=hb
   have h3':(aliasP p).leaves.any (Leaf.has d)=false:=by simpa using h3
   intro _ ν τ hτ
   have h:=i8 hτ (by simp) hx
   simp only[renS]at h
   refine(a5X d e x (renP ν p) (renP ν (aliasP p)) ho hd hn h (a2g ν p) (by rw[i7];exact v8 h1) (Q1 h2)).mono fun τ' ⟨b,hb⟩=>⟨fun _=>some (b,0),?_⟩
   subst hb
   simp only[renW,List.map,updL,renS,renP,renL,y3,Slot.lf]
   rw[a3f h3',←i7]
   exact Weak.refl _
 ·cases he
variable {t:TypeId} {i:TI}
theorem a3o (h:TyOK P t i)(ν:Nm):i.zero.map (renL ν)=i.zero:=by
 obtain⟨z,_,_,hz,_⟩:=h.info
 rw[←hz,List.map_map]
 exact List.map_congr_left fun v _=>N7 ν v
def xAlloc (T:Tab)(t:TypeId)(d:Nat)(L:SL):Option Ex:=
 match T.get t with
 |none=>none
 |some ti=>bif ti.zero.all Leaf.bare then some ⟨[],[(ck d,.cell d ti.zero),(tk d,.lf (.ptr d 0))],[d],[]⟩else none
variable {T:Tab}
theorem a2G (hT:TabOK P T)(ho:o.op= .alloc t)(hd:o.dst=some d)(hn:d<E.n)
 (he:xAlloc T t d L=some ex):SoundOp P E o L ex:=by
 unfold xAlloc at he
 split at he
 ·cases he
 ·rename_i ti hti
  have hty:=hT.get hti
  cases hb:ti.zero.all Leaf.bare with
  |false=>rw[hb]at he;cases he
  |true=>
   rw[hb]at he
   cases he
   intro _ ν τ hτ
   obtain⟨z,h1,h2,h3,_⟩:=hty.info
   refine(a35 d t ti.zero ho hd hn (Zeros.of h1 h3) hb).mono fun τ' ⟨b,hb⟩=>⟨fun _=>some (b,0),?_⟩
   subst hb
   simp only[renW,List.map,updL,renS,renP,renL,y3,Slot.lf]
   rw[a3o hty]
   exact Weak.refl _
def litX (L:SL):List (Nat×Operand)→Option (List (Nat×Part))
 |[]=>some []
 |(i,x)::xs=>match ox L x,litX L xs with
  | .one p,some ps=>some ((i,aliasP p)::ps)
  |_,_=>none
def oks :List (Nat×Operand)→List Nat
 |[]=>[]
 |(_,x)::xs=>ok x++oks xs
theorem H3 {ν:Nm}{L:SL}{τ:St}{R:List Nat}(hτ:∀k∈R,τ k=den ν L k):∀{xs:List (Nat×Operand)} {ps:List (Nat×Part)},(∀k∈oks xs,k∈R)→litX L xs=some ps→
 litParts τ xs=some (ps.map fun q=>(q.1,renP ν q.2))
 |[],ps,_,h=>by cases h;rfl
 |(i,x)::xs,ps,hR,h=>by
  simp only[litX]at h
  split at h
  ·rename_i p ps' h1 h2
   cases h
   have e1:=i8 hτ (fun k hk=>hR k (by simp[oks,hk])) h1
   have e2:=H3 hτ (fun k hk=>hR k (by simp[oks,hk])) h2
   simp only[litParts,e1,e2,renS,a2g]
   rfl
  ·cases h
theorem J1 {ν:Nm}(place:Nat→Option (Nat×Nat)):∀(ps:List (Nat×Part)) (ls ls':List Leaf),fillL place ls ps=some ls'→
 fillL place (ls.map (renL ν)) (ps.map fun q=>(q.1,renP ν q.2))=some (ls'.map (renL ν))
 |[],ls,ls',h=>by cases h;rfl
 |(i,p)::ps,ls,ls',h=>by
  simp only[fillL]at h
  simp only[List.map_cons,fillL]
  cases hp:place i with
  |none=>rw[hp]at h;cases h
  |some q=>
   rw[hp]at h
   simp only at h⊢
   split at h
   ·rename_i hc
    rw[if_pos ⟨by rw[i7,List.length_map];exact hc.1,by rw[List.length_map];exact hc.2.1,by rw[i7];exact v8 hc.2.2.1,Q1 hc.2.2.2⟩]
    have:=J1 (ν:=ν) place ps _ _ h
    rw[L8]at this
    rw[i7]
    exact this
   ·cases h
def xBuild (T:Tab)(t:TypeId)(d:Nat)(parts:List (Nat×Operand))(L:SL)(w:Option Wit):Option Ex:=
 match T.get t with
 |none=>none
 |some ti=>match ti.sh,litX L parts with
  | .st fs,some ps=>match fillL (fun(i:Nat)=>fs[i]?) ti.zero ps with
   |some ls=>bif ls.all Leaf.bare then fin1 d (oks parts) (.agg ls) [] w else none
   |none=>none
  |_,_=>none
variable {parts:Array (Nat×Operand)} {w:Option Wit}
theorem a1X (hT:TabOK P T)(ho:o.op= .build t parts)(hd:o.dst=some d)(hn:d<E.n)
 (he:xBuild T t d parts.toList L w=some ex):SoundOp P E o L ex:=by
 unfold xBuild at he
 split at he
 ·cases he
 ·rename_i ti hti
  have hty:=hT.get hti
  split at he
  ·rename_i fs ps hsh hps
   split at he
   ·rename_i ls hls
    cases hb:ls.all Leaf.bare with
    |false=>rw[hb]at he;cases he
    |true=>
     rw[hb]at he
     refine l7 he fun _ ν τ hτ=> ?_
     have h1:=H3 hτ (fun k hk=>hk) hps
     have h2:=J1 (ν:=ν) _ _ _ _ hls
     rw[a3o hty]at h2
     have h3:=hty.sh
     rw[hsh]at h3
     simp only[renS,renP,Slot.agg]
     exact a3V d t parts fs ti.zero _ _ ho hd hn h3.2 h1 h2 (v8 hb)
   ·cases he
  ·cases he
def chunks (sz:Nat):Nat→List SV→List (List SV)
 |0,_=>[]
 |n+1,l=>l.take sz::chunks sz n (l.drop sz)
theorem P0 {sz:Nat}:∀{n:Nat} {l:List SV},l.length=n*sz→(chunks sz n l).flatten=l∧(chunks sz n l).length=n∧∀r∈chunks sz n l,r.length=sz
 |0,l,h=>by
  have:l=[]:=List.length_eq_zero_iff.1 (by simpa using h)
  subst this
  exact⟨rfl,rfl,by intro r hr;cases hr⟩
 |n+1,l,h=>by
  rw[Nat.succ_mul]at h
  obtain⟨h1,h2,h3⟩:=P0 (sz:=sz) (n:=n) (l:=l.drop sz) (by rw[List.length_drop];omega)
  refine⟨by simp[chunks,h1],by simp[chunks,h2],fun r hr=> ?_⟩
  simp only[chunks,List.mem_cons]at hr
  rcases hr with rfl|hr
  ·rw[List.length_take];omega
  ·exact h3 r hr
def newU (d:Nat)(R:List Nat)(pre:SL)(nm e sz:Nat)(rows:List (List SV))(c:List Prop)(w:Option Wit):Option Ex:=
 match w with
 |some .im=>some ⟨R,pre++[(tk d,.lf (.im true (.sl sz rows)))],[],c⟩
 |some (.slot (.one (.lf (.u b 0 e' sz' rows'))))=>bif Nat.beq b nm&&(Nat.beq e' e&&Nat.beq sz' sz)then some ⟨R,pre++[(tk d,.lf (.u nm 0 e sz rows'))],[nm],(rows=rows')::c⟩else none
 |some (.slot (.one (.lf (.im true (.sl sz' rows')))))=>bif Nat.beq sz' sz then some ⟨R,pre++[(tk d,.lf (.im true (.sl sz rows')))],[],(rows=rows')::c⟩else none
 |none=>some ⟨R,pre++[(tk d,.lf (.u nm 0 e sz rows))],[nm],c⟩
 |_=>none
variable {R:List Nat} {c:List Prop}
theorem a05 {nm e sz:Nat}{rows:List (List SV)}
 (he:newU d R [] nm e sz rows c w=some ex)
 (h:AllP c→∀(ν:Nm) (τ:St),(∀k∈R,τ k=den ν L k)→Step P E o τ fun τ'=>∃b c,τ'=upd τ (tk d) (.lf (.u b c e sz rows))):SoundOp P E o L ex:=by
 unfold newU at he
 split at he
 ·cases he
  refine SoundOp.plain fun hc ν τ hτ=> ?_
  simp only[List.nil_append,renW,List.map,updL,renS,renP,renL,Slot.lf]
  exact(h hc ν τ hτ).frozen
 ·rename_i b e' sz' rows'
  cases hb:Nat.beq b nm&&(Nat.beq e' e&&Nat.beq sz' sz)with
  |false=>rw[hb]at he;cases he
  |true=>
   rw[hb]at he
   cases he
   intro hc ν τ hτ
   have hrows:=hc.1
   subst hrows
   refine(h hc.2 ν τ hτ).mono fun τ' ⟨b,c,hb⟩=>⟨fun _=>some (b,c),?_⟩
   subst hb
   simp only[List.nil_append,renW,List.map,updL,renS,renP,renL,y3,Slot.lf]
   exact Weak.refl _
 ·rename_i sz' rows'
  cases hb:Nat.beq sz' sz with
  |false=>rw[hb]at he;cases he
  |true=>
   rw[hb]at he
   cases he
   refine SoundOp.plain fun hc ν τ hτ=> ?_
   have hrows:=hc.1
   subst hrows
   simp only[List.nil_append,renW,List.map,updL,renS,renP,renL,Slot.lf]
   exact(h hc.2 ν τ hτ).frozen
 ·cases he
  intro hc ν τ hτ
  refine(h hc ν τ hτ).mono fun τ' ⟨b,c,hb⟩=>⟨fun _=>some (b,c),?_⟩
  subst hb
  simp only[List.nil_append,renW,List.map,updL,renS,renP,renL,y3,Slot.lf]
  exact Weak.refl _
 ·cases he
theorem TyOK.elem {j:TI}(h:TyOK P t i)(hs:i.sh= .sl e)(he:TyOK P e j):Elem P t e j.size j.bytes:=by
 have h1:=h.sh
 rw[hs]at h1
 obtain⟨z,h2,h3,_⟩:=he.info
 exact Elem.of h1.1 h2 h3 he.pos
def xBuildSlice (T:Tab)(t:TypeId)(d n:Nat)(parts:List (Nat×Operand))(L:SL)(w:Option Wit):Option Ex:=
 match T.get t with
 |none=>none
 |some ti=>match ti.sh with
  | .sl e=>match T.get e,litX L parts with
   |some te,some ps=>match fillL (fun i=>some (i*te.size,te.size)) (List.replicate (n*te.size) .hole) ps with
    |some ls=>match isNew ls (List.replicate n te.zsv).flatten with
     |some new=>bif Nat.ble (n*te.size) (2^24)&&Nat.beq new.length (n*te.size)then newU d (oks parts) [] d e te.size (chunks te.size n new) [] w else none
     |none=>none
    |none=>none
   |_,_=>none
  |_=>none
variable {n:Nat}
theorem S1 (hT:TabOK P T)(ho:o.op= .buildSlice t n parts)(hd:o.dst=some d)(hn:d<E.n)
 (he:xBuildSlice T t d n parts.toList L w=some ex):SoundOp P E o L ex:=by
 unfold xBuildSlice at he
 split at he
 ·cases he
 ·rename_i ti hti
  split at he
  ·rename_i e hsh
   split at he
   ·rename_i te ps hte hps
    have hel:=(hT.get hti).elem hsh (hT.get hte)
    split at he
    ·rename_i ls hls
     split at he
     ·rename_i new hnew
      cases hb:Nat.ble (n*te.size) (2^24)&&Nat.beq new.length (n*te.size)with
      |false=>rw[hb]at he;cases he
      |true=>
       rw[hb]at he
       rw[Bool.and_eq_true]at hb
       obtain⟨c1,c2,c3⟩:=P0 (Nat.eq_of_beq_eq_true hb.2)
       refine a05 he fun _ ν τ hτ=> ?_
       have h1:=H3 hτ (fun k hk=>hk) hps
       have h2:=J1 (ν:=ν) _ _ _ _ hls
       rw[List.map_replicate]at h2
       refine(A5 d t e te.size te.bytes n parts _ _ (chunks te.size n new) ho hd hn hel (Nat.le_of_ble_eq_true hb.1) h1 h2 c3 (by rw[c1];exact E1 hnew) c2).mono fun τ' ⟨b,hb⟩=>⟨b,n,hb⟩
     ·cases he
    ·cases he
   ·cases he
  ·cases he
def xExtract (d:Nat)(x:Operand)(i:Nat)(L:SL)(w:Option Wit):Option Ex:=
 match ox L x with
 | .tup ps=>match ps[i]? with
  |some p=>bif p.bare then fin1 d (ok x) (.one p) [] w else none
  |none=>none
 |_=>none
theorem a0v {i:Nat}(ho:o.op= .extract x i)(hd:o.dst=some d)(hn:d<E.n)
 (he:xExtract d x i L w=some ex):SoundOp P E o L ex:=by
 unfold xExtract at he
 split at he
 ·rename_i ps hx
  split at he
  ·rename_i p hp
   cases hb:p.bare with
   |false=>rw[hb]at he;cases he
   |true=>
    rw[hb]at he
    refine l7 he fun _ ν τ hτ=> ?_
    have h:=i8 hτ (by simp) hx
    simp only[renS]at h
    exact a19 d x i _ _ ho hd hn h (by rw[List.getElem?_map,hp];rfl) (A0 hb)
  ·cases he
 ·cases he
def xNilCheck (d:Nat)(x:Operand)(L:SL)(w:Option Wit):Option Ex:=
 match ox L x with
 | .one (.lf (.ptr b off))=>fin1 d (ok x) (.lf (.ptr b off)) [] w
 | .one (.lf (.sref sh r))=>fin1 d (ok x) (.lf (.sref sh r)) [] w
 |_=>none
theorem a0i (ho:o.op= .nilCheck x)(hd:o.dst=some d)(hn:d<E.n)
 (he:xNilCheck d x L w=some ex):SoundOp P E o L ex:=by
 unfold xNilCheck at he
 split at he
 ·rename_i b off hx
  refine l7 he fun _ ν τ hτ=> ?_
  have h:=i8 hτ (by simp) hx
  simp only[renS,renP,renL,Slot.lf]at h⊢
  cases hν:ν b with
  |none=>rw[hν]at h;exact Step.absurd fun g w a hr=>u9 hr h
  |some q=>rw[hν]at h;exact S3 d q.1 off x ho hd hn h
 ·rename_i sh r hx
  refine l7 he fun _ ν τ hτ=> ?_
  have h:=i8 hτ (by simp) hx
  exact Q3 d sh r x ho hd hn h
 ·cases he
def xConvert (T:Tab)(t t':TypeId)(d:Nat)(x:Operand)(L:SL)(w:Option Wit):Option Ex:=
 match T.get t,T.get t' with
 |some ti,some tj=>match ti.sh,tj.sh,ox L x with
  | .int _,.int k',.one (.lf (.im _ (.int k n)))=>fin1 d (ok x) (.im (.int k' (k'.wrap n))) [] w
  |_,_,_=>none
 |_,_=>none
variable {t':TypeId}
theorem a0z (hT:TabOK P T)(ho:o.op= .convert t t' x)(hd:o.dst=some d)(hn:d<E.n)
 (he:xConvert T t t' d x L w=some ex):SoundOp P E o L ex:=by
 unfold xConvert at he
 split at he
 ·rename_i ti tj hti htj
  split at he
  ·rename_i k0 k' sh k n h1 h2 hx
   have e1:=(hT.get hti).sh
   have e2:=(hT.get htj).sh
   rw[h1]at e1
   rw[h2]at e2
   exact l7 he fun _ ν τ hτ=>U6 d t t' k k' (.int k0) x n _ ho hd hn e1 e2 (o8 hτ (by simp) hx) rfl
  ·cases he
 ·cases he
def xLen (T:Tab)(t:TypeId)(d:Nat)(x:Operand)(L:SL)(w:Option Wit):Option Ex:=
 match T.get t with
 |none=>none
 |some ti=>match ti.sh,ox L x with
  | .str,.one (.lf (.im _ (.str s)))=>fin1 d (ok x) (.int s.size) [] w
  | .sl e,.one (.lf (.im _ (.sl _ rows)))=>fin1 d (ok x) (.int rows.length) [] w
  | .sl e,.one (.lf (.u b c e' sz rows))=>fin1 d (ok x) (.int rows.length) [] w
  | .sl e,.one (.lf (.ap b c e' sz rows))=>fin1 d (ok x) (.int rows.length) [] w
  | .sl e,.one (.lf (.hd b n c))=>fin1 d (ok x) (.int n) [] w
  | .sl e,.one (.lf .nil)=>fin1 d (ok x) (.int 0) [] w
  | .sl e,.one (.lf (.im _ .nl))=>fin1 d (ok x) (.int 0) [] w
  |_,_=>none
theorem a36 {E:Env}{t:TypeId}{d:Nat}{x:Operand}{L:SL}{w:Option Wit}{ex:Ex}(hT:TabOK P T)
 (ho:o.op= .call {callee:= .builtin .len,args:= #[x],argTypes:= #[t]}) (hd:o.dst=some d) (hn:d<E.n)
 (he:xLen T t d x L w=some ex):SoundOp P E o L ex:=by
 unfold xLen at he
 split at he
 ·cases he
 ·rename_i ti hti
  have hsh:=(hT.get hti).sh
  split at he
  ·rename_i sh s h1 hx
   rw[h1]at hsh
   exact l7 he fun _ ν τ hτ=>a2m d t x s ho hd hn hsh (o8 hτ (by simp) hx)
  ·rename_i e sh sz rows h1 hx
   rw[h1]at hsh
   exact l7 he fun _ ν τ hτ=>E2 d t e x _ _ ho hd hn hsh.1 (o8 hτ (by simp) hx) rfl
  ·rename_i e b c e' sz rows h1 hx
   rw[h1]at hsh
   refine l7 he fun _ ν τ hτ=> ?_
   have h:=i8 hτ (by simp) hx
   simp only[renS,renP,renL]at h
   cases hν:ν b with
   |some q=>rw[hν]at h;exact E2 d t e x _ _ ho hd hn hsh.1 h rfl
   |none=>
    rw[hν]at h
    cases rows with
    |nil=>exact E2 d t e x _ _ ho hd hn hsh.1 h rfl
    |cons r rs=>exact Step.absurd fun g w a hr=>u9 hr h
  ·rename_i e b c e' sz rows h1 hx
   rw[h1]at hsh
   refine l7 he fun _ ν τ hτ=> ?_
   have h:=i8 hτ (by simp) hx
   simp only[renS,renP,renL]at h
   cases hν:ν b with
   |some q=>rw[hν]at h;exact E2 d t e x _ _ ho hd hn hsh.1 h rfl
   |none=>
    rw[hν]at h
    cases rows with
    |nil=>exact E2 d t e x _ _ ho hd hn hsh.1 h rfl
    |cons r rs=>exact Step.absurd fun g w a hr=>u9 hr h
  ·rename_i e b n c h1 hx
   rw[h1]at hsh
   refine l7 he fun _ ν τ hτ=> ?_
   have h:=i8 hτ (by simp) hx
   simp only[renS,renP,renL]at h
   cases hν:ν b with
   |some q=>rw[hν]at h;exact E2 d t e x _ _ ho hd hn hsh.1 h rfl
   |none=>
    rw[hν]at h
    simp only at h
    by_cases hn0:n=0
    ·subst hn0
     exact E2 d t e x _ _ ho hd hn hsh.1 h rfl
    ·rw[if_neg hn0]at h
     exact Step.absurd fun g w a hr=>u9 hr h
  ·rename_i e h1 hx
   rw[h1]at hsh
   refine l7 he fun _ ν τ hτ=> ?_
   have h:=i8 hτ (by simp) hx
   exact E2 d t e x _ _ ho hd hn hsh.1 h rfl
  ·rename_i e sh h1 hx
   rw[h1]at hsh
   exact l7 he fun _ ν τ hτ=>E2 d t e x _ _ ho hd hn hsh.1 (o8 hτ (by simp) hx) rfl
  ·cases he
def xIndex (T:Tab)(t:TypeId)(d:Nat)(x y:Operand)(L:SL)(w:Option Wit):Option Ex:=
 match T.get t with
 |none=>none
 |some ti=>match ti.sh,ox L x,ox L y,w with
  | .str,.one (.lf (.im _ (.str s))),.one (.lf (.im _ (.int k i))),some (.byte c)=>some ⟨ok x++ok y,[(tk d,.im (.int .u8 (c.toNat:Int)))],[],[0≤i,s.data.toList[i.toNat]? =some c]⟩
  |_,_,_,_=>none
theorem a2p {y:Operand}(hT:TabOK P T)(ho:o.op= .index t x y)(hd:o.dst=some d)(hn:d<E.n)
 (he:xIndex T t d x y L w=some ex):SoundOp P E o L ex:=by
 unfold xIndex at he
 split at he
 ·cases he
 ·rename_i ti hti
  have hsh:=(hT.get hti).sh
  split at he
  ·rename_i s1 s s2 k i c h1 hx hy
   rw[h1]at hsh
   cases he
   refine SoundOp.plain fun hc ν τ hτ=> ?_
   exact a0r d t x y s k i c ho hd hn hsh (o8 hτ (fun k hk=>by simp[hk]) hx) (o8 hτ (fun k hk=>by simp[hk]) hy) hc.1 hc.2.1
  ·cases he
def bndX (L:SL)(dflt:Nat)(n:Nat):Option Operand→Option (List Prop)
 |none=>some [dflt=n]
 |some x=>match ox L x with
  | .one (.lf (.im _ (.int _ i)))=>some [i=(n:Int)]
  |_=>none
def okO :Option Operand→List Nat
 |none=>[]
 |some x=>ok x
theorem Q2 {τ:St}{dflt:Nat}{x:Option Operand}(hτ:∀k∈R,τ k=den ν L k)(hR:∀k∈okO x,k∈R)(h:bndX L dflt n x=some c)(hc:AllP c):
 ∃v,bnd τ x=some v∧v.getD (dflt:Int)=(n:Int):=by
 cases x with
 |none=>cases h;exact⟨none,rfl,by have:=hc.1;simp[this]⟩
 |some x=>
  simp only[bndX]at h
  split at h
  ·rename_i sh k i hx
   cases h
   have h1:=o8 hτ hR hx
   exact⟨some i,by simp only[bnd,h1],by simpa using hc.1⟩
  ·cases h
def xSlice (T:Tab)(t:TypeId)(d:Nat)(x:Operand)(lo hi mx:Option Operand)(L:SL)(w:Option Wit):Option Ex:=
 match T.get t,w with
 |some ti,some (.cut l h s)=>match ti.sh,ox L x,mx with
  | .str,.one (.lf (.im _ (.str b))),none=>match bndX L 0 l lo,bndX L b.size h hi with
   |some c1,some c2=>some ⟨ok x++(okO lo++okO hi),[(tk d,s)],[],[AllP c1,AllP c2,l≤h,h≤b.size,(.im (.str (b.extract l h)):Slot)=s]⟩
   |_,_=>none
  | .sl e,.one (.lf (.im sh (.sl sz rows))),none=>match T.get e,bndX L 0 l lo,bndX L rows.length h hi with
   |some te,some c1,some c2=>bif Nat.beq sz te.size then some ⟨ok x++(okO lo++okO hi),[(tk d,s)],[],[AllP c1,AllP c2,l≤h,h≤rows.length,(.lf (.im sh (.sl sz ((rows.take h).drop l))):Slot)=s]⟩else none
   |_,_,_=>none
  | .sl e,.one (.lf (.u b _ e' sz rows)),none=>match x,lo,hi,T.get e with
   | .tmp kt,none,some y,some te=>match ox L y with
    | .one (.lf (.im _ (.int _ i)))=>bif Nat.beq sz te.size&&Nat.beq e' e then some ⟨tk kt::ok y,[(tk kt,Slot.hole),(tk d,s)],[],[i=(h:Int),h≤rows.length,(.lf (.u b 0 e' sz (rows.take h)):Slot)=s]⟩else none
    |_=>none
   |_,_,_,_=>none
  | .sl e,.one (.lf (.im sh (.sl sz rows))),some m=>match T.get e,lo,hi,ox L m with
   |some te,none,some y,.one (.lf (.im _ (.int _ j)))=>match ox L y with
    | .one (.lf (.im _ (.int _ i)))=>bif Nat.beq sz te.size then some ⟨ok x++(ok y++ok m),[(tk d,s)],[],[i=(h:Int),j=(l:Int),h≤l,l≤rows.length,(.lf (.im sh (.sl sz (rows.take h))):Slot)=s]⟩else none
    |_=>none
   |_,_,_,_=>none
  |_,_,_=>none
 |_,_=>none
theorem a12 {lo hi mx:Option Operand}(hT:TabOK P T)(ho:o.op= .slice t x lo hi mx)(hd:o.dst=some d)(hn:d<E.n)
 (he:xSlice T t d x lo hi mx L w=some ex):SoundOp P E o L ex:=by
 unfold xSlice at he
 split at he
 ·rename_i ti l h s hti
  have hsh:=(hT.get hti).sh
  split at he
  ·rename_i s1 b h1 hx
   rw[h1]at hsh
   split at he
   ·rename_i c1 c2 e1 e2
    cases he
    refine SoundOp.plain fun hc ν τ hτ=> ?_
    obtain⟨hc1,hc2,hc3,hc4,hc5,_⟩:=hc
    subst hc5
    obtain⟨v1,a1,a2⟩:=Q2 hτ (fun k hk=>by simp[hk]) e1 hc1
    obtain⟨v2,b1,b2⟩:=Q2 hτ (fun k hk=>by simp[hk]) e2 hc2
    exact a0s d t x lo hi v1 v2 b l h ho hd hn hsh (o8 hτ (fun k hk=>by simp[hk]) hx) a1 b1 a2 b2 hc3 hc4
   ·cases he
  ·rename_i e sh sz rows h1 hx
   rw[h1]at hsh
   split at he
   ·rename_i te c1 c2 hte e1 e2
    have htz:=(hT.get hte).size_eq
    cases hb:Nat.beq sz te.size with
    |false=>rw[hb]at he;cases he
    |true=>
     rw[hb]at he
     cases he
     rw[←Nat.eq_of_beq_eq_true hb]at htz
     refine SoundOp.plain fun hc ν τ hτ=> ?_
     obtain⟨hc1,hc2,hc3,hc4,hc5,_⟩:=hc
     subst hc5
     obtain⟨v1,a1,a2⟩:=Q2 hτ (fun k hk=>by simp[hk]) e1 hc1
     obtain⟨v2,b1,b2⟩:=Q2 hτ (fun k hk=>by simp[hk]) e2 hc2
     exact a3Z d t e sz x lo hi v1 v2 rows l h ho hd hn ⟨hsh.2,hsh.1⟩ htz (o8 hτ (fun k hk=>by simp[hk]) hx) a1 b1 a2 b2 hc3 hc4
   ·cases he
  ·rename_i e b c e' sz rows h1 hx
   rw[h1]at hsh
   split at he
   ·rename_i kt y te hte
    have htz:=(hT.get hte).size_eq
    split at he
    ·rename_i s2 k2 i hy
     cases hb:Nat.beq sz te.size&&Nat.beq e' e with
     |false=>rw[hb]at he;cases he
     |true=>
      rw[hb]at he
      cases he
      rw[Bool.and_eq_true]at hb
      rw[←Nat.eq_of_beq_eq_true hb.1]at htz
      obtain rfl:=Nat.eq_of_beq_eq_true hb.2
      refine SoundOp.weak fun hc ν τ hτ=> ?_
      obtain⟨hc1,hc2,hc3,_⟩:=hc
      subst hc3 hc1
      have h4:=hτ (tk kt) (by simp)
      have hx:look L (tk kt)= .one (.lf (.u b c e' sz rows)):=hx
      have h5:=o8 hτ (fun k hk=>by simp[hk]) hy
      simp only[den,hx,renS,renP,renL]at h4
      simp only[renW,List.map,updL,renS,renP,renL,Slot.hole]
      cases hν:ν b with
      |some p=>
       rw[hν]at h4
       exact(a4l d kt t e' sz p.1 p.2 y rows h _ ho hd hn ⟨hsh.2,hsh.1⟩ htz h4 h5 hc2).mono fun τ' e0=>e0▸Weak.refl _
      |none=>
       rw[hν]at h4
       cases rows with
       |cons r rs=>exact Step.absurd fun g w a hr=>z2 hr h4
       |nil=>
        have h0:h=0:=by simpa using hc2
        subst h0
        refine(a14 d kt t e' sz y _ ho hd hn ⟨hsh.2,hsh.1⟩ htz h4 h5).mono fun τ' e0=> ?_
        subst e0
        exact v9 _ _ _
    ·cases he
   ·cases he
  ·rename_i e sh sz rows m h1 hx
   rw[h1]at hsh
   split at he
   ·rename_i te y s3 k3 j hte hm
    have htz:=(hT.get hte).size_eq
    split at he
    ·rename_i s2 k2 i hy
     cases hb:Nat.beq sz te.size with
     |false=>rw[hb]at he;cases he
     |true=>
      rw[hb]at he
      cases he
      rw[←Nat.eq_of_beq_eq_true hb]at htz
      refine SoundOp.plain fun hc ν τ hτ=> ?_
      obtain⟨hc1,hc2,hc3,hc4,hc5,_⟩:=hc
      subst hc5 hc1 hc2
      exact a2Q d t e sz x y m rows h l ho hd hn ⟨hsh.2,hsh.1⟩ htz (o8 hτ (fun k hk=>by simp[hk]) hx) (o8 hτ (fun k hk=>by simp[hk]) hy) (o8 hτ (fun k hk=>by simp[hk]) hm) hc3 hc4
    ·cases he
   ·cases he
  ·cases he
 ·cases he
def FieldOne (P:Program)(t:TypeId)(j off:Nat):Prop:=∃fa f,P.underlying t=some (.struct fa)∧fa[j]? =some f∧f.offset=off∧Ty P f.type 1 false
variable {j:Nat}
theorem FieldOne.of {off:Nat}{fa:Array Field}{f:Field}(hT:TabOK P T)(h:P.underlying t=some (.struct fa))(hf:fa[j]? =some f)(ho:f.offset=off)(hi:T.get f.type=some i)(h1:Nat.beq i.size 1=true)(ha:i.sh.agg=false):
 FieldOne P t j off:=⟨fa,f,h,hf,ho,by have:=(hT.get hi).ty;rw[ha,Nat.eq_of_beq_eq_true h1]at this;exact this⟩
variable {σ:St}
theorem a0C (d:Nat)(t:TypeId)(x:Operand)(j off:Nat)(ls:List Leaf)(l:Leaf)
 (ho:o.op= .field t x j) (hd:o.dst=some d) (hn:d<E.n) (hf:FieldOne P t j off) (hx:opd σ x= .agg ls) (hl:ls[off]? =some l) (hb:l.bare=true):Step P E o σ (·=upd σ (tk d) (.lf l)):=by
 refine Step.of_run fun g w a h=> ?_
 have hr:=o9 h x
 rw[hx]at hr
 obtain⟨cs,hv,hsz,hrel⟩:=hr
 obtain⟨fa,f,hu,hfa,hoff,hty⟩:=hf
 have hlt:off<cs.size:=by rw[hsz];exact(List.getElem?_eq_some_iff.1 hl).1
 have hc:cs[off]? =some cs[off]:=Array.getElem?_eq_getElem hlt
 refine⟨cs[off],w,drop (tk d) g,_,.inl ?_,rfl,?_⟩
 ·have e1:(part f.type cs f.offset).run P w= .ok cs[off] w:=by
   unfold part
   rw[Sem.run_bind,hty.isAgg w,hoff]
   simp[hc]
  have e2:(Instr.field t (.agg cs) j).run P w= .ok cs[off] w:=by
   unfold Instr.field
   rw[Sem.run_bind,run_underlying hu]
   simp only[Result.andThen_ok,hfa]
   rw[Sem.run_bind]
   simp only[asAgg,Sem.run_pure,Result.andThen_ok]
   exact e1
  simp[execOp,ho,hv,e2]
 ·rw[hd]
  exact h.set d _ _ hn fun g' hg' hw'=>(hrel off l _ hl hc).bare hb hg'
def xFieldV (P:Program)(t:TypeId)(d:Nat)(x:Operand)(j:Nat)(L:SL)(w:Option Wit):Option Ex:=
 match ox L x,w with
 | .one (.agg ls),some (.cut off _ _)=>match ls[off]? with
  |some l=>bif l.bare then some ⟨ok x,[(tk d,.lf l)],[],[FieldOne P t j off]⟩else none
  |none=>none
 |_,_=>none
theorem a1p (ho:o.op= .field t x j)(hd:o.dst=some d)(hn:d<E.n)
 (he:xFieldV P t d x j L w=some ex):SoundOp P E o L ex:=by
 unfold xFieldV at he
 split at he
 ·rename_i ls off h0 s0 hx
  split at he
  ·rename_i l hl
   cases hb:l.bare with
   |false=>rw[hb]at he;cases he
   |true=>
    rw[hb]at he
    cases he
    refine SoundOp.plain fun hc ν τ hτ=> ?_
    have h:=i8 hτ (fun k hk=>hk) hx
    simp only[renS,renP]at h
    exact a0C d t x j off _ _ ho hd hn hc.1 h (by rw[List.getElem?_map,hl];rfl) (K0 hb)
  ·cases he
 ·cases he
def bytesR (s:ByteArray):List (List SV):=s.data.toList.map fun b=>[.int .u8 (b.toNat:Int)]
theorem P4 (d:Nat)(t t' e:TypeId)(x:Operand)(s:ByteArray){sh:Bool}(ho:o.op= .convert t t' x)(hd:o.dst=some d)(hn:d<E.n)
 (hs:P.underlying t=some (.slice e)) (he:P.underlying e=some (.int .u8)) (ht:P.underlying t'=some .string) (hx:opd σ x= .lf (.im sh (.sl 1 (bytesR s)))):Step P E o σ (·=upd σ (tk d) (.lf (.im true (.str s)))):=by
 refine Step.of_run fun g w a h=> ?_
 have hxr:SRep (Imm g sh) w (a.eval x) (.sl 1 (bytesR s)):=E7 h hx
 refine⟨.string s,w,drop (tk d) g,_,.inl ?_,rfl,by rw[hd];exact h.set d _ _ hn fun g' hg' hw'=> .str _⟩
 generalize hv:a.eval x=v at hxr
 have hrun:(convert t t' v).run P w= .ok (.string s) w:=by
  have hsa:(⟨s.data.toList.toArray⟩:ByteArray)=s:=by simp
  generalize hr:bytesR s=rows at hxr
  cases hxr with
  |nil sz ad cap=>
   have hl:s.data.toList=[]:=by
    unfold bytesR at hr
    exact List.map_eq_nil_iff.1 hr
   cases ad with
   |some ad=>
    have:=run_convert_bytes_back (P:=P) w t t' e ad cap [] hs he ht (fun j hj=>by simp at hj)
    rw[←hl]at this
    rwa[hsa,hl]at this
   |none=>
    rw[run_convert_bytes_string w t t' e none 0 cap hs he ht]
    rw[←hsa,hl]
    rfl
  |sl b off n cap sz rows cv hn' hc hw hS hcell hrep=>
   have hlen:n=s.data.toList.length:=by rw[hn',←hr];simp[bytesR]
   subst hlen
   have:=run_convert_bytes_back (P:=P) w t t' e ⟨b,off,none⟩ cap s.data.toList hs he ht (fun j hj=>by
    have hrow:rows[j]? =some [.int .u8 ((s.data.toList[j]).toNat:Int)]:=by
     rw[←hr,bytesR,List.getElem?_map,List.getElem?_eq_getElem hj];rfl
    have h1:=hcell j _ 0 _ hrow rfl
    have h2:=hrep j _ 0 _ hrow rfl
    cases hcv:cv (j*1+0)with
    |int k m=>
     rw[hcv]at h1 h2
     cases h2
     rw[show(⟨b,off,none⟩:Addr).add j=⟨b,off+(j*1+0),none⟩from by unfold Addr.add;split<;>simp<;>omega]
     exact h1
    |_=>rw[hcv]at h2;cases h2)
   rwa[hsa]at this
 simp[execOp,ho,hv,hrun]
def xBytes (T:Tab)(t t':TypeId)(d:Nat)(x:Operand)(L:SL)(w:Option Wit):Option Ex:=
 match T.get t,T.get t',w with
 |some ti,some tj,some (.slot (.one (.lf (.im true (.str s)))))=>match ti.sh,tj.sh,ox L x with
  | .sl e,.str,.one (.lf (.im _ (.sl sz rows)))=>match T.get e with
   |some te=>match te.sh with
    | .int .u8=>bif Nat.beq sz 1 then some ⟨ok x,[(tk d,.im (.str s))],[],[rows=bytesR s]⟩else none
    |_=>none
   |none=>none
  |_,_,_=>none
 |_,_,_=>none
theorem a1W (hT:TabOK P T)(ho:o.op= .convert t t' x)(hd:o.dst=some d)(hn:d<E.n)
 (he:xBytes T t t' d x L w=some ex):SoundOp P E o L ex:=by
 unfold xBytes at he
 split at he
 ·rename_i ti tj s hti htj
  split at he
  ·rename_i e sh sz rows h1 h2 hx
   split at he
   ·rename_i te hte
    split at he
    ·rename_i h3
     cases hb:Nat.beq sz 1 with
     |false=>rw[hb]at he;cases he
     |true=>
      rw[hb]at he
      obtain rfl:=Nat.eq_of_beq_eq_true hb
      cases he
      have e1:=(hT.get hti).sh
      have e2:=(hT.get htj).sh
      have e3:=(hT.get hte).sh
      rw[h1]at e1
      rw[h2]at e2
      rw[h3]at e3
      refine SoundOp.plain fun hc ν τ hτ=> ?_
      have hx':=o8 hτ (fun k hk=>hk) hx
      rw[hc.1]at hx'
      exact P4 d t t' e x s ho hd hn e1.1 e3 e2 hx'
    ·cases he
   ·cases he
  ·cases he
 ·cases he
end Go.Proofs.Ytjfjdgjhihgdkaa.V
