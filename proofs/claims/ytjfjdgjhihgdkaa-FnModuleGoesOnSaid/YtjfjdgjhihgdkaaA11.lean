/- Part 11 of the proof of FnModuleGoesOn. -/
import Derived.Test.YtjfjdgjhihgdkaaA10
import Derived.KernelRfl
set_option linter.unusedVariables false
set_option linter.unusedSimpArgs false
set_option maxRecDepth 100000
namespace Go.Proofs.Ytjfjdgjhihgdkaa
open Go V
theorem a4z {l:List UInt8}(h:l=[]):(⟨#[]⟩:ByteArray)=bl l:=by rw[h,a69]
theorem bsz (l:List UInt8):(⟨l.toArray⟩:ByteArray).size=l.length:=by simp[ByteArray.size]
theorem bdt (l:List UInt8):(⟨l.toArray⟩:ByteArray).data.toList=l:=rfl
theorem V4 :sp1.data.toList=[32]:=rfl
theorem W4 :nl1.data.toList=[10]:=rfl
theorem D3 (l:List ByteArray):l.length≤wS l:=by unfold wS;omega
theorem a2E (l:List Rec):l.length≤wRecs l:=by unfold wRecs;omega
theorem a24 (l:List Fn):l.length≤wFns l:=by unfold wFns;omega
theorem T6 (l:List Ins):l.length≤wInss l:=by unfold wInss;omega
theorem a7x (l:List ByteArray)(i:Nat):wS (l.take i)≤wS l:=by
 rw[←G3,←G3];exact C5 _ l i
variable {l:List ByteArray} {i:Nat}
theorem wS_at (hi:i<l.length):(nth l i).size≤wS l:=by
 have:=a3E (f:=ByteArray.size) (List.mem_of_getElem? (j6 hi));unfold wS;omega
theorem Y8 (hi:i<l.length):(bl (thL (l.take i))++⟨#[32]⟩)++nth l i=bl (thL (l.take (i+1))):=by
 refine bb ?_
 have:=R0 (f:=fun w:ByteArray=>32::w.data.toList) (j6 hi)
 rw[dapp,dapp,p9,p9,bdt]
 unfold thL
 rw[←this,List.append_assoc]
 rfl
theorem a7A {α β:Type}[Inhabited α](f:α→β){l:List α}(hi:i<l.length):(l.map f)[i]? =some (f (nth l i)):=by rw[List.getElem?_map,j6 hi];rfl
theorem a2u {l:List Int}(hi:i<l.length):(bl (thL ((l.take i).map decB))++⟨#[32]⟩)++decB (nth l i)=bl (thL ((l.take (i+1)).map decB)):=by
 have:=Y8 (l:=l.map decB) (i:=i) (by simpa using hi)
 rw[J3 (a7A decB hi)]at this
 rw[List.map_take,List.map_take]
 exact this
theorem a2X {l:List Int}(h:∀n∈l,inR n)(i:Nat):(thL ((l.take i).map decB)).length≤21*l.length:=by
 have:=T1 (l:=l.take i) fun n hn=>h n (List.mem_of_mem_take hn)
 have h2:(l.take i).length≤l.length:=by rw[List.length_take];omega
 omega
variable {m:Mod}
theorem a5Y (hi:i<m.records.length):
 (((bl ((m.records.take i).flatMap recT)++⟨#[114,101,99,111,114,100,32]⟩)++decB (nth m.records i).able)++bl (thL (nth m.records i).fields))++⟨#[10]⟩=bl ((m.records.take (i+1)).flatMap recT):=by
 refine bb ?_
 rw[dapp,dapp,dapp,dapp,p9,p9,p9,bdt,bdt,o5,←R0 (j6 hi)]
 unfold recT
 simp only[List.append_assoc]
theorem a4H (h:m.records.length≤i):headT m++(m.funcs.take 0).flatMap fnT=(m.records.take i).flatMap recT++frT m.friends:=by
 rw[Q4 h,List.take_zero,List.flatMap_nil,List.append_nil];rfl
theorem a5A (h:m.records.length≤i)(h0:¬0<m.friends.length):bl ((m.records.take i).flatMap recT)=bl (headT m++(m.funcs.take 0).flatMap fnT):=by
 rw[a4H h];unfold frT;rw[if_neg h0,List.append_nil]
theorem a4q (h:m.records.length≤i)(h0:0<m.friends.length):
 ((bl ((m.records.take i).flatMap recT)++⟨#[102,114,105,101,110,100]⟩)++bl (thL (m.friends.map decB)))++⟨#[10]⟩=bl (headT m++(m.funcs.take 0).flatMap fnT):=by
 refine bb ?_
 rw[dapp,dapp,dapp,p9,p9,p9,bdt,bdt,a4H h]
 unfold frT
 rw[if_pos h0]
 simp only[List.append_assoc]
variable {k:Nat}
theorem a3q :
 (((((((((bl (headT m++(m.funcs.take k).flatMap fnT)++⟨#[102,117,110,99,32]⟩)++decB (nth m.funcs k).seen)++bl (thL (nth m.funcs k).args))++⟨#[32,58]⟩)++bl (thL (nth m.funcs k).rets))++⟨#[32,58]⟩)++bl (thL (nth m.funcs k).locals))++⟨#[32,58]⟩)++bl (thL ((nth m.funcs k).takes.map decB)))++⟨#[10]⟩=
  bl (headT m++((m.funcs.take k).flatMap fnT++(fnH (nth m.funcs k)++((nth m.funcs k).code.take 0).flatMap insE))):=by
 refine bb ?_
 simp only[dapp,p9,bdt,o5,List.take_zero,List.flatMap_nil,List.append_nil]
 unfold fnH
 simp only[List.append_assoc]
variable {q:Nat}
theorem a3u (hq:q<(nth m.funcs k).code.length):
 (bl (headT m++((m.funcs.take k).flatMap fnT++(fnH (nth m.funcs k)++((nth m.funcs k).code.take q).flatMap insE)))++bl (insL (nth (nth m.funcs k).code q)))++⟨#[10]⟩=
  bl (headT m++((m.funcs.take k).flatMap fnT++(fnH (nth m.funcs k)++((nth m.funcs k).code.take (q+1)).flatMap insE))):=by
 refine bb ?_
 rw[dapp,dapp,p9,p9,p9,bdt,←R0 (j6 hq)]
 unfold insE
 simp only[List.append_assoc]
theorem a4I (hk:k<m.funcs.length)(hq:(nth m.funcs k).code.length≤q):
 bl (headT m++((m.funcs.take k).flatMap fnT++(fnH (nth m.funcs k)++((nth m.funcs k).code.take q).flatMap insE)))=bl (headT m++(m.funcs.take (k+1)).flatMap fnT):=by
 rw[Q4 hq,←R0 (j6 hk)];rfl
theorem stf (a b:ByteArray)(h:a.size+b.size≤1000000000:=by simp only[ByteArray.size_append,a6T,bsz,List.length_cons,List.length_nil,List.length_append,G3,a7p];omega):AllP [StrFit a b]:=a1 (StrFit.mk (strb h))
end Go.Proofs.Ytjfjdgjhihgdkaa
namespace Go.Proofs.Ytjfjdgjhihgdkaa
open Go Go.RowKit V
theorem a6H {l n:Int}(h:limOk l n=true)(h0:0≤l)(h1:l≤1000001):0≤n∧n≤1000000:=by
 unfold limOk at h
 simp only[Bool.or_eq_true,Bool.and_eq_true,decide_eq_true_eq]at h
 omega
theorem a5R {op:ByteArray}(h:formB op=true):op.size≤8:=by
 unfold formB at h
 rw[List.find?_isSome]at h
 obtain⟨f,hf,he⟩:=h
 have:=(X0 f hf).2.2.2
 rw[←of_decide_eq_true he];exact this
variable {a:Ins}
theorem a2f (h:insOk a=true):OkIns a:=by
 unfold insOk at h
 simp only[Bool.and_eq_true]at h
 have hl:=a3N a.op
 exact⟨a5R h.1,a6H h.2.1 hl.1.1 hl.1.2,a6H h.2.2 hl.2.1 hl.2.2⟩
theorem OkIns.rng (h:OkIns a):a.rng:=⟨⟨by have:=h.a;omega,by have:=h.a;omega⟩,⟨by have:=h.b;omega,by have:=h.b;omega⟩⟩
noncomputable def itT (a:Ins):ByteArray:=if insOk a=true then bl (insL a)else⟨#[]⟩
def irV (s:ByteArray):Ins:=⟨nth (words s) 0,if 1<(words s).length then l3n (nth (words s) 1)else 0,if 2<(words s).length then l3n (nth (words s) 2)else 0⟩
def irB (s:ByteArray):Bool:=decide (s.size≤40)&&(insOk (irV s)&&decide (insL (irV s)=s.data.toList))
def noIns :Ins:=⟨⟨#[]⟩,0,0⟩
def irR (s:ByteArray):Ins:=if irB s=true then irV s else noIns
variable {s:ByteArray}
theorem a6p {l:List UInt8}:((bl l).toList==s.toList)=true↔l=s.data.toList:=by
 rw[y0]
 constructor
 ·intro h;rw[←h,p9]
 ·intro h;exact bb (by rw[p9,h])
variable {b:Bool}
theorem retIr {x:Ins}(h:x=irR s∧b=irB s):slotOf [.agg [.im true (.str x.op),.im true (.int .i64 x.a),.im true (.int .i64 x.b)],.lf (.im true (.bool b))]= .tup [.agg [.im true (.str (irR s).op),.im true (.int .i64 (irR s).a),.im true (.int .i64 (irR s).b)],.lf (.im true (.bool (irB s)))]:=by rw[h.1,h.2];rfl
theorem a5w (h:irB s=false):noIns=irR s∧false=irB s:=by
 unfold irR;rw[h];exact⟨rfl,rfl⟩
theorem a3R (h:irB s=true):irV s=irR s∧true=irB s:=by
 unfold irR;rw[h];exact⟨rfl,rfl⟩
theorem a7e (h:¬s.size≤40):irB s=false:=by unfold irB;rw[decide_eq_false h];rfl
theorem a3G (h:(!(insOk (irV s))|| !((itT (irV s)).toList==s.toList))=true):irB s=false:=by
 unfold irB
 cases hk:insOk (irV s)with
 |false=>simp
 |true=>
  rw[hk]at h
  unfold itT at h
  rw[if_pos hk]at h
  have h2:¬insL (irV s)=s.data.toList:=fun e=>by rw[a6p.2 e]at h;cases h
  rw[decide_eq_false h2];simp
theorem a1r (hs:s.size≤40)(h:(!(insOk (irV s))|| !((itT (irV s)).toList==s.toList))=false):irB s=true:=by
 unfold irB
 cases hk:insOk (irV s)with
 |false=>rw[hk]at h;cases h
 |true=>
  rw[hk]at h
  unfold itT at h
  rw[if_pos hk]at h
  have h2:insL (irV s)=s.data.toList:=a6p.1 (by simpa using h)
  rw[decide_eq_true hs,decide_eq_true h2];rfl
def spF (w:List ByteArray):List (List ByteArray):=spT w w.length
def rfV (w:List ByteArray):Fn:=⟨l4s (nth (nth (spF w) 0) 0),(nth (spF w) 0).drop 1,nth (spF w) 1,nth (spF w) 2,rnL (nth (spF w) 3),[]⟩
def rfH (w:List ByteArray):Bool:=decide ((spF w).length=4)&& !decide ((nth (spF w) 0).length=0)
def rfB (w:List ByteArray):Bool:=rfH w&&(rnB (nth (spF w) 3)&&(decide (0≤l4s (nth (nth (spF w) 0) 0))&&(fmB ((nth (spF w) 0).drop 1)&&(fmB (nth (spF w) 1)&&fmB (nth (spF w) 2)))))
def noFn :Fn:=⟨0,[],[],[],[],[]⟩
def rfR (w:List ByteArray):Fn:=if rfH w=true then rfV w else noFn
variable {w:List ByteArray}
theorem retRf {x:Fn}(h:x=rfR w∧b=rfB w):
 slotOf [.agg [.im true (.int .i64 x.seen),.im true (.sl 1 (x.args.map rS)),.im true (.sl 1 (x.rets.map rS)),.im true (.sl 1 (x.locals.map rS)),.im true (.sl 1 (x.takes.map rI)),.nil],.lf (.im true (.bool b))]=
  .tup [.agg [.im true (.int .i64 (rfR w).seen),.im true (.sl 1 ((rfR w).args.map rS)),.im true (.sl 1 ((rfR w).rets.map rS)),.im true (.sl 1 ((rfR w).locals.map rS)),.im true (.sl 1 ((rfR w).takes.map rI)),.nil],.lf (.im true (.bool (rfB w)))]:=by rw[h.1,h.2];rfl
theorem rf_no (h:rfH w=false):noFn=rfR w∧false=rfB w:=by
 unfold rfR rfB;rw[h];exact⟨rfl,rfl⟩
theorem a2H (h:rfH w=true)(hb:b=(rnB (nth (spF w) 3)&&(decide (0≤l4s (nth (nth (spF w) 0) 0))&&(fmB ((nth (spF w) 0).drop 1)&&(fmB (nth (spF w) 1)&&fmB (nth (spF w) 2)))))):rfV w=rfR w∧b=rfB w:=by
 unfold rfR rfB;rw[h,hb];exact⟨rfl,rfl⟩
theorem a1U (w:List ByteArray):(rfR w).code=[]:=by unfold rfR;split<;>rfl
theorem a6Y (w:List ByteArray):(spF w).length≤w.length+1∧∀i,(nth (spF w) i).length≤w.length:=by
 have h:=a29 w w.length
 refine⟨h.1,fun i=> ?_⟩
 by_cases hi:i<(spF w).length
 ·exact h.2 _ (c6 hi)
 ·have e:nth (spF w) i=default:=by unfold nth;rw[List.getElem?_eq_none (by omega)];rfl
  rw[e];exact Nat.zero_le _
end Go.Proofs.Ytjfjdgjhihgdkaa
namespace Go.Proofs.Ytjfjdgjhihgdkaa
open Go Go.RowKit V
def rFnZ (f:Fn):List SV:=[.int .i64 f.seen,.sl 1 (f.args.map rS),.sl 1 (f.rets.map rS),.sl 1 (f.locals.map rS),.sl 1 (f.takes.map rI),.nl]
theorem a46 (pre:List Fn){cur:Fn}(h:cur.code=[]):putHd (pre.map rFn++[rFnZ cur]) pre.length 5 (.sl 3 [])=(pre++[cur]).map rFn:=by
 unfold putHd
 rw[List.modify_eq_take_cons_drop (by simp)]
 simp[rFnZ,rFn,h]
theorem a4r (pre:List Fn)(cur:Fn)(c:List Ins):putHd (pre.map rFn++[rFnZ cur]) pre.length 5 (.sl 3 (c.map rIns))=(pre++[{cur with code:=c}]).map rFn:=by
 unfold putHd
 rw[List.modify_eq_take_cons_drop (by simp)]
 simp[rFnZ,rFn]
def wREC :ByteArray:=⟨#[114,101,99,111,114,100]⟩
def wFRI :ByteArray:=⟨#[102,114,105,101,110,100]⟩
def wFUN :ByteArray:=⟨#[102,117,110,99]⟩
def isW (line t:ByteArray):Bool:=(nth (words line) 0).toList==t.toList
def setLast (l:List Fn)(x:Ins):List Fn:=l.dropLast++[{l.getLastD noFn with code:=(l.getLastD noFn).code++[x]}]
theorem a3U (pre:List Fn)(f:Fn)(x:Ins):setLast (pre++[f]) x=pre++[{f with code:=f.code++[x]}]:=by simp[setLast]
def recL (line:ByteArray):Rec:=⟨l4s (nth (words line) 1),(words line).drop 2⟩
def rdL (m:Mod)(line:ByteArray):Option Mod:=
 bif isW line wREC&&decide (((words line).length:Int)>1)then
  bif decide (l4s (nth (words line) 1)≥0)&&(fmB ((words line).drop 2)&&decide (m.records.length+1≤3))then some {m with records:=m.records++[recL line]}else none
 else bif isW line wFRI then
  bif rnB ((words line).drop 1)then some {m with friends:=rnL ((words line).drop 1)}else none
 else bif isW line wFUN then
  bif rfB ((words line).drop 1)&&decide (m.funcs.length<4)then some {m with funcs:=m.funcs++[rfR ((words line).drop 1)]}else none
 else bif irB line&&(!m.funcs.isEmpty&& !decide ((m.funcs.getLastD noFn).code.length=40))then some {m with funcs:=setLast m.funcs (irR line)}else none
variable {m:Mod} {line:ByteArray} {b:Bool}
theorem a5M (h:(isW line wREC&&decide (((words line).length:Int)>1))=true)
 (hb:b=(decide (l4s (nth (words line) 1)≥0)&&(fmB ((words line).drop 2)&&decide (m.records.length+1≤3)))):rdL m line=bif b then some {m with records:=m.records++[recL line]}else none:=by
 unfold rdL;rw[h,hb];rfl
theorem a5O (h:(isW line wREC&&decide (((words line).length:Int)>1))=false)(h2:isW line wFRI=true):
 rdL m line=bif rnB ((words line).drop 1)then some {m with friends:=rnL ((words line).drop 1)}else none:=by
 unfold rdL;rw[h,h2];rfl
theorem a5y (h:(isW line wREC&&decide (((words line).length:Int)>1))=false)(h2:isW line wFRI=false)(h3:isW line wFUN=true)
 (hb:b=(rfB ((words line).drop 1)&&decide (m.funcs.length<4))):rdL m line=bif b then some {m with funcs:=m.funcs++[rfR ((words line).drop 1)]}else none:=by
 unfold rdL;rw[h,h2,h3,hb];rfl
theorem T3 (h:(isW line wREC&&decide (((words line).length:Int)>1))=false)(h2:isW line wFRI=false)(h3:isW line wFUN=false)
 (hb:b=(irB line&&(!m.funcs.isEmpty&& !decide ((m.funcs.getLastD noFn).code.length=40)))):rdL m line=bif b then some {m with funcs:=setLast m.funcs (irR line)}else none:=by
 unfold rdL;rw[h,h2,h3,hb];rfl
def rdT (l:List ByteArray):Nat→Option Mod
 |0=>some ⟨[],[],[]⟩
 |i+1=>(rdT l i).bind fun m=>rdL m (nth l i)
variable {l:List ByteArray} {i:Nat}
theorem rdT_no (h:rdT l i=none):∀j,i≤j→rdT l j=none:=by
 intro j hj
 induction j with
 |zero=>
  obtain rfl:i=0:=by omega
  exact h
 |succ j ih=>
  by_cases e:i=j+1
  ·subst e;exact h
  ·simp only[rdT,ih (by omega)];rfl
variable {m':Mod}
theorem a50 (h:rdT l i=some m)(hr:rdL m (nth l i)=bif b then some m' else none):rdT l (i+1)=bif b then some m' else none:=by
 simp only[rdT,h,Option.bind_some];exact hr
structure Wd (l:List ByteArray):Prop where
 len:l.length≤9
 sz:∀u∈l,u.size≤4
def Sm (n:Int):Prop:= -1≤n∧n<100
structure RdFn (f:Fn):Prop where
 seen:Sm f.seen
 args:Wd f.args
 rets:Wd f.rets
 locals:Wd f.locals
 takes:f.takes.length≤9∧∀n∈f.takes,Sm n
 code:f.code.length≤40∧∀i∈f.code,OkIns i
structure RdOk (m:Mod):Prop where
 rl:m.records.length≤3
 recs:∀r∈m.records,Sm r.able∧Wd r.fields
 fl:m.funcs.length≤4
 fns:∀f∈m.funcs,RdFn f
 fr:m.friends.length≤9∧∀n∈m.friends,Sm n
theorem RdOk.nil :RdOk ⟨[],[],[]⟩:=⟨by decide,by simp,by decide,by simp,by decide,by simp⟩
theorem a3h {t:ByteArray}(h:formOk t=true):t.size≤4:=by
 have h1:=a5P t
 unfold formOk at h
 rw[Bool.or_eq_true]at h
 rcases h with h|h
 ·have:=(of_decide_eq_true h:IsKind (pl t)).1;omega
 ·rcases z6.1 h with e|e|e<;>(have:=congrArg ByteArray.size e;have h9:(⟨#[110]⟩:ByteArray).size=1:=rfl;have h8:(⟨#[98]⟩:ByteArray).size=1:=rfl;have h7:(⟨#[111]⟩:ByteArray).size=1:=rfl;omega)
theorem a6o (h:fmB l=true):Wd l:=by
 unfold fmB at h
 rw[Bool.and_eq_true]at h
 exact⟨of_decide_eq_true h.2,fun u hu=>a3h (List.all_eq_true.1 h.1 u hu)⟩
theorem rn_sm (h:rnB l=true):(rnL l).length≤9∧∀n∈rnL l,Sm n:=by
 unfold rnB at h
 rw[Bool.and_eq_true]at h
 have:=of_decide_eq_true h.2
 exact⟨by have:=a7a l;omega,fun n hn=>a61 n hn⟩
theorem rf_ok {w:List ByteArray}(h:rfB w=true):RdFn (rfR w):=by
 unfold rfB at h
 simp only[Bool.and_eq_true]at h
 obtain⟨h0,h1,h2,h3,h4,h5⟩:=h
 unfold rfR
 rw[if_pos h0]
 exact⟨a5h _,a6o h3,a6o h4,a6o h5,rn_sm h1,by simp[rfV],by simp[rfV]⟩
theorem ir_ok {s:ByteArray}(h:irB s=true):OkIns (irR s):=by
 unfold irR
 rw[if_pos h]
 unfold irB at h
 simp only[Bool.and_eq_true]at h
 exact a2f h.2.1
theorem rdL_ok (hm:RdOk m)(h:rdL m line=some m'):RdOk m':=by
 unfold rdL at h
 cases h1:isW line wREC&&decide (((words line).length:Int)>1)with
 |true=>
  rw[h1]at h
  simp only[cond_true]at h
  cases h2:decide (l4s (nth (words line) 1)≥0)&&(fmB ((words line).drop 2)&&decide (m.records.length+1≤3))with
  |false=>rw[h2]at h;cases h
  |true=>
   rw[h2]at h
   cases h
   simp only[Bool.and_eq_true,decide_eq_true_eq]at h2
   obtain⟨k1,k2,k3⟩:=h2
   exact⟨by simp;omega,fun r hr=>(List.mem_append.1 hr).elim (hm.recs r) fun hr=>by simp at hr;subst hr;exact⟨a5h _,a6o k2⟩,hm.fl,hm.fns,hm.fr⟩
 |false=>
  rw[h1]at h
  simp only[cond_false]at h
  cases h2:isW line wFRI with
  |true=>
   rw[h2]at h
   simp only[cond_true]at h
   cases h3:rnB ((words line).drop 1)with
   |false=>rw[h3]at h;cases h
   |true=>rw[h3]at h;cases h;exact⟨hm.rl,hm.recs,hm.fl,hm.fns,rn_sm h3⟩
  |false=>
   rw[h2]at h
   simp only[cond_false]at h
   cases h3:isW line wFUN with
   |true=>
    rw[h3]at h
    simp only[cond_true]at h
    cases h4:rfB ((words line).drop 1)&&decide (m.funcs.length<4)with
    |false=>rw[h4]at h;cases h
    |true=>
     rw[h4]at h
     cases h
     simp only[Bool.and_eq_true,decide_eq_true_eq]at h4
     exact⟨hm.rl,hm.recs,by simp;omega,fun r hr=>(List.mem_append.1 hr).elim (hm.fns r) fun hr=>by rw[List.mem_singleton]at hr;subst hr;exact rf_ok h4.1,hm.fr⟩
   |false=>
    rw[h3]at h
    simp only[cond_false]at h
    cases h4:irB line&&(!m.funcs.isEmpty&& !decide ((m.funcs.getLastD noFn).code.length=40))with
    |false=>rw[h4]at h;cases h
    |true=>
     rw[h4]at h
     cases h
     simp only[Bool.and_eq_true,Bool.not_eq_true',decide_eq_false_iff_not]at h4
     obtain⟨k1,k2,k3⟩:=h4
     have hne:m.funcs≠[]:=fun e=>by rw[e]at k2;cases k2
     obtain⟨pre,f,hf⟩:∃pre f,m.funcs=pre++[f]:=⟨m.funcs.dropLast,m.funcs.getLast hne,(List.dropLast_concat_getLast hne).symm⟩
     have hl:=hm.fl
     rw[hf]at k3 hl⊢
     rw[a3U]
     have hF:=hm.fns
     rw[hf]at hF
     have hlast:=hF f (by simp)
     have e9:(pre++[f]).getLastD noFn=f:=by simp
     rw[e9]at k3
     refine⟨hm.rl,hm.recs,by simp at hl⊢;omega,fun r hr=> ?_,hm.fr⟩
     rcases List.mem_append.1 hr with hr|hr
     ·exact hF r (by simp[hr])
     ·simp at hr
      subst hr
      refine⟨hlast.seen,hlast.args,hlast.rets,hlast.locals,hlast.takes,?_,?_⟩
      ·have:=hlast.code.1;simp;omega
      ·intro i hi
       rcases List.mem_append.1 hi with hi|hi
       ·exact hlast.code.2 i hi
       ·simp at hi;subst hi;exact ir_ok k1
theorem a6M {l:List ByteArray}:∀{i:Nat} {m:Mod},rdT l i=some m→RdOk m
 |0,m,h=>by cases h;exact RdOk.nil
 |i+1,m,h=>by
  simp only[rdT]at h
  cases h1:rdT l i with
  |none=>rw[h1]at h;cases h
  |some m0=>rw[h1]at h;exact rdL_ok (a6M h1) h
theorem Sm.r {n:Int}(h:Sm n):inR n:=by unfold Sm at h;unfold inR;omega
theorem Wd.w (h:Wd l):wS l≤45:=by
 obtain⟨h1,h2⟩:=h
 have:∀l:List ByteArray,(∀u∈l,u.size≤4)→wS l≤5*l.length:=by
  intro l
  induction l with
  |nil=>intro _;simp[wS]
  |cons a l ih=>
   intro h
   have h3:=ih fun u hu=>h u (by simp[hu])
   have h4:=h a (by simp)
   unfold wS at h3⊢
   simp only[List.length_cons,List.map_cons,List.sum_cons]at h3⊢
   omega
 have:=this l h2
 omega
theorem RdOk.rng (h:RdOk m):m.rng:=⟨fun r hr=>(h.recs r hr).1.r,fun f hf=>⟨(h.fns f hf).seen.r,fun n hn=>((h.fns f hf).takes.2 n hn).r,fun i hi=>((h.fns f hf).code.2 i hi).rng⟩,fun n hn=>(h.fr.2 n hn).r⟩
theorem a1e {α:Type}{f:α→Nat}{c:Nat}:∀{l:List α},(∀x∈l,f x≤c)→(l.map f).sum≤c*l.length
 |[],_=>by simp
 |a::l,h=>by
  have h1:=a1e (l:=l) fun x hx=>h x (by simp[hx])
  have h2:=h a (by simp)
  simp only[List.map_cons,List.sum_cons,List.length_cons,Nat.mul_add,Nat.mul_one]
  omega
theorem RdOk.w (h:RdOk m):wMod m≤1048576:=by
 have h1:=a1e (f:=wRec) (c:=45) (l:=m.records) fun r hr=>(h.recs r hr).2.w
 have h2:=a1e (f:=wFn) (c:=600) (l:=m.funcs) fun f hf=>by
  have k:=h.fns f hf
  have k1:=k.args.w;have k2:=k.rets.w;have k3:=k.locals.w;have k4:=k.takes.1;have k5:=k.code.1
  have k6:=a1e (f:=wIns) (c:=8) (l:=f.code) fun i hi=>(k.code.2 i hi).op
  unfold wFn wInss;omega
 have h3:=h.rl;have h4:=h.fl;have h5:=h.fr.1
 unfold wMod wRecs wFns;omega
end Go.Proofs.Ytjfjdgjhihgdkaa
namespace Go.Proofs.Ytjfjdgjhihgdkaa
open Go Go.RowKit V
def lnL (s:ByteArray):List ByteArray:=(lnT s s.size).1
def lnB (s:ByteArray):Bool:=(lnT s s.size).2.toList==(⟨#[]⟩:ByteArray).toList
def mrO (s:ByteArray):Option Mod:=bif decide (s.size≤4000)&&lnB s then(rdT (lnL s) (lnL s).length).bind fun m=>bif decide (modT m=s.data.toList)then some m else none else none
def noMod :Mod:=⟨[],[],[]⟩
def mrR (s:ByteArray):Mod:=(mrO s).getD noMod
def mrB (s:ByteArray):Bool:=(mrO s).isSome
variable {s:ByteArray} {m:Mod} {b:Bool}
theorem retMr (h:m=mrR s∧b=mrB s):slotOf [.agg [.im true (.sl 2 (m.records.map rRec)),.im true (.sl 6 (m.funcs.map rFn)),.im true (.sl 1 (m.friends.map rI))],.lf (.im true (.bool b))]=
 .tup [.agg [.im true (.sl 2 ((mrR s).records.map rRec)),.im true (.sl 6 ((mrR s).funcs.map rFn)),.im true (.sl 1 ((mrR s).friends.map rI))],.lf (.im true (.bool (mrB s)))]:=by rw[h.1,h.2];rfl
theorem N9 (h:mrO s=none):noMod=mrR s∧false=mrB s:=by unfold mrR mrB;rw[h];exact⟨rfl,rfl⟩
theorem a2M (h:mrO s=some m):m=mrR s∧true=mrB s:=by unfold mrR mrB;rw[h];exact⟨rfl,rfl⟩
theorem a7t (h:¬s.size≤4000):mrO s=none:=by unfold mrO;rw[decide_eq_false h];rfl
variable {i:Nat}
theorem a4y {ok:Bool}(hi:i≤(lnL s).length)(h:ok=false→lnB s=false∨rdT (lnL s) i=none)(ho:(!ok)=true):mrO s=none:=by
 have ho:ok=false:=by simpa using ho
 unfold mrO
 rcases h ho with h|h
 ·rw[h];simp
 ·rw[rdT_no h _ hi];cases decide (s.size≤4000)&&lnB s<;>rfl
theorem mr_at {ok:Bool}(hs:s.size≤4000)(h:ok=true→lnB s=true∧rdT (lnL s) i=some m)(ho:ok=true)(hi:i=(lnL s).length):mrO s=bif decide (modT m=s.data.toList)then some m else none:=by
 obtain⟨h1,h2⟩:=h ho
 unfold mrO
 subst hi
 rw[h1,h2,decide_eq_true hs];rfl
theorem a6V {ok:Bool}(hs:s.size≤4000)(h:ok=true→lnB s=true∧rdT (lnL s) i=some m)(ho:ok=true)(hi:i=(lnL s).length)(hn:((bl (modT m)).toList==s.toList)=false):mrO s=none:=by
 rw[mr_at hs h ho hi,decide_eq_false (fun e=>by rw[a6p.2 e]at hn;cases hn)];rfl
theorem a66 {ok:Bool}(hs:s.size≤4000)(h:ok=true→lnB s=true∧rdT (lnL s) i=some m)(ho:ok=true)(hi:i=(lnL s).length)(hn:((bl (modT m)).toList==s.toList)=true):mrO s=some m:=by
 rw[mr_at hs h ho hi,decide_eq_true (a6p.1 hn)];rfl
structure Hd7 (s:ByteArray)(i:Nat)(ok:Bool)(m:Mod):Prop where
 le:i≤(lnL s).length
 yes:ok=true→lnB s=true∧rdT (lnL s) i=some m
 no:ok=false→lnB s=false∨rdT (lnL s) i=none
theorem Hd7.zero (s:ByteArray):Hd7 s 0 (lnB s) ⟨[],[],[]⟩:=⟨Nat.zero_le _,fun h=>⟨h,rfl⟩,fun h=> .inl h⟩
theorem Hd7.next {ok:Bool}{m':Mod}(h:Hd7 s i ok m)(ho:ok=true)(hi:i<(lnL s).length)(hr:rdL m (nth (lnL s) i)=bif b then some m' else none):Hd7 s (i+1) b m':=by
 have h2:=a50 (h.yes ho).2 hr
 refine⟨hi,fun hb=>⟨(h.yes ho).1,by rw[h2,hb];rfl⟩,fun hb=> .inr (by rw[h2,hb];rfl)⟩
theorem Hd7.ok {s:ByteArray}{i:Nat}{ok:Bool}{m:Mod}(h:Hd7 s i ok m)(ho:ok=true):RdOk m:=a6M (h.yes ho).2
theorem a1D (hs:s.size≤4000)(i:Nat):(nth (lnL s) i).size≤4000:=by
 by_cases hi:i<(lnL s).length
 ·have h9:(nth (lnL s) i).size≤s.size:=a4A s s.size _ (c6 (l:=lnL s) hi)
  omega
 ·have e:nth (lnL s) i=default:=by unfold nth;rw[List.getElem?_eq_none (by omega)];rfl
  rw[e];exact Nat.zero_le _
end Go.Proofs.Ytjfjdgjhihgdkaa
namespace Go.Proofs.Ytjfjdgjhihgdkaa.V
open Go Go.RowKit
variable {P:Program}
theorem a6J {T:Tab}{n:Nat}{c:Code}{L:SL}{K:Exit→SL→Prop}(q i kc j k e' sz:Nat)(L':SL){b b2:Nat}{ls ls2:List Leaf}{bs:List Blk}(h1:look L (ck q)= .cell b ls)(hi:ls[i]? =some .nil)(h2:look L (ck kc)= .own b2 ls2 bs)(hj:bs[j]? =some .no)
 (hf:(L.all fun p=> !p.2.has k)=true) (hk:Nat.beq k obN=false) (h:(L'.map Prod.fst).map (fun x=>(x,look ((ck q,.cell b (ls.set i (.hd k 0 0)))::(ck kc,.own b2 ls2 (bs.set j (.mk k 0 e' sz [])))::L) x))=L') (hne:Nat.beq q kc=false) (hc:EW P T n c L' K):EW P T n c L K:=by
 refine e_nil k ((ck q,.cell b (ls.set i (.hd k 0 0)))::(ck kc,.own b2 ls2 (bs.set j (.mk k 0 e' sz [])))::L) hk (fun ν=> ?_) (a3S L' h hc)
 have hb:(setN ν [k] fun _=>none) k=none:=F0 (by simp)
 have hne':ck q≠ck kc:=fun e=>by rw[E9 e]at hne;simp at hne
 funext x
 simp only[den,n5]
 by_cases e:x=ck q
 ·rw[if_pos e,e]
  have hfree:=H2 hf (ck q)
  rw[h1]at hfree⊢
  rw[←K5 (ν:=ν) hfree]
  simp only[renS]
  cases(setN ν [k] fun _=>none) b with
  |none=>rfl
  |some p=>
   have e1:(ls.set i (.hd k 0 0)).map (renL (setN ν [k] fun _=>none))=ls.map (renL (setN ν [k] fun _=>none)):=p4 hi (by simp only[renL,hb];rfl)
   simp only[e1]
 ·rw[if_neg e]
  by_cases e2:x=ck kc
  ·rw[if_pos e2,e2]
   have hfree:=H2 hf (ck kc)
   rw[h2]at hfree⊢
   rw[←K5 (ν:=ν) hfree]
   simp only[renS]
   cases(setN ν [k] fun _=>none) b2 with
   |none=>rfl
   |some p=>
    have e1:(bs.set j (.mk k 0 e' sz [])).map (renB (setN ν [k] fun _=>none))=bs.map (renB (setN ν [k] fun _=>none)):=p4 hj (by simp only[renB,hb];rfl)
    simp only[e1]
  ·rw[if_neg e2]
   exact K5 (H2 hf x)
end Go.Proofs.Ytjfjdgjhihgdkaa.V
namespace Go.Proofs.Ytjfjdgjhihgdkaa
open Go Go.RowKit V
def rNl (_:Unit):List SV:=[.nl]
variable {P:Program} {v:SV}
theorem CallM.lend {f:FuncId}{a:List Part}{o o' s:Slot}(h:CallM P f (.lf (.im false v)::a) o o' s):CallM P f (.lf (.im true v)::a) o o' s:=by
 intro ν b0 c hν g w vs h1 h2 h3 h4 h5 h6
 refine h ν b0 c hν g w vs h1 h2 (by simpa using h3) h4 (fun i p x hp hx=> ?_) h6
 cases i with
 |zero=>
  simp at hp
  subst hp
  have h7:SRep (Imm g true) w x v:=h5 0 (.lf (.im true v)) x rfl hx
  exact h7.mono (fun _ _=>rfl) fun b hb=>by
   rcases hb with hb|⟨hb,_⟩
   ·exact .inl hb
   ·cases hb
 |succ i=>exact h5 (i+1) p x (by simpa using hp) hx
end Go.Proofs.Ytjfjdgjhihgdkaa
namespace Go.Proofs.Ytjfjdgjhihgdkaa
open Go Go.RowKit V
variable {P:Program} {v:SV}
theorem CallV.lend {f:FuncId}{a:List Part}{R:Slot→Prop}(h:CallV P f (.lf (.im false v)::a) R):CallV P f (.lf (.im true v)::a) R:=by
 intro g w vs h0 h1 hw h2 h4 h3
 refine h g w vs h0 h1 hw h2 (by simpa using h4) fun i p x hp hx=> ?_
 cases i with
 |zero=>
  simp at hp
  subst hp
  have h7:SRep (Imm g true) w x v:=h3 0 (.lf (.im true v)) x rfl hx
  exact h7.mono (fun _ _=>rfl) fun b hb=>by
   rcases hb with hb|⟨hb,_⟩
   ·exact .inl hb
   ·cases hb
 |succ i=>exact h3 (i+1) p x (by simpa using hp) hx
def Sz (l:List ByteArray):Prop:=l.length≤20∧∀u∈l,u.size≤8
instance (l:List ByteArray):Decidable (Sz l):=inferInstanceAs (Decidable (_∧_))
def FnT (f:Fn):Prop:=Sz f.args∧Sz f.rets∧Sz f.locals∧f.takes.length≤20∧f.code.length≤60∧∀i∈f.code,i.op.size≤8
structure Tiny (m:Mod):Prop where
 recs:m.records.length≤20∧∀r∈m.records,Sz r.fields
 fns:m.funcs.length≤20∧∀f∈m.funcs,FnT f
 fr:m.friends.length≤20
variable {ks:Kinds} {f:Fn}
theorem HdOk.t {nr:Nat}(h:HdOk ks nr f)(hn:nr≤10)(hc:f.code.length≤60∧∀i∈f.code,i.op.size≤8):FnT f:=
 ⟨⟨by have:=h.args.1;omega,fun u hu=>by have:=(h.args.2 u hu).2;omega⟩,⟨by have:=h.rets.1;omega,fun u hu=>by have:=(h.rets.2 u hu).2;omega⟩,⟨by have:=h.locals.1;omega,fun u hu=>by have:=(h.locals.2 u hu).2;omega⟩,by have:=h.takes.1;omega,hc⟩
theorem ListOk.t {l:List Ins}(h:ListOk l):l.length≤60∧∀i∈l,i.op.size≤8:=⟨by have:=h.len;omega,fun i hi=>(h.ok i hi).op⟩
variable {m:Mod}
theorem Tiny.of {k:Nat}(h:ModG ks k m):Tiny m:=by
 refine⟨⟨by have:=h.recs.len;omega,fun r hr=> ?_⟩,⟨by have:=h.fl;omega,fun f hf=> ?_⟩,by have:=h.fr;omega⟩
 ·obtain⟨j,hj⟩:=List.mem_iff_getElem?.1 hr
  have hjl:=(List.getElem?_eq_some_iff.1 hj).1
  have h9:=h.recs.flds j hjl
  rw[J3 hj]at h9
  refine⟨by omega,fun u hu=> ?_⟩
  obtain⟨q,hq⟩:=List.mem_iff_getElem?.1 hu
  have h8:=(h9.2 q (List.getElem?_eq_some_iff.1 hq).1).1
  rw[J3 hq]at h8
  have:=j9 h8;omega
 ·exact(h.fns f hf).hd.t (Nat.le_refl _) (h.fns f hf).code.t
variable {a:List Mod}
theorem ShG.tiny (h:ShG a):∀x∈a,Tiny x:=fun x hx=>by
 obtain⟨q,hq⟩:=List.mem_iff_getElem?.1 hx
 have:=h.mods q (List.getElem?_eq_some_iff.1 hq).1
 rw[J3 hq]at this
 exact Tiny.of this
theorem Tiny.small (h:Tiny m):m.small:=
 ⟨⟨by have:=h.recs.1;omega,fun r hr=>by have:=(h.recs.2 r hr).1;unfold Rec.small;omega⟩,⟨by have:=h.fns.1;omega,fun f hf=>by obtain⟨h1,h2,h3,h4,h5,-⟩:=h.fns.2 f hf;exact⟨by have:=h1.1;omega,by have:=h2.1;omega,by have:=h3.1;omega,by omega,by omega⟩⟩,by have:=h.fr;omega⟩
theorem Sz.ok {l:List ByteArray}(h:Sz l):okS l:=⟨by have:=h.1;omega,fun u hu=>by have:=h.2 u hu;omega⟩
theorem Tiny.ok (h:Tiny m):m.ok:=
 ⟨⟨by have:=h.recs.1;omega,fun r hr=>(h.recs.2 r hr).ok⟩,⟨by have:=h.fns.1;omega,fun f hf=>by obtain⟨h1,h2,h3,h4,h5,h6⟩:=h.fns.2 f hf;exact⟨h1.ok,h2.ok,h3.ok,by omega,by omega,fun i hi=>by have:=h6 i hi;unfold Ins.ok;omega⟩⟩,by have:=h.fr;omega⟩
variable {R:List Rec} {F:List Fn} {fr:List Int}
theorem Tiny.addFn (h:Tiny ⟨R,F,fr⟩)(hl:F.length≤10)(hf:FnT f):Tiny ⟨R,F++[f],fr⟩:=
 ⟨h.recs,⟨by simp;omega,fun g hg=>(List.mem_append.1 hg).elim (h.fns.2 g) fun hg=>by simp at hg;subst hg;exact hf⟩,h.fr⟩
variable {r:Rec}
theorem Tiny.addRec (h:Tiny ⟨R,F,fr⟩)(hl:R.length≤10)(hr:Sz r.fields):Tiny ⟨R++[r],F,fr⟩:=
 ⟨⟨by simp;omega,fun g hg=>(List.mem_append.1 hg).elim (h.recs.2 g) fun hg=>by simp at hg;subst hg;exact hr⟩,h.fns,h.fr⟩
variable {i:Nat}
theorem Tiny.setFn (h:Tiny ⟨R,F,fr⟩)(hf:FnT f):Tiny ⟨R,F.set i f,fr⟩:=
 ⟨h.recs,⟨by rw[List.length_set];exact h.fns.1,fun g hg=>(List.mem_or_eq_of_mem_set hg).elim (h.fns.2 g) fun e=>by subst e;exact hf⟩,h.fr⟩
theorem Tiny.setRec (h:Tiny ⟨R,F,fr⟩)(hr:Sz r.fields):Tiny ⟨R.set i r,F,fr⟩:=
 ⟨⟨by rw[List.length_set];exact h.recs.1,fun g hg=>(List.mem_or_eq_of_mem_set hg).elim (h.recs.2 g) fun e=>by subst e;exact hr⟩,h.fns,h.fr⟩
theorem Tiny.eta (h:Tiny m):Tiny ⟨m.records,m.funcs,m.friends⟩:=h
theorem Tiny.rnil (h:Tiny m)(hn:m.records=[]):Tiny ⟨[],m.funcs,m.friends⟩:=by rw[←hn];exact h
theorem Tiny.none :Tiny ⟨[],[],[]⟩:=⟨⟨by simp,by simp⟩,⟨by simp,by simp⟩,by simp⟩
theorem a0U (h:a[i]? =some m):putHd ((a.map rMod).set i [.sl 2 (m.records.map rRec),.sl 6 [],.sl 1 (m.friends.map rI)]) i 1 (.sl 6 (m.funcs.map rFn))=a.map rMod:=by
 obtain⟨hi,rfl⟩:=List.getElem?_eq_some_iff.1 h
 unfold putHd
 apply List.ext_getElem?
 intro q
 rw[List.getElem?_modify,List.getElem?_set,List.getElem?_map]
 by_cases e:i=q
 ·subst e;simp[hi,rMod]
 ·simp[e]
theorem a3m (h:a[i]? =some m)(hn:m.records=[]):putHd ((a.map rMod).set i [.sl 2 [],.sl 6 [],.sl 1 (m.friends.map rI)]) i 1 (.sl 6 (m.funcs.map rFn))=a.map rMod:=by
 have:=a0U h
 rw[hn]at this
 exact this
end Go.Proofs.Ytjfjdgjhihgdkaa
namespace Go.Proofs.Ytjfjdgjhihgdkaa
open Go Go.RowKit V
variable {i:Nat}
theorem hstN {rows:List (List SV)}{r:List SV}{sz off n2:Nat}(h1:rows[i]? =some r)(h2:r.length=sz)(h3:off=i*sz)(h5:n2≠0):AllP [rows[i]? =some r,r.length=sz,off=i*sz,n2≠0]:=⟨h1,h2,h3,h5,trivial⟩
theorem numAt {t:Int}(h:t∈[(-1:Int),3]): -1≤t∧t≤3:=by simp at h;omega
end Go.Proofs.Ytjfjdgjhihgdkaa
namespace Go.Proofs.Ytjfjdgjhihgdkaa
open Go Go.RowKit V
theorem clP {P:Program}{f:FuncId}{ps:List Part}{ls:List Leaf}(h:Text P f)(hc:CallPX P f ps ls):AllP [Text P f,CallPX P f ps ls]:=⟨h,hc,trivial⟩
def okU8 (_:UInt8):Prop:=True
theorem u8_of {n:Int}(h:(Lit.int .u8 n).wf=true):[SV.int .u8 n]=rB (UInt8.ofNat n.toNat):=by
 unfold Lit.wf at h
 simp[IntKind.min,IntKind.max,IntKind.signed,IntKind.bits]at h
 have e:((UInt8.ofNat n.toNat).toNat:Int)=n:=by rw[UInt8.toNat_ofNat'];omega
 show [SV.int .u8 n]=[SV.int .u8 ((UInt8.ofNat n.toNat).toNat:Int)]
 rw[e]
theorem GoesOn.refl (m:Mod):GoesOn m m:=
 ⟨Nat.le_refl _,Nat.le_refl _,fun i r s h1 h2=>by rw[h1]at h2;exact Option.some.inj h2,fun i f g h1 h2=>by rw[h1]at h2;cases h2;exact .inr ⟨Int.le_refl _,rfl,rfl⟩,fun _ h=>h⟩
theorem GoesOn.recs_eq {a b:Mod}(h1:GoesOn a b)(h2:GoesOn b a):a.records=b.records:=by
 have hl:a.records.length=b.records.length:=Nat.le_antisymm h1.recs h2.recs
 refine List.ext_getElem hl fun i ha hb=> ?_
 exact h1.recEq i _ _ (List.getElem?_eq_getElem ha) (List.getElem?_eq_getElem hb)
theorem a2l (x y:Mod){b:Bool}(h:b=(B (GoesOn y y)&&(B (GoesOn x x)&&(!B (GoesOn x y)||(!B (GoesOn y x)||decide (x.records=y.records)))))):b=true:=by
 rw[h,K2 (GoesOn.refl y),K2 (GoesOn.refl x)]
 by_cases h1:GoesOn x y
 ·by_cases h2:GoesOn y x
  ·rw[decide_eq_true (h1.recs_eq h2)];simp
  ·rw[O7 h2];simp
 ·rw[O7 h1];simp
theorem P1 (s:ByteArray)(hs:s.size≤4000):
 CallV Try.prog 64 [.lf (.im true (.str s))] (·= .lf (.im true (.sl 1 ((words s).map rS)))):=by
 refine CallX (fn:=Try.f64) TTok mixed Try.func64 rfl rfl rfl rfl rfl fun E c hMay=> ?_
 refine vx c [(0,.lf (.q s))] [] AllP.nil (by kernel_rfl) ?_
 refine vxn c [] [(6,.lf (.u 5 0 9 1 [[.str B4]]))] ?_
 refine b9 (vxn c [] [(8,.int 0)] ?_)
 refine c8 (vld (fun l0 n L=>∃(i:Nat),L=upG [] [(6,.lf (.u 5 0 9 1 ((wdT s i).map rS))),(8,.int (i:Int))] l0∧n=s.size-i∧(i≤s.size)) _ ⟨0,rfl,rfl,by omega⟩ ?_)
 rintro n L ⟨i,rfl,rfl,hP1⟩
 have hwl:=K4 s i
 refine b9 (vxn c [] [(18,.bool (decide ((i:Int)<(s.size:Int))))] ?_)
 refine vcp (fun h1=> ?_) fun h1=> ?_
 ·refine c5 (b9 (c8 (vxd c [18] [(30,.bool (decide (((((bt s i).toNat:Nat):Int):Int)=32)))] [(2,.byte (bt s i))] (z8 (t:=s) (i:=i) (by omega)) ?_)))
  refine vcp (fun h2=> ?_) fun h2=> ?_
  ·refine vxed c [30] [(6,.lf (.u 5 0 9 1 ((wdT s i++[B4]).map rS)))] [(1,.slot (.lf (.m 1 [B4] rS))),(2,.slot (.lf (.u 5 0 9 1 ((wdT s i++[B4]).map rS))))] (a2 (a1 (show([[.str B4]]:List (List SV))=([B4].map rS)from rfl)) (a2 (a1 (show(((wdT s i).map rS)++([B4].map rS):List (List SV))=(wdT s i++[B4]).map rS by rw[List.map_append])) (a2 (hl (((wdT s i).map rS).length)) (ap (a:=((wdT s i).map rS).length+(([B4].map rS):List (List SV)).length) (b:=16) (by simp;omega) (by unfold maxLen;simp;omega))))) ?_
   rw[show(wdT s i++[B4])=wdT s (i+1)from a7z h2]
   exact vxed c [] [(6,.lf (.u 5 0 9 1 ((wdT s (i+1)).map rS))),(8,.int (↑(i+1):Int))] [(1,.slot (.int (↑(i+1):Int)))] (wI1 i) (⟨_,by omega,(i+1),rfl,rfl,by omega⟩)
  ·refine vxed c [30] [(6,.lf (.u 5 0 9 1 (((wdT s i).set ((wdT s i).length-1) ((nth (wdT s i) ((wdT s i).length-1))++(s.extract i (i+1)))).map rS)))] [(2,.slot (.int (((wdT s i).length:Nat):Int))),(3,.slot (.int (((wdT s i).length-1:Nat):Int))),(6,.slot (.int (((wdT s i).length:Nat):Int))),(7,.slot (.int (((wdT s i).length-1:Nat):Int))),(9,.elem ((wdT s i).length-1) 0 (rS (nth (wdT s i) ((wdT s i).length-1))) none),(13,.slot (.int (↑(i+1):Int))),(14,.cut i (i+1) (.im (.str (s.extract i (i+1))))),(17,.elem ((wdT s i).length-1) 0 (rS (nth (wdT s i) ((wdT s i).length-1))) (some (((wdT s i).set ((wdT s i).length-1) ((nth (wdT s i) ((wdT s i).length-1))++(s.extract i (i+1)))).map rS)))] (a2 (lnl (wdT s i) rS) (a2 (wIo ((((wdT s i).length:Nat):Int)-1) (((wdT s i).length-1:Nat):Int)) (a2 (lnl (wdT s i) rS) (a2 (wIo ((((wdT s i).length:Nat):Int)-1) (((wdT s i).length-1:Nat):Int)) (a2 (ixu (i:=(wdT s i).length-1) (n:=((wdT s i).map rS).length) (by rw[List.length_map];omega)) (a2 (elT (f:=rS) (l:=wdT s i) (i:=(wdT s i).length-1) (j:=0) (n:=1) (sz:=1) (off:=(((wdT s i).length-1:Nat):Int).toNat*1) (j6 (l:=wdT s i) (i:=(wdT s i).length-1) (by omega)) (by omega) (by omega)) (a2 (wI1 i) (a2 (a1 (a1 (rfl:(i:Int)=(i:Int)))) (a2 (a1 (a1 (rfl:((↑(i+1):Int):Int)=(↑(i+1):Int)))) (a2 (a1 (show i≤(i+1)by omega)) (a2 (a1 (show(i+1)≤s.size by omega)) (a2 (a1 (rfl:(.im (.str (s.extract i (i+1))):Slot)= .im (.str (s.extract i (i+1))))) (a2 (a1 (StrFit.mk (a:=(nth (wdT s i) ((wdT s i).length-1))) (b:=(s.extract i (i+1))) (by exact strf (by have h9:=a3p s i _ (c6 (l:=wdT s i) (i:=(wdT s i).length-1) (by have:=(K4 s i).1;omega));have h8:=P9 s i;omega)))) (a2 (ixu (i:=(wdT s i).length-1) (n:=((wdT s i).map rS).length) (by rw[List.length_map];omega)) (stT (f:=rS) (l:=wdT s i) (i:=(wdT s i).length-1) (j:=0) (n:=1) (sz:=1) (off:=(((wdT s i).length-1:Nat):Int).toNat*1) (y:=(nth (wdT s i) ((wdT s i).length-1))++(s.extract i (i+1))) (new:=[.str ((nth (wdT s i) ((wdT s i).length-1))++(s.extract i (i+1)))]) (j6 (l:=wdT s i) (i:=(wdT s i).length-1) (by omega)) (by omega) (by omega) rfl (rfl)))))))))))))))) ?_
   rw[show((wdT s i).set ((wdT s i).length-1) ((nth (wdT s i) ((wdT s i).length-1))++(s.extract i (i+1))))=wdT s (i+1)from wdT_no h2]
   exact vxed c [] [(6,.lf (.u 5 0 9 1 ((wdT s (i+1)).map rS))),(8,.int (↑(i+1):Int))] [(1,.slot (.int (↑(i+1):Int)))] (wI1 i) (⟨_,by omega,(i+1),rfl,rfl,by omega⟩)
 ·refine n4 (a2Z 3 [(0,.lf (.q s)),(6,.lf (.m 1 (wdT s i) rS)),(8,.int (i:Int)),(18,.bool (decide ((i:Int)<(s.size:Int))))] (by kernel_rfl) ?_)
  refine vxn c [0,6,8,18] [(4,.lf (.m 1 (wdT s i) rS))] ?_
  exact rtV rfl (by rw[show words s=wdT s i from by unfold words;rw[show s.size=i from by omega]];rfl)
theorem a4x (s:ByteArray)(hs:s.size≤4000):
 CallV Try.prog 50 [.lf (.im true (.str s))] (·= .tup [.lf (.im true (.sl 1 ((lnT s s.size).1.map rS))),.lf (.im true (.bool ((lnT s s.size).2.toList==B4.toList)))]):=by
 refine CallX (fn:=Try.f50) TTok mixed Try.func50 rfl rfl rfl rfl rfl fun E c hMay=> ?_
 refine vx c [(0,.lf (.q s))] [] AllP.nil (by kernel_rfl) ?_
 refine vxn c [] [(8,.lf (.u 7 0 9 1 []))] ?_
 refine vxn c [] [(10,.lf (.q B4))] ?_
 refine b9 (vxn c [] [(12,.int 0)] ?_)
 refine c8 (vld (fun l0 n L=>∃(i:Nat),L=upG [] [(8,.lf (.u 7 0 9 1 (((lnT s i).1).map rS))),(10,.lf (.q ((lnT s i).2))),(12,.int (i:Int))] l0∧n=s.size-i∧(i≤s.size)) _ ⟨0,rfl,rfl,by omega⟩ ?_)
 rintro n L ⟨i,rfl,rfl,hP1⟩
 have hll:=a1O s i
 refine b9 (vxn c [] [(22,.bool (decide ((i:Int)<(s.size:Int))))] ?_)
 refine vcp (fun h1=> ?_) fun h1=> ?_
 ·refine c5 (b9 (c8 (vxd c [22] [(34,.bool (decide (((((bt s i).toNat:Nat):Int):Int)=10)))] [(2,.byte (bt s i))] (z8 (t:=s) (i:=i) (by omega)) ?_)))
  refine vcp (fun h2=> ?_) fun h2=> ?_
  ·refine vxd c [10,34] [(8,.lf (.u 7 0 9 1 (((lnT s i).1++[(lnT s i).2]).map rS)))] [(2,.slot (.lf (.m 1 [(lnT s i).2] rS))),(3,.slot (.lf (.u 7 0 9 1 (((lnT s i).1++[(lnT s i).2]).map rS))))] (a2 (a1 (show([[.str ((lnT s i).2)]]:List (List SV))=([(lnT s i).2].map rS)from rfl)) (a2 (a1 (show((((lnT s i).1).map rS)++([(lnT s i).2].map rS):List (List SV))=((lnT s i).1++[(lnT s i).2]).map rS by rw[List.map_append])) (a2 (hl ((((lnT s i).1).map rS).length)) (ap (a:=(((lnT s i).1).map rS:List (List SV)).length+(([(lnT s i).2].map rS):List (List SV)).length) (b:=16) (by simp;omega) (by unfold maxLen;simp;omega))))) ?_
   refine vxed c [] [(10,.lf (.q B4))] [] AllP.nil ?_
   rw[show((lnT s i).1++[(lnT s i).2])=(lnT s (i+1)).1 from(a4C h2).1,show B4=(lnT s (i+1)).2 from(a4C h2).2]
   exact vxed c [] [(8,.lf (.u 7 0 9 1 (((lnT s (i+1)).1).map rS))),(10,.lf (.q ((lnT s (i+1)).2))),(12,.int (↑(i+1):Int))] [(1,.slot (.int (↑(i+1):Int)))] (wI1 i) (⟨_,by omega,(i+1),rfl,rfl,by omega⟩)
  ·refine vxed c [34] [(10,.lf (.q (((lnT s i).2)++(s.extract i (i+1)))))] [(4,.slot (.int (↑(i+1):Int))),(5,.cut i (i+1) (.im (.str (s.extract i (i+1)))))] (a2 (wI1 i) (a2 (a1 (a1 (rfl:(i:Int)=(i:Int)))) (a2 (a1 (a1 (rfl:((↑(i+1):Int):Int)=(↑(i+1):Int)))) (a2 (a1 (show i≤(i+1)by omega)) (a2 (a1 (show(i+1)≤s.size by omega)) (a2 (a1 (rfl:(.im (.str (s.extract i (i+1))):Slot)= .im (.str (s.extract i (i+1))))) (a1 (StrFit.mk (a:=((lnT s i).2)) (b:=(s.extract i (i+1))) (by exact strf (by have h8:=P9 s i;omega)))))))))) ?_
   rw[show(lnT s i).1=(lnT s (i+1)).1 from(a6G h2).1,show((lnT s i).2)++(s.extract i (i+1))=(lnT s (i+1)).2 from(a6G h2).2]
   exact vxed c [] [(8,.lf (.u 7 0 9 1 (((lnT s (i+1)).1).map rS))),(10,.lf (.q ((lnT s (i+1)).2))),(12,.int (↑(i+1):Int))] [(1,.slot (.int (↑(i+1):Int)))] (wI1 i) (⟨_,by omega,(i+1),rfl,rfl,by omega⟩)
 ·refine n4 (a2Z 4 [(0,.lf (.q s)),(8,.lf (.m 1 ((lnT s i).1) rS)),(10,.lf (.q ((lnT s i).2))),(12,.int (i:Int)),(22,.bool (decide ((i:Int)<(s.size:Int))))] (by kernel_rfl) ?_)
  refine vxn c [0,8,10,12,22] [(4,.lf (.m 1 ((lnT s i).1) rS)),(6,.bool (((lnT s i).2).toList==B4.toList))] ?_
  exact rtV rfl (by rw[show s.size=i from by omega];rfl)
theorem L5 (s:ByteArray):
 CallV Try.prog 88 [.lf (.im true (.str s))] (·= .int (l3n s)):=by
 refine CallX (fn:=Try.f88) TTok mixed Try.func88 rfl rfl rfl rfl rfl fun E c hMay=> ?_
 refine vx c [(0,.lf (.q s))] [] AllP.nil (by kernel_rfl) ?_
 refine b9 ?_
 refine vjd c [] [(44,.bool ((decide ((s.size:Int)=0))||((decide ((s.size:Int)>8))||((decide ((s.size:Int)>1))&&(decide (((((bt s 0).toNat:Nat):Int):Int)=48))))))] (by
  rcases bft (decide ((((s.size:Nat):Int):Int)=0))with g1|g1
  ·have g1p:=d5 g1
   exact runJ [(2,.slot (.bool true)),(17,.slot (.bool ((decide ((s.size:Int)=0))||((decide ((s.size:Int)>8))||((decide ((s.size:Int)>1))&&(decide (((((bt s 0).toNat:Nat):Int):Int)=48)))))))] (a2 (kB g1) (kBs true ((decide ((s.size:Int)=0))||((decide ((s.size:Int)>8))||((decide ((s.size:Int)>1))&&(decide (((((bt s 0).toNat:Nat):Int):Int)=48)))))))
  ·have g1p:=i5 g1
   rcases bft (decide ((((s.size:Nat):Int):Int)>8))with g2|g2
   ·have g2p:=d5 g2
    exact runJ [(2,.slot (.bool false)),(6,.slot (.bool true)),(17,.slot (.bool ((decide ((s.size:Int)=0))||((decide ((s.size:Int)>8))||((decide ((s.size:Int)>1))&&(decide (((((bt s 0).toNat:Nat):Int):Int)=48)))))))] (a2 (kB g1) (a2 (kB g2) (kBs true ((decide ((s.size:Int)=0))||((decide ((s.size:Int)>8))||((decide ((s.size:Int)>1))&&(decide (((((bt s 0).toNat:Nat):Int):Int)=48))))))))
   ·have g2p:=i5 g2
    rcases bft (decide ((((s.size:Nat):Int):Int)>1))with g3|g3
    ·have g3p:=d5 g3
     exact runJ [(2,.slot (.bool false)),(6,.slot (.bool false)),(11,.slot (.bool true)),(14,.byte (bt s 0)),(17,.slot (.bool ((decide ((((s.size:Nat):Int):Int)=0))||((decide ((((s.size:Nat):Int):Int)>8))||((decide ((((s.size:Nat):Int):Int)>1))&&(decide (((((bt s 0).toNat:Nat):Int):Int)=48)))))))] (a2 (kB g1) (a2 (kB g2) (a2 (kB g3) (a2 (z8 (t:=s) (i:=0) (by omega)) (a2 (kB (b:=decide (((((bt s 0).toNat:Nat):Int):Int)=48)) (c:=((decide ((((s.size:Nat):Int):Int)=0))||((decide ((((s.size:Nat):Int):Int)>8))||((decide ((((s.size:Nat):Int):Int)>1))&&(decide (((((bt s 0).toNat:Nat):Int):Int)=48)))))) (by first|(simp only[g1,g2,g3,Bool.true_or,Bool.false_or,Bool.or_false,Bool.or_true,Bool.true_and,Bool.false_and,Bool.and_true,Bool.and_false,Bool.not_true,Bool.not_false,cond_true,cond_false];done)|(simp[g1,g2,g3];done))) AllP.nil)))))
    ·have g3p:=i5 g3
     exact runJ [(2,.slot (.bool false)),(6,.slot (.bool false)),(11,.slot (.bool false)),(17,.slot (.bool ((decide ((((s.size:Nat):Int):Int)=0))||((decide ((((s.size:Nat):Int):Int)>8))||((decide ((((s.size:Nat):Int):Int)>1))&&(decide (((((bt s 0).toNat:Nat):Int):Int)=48)))))))] (a2 (kB g1) (a2 (kB g2) (a2 (kB g3) (a2 (kB (b:=false) (c:=((decide ((((s.size:Nat):Int):Int)=0))||((decide ((((s.size:Nat):Int):Int)>8))||((decide ((((s.size:Nat):Int):Int)>1))&&(decide (((((bt s 0).toNat:Nat):Int):Int)=48)))))) (by first|(simp only[g1,g2,g3,Bool.true_or,Bool.false_or,Bool.or_false,Bool.or_true,Bool.true_and,Bool.false_and,Bool.and_true,Bool.and_false,Bool.not_true,Bool.not_false,cond_true,cond_false];done)|(simp[g1,g2,g3];done))) AllP.nil))))) ?_
 refine vcd (fun h1=> ?_) fun h1=> ?_
 ·refine vxn c [0,44] [(4,.int (-1))] ?_
  exact rtV rfl (retI (a6R fun hn=>by have h9:=hn.low;have h2:=hn.high;have h3:=hn.lead;simp only[Bool.or_eq_true,Bool.and_eq_true,decide_eq_true_eq,Bool.not_eq_true']at h1;omega))
 ·have hs1:1≤s.size∧s.size≤8∧¬(1<s.size∧(bt s 0).toNat=48):=by simp only[Bool.or_eq_false_iff,Bool.and_eq_false_iff,decide_eq_false_iff_not,Bool.not_eq_false']at h1;omega
  refine c5 (vxn c [44] [(6,.int 0)] ?_)
  refine b9 (vxn c [] [(8,.int 0)] ?_)
  refine c8 (vld (fun l0 n L=>∃(i:Nat),L=upG [] [(6,.int (↑(nsT s i):Int)),(8,.int (i:Int))] l0∧n=s.size-i∧(i≤s.size∧∀j,j<i→48≤(bt s j).toNat∧(bt s j).toNat≤57)) _ ⟨0,rfl,rfl,⟨by omega,fun j hj=>by omega⟩⟩ ?_)
  rintro n L ⟨i,rfl,rfl,hP1⟩
  have hil:=hP1.1
  have hn8:=nsT_8 hP1.2 (by omega)
  refine b9 (vxn c [] [(52,.bool (decide ((i:Int)<(s.size:Int))))] ?_)
  refine vcp (fun h2=> ?_) fun h2=> ?_
  ·refine c5 ?_
   refine b9 ?_
   refine c8 ?_
   refine b9 ?_
   obtain⟨zc,hz⟩:∃c,c=((decide (((((bt s i).toNat:Nat):Int):Int)<48))||(decide (((((bt s i).toNat:Nat):Int):Int)>57))):=⟨_,rfl⟩
   refine vjd c [52] [(76,.bool zc)] (by
    rcases bft (decide (((((bt s i).toNat:Nat):Int):Int)<48))with g4|g4
    ·have g4p:=d5 g4
     exact runJ [(2,.byte (bt s i)),(3,.slot (.bool true)),(9,.slot (.bool zc))] (a2 (z8 (t:=s) (i:=i) (by omega)) (a2 (kB g4) (kBs true zc)))
    ·have g4p:=i5 g4
     exact runJ [(2,.byte (bt s i)),(3,.slot (.bool false)),(7,.byte (bt s i)),(9,.slot (.bool zc))] (a2 (z8 (t:=s) (i:=i) (by omega)) (a2 (kB g4) (a2 (z8 (t:=s) (i:=i) (by omega)) (kBs (decide (((((bt s i).toNat:Nat):Int):Int)>57)) zc))))) ?_
   subst hz
   refine vcd (fun h3=> ?_) fun h3=> ?_
   ·have hdi:¬(48≤(bt s i).toNat∧(bt s i).toNat≤57):=by simp only[Bool.or_eq_true,Bool.and_eq_true,decide_eq_true_eq,Bool.not_eq_true']at h3;omega
    refine vxn c [0,6,8,76] [(4,.int (-1))] ?_
    exact rtV rfl (retI (a6R fun hn=>hdi (hn.dig i (by omega))))
   ·have hdi:48≤(bt s i).toNat∧(bt s i).toNat≤57:=by simp only[Bool.or_eq_false_iff,Bool.and_eq_false_iff,decide_eq_false_iff_not,Bool.not_eq_false']at h3;omega
    refine c5 (vxed c [76] [(6,.int (((nsT s i*10)+((bt s i).toNat-48):Nat):Int))] [(1,.slot (.int ((nsT s i*10:Nat):Int))),(4,.byte (bt s i)),(5,.slot (.lf (.im true (.int .u8 (((bt s i).toNat:Int)-48))))),(6,.slot (.int (((bt s i).toNat-48:Nat):Int))),(7,.slot (.int (((nsT s i*10)+((bt s i).toNat-48):Nat):Int)))] (a2 (wIo ((↑(nsT s i):Int)*10) ((nsT s i*10:Nat):Int)) (a2 (z8 (t:=s) (i:=i) (by omega)) (a2 (a1 (show(Slot.im (.int .u8 (IntKind.wrap .u8 ((((bt s i).toNat:Nat):Int)-48))):Slot)= .lf (.im true (.int .u8 (((bt s i).toNat:Int)-48)))by rw[show IntKind.wrap .u8 ((((bt s i).toNat:Nat):Int)-48)=(((bt s i).toNat:Int)-48)from by simp[IntKind.wrap,IntKind.signed,IntKind.bits];omega])) (a2 (a1 (show(Slot.im (.int .i64 (IntKind.wrap .i64 (((bt s i).toNat:Int)-48))):Slot)= .int (((bt s i).toNat-48:Nat):Int)by rw[show IntKind.wrap .i64 (((bt s i).toNat:Int)-48)=(((bt s i).toNat-48:Nat):Int)from by simp[IntKind.wrap,IntKind.signed,IntKind.bits];omega])) (wIo (((nsT s i*10:Nat):Int)+(((bt s i).toNat-48:Nat):Int)) (((nsT s i*10)+((bt s i).toNat-48):Nat):Int)))))) ?_)
    rw[show(nsT s i*10)+((bt s i).toNat-48)=nsT s (i+1)from rfl]
    exact vxed c [] [(6,.int ((nsT s (i+1):Nat):Int)),(8,.int (↑(i+1):Int))] [(1,.slot (.int (↑(i+1):Int)))] (wI1 i) (⟨_,by omega,(i+1),rfl,rfl,⟨by omega,G9 (p:=fun j=>48≤(bt s j).toNat∧(bt s j).toNat≤57) hP1.2 hdi⟩⟩)
  ·refine n4 (vxn c [0,6,8,52] [(4,.int (↑(nsT s i):Int))] ?_)
   exact rtV rfl (retI (by rw[show i=s.size from by omega];exact a7u ⟨hs1.1,hs1.2.1,hs1.2.2,fun j hj=>hP1.2 j (by omega)⟩))
theorem J2 (s:ByteArray):
 CallV Try.prog 65 [.lf (.im true (.str s))] (·= .int (l4s s)):=by
 refine CallX (fn:=Try.f65) TTok mixed Try.func65 rfl rfl rfl rfl rfl fun E c hMay=> ?_
 refine vx c [(0,.lf (.q s))] [] AllP.nil (by kernel_rfl) ?_
 refine b9 (vxn c [] [(10,.bool (decide ((s.size:Int)>2)))] ?_)
 refine vcp (fun h1=> ?_) fun h1=> ?_
 ·refine vxn c [0,10] [(4,.int (-1))] ?_
  exact rtV rfl (retI (by unfold l4s;rw[if_pos (by omega)]))
 ·refine c5 (vxd c [0,10] [(4,.int (l3n s))] [(1,.ret (.int (l3n s)))] (cl tx88 (L5 s)) ?_)
  exact rtV rfl (retI (by unfold l4s;rw[if_neg (by omega)]))
theorem A3 (l:List ByteArray)(hll:l.length≤100000):
 CallV Try.prog 67 [.lf (.im true (.sl 1 (l.map rS)))] (·= .tup [.lf (.im true (.sl 1 ((rnL l).map rI))),.lf (.im true (.bool (rnB l)))]):=by
 refine CallX (fn:=Try.f67) TTok mixed Try.func67 rfl rfl rfl rfl rfl fun E c hMay=> ?_
 refine vx c [(0,.lf (.m 1 l rS))] [] AllP.nil (by kernel_rfl) ?_
 refine vxn c [] [(8,.lf (.u 7 0 3 1 []))] ?_
 refine b9 (vxn c [] [(10,.int 0)] ?_)
 refine c8 (vld (fun l0 n L=>∃(i:Nat),L=upG [] [(8,.lf (.u 7 0 3 1 (((l.take i).map l4s).map rI))),(10,.int (i:Int))] l0∧n=l.length-i∧(i≤l.length∧∀j,j<i→0≤l4s (nth l j))) _ ⟨0,rfl,rfl,⟨by omega,fun j hj=>by omega⟩⟩ ?_)
 rintro n L ⟨i,rfl,rfl,hP1⟩
 have hil:=hP1.1
 refine b9 (vxd c [] [(22,.bool (decide ((i:Int)<(l.length:Int))))] [(2,.slot (.int (l.length:Int)))] (lnl l rS) ?_)
 refine vcp (fun h1=> ?_) fun h1=> ?_
 ·refine c5 (b9 (c8 (vxd c [22] [(12,.int (l4s (nth l i)))] [(2,.row (rS (nth l i))),(4,.ret (.int (l4s (nth l i))))] (a2 (ixn rS l i) (cl tx65 (J2 (nth l i)))) ?_)))
  refine b9 (vxn c [] [(40,.bool (decide ((l4s (nth l i):Int)<0)))] ?_)
  refine vcp (fun h2=> ?_) fun h2=> ?_
  ·refine a2Z 4 [(0,.lf (.m 1 l rS)),(8,.lf (.m 1 ((l.take i).map l4s) rI)),(10,.int (i:Int)),(12,.int (l4s (nth l i))),(40,.bool (decide ((l4s (nth l i):Int)<0)))] (by kernel_rfl) ?_
   refine vxn c [0,8,10,12,40] [(4,.lf (.m 1 ((l.take i).map l4s) rI)),(6,.bool false)] ?_
   exact rtV rfl (retRn (rn_bad (j6 (by omega)) hP1.2 (by omega)))
  ·refine c5 (vxed c [12,40] [(8,.lf (.u 7 0 3 1 (((l.take (i+1)).map l4s).map rI)))] [(2,.slot (.lf (.m 1 [l4s (nth l i)] rI))),(3,.slot (.lf (.u 7 0 3 1 (((l.take (i+1)).map l4s).map rI))))] (a2 (a1 (show([[.int .i64 (l4s (nth l i))]]:List (List SV))=([l4s (nth l i)].map rI)from rfl)) (a2 (a1 (show((((l.take i).map l4s).map rI)++([l4s (nth l i)].map rI):List (List SV))=((l.take (i+1)).map l4s).map rI by exact rn_app (by omega))) (a2 (hl ((((l.take i).map l4s).map rI).length)) (ap (a:=(((l.take i).map l4s).map rI:List (List SV)).length+(([l4s (nth l i)].map rI):List (List SV)).length) (b:=8) (by simp;omega) (by unfold maxLen;simp;omega))))) ?_)
   exact vxed c [] [(10,.int (↑(i+1):Int))] [(1,.slot (.int (↑(i+1):Int)))] (wI1 i) (⟨_,by omega,(i+1),rfl,rfl,⟨by omega,G9 (p:=fun j=>0≤l4s (nth l j)) hP1.2 (by omega)⟩⟩)
 ·refine n4 (a2Z 4 [(0,.lf (.m 1 l rS)),(8,.lf (.m 1 ((l.take i).map l4s) rI)),(10,.int (i:Int)),(22,.bool (decide ((i:Int)<(l.length:Int))))] (by kernel_rfl) ?_)
  refine vxd c [0,8,10,22] [(4,.lf (.m 1 ((l.take i).map l4s) rI)),(6,.bool (decide ((l.length:Int)≤9)))] [(2,.slot (.int (l.length:Int)))] (lnl l rS) ?_
  exact rtV rfl (retRn (by rw[show i=l.length from by omega,List.take_length];have h9:=rn_all (l:=l) fun j hj=>hP1.2 j (by omega);exact⟨h9.1,by rw[←h9.2];exact decide_eq_decide.2 (by omega)⟩))
theorem r5 (l:List ByteArray)(hll:l.length≤100000):
 CallV Try.prog 66 [.lf (.im true (.sl 1 (l.map rS)))] (·= .bool (fmB l)):=by
 refine CallX (fn:=Try.f66) TTok mixed Try.func66 rfl rfl rfl rfl rfl fun E c hMay=> ?_
 refine vx c [(0,.lf (.m 1 l rS))] [] AllP.nil (by kernel_rfl) ?_
 refine b9 (vxn c [] [(6,.int 0)] ?_)
 refine c8 (vld (fun l0 n L=>∃(i:Nat),L=upG [] [(6,.int (i:Int))] l0∧n=l.length-i∧(i≤l.length∧∀j,j<i→formOk (nth l j)=true)) _ ⟨0,rfl,rfl,⟨by omega,fun j hj=>by omega⟩⟩ ?_)
 rintro n L ⟨i,rfl,rfl,hP1⟩
 have hil:=hP1.1
 refine b9 (vxd c [] [(20,.bool (decide ((i:Int)<(l.length:Int))))] [(2,.slot (.int (l.length:Int)))] (lnl l rS) ?_)
 refine vcp (fun h1=> ?_) fun h1=> ?_
 ·refine c5 (b9 (c8 (vxd c [20] [(12,.bool (isKind (pl (nth l i))))] [(2,.row (rS (nth l i))),(4,.ret (.lf (.q (pl (nth l i))))),(5,.ret (.tup [.lf (.z ((kM (pl (nth l i)):Nat):Int)),.lf (.z ((kR (pl (nth l i)):Nat):Int)),.lf (.y (isKind (pl (nth l i))))]))] (a2 (ixn rS l i) (a2 (cl tx85 (w9 (nth l i))) (cl tx63 (A7 (pl (nth l i)))))) ?_)))
  refine vjd c [12] [(66,.bool ((!(isKind (pl (nth l i))))&&(!(isBase (pl (nth l i))))))] (by
   rcases bft (!(isKind (pl (nth l i))))with g1|g1
   ·have g1p:=o4 g1
    exact runJ [(1,.slot (.bool true)),(5,.row (rS (nth l i))),(7,.ret (.lf (.q (pl (nth l i))))),(8,.ret (.bool (isBase (pl (nth l i))))),(10,.slot (.bool ((!(isKind (pl (nth l i))))&&(!(isBase (pl (nth l i)))))))] (a2 (kB g1) (a2 (ixn rS l i) (a2 (cl tx85 (w9 (nth l i))) (a2 (cl tx89 (P7 (pl (nth l i)))) (kBs (!(isBase (pl (nth l i)))) ((!(isKind (pl (nth l i))))&&(!(isBase (pl (nth l i))))))))))
   ·have g1p:=o3 g1
    exact runJ [(1,.slot (.bool false)),(10,.slot (.bool ((!(isKind (pl (nth l i))))&&(!(isBase (pl (nth l i)))))))] (a2 (kB g1) (kBs false ((!(isKind (pl (nth l i))))&&(!(isBase (pl (nth l i)))))))) ?_
  refine vcd (fun h2=> ?_) fun h2=> ?_
  ·refine vxn c [0,6,66] [(4,.bool false)] ?_
   exact rtV rfl (retB (fm_bad (i:=i) (by omega) (by unfold formOk;simp at h2;rw[h2.1,h2.2];rfl)))
  ·exact c5 (vxed c [66] [(6,.int (↑(i+1):Int))] [(1,.slot (.int (↑(i+1):Int)))] (wI1 i) (⟨_,by omega,(i+1),rfl,rfl,⟨by omega,G9 (p:=fun j=>formOk (nth l j)=true) hP1.2 (by unfold formOk;simp at h2;revert h2;cases isKind (pl (nth l i))<;>simp)⟩⟩))
 ·refine n4 (vxd c [0,6,20] [(4,.bool (decide ((l.length:Int)≤9)))] [(1,.slot (.int (l.length:Int)))] (lnl l rS) ?_)
  exact rtV rfl (retB (by rw[←fm_all fun j hj=>hP1.2 j (by omega)];exact decide_eq_decide.2 (by omega)))
theorem G4 (op:ByteArray):
 CallV Try.prog 93 [.lf (.im true (.str op))] (·= .tup [.agg [.im true (.str (formV op).op),.im true (.int .i64 (formV op).a),.im true (.int .i64 (formV op).b)],.lf (.im true (.bool (formB op)))]):=by
 refine CallX (fn:=Try.f93) TTok mixed Try.func93 rfl rfl rfl rfl rfl fun E c hMay=> ?_
 have hlen:FORMS.length=37:=rfl
 refine vx c [(0,.lf (.q op)),(4,.lf (.ptr 2 0)),(5,.cell 2 [.q ⟨#[]⟩,.z 0,.z 0])] [] AllP.nil (by kernel_rfl) ?_
 refine vxd c [] [(8,.lf (.m 3 FORMS rIns))] [(0,.ret (.lf (.m 3 FORMS rIns)))] (cl tx42 M7) ?_
 refine b9 (vxn c [] [(10,.int 0)] ?_)
 refine c8 (vld (fun l0 n L=>∃(i:Nat),L=upG [] [(10,.int (i:Int))] l0∧n=FORMS.length-i∧(i≤FORMS.length∧∀j,j<i→(nth FORMS j).op≠op)) _ ⟨0,rfl,rfl,⟨by omega,fun j hj=>by omega⟩⟩ ?_)
 rintro n L ⟨i,rfl,rfl,hP1⟩
 refine b9 (vxd c [] [(20,.bool (decide ((i:Int)<(FORMS.length:Int))))] [(2,.slot (.int (FORMS.length:Int)))] (lnl FORMS rIns) ?_)
 refine vcp (fun h1=> ?_) fun h1=> ?_
 ·refine c5 (b9 (c8 (vxd c [20] [(38,.bool (((nth FORMS i).op).toList==op.toList))] [(2,.row (rIns (nth FORMS i)))] (ixn rIns FORMS i) ?_)))
  refine vcd (fun h2=> ?_) fun h2=> ?_
  ·refine vxd c [0,8,10,38] [(5,.cell 2 [.q ((nth FORMS i).op),.z ((nth FORMS i).a),.z ((nth FORMS i).b)]),(6,.bool true)] [(2,.row (rIns (nth FORMS i)))] (ixn rIns FORMS i) ?_
   exact rtV rfl (a5D (a7i (by omega) hP1.2 (y0.1 h2)))
  ·exact c5 (vxed c [38] [(10,.int (↑(i+1):Int))] [(1,.slot (.int (↑(i+1):Int)))] (wI1 i) (⟨_,by omega,(i+1),rfl,rfl,⟨by omega,G9 (p:=fun j=>(nth FORMS j).op≠op) hP1.2 (fun e=>by rw[(y0 (a:=(nth FORMS i).op) (b:=op)).2 e]at h2;cases h2)⟩⟩))
 ·refine n4 (vxn c [0,8,10,20] [(6,.bool false)] ?_)
  exact rtV rfl (a5D (x:=⟨⟨#[]⟩,0,0⟩) (a6S fun j hj=>hP1.2 j (by omega)))
theorem r9 (a:Ins):
 CallV Try.prog 91 [.agg [.im true (.str a.op),.im true (.int .i64 a.a),.im true (.int .i64 a.b)]] (·= .bool (insOk a)):=by
 refine CallX (fn:=Try.f91) TTok mixed Try.func91 rfl rfl rfl rfl rfl fun E c hMay=> ?_
 have hl:=a3N a.op
 refine vx c [(2,.lf (.ptr 1 0)),(3,.cell 1 [.q a.op,.z a.a,.z a.b])] [] AllP.nil (by kernel_rfl) ?_
 refine vxd c [] [(6,.lf (.ptr 3 0)),(7,.cell 3 [.q ((formV a.op).op),.z ((formV a.op).a),.z ((formV a.op).b)]),(8,.bool (formB a.op))] [(2,.ret (.tup [.agg [.q ((formV a.op).op),.z ((formV a.op).a),.z ((formV a.op).b)],.lf (.y (formB a.op))]))] (cl tx93 (G4 a.op)) ?_
 obtain⟨zc,hz⟩:∃c,c=((formB a.op)&&((limOk ((formV a.op).a) a.a)&&(limOk ((formV a.op).b) a.b))):=⟨_,rfl⟩
 refine vjd c [2,3,6,7,8] [(4,.bool zc)] (by
  rcases bft (formB a.op)with g1|g1
  ·rcases bft (limOk ((formV a.op).a) a.a)with g2|g2
   ·exact runJ [(0,.slot (.bool true)),(6,.ret (.bool (limOk ((formV a.op).a) a.a))),(7,.slot (.bool true)),(13,.ret (.bool (limOk ((formV a.op).b) a.b))),(15,.slot (.bool zc))] (a2 (kB g1) (a2 (cl tx98 (H8 a.a ((formV a.op).a) (by omega) (by omega))) (a2 (kB g2) (a2 (cl tx98 (H8 a.b ((formV a.op).b) (by omega) (by omega))) (kBs (limOk ((formV a.op).b) a.b) zc)))))
   ·exact runJ [(0,.slot (.bool true)),(6,.ret (.bool (limOk ((formV a.op).a) a.a))),(7,.slot (.bool false)),(15,.slot (.bool zc))] (a2 (kB g1) (a2 (cl tx98 (H8 a.a ((formV a.op).a) (by omega) (by omega))) (a2 (kB g2) (kBs false zc))))
  ·exact runJ [(0,.slot (.bool false)),(15,.slot (.bool zc))] (a2 (kB g1) (kBs false zc))) ?_
 subst hz
 exact rtV rfl (retB (by simp[insOk]))
theorem a6l (k:Nat)(ih:∀n,dm n<k→inR n→CallV Try.prog 53 [.lf (.im true (.int .i64 n))] (·= .lf (.im true (.str (decB n)))))(n:Int)(hk:dm n≤k)(hn:inR n):
 CallV Try.prog 53 [.lf (.im true (.int .i64 n))] (·= .lf (.im true (.str (decB n)))):=by
 refine CallX (fn:=Try.f53) TTok mixed Try.func53 rfl rfl rfl rfl rfl fun E c hMay=> ?_
 have hn0:=hn.1
 have hn1:=hn.2
 refine vx c [(0,.int n)] [] AllP.nil (by kernel_rfl) ?_
 refine b9 (vxn c [] [(8,.bool (decide ((n:Int)<(-9223372036854775807))))] ?_)
 refine vcp (fun h1=> ?_) fun h1=> ?_
 ·refine vxn c [0,8] [(4,.lf (.q B59))] ?_
  exact rtV rfl (retS (a7g h1 hn))
 ·refine c5 (b9 (vxn c [8] [(12,.bool (decide ((n:Int)<0)))] ?_))
  refine vcp (fun h2=> ?_) fun h2=> ?_
  ·have s1:=z3 (n:= -n) ⟨by omega,by omega⟩
   refine vxd c [0,12] [(4,.lf (.q (B58++(decB (-n)))))] [(1,.slot (.int (-n))),(2,.ret (.lf (.q (decB (-n)))))] (a2 (wIo (0-n) (-n)) (a2 (cl tx53 (ih (-n) (by unfold dm at*;split at hk<;>split<;>omega) ⟨by omega,by omega⟩)) (stf B58 (decB (-n))))) ?_
   exact rtV rfl (retS (a6X h2))
  ·refine c5 (b9 (vxn c [12] [(24,.bool (decide ((n:Int)<10)))] ?_))
   refine vcp (fun h3=> ?_) fun h3=> ?_
   ·refine vxd c [0,24] [(4,.lf (.q (dg n)))] [(1,.slot (.int (48+n))),(2,.slot (.lf (.im true (.int .u8 (48+n))))),(3,.im),(4,.slot (.lf (.q (dg n))))] (a2 (wIo (48+n) (48+n)) (a2 (a1 (show(Slot.im (.int .u8 (IntKind.wrap .u8 (48+n))):Slot)= .lf (.im true (.int .u8 (48+n)))by rw[show IntKind.wrap .u8 (48+n)=(48+n)from by simp[IntKind.wrap,IntKind.signed,IntKind.bits];omega])) (a1 (show([[.int .u8 (48+n)]]:List (List SV))=bytesR (dg n)by exact a41 (by omega) (by omega))))) ?_
    exact rtV rfl (retS (dec_lt h2 h3))
   ·have s2:=z3 (n:=n/10) ⟨by omega,by omega⟩
    refine c5 (vxd c [0,24] [(4,.lf (.q ((decB (n/10))++(dg (n%10)))))] [(1,.slot (.int (n/10))),(2,.ret (.lf (.q (decB (n/10))))),(4,.slot (.int (n%10))),(5,.slot (.int (48+(n%10)))),(6,.slot (.lf (.im true (.int .u8 (48+n%10))))),(7,.im),(8,.slot (.lf (.q (dg (n%10)))))] (a2 (a1 (show(Slot.int (quoI n 10))= .int (n/10)by rw[show quoI n 10=(n/10)from by unfold quoI;rw[Int.tdiv_eq_ediv_of_nonneg (by omega)];simp[IntKind.wrap,IntKind.signed,IntKind.bits];omega])) (a2 (a1 (show(10:Int)≠0 by decide)) (a2 (cl tx53 (ih (n/10) (by unfold dm at*;split at hk<;>split<;>omega) ⟨by omega,by omega⟩)) (a2 (a1 (show(Slot.int (remI n 10))= .int (n%10)by rw[show remI n 10=(n%10)from by unfold remI;exact Int.tmod_eq_emod_of_nonneg (by omega)])) (a2 (a1 (show(10:Int)≠0 by decide)) (a2 (wIo (48+(n%10)) (48+(n%10))) (a2 (a1 (show(Slot.im (.int .u8 (IntKind.wrap .u8 (48+(n%10)))):Slot)= .lf (.im true (.int .u8 (48+n%10)))by rw[show IntKind.wrap .u8 (48+(n%10))=(48+n%10)from by simp[IntKind.wrap,IntKind.signed,IntKind.bits];omega])) (a2 (a1 (show([[.int .u8 (48+n%10)]]:List (List SV))=bytesR (dg (n%10))by exact a41 (by omega) (by omega))) (stf (decB (n/10)) (dg (n%10))))))))))) ?_)
    exact rtV rfl (retS (dec_ge h3))
theorem a0B :∀(n:Int),inR n→CallV Try.prog 53 [.lf (.z n)] (·= .lf (.q (decB n))):=by
 suffices h:∀k n,dm n<k→inR n→CallV Try.prog 53 [.lf (.im true (.int .i64 n))] (·= .lf (.im true (.str (decB n))))from fun n hn=>h (dm n+1) n (by omega) hn
 intro k
 induction k with
 |zero=>intro n h;omega
 |succ k ih=>intro n hk hn;exact a6l k ih n (by omega) hn
theorem p6 (l:List ByteArray)(hw:wS l≤2097152):
 CallV Try.prog 70 [.lf (.im true (.sl 1 (l.map rS)))] (·= .lf (.im true (.str (bl (thL l))))):=by
 refine CallX (fn:=Try.f70) TTok mixed Try.func70 rfl rfl rfl rfl rfl fun E c hMay=> ?_
 have hN:=D3 l
 refine vx c [(0,.lf (.m 1 l rS))] [] AllP.nil (by kernel_rfl) ?_
 refine vxn c [] [(6,.lf (.q B4))] ?_
 refine b9 (vxn c [] [(8,.int 0)] ?_)
 refine c8 ?_
 rw[show B4=bl (thL (l.take 0))from a4z rfl]
 refine vld (fun l0 n L=>∃(i:Nat),L=upG [] [(6,.lf (.q (bl (thL (l.take i))))),(8,.int (i:Int))] l0∧n=l.length-i∧(i≤l.length)) _ ⟨0,rfl,rfl,by omega⟩ ?_
 rintro n L ⟨i,rfl,rfl,hP1⟩
 refine b9 (vxd c [] [(16,.bool (decide ((i:Int)<(l.length:Int))))] [(2,.slot (.int (l.length:Int)))] (lnl l rS) ?_)
 refine vcp (fun h1=> ?_) fun h1=> ?_
 ·have t1:=a7x l i
  have t2:=wS_at (l:=l) (i:=i) (by omega)
  refine c5 (b9 (c8 (vxed c [16] [(6,.lf (.q (bl (thL (l.take (i+1))))))] [(4,.row (rS (nth l i))),(6,.slot (.lf (.q (bl (thL (l.take (i+1)))))))] (a2 (stf (bl (thL (l.take i))) B5) (a2 (ixn rS l i) (a2 (a1 (show(Slot.im (.str (((bl (thL (l.take i)))++B5)++(nth l i))):Slot)= .lf (.q (bl (thL (l.take (i+1)))))by rw[show((bl (thL (l.take i)))++B5)++(nth l i)=(bl (thL (l.take (i+1))))from by exact Y8 (by omega)])) (stf ((bl (thL (l.take i)))++B5) (nth l i))))) ?_)))
  exact vxed c [] [(8,.int (↑(i+1):Int))] [(1,.slot (.int (↑(i+1):Int)))] (wI1 i) (⟨_,by omega,(i+1),rfl,rfl,by omega⟩)
 ·refine n4 (vxn c [0,6,8,16] [(4,.lf (.q (bl (thL (l.take i)))))] ?_)
  exact rtV rfl (retS (by rw[List.take_of_length_le (by omega)]))
theorem D7 (l:List Int)(hN:l.length≤1048576)(hr:∀n∈l,inR n):
 CallV Try.prog 71 [.lf (.im true (.sl 1 (l.map rI)))] (·= .lf (.im true (.str (bl (thL (l.map decB)))))):=by
 refine CallX (fn:=Try.f71) TTok mixed Try.func71 rfl rfl rfl rfl rfl fun E c hMay=> ?_
 refine vx c [(0,.lf (.m 1 l rI))] [] AllP.nil (by kernel_rfl) ?_
 refine vxn c [] [(6,.lf (.q B4))] ?_
 refine b9 (vxn c [] [(8,.int 0)] ?_)
 refine c8 ?_
 rw[show B4=bl (thL ((l.take 0).map decB))from a4z rfl]
 refine vld (fun l0 n L=>∃(i:Nat),L=upG [] [(6,.lf (.q (bl (thL ((l.take i).map decB))))),(8,.int (i:Int))] l0∧n=l.length-i∧(i≤l.length)) _ ⟨0,rfl,rfl,by omega⟩ ?_
 rintro n L ⟨i,rfl,rfl,hP1⟩
 refine b9 (vxd c [] [(16,.bool (decide ((i:Int)<(l.length:Int))))] [(2,.slot (.int (l.length:Int)))] (lnl l rI) ?_)
 refine vcp (fun h1=> ?_) fun h1=> ?_
 ·have hx:inR (nth l i):=hr _ (c6 (by omega))
  have s1:=z3 hx
  have t1:=a2X hr i
  rw[G3]at t1
  refine c5 (b9 (c8 (vxed c [16] [(6,.lf (.q (bl (thL ((l.take (i+1)).map decB)))))] [(4,.row (rI (nth l i))),(6,.ret (.lf (.q (decB (nth l i))))),(7,.slot (.lf (.q (bl (thL ((l.take (i+1)).map decB))))))] (a2 (stf (bl (thL ((l.take i).map decB))) B5) (a2 (ixn rI l i) (a2 (cl tx53 (a0B (nth l i) (by assumption))) (a2 (a1 (show(Slot.im (.str (((bl (thL ((l.take i).map decB)))++B5)++(decB (nth l i)))):Slot)= .lf (.q (bl (thL ((l.take (i+1)).map decB))))by rw[show((bl (thL ((l.take i).map decB)))++B5)++(decB (nth l i))=(bl (thL ((l.take (i+1)).map decB)))from by exact a2u (by omega)])) (stf ((bl (thL ((l.take i).map decB)))++B5) (decB (nth l i))))))) ?_)))
  exact vxed c [] [(8,.int (↑(i+1):Int))] [(1,.slot (.int (↑(i+1):Int)))] (wI1 i) (⟨_,by omega,(i+1),rfl,rfl,by omega⟩)
 ·refine n4 (vxn c [0,6,8,16] [(4,.lf (.q (bl (thL ((l.take i).map decB)))))] ?_)
  exact rtV rfl (retS (by rw[List.take_of_length_le (by omega)]))
theorem T9 (a:Ins)(hr:a.rng)(hw:a.op.size≤2097152):
 CallV Try.prog 72 [.agg [.im true (.str a.op),.im true (.int .i64 a.a),.im true (.int .i64 a.b)]] (·= .lf (.im true (.str (bl (insL a))))):=by
 refine CallX (fn:=Try.f72) TTok mixed Try.func72 rfl rfl rfl rfl rfl fun E c hMay=> ?_
 have ra:inR a.a:=hr.1
 have rb:inR a.b:=hr.2
 have sa:=z3 ra
 have sb:=z3 rb
 refine vx c [(2,.lf (.ptr 1 0)),(3,.cell 1 [.q a.op,.z a.a,.z a.b])] [] AllP.nil (by kernel_rfl) ?_
 refine vxd c [] [(6,.lf (.ptr 3 0)),(7,.cell 3 [.q ((formV a.op).op),.z ((formV a.op).a),.z ((formV a.op).b)])] [(2,.ret (.tup [.agg [.q ((formV a.op).op),.z ((formV a.op).a),.z ((formV a.op).b)],.lf (.y (formB a.op))]))] (cl tx93 (G4 a.op)) ?_
 refine vxn c [] [(10,.lf (.q a.op))] ?_
 refine b9 (vxn c [] [(32,.bool (decide (((formV a.op).a:Int)>0)))] ?_)
 refine vcp (fun h1=> ?_) fun h1=> ?_
 ·refine vxed c [32] [(10,.lf (.q ((a.op++B5)++(decB a.a))))] [(4,.ret (.lf (.q (decB a.a))))] (a2 (stf a.op B5) (a2 (cl tx53 (a0B a.a (by assumption))) (stf (a.op++B5) (decB a.a)))) ?_
  refine b9 (vxn c [6,7] [(50,.bool (decide (((formV a.op).b:Int)>0)))] ?_)
  refine vcp (fun h2=> ?_) fun h2=> ?_
  ·refine vxed c [2,3,50] [(10,.lf (.q ((((a.op++B5)++(decB a.a))++B5)++(decB a.b))))] [(4,.ret (.lf (.q (decB a.b))))] (a2 (stf ((a.op++B5)++(decB a.a)) B5) (a2 (cl tx53 (a0B a.b (by assumption))) (stf (((a.op++B5)++(decB a.a))++B5) (decB a.b)))) ?_
   refine vxn c [10] [(4,.lf (.q ((((a.op++B5)++(decB a.a))++B5)++(decB a.b))))] ?_
   exact rtV rfl (retS (bb (by unfold insL;rw[if_pos h1,if_pos h2];simp only[dapp,p9,bdt,o5,M1,a1w,H6,a1F,List.append_assoc,List.cons_append,List.nil_append,List.append_nil,V4,W4])))
  ·refine c5 (vxn c [2,3,10,50] [(4,.lf (.q ((a.op++B5)++(decB a.a))))] ?_)
   exact rtV rfl (retS (bb (by unfold insL;rw[if_pos h1,if_neg h2];simp only[dapp,p9,bdt,o5,M1,a1w,H6,a1F,List.append_assoc,List.cons_append,List.nil_append,List.append_nil,V4,W4])))
 ·refine c5 (b9 (vxn c [6,7,32] [(50,.bool (decide (((formV a.op).b:Int)>0)))] ?_))
  refine vcp (fun h3=> ?_) fun h3=> ?_
  ·refine vxed c [2,3,50] [(10,.lf (.q ((a.op++B5)++(decB a.b))))] [(4,.ret (.lf (.q (decB a.b))))] (a2 (stf a.op B5) (a2 (cl tx53 (a0B a.b (by assumption))) (stf (a.op++B5) (decB a.b)))) ?_
   refine vxn c [10] [(4,.lf (.q ((a.op++B5)++(decB a.b))))] ?_
   exact rtV rfl (retS (bb (by unfold insL;rw[if_neg h1,if_pos h3];simp only[dapp,p9,bdt,o5,M1,a1w,H6,a1F,List.append_assoc,List.cons_append,List.nil_append,List.append_nil,V4,W4])))
  ·refine c5 (vxn c [2,3,10,50] [(4,.lf (.q a.op))] ?_)
   exact rtV rfl (retS (bb (by unfold insL;rw[if_neg h1,if_neg h3];simp only[dapp,p9,bdt,o5,M1,a1w,H6,a1F,List.append_assoc,List.cons_append,List.nil_append,List.append_nil,V4,W4])))
theorem A9 (m:Mod)(hr:m.rng)(hw:wMod m≤1048576):
 CallV Try.prog 52 [.agg [.im true (.sl 2 (m.records.map rRec)),.im true (.sl 6 (m.funcs.map rFn)),.im true (.sl 1 (m.friends.map rI))]] (·= .lf (.im true (.str (bl (modT m))))):=by
 refine CallX (fn:=Try.f52) TTok mixed Try.func52 rfl rfl rfl rfl rfl fun E c hMay=> ?_
 obtain⟨q1,q2,q3,q4⟩:=a6m hr hw
 have q5:(headT m).length=(m.records.flatMap recT).length+(frT m.friends).length:=List.length_append
 have rf:∀n∈m.friends,inR n:=hr.2.2
 have tf:=T1 rf
 rw[G3]at tf
 have wl:=a2E m.records
 have wf:=a24 m.funcs
 refine vx c [(2,.lf (.ptr 1 0)),(3,.cell 1 [.m 2 m.records rRec,.m 6 m.funcs rFn,.m 1 m.friends rI])] [] AllP.nil (by kernel_rfl) ?_
 refine vxn c [] [(6,.lf (.q B4))] ?_
 refine b9 (vxn c [] [(8,.int 0)] ?_)
 refine c8 ?_
 rw[show B4=bl ((m.records.take 0).flatMap recT)from a4z rfl]
 refine vld (fun l0 n L=>∃(i:Nat),L=upG [] [(6,.lf (.q (bl ((m.records.take i).flatMap recT)))),(8,.int (i:Int))] l0∧n=m.records.length-i∧(i≤m.records.length)) _ ⟨0,rfl,rfl,by omega⟩ ?_
 rintro n L ⟨i,rfl,rfl,hP1⟩
 refine b9 (vxd c [] [(24,.bool (decide ((i:Int)<(m.records.length:Int))))] [(3,.slot (.int (m.records.length:Int)))] (lnl m.records rRec) ?_)
 refine vcp (fun h1=> ?_) fun h1=> ?_
 ·have hi:i<m.records.length:=by omega
  have hx:inR (nth m.records i).able:=hr.1 _ (c6 hi)
  have s1:=z3 hx
  have w1:=rec_w hi
  have w2:wRec (nth m.records i)=wS (nth m.records i).fields:=rfl
  have w3:=D3 (nth m.records i).fields
  have r1:=C5 recT m.records i
  have r2:=C5 recT m.records (i+1)
  refine c5 (b9 (c8 (vxed c [24] [(6,.lf (.q (bl ((m.records.take (i+1)).flatMap recT))))] [(5,.row (rRec (nth m.records i))),(8,.ret (.lf (.q (decB ((nth m.records i).able))))),(13,.row (rRec (nth m.records i))),(16,.ret (.lf (.q (bl (thL ((nth m.records i).fields)))))),(18,.slot (.lf (.q (bl ((m.records.take (i+1)).flatMap recT)))))] (a2 (stf (bl ((m.records.take i).flatMap recT)) B33) (a2 (ixn rRec m.records i) (a2 (cl tx53 (a0B ((nth m.records i).able) (by assumption))) (a2 (stf ((bl ((m.records.take i).flatMap recT))++B33) (decB ((nth m.records i).able))) (a2 (ixn rRec m.records i) (a2 (cl tx70 (p6 ((nth m.records i).fields) (by omega))) (a2 (stf (((bl ((m.records.take i).flatMap recT))++B33)++(decB ((nth m.records i).able))) (bl (thL ((nth m.records i).fields)))) (a2 (a1 (show(Slot.im (.str (((((bl ((m.records.take i).flatMap recT))++B33)++(decB ((nth m.records i).able)))++(bl (thL ((nth m.records i).fields))))++B19)):Slot)= .lf (.q (bl ((m.records.take (i+1)).flatMap recT)))by rw[show((((bl ((m.records.take i).flatMap recT))++B33)++(decB ((nth m.records i).able)))++(bl (thL ((nth m.records i).fields))))++B19=(bl ((m.records.take (i+1)).flatMap recT))from by exact a5Y (by omega)])) (stf ((((bl ((m.records.take i).flatMap recT))++B33)++(decB ((nth m.records i).able)))++(bl (thL ((nth m.records i).fields)))) B19))))))))) ?_)))
  exact vxed c [] [(8,.int (↑(i+1):Int))] [(1,.slot (.int (↑(i+1):Int)))] (wI1 i) (⟨_,by omega,(i+1),rfl,rfl,by omega⟩)
 ·refine n4 (b9 (vxd c [8,24] [(74,.bool (decide ((m.friends.length:Int)>0)))] [(2,.slot (.int (m.friends.length:Int)))] (lnl m.friends rI) ?_))
  refine vcp (fun h2=> ?_) fun h2=> ?_
  ·have hall:m.records.length≤i:=by omega
   have e1:=Q4 (f:=recT) (l:=m.records) hall
   have r1:=C5 recT m.records i
   have g1:0<m.friends.length:=by omega
   have f0:=C5 fnT m.funcs 0
   refine vxed c [74] [(6,.lf (.q (bl (headT m++(m.funcs.take 0).flatMap fnT))))] [(4,.ret (.lf (.q (bl (thL (m.friends.map decB)))))),(6,.slot (.lf (.q (bl (headT m++(m.funcs.take 0).flatMap fnT)))))] (a2 (stf (bl ((m.records.take i).flatMap recT)) B25) (a2 (cl tx71 (D7 m.friends (by omega) (by assumption))) (a2 (stf ((bl ((m.records.take i).flatMap recT))++B25) (bl (thL (m.friends.map decB)))) (a2 (a1 (show(Slot.im (.str ((((bl ((m.records.take i).flatMap recT))++B25)++(bl (thL (m.friends.map decB))))++B19)):Slot)= .lf (.q (bl (headT m++(m.funcs.take 0).flatMap fnT)))by rw[show(((bl ((m.records.take i).flatMap recT))++B25)++(bl (thL (m.friends.map decB))))++B19=(bl (headT m++(m.funcs.take 0).flatMap fnT))from by exact a4q hall g1])) (stf (((bl ((m.records.take i).flatMap recT))++B25)++(bl (thL (m.friends.map decB)))) B19))))) ?_
   refine b9 (vxn c [] [(10,.int 0)] ?_)
   refine c8 (vld (fun l0 n L=>∃(k:Nat),L=upG [] [(6,.lf (.q (bl (headT m++(m.funcs.take k).flatMap fnT)))),(10,.int (k:Int))] l0∧n=m.funcs.length-k∧(k≤m.funcs.length)) _ ⟨0,rfl,rfl,by omega⟩ ?_)
   rintro n L ⟨k,rfl,rfl,hP2⟩
   refine b9 (vxd c [] [(98,.bool (decide ((k:Int)<(m.funcs.length:Int))))] [(3,.slot (.int (m.funcs.length:Int)))] (lnl m.funcs rFn) ?_)
   refine vcp (fun h3=> ?_) fun h3=> ?_
   ·have hk:k<m.funcs.length:=by omega
    have hf:(nth m.funcs k).rng:=hr.2.1 _ (c6 hk)
    have hs:inR (nth m.funcs k).seen:=hf.1
    have ht:∀n∈(nth m.funcs k).takes,inR n:=hf.2.1
    have s1:=z3 hs
    have w1:=fn_w hk
    have w2:wFn (nth m.funcs k)=wS (nth m.funcs k).args+wS (nth m.funcs k).rets+wS (nth m.funcs k).locals+(nth m.funcs k).takes.length+wInss (nth m.funcs k).code:=rfl
    have w3:=D3 (nth m.funcs k).args
    have w4:=D3 (nth m.funcs k).rets
    have w5:=D3 (nth m.funcs k).locals
    have w6:=T6 (nth m.funcs k).code
    have t1:=T1 ht
    rw[G3]at t1
    have f1:=C5 fnT m.funcs k
    have f2:=a3e hf
    have f3:((nth m.funcs k).code.flatMap insE).length≤43*wInss (nth m.funcs k).code:=a0b hf.2.2
    have f4:=C5 insE (nth m.funcs k).code 0
    refine c5 (b9 (c8 (vxd c [98] [(12,.lf (.ptr 6 0)),(13,.cell 6 [.z ((nth m.funcs k).seen),.m 1 ((nth m.funcs k).args) rS,.m 1 ((nth m.funcs k).rets) rS,.m 1 ((nth m.funcs k).locals) rS,.m 1 ((nth m.funcs k).takes) rI,.m 3 ((nth m.funcs k).code) rIns])] [(3,.row (rFn (nth m.funcs k)))] (ixn rFn m.funcs k) ?_)))
    refine vxd c [] [(6,.lf (.q (bl (headT m++((m.funcs.take k).flatMap fnT++(fnH (nth m.funcs k)++((nth m.funcs k).code.take 0).flatMap insE))))))] [(4,.ret (.lf (.q (decB ((nth m.funcs k).seen))))),(8,.ret (.lf (.q (bl (thL ((nth m.funcs k).args)))))),(13,.ret (.lf (.q (bl (thL ((nth m.funcs k).rets)))))),(18,.ret (.lf (.q (bl (thL ((nth m.funcs k).locals)))))),(23,.ret (.lf (.q (bl (thL (((nth m.funcs k).takes).map decB)))))),(25,.slot (.lf (.q (bl (headT m++((m.funcs.take k).flatMap fnT++(fnH (nth m.funcs k)++((nth m.funcs k).code.take 0).flatMap insE)))))))] (a2 (stf (bl (headT m++(m.funcs.take k).flatMap fnT)) B13) (a2 (cl tx53 (a0B ((nth m.funcs k).seen) (by assumption))) (a2 (stf ((bl (headT m++(m.funcs.take k).flatMap fnT))++B13) (decB ((nth m.funcs k).seen))) (a2 (cl tx70 (p6 ((nth m.funcs k).args) (by omega))) (a2 (stf (((bl (headT m++(m.funcs.take k).flatMap fnT))++B13)++(decB ((nth m.funcs k).seen))) (bl (thL ((nth m.funcs k).args)))) (a2 (stf ((((bl (headT m++(m.funcs.take k).flatMap fnT))++B13)++(decB ((nth m.funcs k).seen)))++(bl (thL ((nth m.funcs k).args)))) B7) (a2 (cl tx70 (p6 ((nth m.funcs k).rets) (by omega))) (a2 (stf (((((bl (headT m++(m.funcs.take k).flatMap fnT))++B13)++(decB ((nth m.funcs k).seen)))++(bl (thL ((nth m.funcs k).args))))++B7) (bl (thL ((nth m.funcs k).rets)))) (a2 (stf ((((((bl (headT m++(m.funcs.take k).flatMap fnT))++B13)++(decB ((nth m.funcs k).seen)))++(bl (thL ((nth m.funcs k).args))))++B7)++(bl (thL ((nth m.funcs k).rets)))) B7) (a2 (cl tx70 (p6 ((nth m.funcs k).locals) (by omega))) (a2 (stf (((((((bl (headT m++(m.funcs.take k).flatMap fnT))++B13)++(decB ((nth m.funcs k).seen)))++(bl (thL ((nth m.funcs k).args))))++B7)++(bl (thL ((nth m.funcs k).rets))))++B7) (bl (thL ((nth m.funcs k).locals)))) (a2 (stf ((((((((bl (headT m++(m.funcs.take k).flatMap fnT))++B13)++(decB ((nth m.funcs k).seen)))++(bl (thL ((nth m.funcs k).args))))++B7)++(bl (thL ((nth m.funcs k).rets))))++B7)++(bl (thL ((nth m.funcs k).locals)))) B7) (a2 (cl tx71 (D7 ((nth m.funcs k).takes) (by omega) (by assumption))) (a2 (stf (((((((((bl (headT m++(m.funcs.take k).flatMap fnT))++B13)++(decB ((nth m.funcs k).seen)))++(bl (thL ((nth m.funcs k).args))))++B7)++(bl (thL ((nth m.funcs k).rets))))++B7)++(bl (thL ((nth m.funcs k).locals))))++B7) (bl (thL (((nth m.funcs k).takes).map decB)))) (a2 (a1 (show(Slot.im (.str (((((((((((bl (headT m++(m.funcs.take k).flatMap fnT))++B13)++(decB ((nth m.funcs k).seen)))++(bl (thL ((nth m.funcs k).args))))++B7)++(bl (thL ((nth m.funcs k).rets))))++B7)++(bl (thL ((nth m.funcs k).locals))))++B7)++(bl (thL (((nth m.funcs k).takes).map decB))))++B19)):Slot)= .lf (.q (bl (headT m++((m.funcs.take k).flatMap fnT++(fnH (nth m.funcs k)++((nth m.funcs k).code.take 0).flatMap insE)))))by rw[show((((((((((bl (headT m++(m.funcs.take k).flatMap fnT))++B13)++(decB ((nth m.funcs k).seen)))++(bl (thL ((nth m.funcs k).args))))++B7)++(bl (thL ((nth m.funcs k).rets))))++B7)++(bl (thL ((nth m.funcs k).locals))))++B7)++(bl (thL (((nth m.funcs k).takes).map decB))))++B19=(bl (headT m++((m.funcs.take k).flatMap fnT++(fnH (nth m.funcs k)++((nth m.funcs k).code.take 0).flatMap insE))))from by exact a3q])) (stf ((((((((((bl (headT m++(m.funcs.take k).flatMap fnT))++B13)++(decB ((nth m.funcs k).seen)))++(bl (thL ((nth m.funcs k).args))))++B7)++(bl (thL ((nth m.funcs k).rets))))++B7)++(bl (thL ((nth m.funcs k).locals))))++B7)++(bl (thL (((nth m.funcs k).takes).map decB)))) B19)))))))))))))))) ?_
    refine vxn c [] [(14,.int 0)] ?_
    refine c8 (vld (fun l0 n L=>∃(q:Nat),L=upG [] [(6,.lf (.q (bl (headT m++((m.funcs.take k).flatMap fnT++(fnH (nth m.funcs k)++((nth m.funcs k).code.take q).flatMap insE)))))),(14,.int (q:Int))] l0∧n=(nth m.funcs k).code.length-q∧(q≤(nth m.funcs k).code.length)) _ ⟨0,rfl,rfl,by omega⟩ ?_)
    rintro n L ⟨q,rfl,rfl,hP3⟩
    refine b9 (vxd c [] [(174,.bool (decide ((q:Int)<((((nth m.funcs k).code).length:Nat):Int))))] [(3,.slot (.int ((((nth m.funcs k).code).length:Nat):Int)))] (lnl ((nth m.funcs k).code) rIns) ?_)
    refine vcp (fun h4=> ?_) fun h4=> ?_
    ·have hq:q<(nth m.funcs k).code.length:=by omega
     have hi:(nth (nth m.funcs k).code q).rng:=hf.2.2 _ (c6 hq)
     have v1:=ins_w hq
     have v2:wIns (nth (nth m.funcs k).code q)=(nth (nth m.funcs k).code q).op.size:=rfl
     have v3:=C5 insE (nth m.funcs k).code q
     have v4:=a1L hi
     have v5:(insE (nth (nth m.funcs k).code q)).length=(insL (nth (nth m.funcs k).code q)).length+1:=by unfold insE;simp
     have v6:=C5 insE (nth m.funcs k).code (q+1)
     refine c5 (b9 (c8 (vxed c [174] [(6,.lf (.q (bl (headT m++((m.funcs.take k).flatMap fnT++(fnH (nth m.funcs k)++((nth m.funcs k).code.take (q+1)).flatMap insE))))))] [(4,.row (rIns (nth ((nth m.funcs k).code) q))),(6,.ret (.lf (.q (bl (insL (nth ((nth m.funcs k).code) q)))))),(8,.slot (.lf (.q (bl (headT m++((m.funcs.take k).flatMap fnT++(fnH (nth m.funcs k)++((nth m.funcs k).code.take (q+1)).flatMap insE)))))))] (a2 (ixn rIns ((nth m.funcs k).code) q) (a2 (cl tx72 (T9 (nth ((nth m.funcs k).code) q) (by assumption) (by omega))) (a2 (stf (bl (headT m++((m.funcs.take k).flatMap fnT++(fnH (nth m.funcs k)++((nth m.funcs k).code.take q).flatMap insE)))) (bl (insL (nth ((nth m.funcs k).code) q)))) (a2 (a1 (show(Slot.im (.str (((bl (headT m++((m.funcs.take k).flatMap fnT++(fnH (nth m.funcs k)++((nth m.funcs k).code.take q).flatMap insE))))++(bl (insL (nth ((nth m.funcs k).code) q))))++B19)):Slot)= .lf (.q (bl (headT m++((m.funcs.take k).flatMap fnT++(fnH (nth m.funcs k)++((nth m.funcs k).code.take (q+1)).flatMap insE)))))by rw[show((bl (headT m++((m.funcs.take k).flatMap fnT++(fnH (nth m.funcs k)++((nth m.funcs k).code.take q).flatMap insE))))++(bl (insL (nth ((nth m.funcs k).code) q))))++B19=(bl (headT m++((m.funcs.take k).flatMap fnT++(fnH (nth m.funcs k)++((nth m.funcs k).code.take (q+1)).flatMap insE))))from by exact a3u hq])) (stf ((bl (headT m++((m.funcs.take k).flatMap fnT++(fnH (nth m.funcs k)++((nth m.funcs k).code.take q).flatMap insE))))++(bl (insL (nth ((nth m.funcs k).code) q)))) B19))))) ?_)))
     exact vxed c [] [(14,.int (↑(q+1):Int))] [(1,.slot (.int (↑(q+1):Int)))] (wI1 q) (⟨_,by omega,(q+1),rfl,rfl,by omega⟩)
    ·refine n4 ?_
     rw[show bl (headT m++((m.funcs.take k).flatMap fnT++(fnH (nth m.funcs k)++((nth m.funcs k).code.take q).flatMap insE)))=bl (headT m++(m.funcs.take (k+1)).flatMap fnT)from a4I hk (by omega)]
     exact vxed c [12,13,14,174] [(6,.lf (.q (bl (headT m++(m.funcs.take (k+1)).flatMap fnT)))),(10,.int (↑(k+1):Int))] [(1,.slot (.int (↑(k+1):Int)))] (wI1 k) (⟨_,by omega,(k+1),rfl,rfl,by omega⟩)
   ·refine n4 (vxn c [2,3,6,10,98] [(4,.lf (.q (bl (headT m++(m.funcs.take k).flatMap fnT))))] ?_)
    exact rtV rfl (retS (by unfold modT;rw[Q4 (by omega)]))
  ·have hall:m.records.length≤i:=by omega
   have g1:¬0<m.friends.length:=by omega
   refine c5 ?_
   refine b9 ?_
   rw[show bl ((m.records.take i).flatMap recT)=bl (headT m++(m.funcs.take 0).flatMap fnT)from a5A hall g1]
   refine vxn c [74] [(6,.lf (.q (bl (headT m++(m.funcs.take 0).flatMap fnT)))),(10,.int 0)] ?_
   refine c8 (vld (fun l0 n L=>∃(k:Nat),L=upG [] [(6,.lf (.q (bl (headT m++(m.funcs.take k).flatMap fnT)))),(10,.int (k:Int))] l0∧n=m.funcs.length-k∧(k≤m.funcs.length)) _ ⟨0,rfl,rfl,by omega⟩ ?_)
   rintro n L ⟨k,rfl,rfl,hP4⟩
   refine b9 (vxd c [] [(98,.bool (decide ((k:Int)<(m.funcs.length:Int))))] [(3,.slot (.int (m.funcs.length:Int)))] (lnl m.funcs rFn) ?_)
   refine vcp (fun h5=> ?_) fun h5=> ?_
   ·have hk:k<m.funcs.length:=by omega
    have hf:(nth m.funcs k).rng:=hr.2.1 _ (c6 hk)
    have hs:inR (nth m.funcs k).seen:=hf.1
    have ht:∀n∈(nth m.funcs k).takes,inR n:=hf.2.1
    have s1:=z3 hs
    have w1:=fn_w hk
    have w2:wFn (nth m.funcs k)=wS (nth m.funcs k).args+wS (nth m.funcs k).rets+wS (nth m.funcs k).locals+(nth m.funcs k).takes.length+wInss (nth m.funcs k).code:=rfl
    have w3:=D3 (nth m.funcs k).args
    have w4:=D3 (nth m.funcs k).rets
    have w5:=D3 (nth m.funcs k).locals
    have w6:=T6 (nth m.funcs k).code
    have t1:=T1 ht
    rw[G3]at t1
    have f1:=C5 fnT m.funcs k
    have f2:=a3e hf
    have f3:((nth m.funcs k).code.flatMap insE).length≤43*wInss (nth m.funcs k).code:=a0b hf.2.2
    have f4:=C5 insE (nth m.funcs k).code 0
    refine c5 (b9 (c8 (vxd c [98] [(12,.lf (.ptr 6 0)),(13,.cell 6 [.z ((nth m.funcs k).seen),.m 1 ((nth m.funcs k).args) rS,.m 1 ((nth m.funcs k).rets) rS,.m 1 ((nth m.funcs k).locals) rS,.m 1 ((nth m.funcs k).takes) rI,.m 3 ((nth m.funcs k).code) rIns])] [(3,.row (rFn (nth m.funcs k)))] (ixn rFn m.funcs k) ?_)))
    refine vxd c [] [(6,.lf (.q (bl (headT m++((m.funcs.take k).flatMap fnT++(fnH (nth m.funcs k)++((nth m.funcs k).code.take 0).flatMap insE))))))] [(4,.ret (.lf (.q (decB ((nth m.funcs k).seen))))),(8,.ret (.lf (.q (bl (thL ((nth m.funcs k).args)))))),(13,.ret (.lf (.q (bl (thL ((nth m.funcs k).rets)))))),(18,.ret (.lf (.q (bl (thL ((nth m.funcs k).locals)))))),(23,.ret (.lf (.q (bl (thL (((nth m.funcs k).takes).map decB)))))),(25,.slot (.lf (.q (bl (headT m++((m.funcs.take k).flatMap fnT++(fnH (nth m.funcs k)++((nth m.funcs k).code.take 0).flatMap insE)))))))] (a2 (stf (bl (headT m++(m.funcs.take k).flatMap fnT)) B13) (a2 (cl tx53 (a0B ((nth m.funcs k).seen) (by assumption))) (a2 (stf ((bl (headT m++(m.funcs.take k).flatMap fnT))++B13) (decB ((nth m.funcs k).seen))) (a2 (cl tx70 (p6 ((nth m.funcs k).args) (by omega))) (a2 (stf (((bl (headT m++(m.funcs.take k).flatMap fnT))++B13)++(decB ((nth m.funcs k).seen))) (bl (thL ((nth m.funcs k).args)))) (a2 (stf ((((bl (headT m++(m.funcs.take k).flatMap fnT))++B13)++(decB ((nth m.funcs k).seen)))++(bl (thL ((nth m.funcs k).args)))) B7) (a2 (cl tx70 (p6 ((nth m.funcs k).rets) (by omega))) (a2 (stf (((((bl (headT m++(m.funcs.take k).flatMap fnT))++B13)++(decB ((nth m.funcs k).seen)))++(bl (thL ((nth m.funcs k).args))))++B7) (bl (thL ((nth m.funcs k).rets)))) (a2 (stf ((((((bl (headT m++(m.funcs.take k).flatMap fnT))++B13)++(decB ((nth m.funcs k).seen)))++(bl (thL ((nth m.funcs k).args))))++B7)++(bl (thL ((nth m.funcs k).rets)))) B7) (a2 (cl tx70 (p6 ((nth m.funcs k).locals) (by omega))) (a2 (stf (((((((bl (headT m++(m.funcs.take k).flatMap fnT))++B13)++(decB ((nth m.funcs k).seen)))++(bl (thL ((nth m.funcs k).args))))++B7)++(bl (thL ((nth m.funcs k).rets))))++B7) (bl (thL ((nth m.funcs k).locals)))) (a2 (stf ((((((((bl (headT m++(m.funcs.take k).flatMap fnT))++B13)++(decB ((nth m.funcs k).seen)))++(bl (thL ((nth m.funcs k).args))))++B7)++(bl (thL ((nth m.funcs k).rets))))++B7)++(bl (thL ((nth m.funcs k).locals)))) B7) (a2 (cl tx71 (D7 ((nth m.funcs k).takes) (by omega) (by assumption))) (a2 (stf (((((((((bl (headT m++(m.funcs.take k).flatMap fnT))++B13)++(decB ((nth m.funcs k).seen)))++(bl (thL ((nth m.funcs k).args))))++B7)++(bl (thL ((nth m.funcs k).rets))))++B7)++(bl (thL ((nth m.funcs k).locals))))++B7) (bl (thL (((nth m.funcs k).takes).map decB)))) (a2 (a1 (show(Slot.im (.str (((((((((((bl (headT m++(m.funcs.take k).flatMap fnT))++B13)++(decB ((nth m.funcs k).seen)))++(bl (thL ((nth m.funcs k).args))))++B7)++(bl (thL ((nth m.funcs k).rets))))++B7)++(bl (thL ((nth m.funcs k).locals))))++B7)++(bl (thL (((nth m.funcs k).takes).map decB))))++B19)):Slot)= .lf (.q (bl (headT m++((m.funcs.take k).flatMap fnT++(fnH (nth m.funcs k)++((nth m.funcs k).code.take 0).flatMap insE)))))by rw[show((((((((((bl (headT m++(m.funcs.take k).flatMap fnT))++B13)++(decB ((nth m.funcs k).seen)))++(bl (thL ((nth m.funcs k).args))))++B7)++(bl (thL ((nth m.funcs k).rets))))++B7)++(bl (thL ((nth m.funcs k).locals))))++B7)++(bl (thL (((nth m.funcs k).takes).map decB))))++B19=(bl (headT m++((m.funcs.take k).flatMap fnT++(fnH (nth m.funcs k)++((nth m.funcs k).code.take 0).flatMap insE))))from by exact a3q])) (stf ((((((((((bl (headT m++(m.funcs.take k).flatMap fnT))++B13)++(decB ((nth m.funcs k).seen)))++(bl (thL ((nth m.funcs k).args))))++B7)++(bl (thL ((nth m.funcs k).rets))))++B7)++(bl (thL ((nth m.funcs k).locals))))++B7)++(bl (thL (((nth m.funcs k).takes).map decB)))) B19)))))))))))))))) ?_
    refine vxn c [] [(14,.int 0)] ?_
    refine c8 (vld (fun l0 n L=>∃(q:Nat),L=upG [] [(6,.lf (.q (bl (headT m++((m.funcs.take k).flatMap fnT++(fnH (nth m.funcs k)++((nth m.funcs k).code.take q).flatMap insE)))))),(14,.int (q:Int))] l0∧n=(nth m.funcs k).code.length-q∧(q≤(nth m.funcs k).code.length)) _ ⟨0,rfl,rfl,by omega⟩ ?_)
    rintro n L ⟨q,rfl,rfl,hP5⟩
    refine b9 (vxd c [] [(174,.bool (decide ((q:Int)<((((nth m.funcs k).code).length:Nat):Int))))] [(3,.slot (.int ((((nth m.funcs k).code).length:Nat):Int)))] (lnl ((nth m.funcs k).code) rIns) ?_)
    refine vcp (fun h6=> ?_) fun h6=> ?_
    ·have hq:q<(nth m.funcs k).code.length:=by omega
     have hi:(nth (nth m.funcs k).code q).rng:=hf.2.2 _ (c6 hq)
     have v1:=ins_w hq
     have v2:wIns (nth (nth m.funcs k).code q)=(nth (nth m.funcs k).code q).op.size:=rfl
     have v3:=C5 insE (nth m.funcs k).code q
     have v4:=a1L hi
     have v5:(insE (nth (nth m.funcs k).code q)).length=(insL (nth (nth m.funcs k).code q)).length+1:=by unfold insE;simp
     have v6:=C5 insE (nth m.funcs k).code (q+1)
     refine c5 (b9 (c8 (vxed c [174] [(6,.lf (.q (bl (headT m++((m.funcs.take k).flatMap fnT++(fnH (nth m.funcs k)++((nth m.funcs k).code.take (q+1)).flatMap insE))))))] [(4,.row (rIns (nth ((nth m.funcs k).code) q))),(6,.ret (.lf (.q (bl (insL (nth ((nth m.funcs k).code) q)))))),(8,.slot (.lf (.q (bl (headT m++((m.funcs.take k).flatMap fnT++(fnH (nth m.funcs k)++((nth m.funcs k).code.take (q+1)).flatMap insE)))))))] (a2 (ixn rIns ((nth m.funcs k).code) q) (a2 (cl tx72 (T9 (nth ((nth m.funcs k).code) q) (by assumption) (by omega))) (a2 (stf (bl (headT m++((m.funcs.take k).flatMap fnT++(fnH (nth m.funcs k)++((nth m.funcs k).code.take q).flatMap insE)))) (bl (insL (nth ((nth m.funcs k).code) q)))) (a2 (a1 (show(Slot.im (.str (((bl (headT m++((m.funcs.take k).flatMap fnT++(fnH (nth m.funcs k)++((nth m.funcs k).code.take q).flatMap insE))))++(bl (insL (nth ((nth m.funcs k).code) q))))++B19)):Slot)= .lf (.q (bl (headT m++((m.funcs.take k).flatMap fnT++(fnH (nth m.funcs k)++((nth m.funcs k).code.take (q+1)).flatMap insE)))))by rw[show((bl (headT m++((m.funcs.take k).flatMap fnT++(fnH (nth m.funcs k)++((nth m.funcs k).code.take q).flatMap insE))))++(bl (insL (nth ((nth m.funcs k).code) q))))++B19=(bl (headT m++((m.funcs.take k).flatMap fnT++(fnH (nth m.funcs k)++((nth m.funcs k).code.take (q+1)).flatMap insE))))from by exact a3u hq])) (stf ((bl (headT m++((m.funcs.take k).flatMap fnT++(fnH (nth m.funcs k)++((nth m.funcs k).code.take q).flatMap insE))))++(bl (insL (nth ((nth m.funcs k).code) q)))) B19))))) ?_)))
     exact vxed c [] [(14,.int (↑(q+1):Int))] [(1,.slot (.int (↑(q+1):Int)))] (wI1 q) (⟨_,by omega,(q+1),rfl,rfl,by omega⟩)
    ·refine n4 ?_
     rw[show bl (headT m++((m.funcs.take k).flatMap fnT++(fnH (nth m.funcs k)++((nth m.funcs k).code.take q).flatMap insE)))=bl (headT m++(m.funcs.take (k+1)).flatMap fnT)from a4I hk (by omega)]
     exact vxed c [12,13,14,174] [(6,.lf (.q (bl (headT m++(m.funcs.take (k+1)).flatMap fnT)))),(10,.int (↑(k+1):Int))] [(1,.slot (.int (↑(k+1):Int)))] (wI1 k) (⟨_,by omega,(k+1),rfl,rfl,by omega⟩)
   ·refine n4 (vxn c [2,3,6,10,98] [(4,.lf (.q (bl (headT m++(m.funcs.take k).flatMap fnT))))] ?_)
    exact rtV rfl (retS (by unfold modT;rw[Q4 (by omega)]))
theorem C9 (a:Ins):
 CallV Try.prog 92 [.agg [.im true (.str a.op),.im true (.int .i64 a.a),.im true (.int .i64 a.b)]] (·= .lf (.im true (.str (itT a)))):=by
 refine CallX (fn:=Try.f92) TTok mixed Try.func92 rfl rfl rfl rfl rfl fun E c hMay=> ?_
 refine vx c [(2,.lf (.ptr 1 0)),(3,.cell 1 [.q a.op,.z a.a,.z a.b])] [] AllP.nil (by kernel_rfl) ?_
 refine b9 (vxd c [] [(16,.bool (!(insOk a)))] [(1,.ret (.bool (insOk a)))] (cl tx91 (r9 a)) ?_)
 refine vcd (fun h1=> ?_) fun h1=> ?_
 ·have h1:(insOk a)=false:=o4 h1
  refine vxn c [2,3,16] [(4,.lf (.q B4))] ?_
  exact rtV rfl (retS (by unfold itT;rw[h1];rfl))
 ·have h1:(insOk a)=true:=o3 h1
  have hok:=a2f h1
  have hop:=hok.op
  have ra:inR a.a:=hok.rng.1
  have rb:inR a.b:=hok.rng.2
  have sa:=z3 ra
  have sb:=z3 rb
  refine c5 (vxd c [16] [(6,.lf (.ptr 3 0)),(7,.cell 3 [.q ((formV a.op).op),.z ((formV a.op).a),.z ((formV a.op).b)])] [(2,.ret (.tup [.agg [.q ((formV a.op).op),.z ((formV a.op).a),.z ((formV a.op).b)],.lf (.y (formB a.op))]))] (cl tx93 (G4 a.op)) ?_)
  refine vxn c [] [(10,.lf (.q a.op))] ?_
  refine b9 (vxn c [] [(38,.bool (decide (((formV a.op).a:Int)>0)))] ?_)
  refine vcp (fun h2=> ?_) fun h2=> ?_
  ·refine vxed c [38] [(10,.lf (.q ((a.op++B5)++(decB a.a))))] [(4,.ret (.lf (.q (decB a.a))))] (a2 (stf a.op B5) (a2 (cl tx53 (a0B a.a (by assumption))) (stf (a.op++B5) (decB a.a)))) ?_
   refine b9 (vxn c [6,7] [(56,.bool (decide (((formV a.op).b:Int)>0)))] ?_)
   refine vcp (fun h3=> ?_) fun h3=> ?_
   ·refine vxed c [2,3,56] [(10,.lf (.q ((((a.op++B5)++(decB a.a))++B5)++(decB a.b))))] [(4,.ret (.lf (.q (decB a.b))))] (a2 (stf ((a.op++B5)++(decB a.a)) B5) (a2 (cl tx53 (a0B a.b (by assumption))) (stf (((a.op++B5)++(decB a.a))++B5) (decB a.b)))) ?_
    refine vxn c [10] [(4,.lf (.q ((((a.op++B5)++(decB a.a))++B5)++(decB a.b))))] ?_
    exact rtV rfl (retS (by unfold itT;rw[if_pos h1];exact bb (by unfold insL;rw[if_pos h2,if_pos h3];simp only[dapp,p9,bdt,o5,List.append_assoc,List.cons_append,List.nil_append,List.append_nil])))
   ·refine c5 (vxn c [2,3,10,56] [(4,.lf (.q ((a.op++B5)++(decB a.a))))] ?_)
    exact rtV rfl (retS (by unfold itT;rw[if_pos h1];exact bb (by unfold insL;rw[if_pos h2,if_neg h3];simp only[dapp,p9,bdt,o5,List.append_assoc,List.cons_append,List.nil_append,List.append_nil])))
  ·refine c5 (b9 (vxn c [6,7,38] [(56,.bool (decide (((formV a.op).b:Int)>0)))] ?_))
   refine vcp (fun h4=> ?_) fun h4=> ?_
   ·refine vxed c [2,3,56] [(10,.lf (.q ((a.op++B5)++(decB a.b))))] [(4,.ret (.lf (.q (decB a.b))))] (a2 (stf a.op B5) (a2 (cl tx53 (a0B a.b (by assumption))) (stf (a.op++B5) (decB a.b)))) ?_
    refine vxn c [10] [(4,.lf (.q ((a.op++B5)++(decB a.b))))] ?_
    exact rtV rfl (retS (by unfold itT;rw[if_pos h1];exact bb (by unfold insL;rw[if_neg h2,if_pos h4];simp only[dapp,p9,bdt,o5,List.append_assoc,List.cons_append,List.nil_append,List.append_nil])))
   ·refine c5 (vxn c [2,3,10,56] [(4,.lf (.q a.op))] ?_)
    exact rtV rfl (retS (by unfold itT;rw[if_pos h1];exact bb (by unfold insL;rw[if_neg h2,if_neg h4];simp only[dapp,p9,bdt,o5,List.append_assoc,List.cons_append,List.nil_append,List.append_nil])))
theorem G1 (s:ByteArray):
 CallV Try.prog 69 [.lf (.im true (.str s))] (·= .tup [.agg [.im true (.str (irR s).op),.im true (.int .i64 (irR s).a),.im true (.int .i64 (irR s).b)],.lf (.im true (.bool (irB s)))]):=by
 refine CallX (fn:=Try.f69) TTok mixed Try.func69 rfl rfl rfl rfl rfl fun E c hMay=> ?_
 refine vx c [(0,.lf (.q s)),(4,.lf (.ptr 2 0)),(5,.cell 2 [.q ⟨#[]⟩,.z 0,.z 0])] [] AllP.nil (by kernel_rfl) ?_
 refine b9 (vxn c [] [(16,.bool (decide ((s.size:Int)>40)))] ?_)
 refine vcp (fun h1=> ?_) fun h1=> ?_
 ·refine vxn c [0,16] [(6,.bool false)] ?_
  exact rtV rfl (retIr (x:=noIns) (a5w (a7e (by omega))))
 ·have hwl:=K4 s s.size
  have hw1:1≤(words s).length:=hwl.1
  have hw2:(words s).length≤s.size+1:=hwl.2
  refine c5 (vxd c [16] [(8,.lf (.m 1 (words s) rS))] [(1,.ret (.lf (.m 1 (words s) rS)))] (cl tx64 (P1 s (by omega))) ?_)
  refine vxd c [] [(10,.lf (.ptr 5 0)),(11,.cell 5 [.q (nth (words s) 0),.z 0,.z 0])] [(1,.row (rS (nth (words s) 0)))] (ixn rS (words s) 0) ?_
  refine b9 (vxd c [] [(36,.bool (decide (((((words s).length:Nat):Int):Int)>1)))] [(1,.slot (.int (((words s).length:Nat):Int)))] (lnl (words s) rS) ?_)
  refine vcp (fun h2=> ?_) fun h2=> ?_
  ·refine vxed c [36] [(11,.cell 5 [.q (nth (words s) 0),.z (l3n (nth (words s) 1)),.z 0])] [(1,.row (rS (nth (words s) 1))),(3,.ret (.int (l3n (nth (words s) 1))))] (a2 (ixn rS (words s) 1) (cl tx88 (L5 (nth (words s) 1)))) ?_
   refine b9 (vxd c [] [(52,.bool (decide (((((words s).length:Nat):Int):Int)>2)))] [(1,.slot (.int (((words s).length:Nat):Int)))] (lnl (words s) rS) ?_)
   refine vcp (fun h3=> ?_) fun h3=> ?_
   ·refine vxed c [8,52] [(11,.cell 5 [.q (nth (words s) 0),.z (l3n (nth (words s) 1)),.z (l3n (nth (words s) 2))])] [(1,.row (rS (nth (words s) 2))),(3,.ret (.int (l3n (nth (words s) 2))))] (a2 (ixn rS (words s) 2) (cl tx88 (L5 (nth (words s) 2)))) ?_
    refine b9 (S8 [(0,.lf (.q s)),(4,.lf (.ptr 2 0)),(5,.cell 2 [.q ⟨#[]⟩,.z 0,.z 0]),(10,.lf (.ptr 5 0)),(11,.cell 5 [.q ((irV s).op),.z ((irV s).a),.z ((irV s).b)])] (by rw[show(irV s).a=l3n (nth (words s) 1)from if_pos (by omega),show(irV s).b=l3n (nth (words s) 2)from if_pos (by omega),show(irV s).op=nth (words s) 0 from rfl];kernel_rfl) ?_)
    refine vjd c [0] [(80,.bool ((!(insOk (irV s)))||(!((itT (irV s)).toList==s.toList))))] (by
     rcases bft (!(insOk (irV s)))with g1|g1
     ·have g1p:=o4 g1
      exact runJ [(1,.ret (.bool (insOk (irV s)))),(2,.slot (.bool true)),(8,.slot (.bool ((!(insOk (irV s)))||(!((itT (irV s)).toList==s.toList)))))] (a2 (cl tx91 (r9 (irV s))) (a2 (kB g1) (kBs true ((!(insOk (irV s)))||(!((itT (irV s)).toList==s.toList))))))
     ·have g1p:=o3 g1
      exact runJ [(1,.ret (.bool (insOk (irV s)))),(2,.slot (.bool false)),(5,.ret (.lf (.q (itT (irV s))))),(8,.slot (.bool ((!(insOk (irV s)))||(!((itT (irV s)).toList==s.toList)))))] (a2 (cl tx91 (r9 (irV s))) (a2 (kB g1) (a2 (cl tx92 (C9 (irV s))) (kBs (!((itT (irV s)).toList==s.toList)) ((!(insOk (irV s)))||(!((itT (irV s)).toList==s.toList)))))))) ?_
    refine vcd (fun h4=> ?_) fun h4=> ?_
    ·refine vxn c [10,11,80] [(6,.bool false)] ?_
     exact rtV rfl (retIr (x:=noIns) (a5w (a3G h4)))
    ·refine c5 (vxn c [10,11,80] [(5,.cell 2 [.q ((irV s).op),.z ((irV s).a),.z ((irV s).b)]),(6,.bool true)] ?_)
     exact rtV rfl (retIr (x:=irV s) (a3R (a1r (by omega) h4)))
   ·refine c5 (b9 (S8 [(0,.lf (.q s)),(4,.lf (.ptr 2 0)),(5,.cell 2 [.q ⟨#[]⟩,.z 0,.z 0]),(8,.lf (.m 1 (words s) rS)),(10,.lf (.ptr 5 0)),(11,.cell 5 [.q ((irV s).op),.z ((irV s).a),.z ((irV s).b)]),(52,.bool (decide (((((words s).length:Nat):Int):Int)>2)))] (by rw[show(irV s).a=l3n (nth (words s) 1)from if_pos (by omega),show(irV s).b=0 from if_neg (by omega),show(irV s).op=nth (words s) 0 from rfl];kernel_rfl) ?_))
    refine vjd c [0,8,52] [(80,.bool ((!(insOk (irV s)))||(!((itT (irV s)).toList==s.toList))))] (by
     rcases bft (!(insOk (irV s)))with g2|g2
     ·have g2p:=o4 g2
      exact runJ [(1,.ret (.bool (insOk (irV s)))),(2,.slot (.bool true)),(8,.slot (.bool ((!(insOk (irV s)))||(!((itT (irV s)).toList==s.toList)))))] (a2 (cl tx91 (r9 (irV s))) (a2 (kB g2) (kBs true ((!(insOk (irV s)))||(!((itT (irV s)).toList==s.toList))))))
     ·have g2p:=o3 g2
      exact runJ [(1,.ret (.bool (insOk (irV s)))),(2,.slot (.bool false)),(5,.ret (.lf (.q (itT (irV s))))),(8,.slot (.bool ((!(insOk (irV s)))||(!((itT (irV s)).toList==s.toList)))))] (a2 (cl tx91 (r9 (irV s))) (a2 (kB g2) (a2 (cl tx92 (C9 (irV s))) (kBs (!((itT (irV s)).toList==s.toList)) ((!(insOk (irV s)))||(!((itT (irV s)).toList==s.toList)))))))) ?_
    refine vcd (fun h5=> ?_) fun h5=> ?_
    ·refine vxn c [10,11,80] [(6,.bool false)] ?_
     exact rtV rfl (retIr (x:=noIns) (a5w (a3G h5)))
    ·refine c5 (vxn c [10,11,80] [(5,.cell 2 [.q ((irV s).op),.z ((irV s).a),.z ((irV s).b)]),(6,.bool true)] ?_)
     exact rtV rfl (retIr (x:=irV s) (a3R (a1r (by omega) h5)))
  ·refine c5 (b9 (vxd c [36] [(52,.bool (decide (((((words s).length:Nat):Int):Int)>2)))] [(1,.slot (.int (((words s).length:Nat):Int)))] (lnl (words s) rS) ?_))
   refine vcp (fun h6=> ?_) fun h6=> ?_
   ·refine vxed c [8,52] [(11,.cell 5 [.q (nth (words s) 0),.z 0,.z (l3n (nth (words s) 2))])] [(1,.row (rS (nth (words s) 2))),(3,.ret (.int (l3n (nth (words s) 2))))] (a2 (ixn rS (words s) 2) (cl tx88 (L5 (nth (words s) 2)))) ?_
    refine b9 (S8 [(0,.lf (.q s)),(4,.lf (.ptr 2 0)),(5,.cell 2 [.q ⟨#[]⟩,.z 0,.z 0]),(10,.lf (.ptr 5 0)),(11,.cell 5 [.q ((irV s).op),.z ((irV s).a),.z ((irV s).b)])] (by rw[show(irV s).a=0 from if_neg (by omega),show(irV s).b=l3n (nth (words s) 2)from if_pos (by omega),show(irV s).op=nth (words s) 0 from rfl];kernel_rfl) ?_)
    refine vjd c [0] [(80,.bool ((!(insOk (irV s)))||(!((itT (irV s)).toList==s.toList))))] (by
     rcases bft (!(insOk (irV s)))with g3|g3
     ·have g3p:=o4 g3
      exact runJ [(1,.ret (.bool (insOk (irV s)))),(2,.slot (.bool true)),(8,.slot (.bool ((!(insOk (irV s)))||(!((itT (irV s)).toList==s.toList)))))] (a2 (cl tx91 (r9 (irV s))) (a2 (kB g3) (kBs true ((!(insOk (irV s)))||(!((itT (irV s)).toList==s.toList))))))
     ·have g3p:=o3 g3
      exact runJ [(1,.ret (.bool (insOk (irV s)))),(2,.slot (.bool false)),(5,.ret (.lf (.q (itT (irV s))))),(8,.slot (.bool ((!(insOk (irV s)))||(!((itT (irV s)).toList==s.toList)))))] (a2 (cl tx91 (r9 (irV s))) (a2 (kB g3) (a2 (cl tx92 (C9 (irV s))) (kBs (!((itT (irV s)).toList==s.toList)) ((!(insOk (irV s)))||(!((itT (irV s)).toList==s.toList)))))))) ?_
    refine vcd (fun h7=> ?_) fun h7=> ?_
    ·refine vxn c [10,11,80] [(6,.bool false)] ?_
     exact rtV rfl (retIr (x:=noIns) (a5w (a3G h7)))
    ·refine c5 (vxn c [10,11,80] [(5,.cell 2 [.q ((irV s).op),.z ((irV s).a),.z ((irV s).b)]),(6,.bool true)] ?_)
     exact rtV rfl (retIr (x:=irV s) (a3R (a1r (by omega) h7)))
   ·refine c5 (b9 (S8 [(0,.lf (.q s)),(4,.lf (.ptr 2 0)),(5,.cell 2 [.q ⟨#[]⟩,.z 0,.z 0]),(8,.lf (.m 1 (words s) rS)),(10,.lf (.ptr 5 0)),(11,.cell 5 [.q ((irV s).op),.z ((irV s).a),.z ((irV s).b)]),(52,.bool (decide (((((words s).length:Nat):Int):Int)>2)))] (by rw[show(irV s).a=0 from if_neg (by omega),show(irV s).b=0 from if_neg (by omega),show(irV s).op=nth (words s) 0 from rfl];kernel_rfl) ?_))
    refine vjd c [0,8,52] [(80,.bool ((!(insOk (irV s)))||(!((itT (irV s)).toList==s.toList))))] (by
     rcases bft (!(insOk (irV s)))with g4|g4
     ·have g4p:=o4 g4
      exact runJ [(1,.ret (.bool (insOk (irV s)))),(2,.slot (.bool true)),(8,.slot (.bool ((!(insOk (irV s)))||(!((itT (irV s)).toList==s.toList)))))] (a2 (cl tx91 (r9 (irV s))) (a2 (kB g4) (kBs true ((!(insOk (irV s)))||(!((itT (irV s)).toList==s.toList))))))
     ·have g4p:=o3 g4
      exact runJ [(1,.ret (.bool (insOk (irV s)))),(2,.slot (.bool false)),(5,.ret (.lf (.q (itT (irV s))))),(8,.slot (.bool ((!(insOk (irV s)))||(!((itT (irV s)).toList==s.toList)))))] (a2 (cl tx91 (r9 (irV s))) (a2 (kB g4) (a2 (cl tx92 (C9 (irV s))) (kBs (!((itT (irV s)).toList==s.toList)) ((!(insOk (irV s)))||(!((itT (irV s)).toList==s.toList)))))))) ?_
    refine vcd (fun h8=> ?_) fun h8=> ?_
    ·refine vxn c [10,11,80] [(6,.bool false)] ?_
     exact rtV rfl (retIr (x:=noIns) (a5w (a3G h8)))
    ·refine c5 (vxn c [10,11,80] [(5,.cell 2 [.q ((irV s).op),.z ((irV s).a),.z ((irV s).b)]),(6,.bool true)] ?_)
     exact rtV rfl (retIr (x:=irV s) (a3R (a1r (by omega) h8)))
theorem a5k (l:List ByteArray)(hll:l.length≤5000):
 ∃o r,(fun o r=>o= .own obN [.hole,.hole,.hole,.hole,.hole,.hole] [.no,.no]∧r= .lf (.im true (.sl 1 ((spF l).map rSS)))) o r∧CallGX Try.prog 90 [.lf (.im true (.sl 1 (l.map rS)))] (.own obN [.hole,.hole,.hole,.hole,.hole,.hole] [.no,.no]) o r:=by
 refine CallGE (fn:=Try.f90) TTok mixed Try.func90 rfl rfl rfl rfl ?_
 refine ex [(0,.lf (.m 1 l rS)),(1,.own obN [.hole,.hole,.hole,.hole,.hole,.hole] [.no,.no])] [] AllP.nil (by kernel_rfl) ?_
 refine exd [] [(6,.lf (.u 6 0 39 1 [[.nl]]))] [(0,.slot (.one (.lf (.im true .nl))))] AllP.nil ?_
 refine a7 (etd [] [(1,.own obN [.hole,.hole,.hole,.hole,.hole,.hole] [.mk 6 0 39 1 [[.nl]],.no]),(6,.lf (.hd 6 (([[.nl]]:List (List SV)).length) 0))] (fun E=>a5f 3 0 0 rfl rfl rfl) ?_)
 refine exn [] [(8,.int 0)] ?_
 refine a9 (eld (fun l0 n L=>(∃(i:Nat) (pre:List (List ByteArray)),L=upG [] [(1,.own obN [.hole,.hole,.hole,.hole,.hole,.hole] [.mk 6 0 39 1 (pre.map rSS++[[SV.nl]]),.no]),(6,.lf (.hd 6 (((pre.map rSS++[[SV.nl]]):List (List SV)).length) 0)),(8,.int (i:Int))] l0∧n=l.length-i∧(i≤l.length∧spT l i=pre++[[]]))∨(∃(i:Nat) (pre:List (List ByteArray)) (last:List ByteArray),L=upG [] [(1,.own obN [.hole,.hole,.hole,.hole,.hole,.hole] [.mkh 6 0 39 1 (pre.map rSS++[[SV.nl]]) pre.length 0 800001 ((last.map rS).length),.mk 800001 0 9 1 (last.map rS)]),(6,.lf (.hd 6 (((pre.map rSS++[[SV.nl]]):List (List SV)).length) 0)),(8,.int (i:Int))] l0∧n=l.length-i∧(i≤l.length∧spT l i=pre++[last]))) _ (.inl ⟨0,[],rfl,rfl,⟨by omega,rfl⟩⟩) ?_)
 rintro n L (⟨i,pre,rfl,rfl,hP1⟩|⟨i,pre,last,rfl,rfl,hP1⟩)
 ·have hil:=hP1.1
  have hq1:=a5q hP1.2
  refine a7 (ex [(0,.lf (.m 1 l rS)),(1,.own obN [.hole,.hole,.hole,.hole,.hole,.hole] [.mk 6 0 39 1 (pre.map rSS++[[SV.nl]]),.no]),(6,.lf (.hd 6 (((pre.map rSS++[[SV.nl]]):List (List SV)).length) 0)),(8,.int (i:Int)),(20,.bool (decide ((i:Int)<(l.length:Int))))] [(2,.slot (.int (l.length:Int)))] (a2 (ln (l:=l) (f:=rS)) AllP.nil) (by kernel_rfl) ?_)
  refine ecp (fun h1=> ?_) fun h1=> ?_
  ·refine a5 (a7 (a9 (exd [20] [(34,.bool ((nth l i).toList==B34.toList))] [(2,.row (rS (nth l i)))] (ixn rS l i) ?_)))
   refine ecd (fun h2=> ?_) fun h2=> ?_
   ·refine etd [] [(1,.own obN [.hole,.hole,.hole,.hole,.hole,.hole] [.mk 6 0 39 1 (putHd (pre.map rSS++[[SV.nl]]) pre.length 0 (.sl 1 [])),.no])] (fun E=>a3y 0 0 1 (i:=pre.length) (j:=0) (r:=[SV.nl]) rfl rfl (by simp) (by rfl)) ?_
    rw[show putHd (pre.map rSS++[[SV.nl]]) pre.length 0 (.sl 1 [])=(pre++[[]]).map rSS from by exact V9 pre [] SV.nl]
    refine exed [34] [(1,.own obN [.hole,.hole,.hole,.hole,.hole,.hole] [.mk 6 0 39 1 ((pre++[[]]).map rSS++[[SV.nl]]),.no]),(6,.lf (.hd 6 ((((pre++[[]]).map rSS++[[SV.nl]]):List (List SV)).length) 0))] [(1,.slot (.one (.lf (.im true .nl)))),(2,.im),(3,.gap 6 0 0 ((pre++[[]]).map rSS++[[SV.nl]]))] (gapH (rows:=(pre++[[]]).map rSS) (rows2:=[[.nl]]) (rows3:=((pre++[[]]).map rSS++[[SV.nl]])) (n:=((pre.map rSS++[[SV.nl]]):List (List SV)).length) (bytes:=24) (kt:=18) (y:= .tmp 20) (by rfl) (by simp) (by simp;omega) (by decide) (by simp) (by simp)) ?_
    exact exed [] [(8,.int (↑(i+1):Int))] [(1,.slot (.int (↑(i+1):Int)))] (wI1 i) (⟨_,by omega,(.inl ⟨(i+1),(pre++[[]]),rfl,rfl,⟨by omega,a5C hP1.2 h2⟩⟩)⟩)
   ·refine exed [34] [(1,.own obN [.hole,.hole,.hole,.hole,.hole,.hole] [.mkh 6 0 39 1 (pre.map rSS++[[SV.nl]]) pre.length 0 800001 (([(nth l i)].map rS).length),.mk 800001 0 9 1 ([(nth l i)].map rS)])] [(2,.slot (.int (↑(pre.length+1):Int))),(3,.slot (.int (pre.length:Int))),(6,.slot (.int (↑(pre.length+1):Int))),(7,.slot (.int (pre.length:Int))),(9,.elem pre.length 0 [SV.nl] none),(12,.row (rS (nth l i))),(14,.slot (.lf (.m 1 [(nth l i)] rS))),(15,.gap 800001 0 1 ([(nth l i)].map rS)),(17,.hst pre.length 0 [SV.nl])] (a2 (a1 (show(Slot.int ((((pre.map rSS++[[SV.nl]]):List (List SV)).length:Nat):Int))= .int (↑(pre.length+1):Int)by rw[show((pre.map rSS++[[SV.nl]]):List (List SV)).length=pre.length+1 by simp]<;>rfl)) (a2 (wIo ((↑(pre.length+1):Int)-1) (pre.length:Int)) (a2 (a1 (show(Slot.int ((((pre.map rSS++[[SV.nl]]):List (List SV)).length:Nat):Int))= .int (↑(pre.length+1):Int)by rw[show((pre.map rSS++[[SV.nl]]):List (List SV)).length=pre.length+1 by simp]<;>rfl)) (a2 (wIo ((↑(pre.length+1):Int)-1) (pre.length:Int)) (a2 (ixu (i:=pre.length) (n:=((pre.map rSS++[[SV.nl]]):List (List SV)).length) (by simp)) (a2 (elR (rows:=(pre.map rSS++[[SV.nl]])) (r:=[SV.nl]) (i:=pre.length) (j:=0) (n:=1) (sz:=1) (off:=(pre.length:Int).toNat*1) (by simp) (by omega) (by decide)) (a2 (ixn rS l i) (a2 (a1 (show([[.str (nth l i)]]:List (List SV))=([(nth l i)].map rS)from rfl)) (a2 (gapZ (rows2:=([(nth l i)].map rS)) (rows3:=[(nth l i)].map rS) (bytes:=16) (by rfl) (by simp) (by decide) (by simp)) (a2 (ixu (i:=pre.length) (n:=((pre.map rSS++[[SV.nl]]):List (List SV)).length) (by simp)) (hstT (rows:=(pre.map rSS++[[SV.nl]])) (r:=[SV.nl]) (i:=pre.length) (j:=0) (sz:=1) (off:=(pre.length:Int).toNat*1) (n2:=([(nth l i)].map rS).length) (by simp) (by rfl) (by omega) (by decide) (by simp)))))))))))) ?_
    exact exed [] [(8,.int (↑(i+1):Int))] [(1,.slot (.int (↑(i+1):Int)))] (wI1 i) (⟨_,by omega,(.inr ⟨(i+1),pre,[(nth l i)],rfl,rfl,⟨by omega,a6O hP1.2 h2⟩⟩)⟩)
  ·refine d9 (etd [] [(1,.own obN [.hole,.hole,.hole,.hole,.hole,.hole] [.mk 6 0 39 1 (putHd (pre.map rSS++[[SV.nl]]) pre.length 0 (.sl 1 [])),.no])] (fun E=>a3y 0 0 1 (i:=pre.length) (j:=0) (r:=[SV.nl]) rfl rfl (by simp) (by rfl)) ?_)
   rw[show putHd (pre.map rSS++[[SV.nl]]) pre.length 0 (.sl 1 [])=(pre++[[]]).map rSS from by exact V9 pre [] SV.nl]
   refine etd [] [(1,.own obN [.hole,.hole,.hole,.hole,.hole,.hole] [.no,.no]),(6,.lf (.m 1 (pre++[[]]) rSS))] (fun E=>a2y 3 0 0 rfl rfl rfl (by simp)) ?_
   refine exn [0,6,8,20] [(4,.lf (.m 1 (pre++[[]]) rSS))] ?_
   exact rtG rfl (⟨rfl,by rw[show spF l=(pre++[[]])from by unfold spF;rw[show l.length=i from by omega];exact hP1.2];rfl⟩)
 ·have hil:=hP1.1
  have hq1:=a5q hP1.2
  refine a7 (ex [(0,.lf (.m 1 l rS)),(1,.own obN [.hole,.hole,.hole,.hole,.hole,.hole] [.mkh 6 0 39 1 (pre.map rSS++[[SV.nl]]) pre.length 0 800001 ((last.map rS).length),.mk 800001 0 9 1 (last.map rS)]),(6,.lf (.hd 6 (((pre.map rSS++[[SV.nl]]):List (List SV)).length) 0)),(8,.int (i:Int)),(20,.bool (decide ((i:Int)<(l.length:Int))))] [(2,.slot (.int (l.length:Int)))] (a2 (ln (l:=l) (f:=rS)) AllP.nil) (by kernel_rfl) ?_)
  refine ecp (fun h3=> ?_) fun h3=> ?_
  ·refine a5 (a7 (a9 (exd [20] [(34,.bool ((nth l i).toList==B34.toList))] [(2,.row (rS (nth l i)))] (ixn rS l i) ?_)))
   refine ecd (fun h4=> ?_) fun h4=> ?_
   ·refine etd [] [(1,.own obN [.hole,.hole,.hole,.hole,.hole,.hole] [.mk 6 0 39 1 (putHd (pre.map rSS++[[SV.nl]]) pre.length 0 (.sl 1 (last.map rS))),.no])] (fun E=>a1s 0 0 1 rfl rfl rfl (by simp) (by decide)) ?_
    rw[show putHd (pre.map rSS++[[SV.nl]]) pre.length 0 (.sl 1 (last.map rS))=(pre++[last]).map rSS from by exact V9 pre last SV.nl]
    refine exed [34] [(1,.own obN [.hole,.hole,.hole,.hole,.hole,.hole] [.mk 6 0 39 1 ((pre++[last]).map rSS++[[SV.nl]]),.no]),(6,.lf (.hd 6 ((((pre++[last]).map rSS++[[SV.nl]]):List (List SV)).length) 0))] [(1,.slot (.one (.lf (.im true .nl)))),(2,.im),(3,.gap 6 0 0 ((pre++[last]).map rSS++[[SV.nl]]))] (gapH (rows:=(pre++[last]).map rSS) (rows2:=[[.nl]]) (rows3:=((pre++[last]).map rSS++[[SV.nl]])) (n:=((pre.map rSS++[[SV.nl]]):List (List SV)).length) (bytes:=24) (kt:=18) (y:= .tmp 20) (by rfl) (by simp) (by simp;omega) (by decide) (by simp) (by simp)) ?_
    exact exed [] [(8,.int (↑(i+1):Int))] [(1,.slot (.int (↑(i+1):Int)))] (wI1 i) (⟨_,by omega,(.inl ⟨(i+1),(pre++[last]),rfl,rfl,⟨by omega,a5C hP1.2 h4⟩⟩)⟩)
   ·refine exed [34] [(1,.own obN [.hole,.hole,.hole,.hole,.hole,.hole] [.mkh 6 0 39 1 (pre.map rSS++[[SV.nl]]) pre.length 0 800002 (((last++[(nth l i)]).map rS:List (List SV)).length),.mk 800002 0 9 1 ((last++[(nth l i)]).map rS)])] [(2,.slot (.int (↑(pre.length+1):Int))),(3,.slot (.int (pre.length:Int))),(6,.slot (.int (↑(pre.length+1):Int))),(7,.slot (.int (pre.length:Int))),(9,.hel [SV.nl]),(12,.row (rS (nth l i))),(14,.slot (.lf (.m 1 [(nth l i)] rS))),(15,.gap 800002 0 1 ((last++[(nth l i)]).map rS)),(17,.hst pre.length 0 [SV.nl])] (a2 (a1 (show(Slot.int ((((pre.map rSS++[[SV.nl]]):List (List SV)).length:Nat):Int))= .int (↑(pre.length+1):Int)by rw[show((pre.map rSS++[[SV.nl]]):List (List SV)).length=pre.length+1 by simp]<;>rfl)) (a2 (wIo ((↑(pre.length+1):Int)-1) (pre.length:Int)) (a2 (a1 (show(Slot.int ((((pre.map rSS++[[SV.nl]]):List (List SV)).length:Nat):Int))= .int (↑(pre.length+1):Int)by rw[show((pre.map rSS++[[SV.nl]]):List (List SV)).length=pre.length+1 by simp]<;>rfl)) (a2 (wIo ((↑(pre.length+1):Int)-1) (pre.length:Int)) (a2 (ixu (i:=pre.length) (n:=((pre.map rSS++[[SV.nl]]):List (List SV)).length) (by simp)) (a2 (helT (rows:=(pre.map rSS++[[SV.nl]])) (r:=[SV.nl]) (i:=pre.length) (j:=0) (sz:=1) (off:=(pre.length:Int).toNat*1) (by simp) (by rfl) (by omega) (by decide)) (a2 (ixn rS l i) (a2 (a1 (show([[.str (nth l i)]]:List (List SV))=([(nth l i)].map rS)from rfl)) (a2 (gapH (rows:=last.map rS) (rows2:=([(nth l i)].map rS)) (rows3:=(last++[(nth l i)]).map rS) (n:=(last.map rS).length) (bytes:=16) (kt:=31) (y:= .tmp 36) (by rw[List.map_append]) (by simp) (by simp;omega) (by decide) (by simp) (by simp)) (a2 (ixu (i:=pre.length) (n:=((pre.map rSS++[[SV.nl]]):List (List SV)).length) (by simp)) (hstT2 (rows:=(pre.map rSS++[[SV.nl]])) (r:=[SV.nl]) (i:=pre.length) (j:=0) (sz:=1) (off:=(pre.length:Int).toNat*1) (n2:=((last++[(nth l i)]).map rS:List (List SV)).length) (by simp) (by rfl) (by omega) (by decide) (by simp) rfl rfl))))))))))) ?_
    refine esw 800001 800002 [] [(1,.own obN [.hole,.hole,.hole,.hole,.hole,.hole] [.mkh 6 0 39 1 (pre.map rSS++[[SV.nl]]) pre.length 0 800001 (((last++[(nth l i)]).map rS:List (List SV)).length),.mk 800001 0 9 1 ((last++[(nth l i)]).map rS)])] ?_
    exact exed [] [(8,.int (↑(i+1):Int))] [(1,.slot (.int (↑(i+1):Int)))] (wI1 i) (⟨_,by omega,(.inr ⟨(i+1),pre,(last++[(nth l i)]),rfl,rfl,⟨by omega,a6O hP1.2 h4⟩⟩)⟩)
  ·refine d9 (etd [] [(1,.own obN [.hole,.hole,.hole,.hole,.hole,.hole] [.mk 6 0 39 1 (putHd (pre.map rSS++[[SV.nl]]) pre.length 0 (.sl 1 (last.map rS))),.no])] (fun E=>a1s 0 0 1 rfl rfl rfl (by simp) (by decide)) ?_)
   rw[show putHd (pre.map rSS++[[SV.nl]]) pre.length 0 (.sl 1 (last.map rS))=(pre++[last]).map rSS from by exact V9 pre last SV.nl]
   refine etd [] [(1,.own obN [.hole,.hole,.hole,.hole,.hole,.hole] [.no,.no]),(6,.lf (.m 1 (pre++[last]) rSS))] (fun E=>a2y 3 0 0 rfl rfl rfl (by simp)) ?_
   refine exn [0,6,8,20] [(4,.lf (.m 1 (pre++[last]) rSS))] ?_
   exact rtG rfl (⟨rfl,by rw[show spF l=(pre++[last])from by unfold spF;rw[show l.length=i from by omega];exact hP1.2];rfl⟩)
theorem J4 (w:List ByteArray)(hll:w.length≤5000):
 ∃s,(fun s=>s= .tup [.agg [.im true (.int .i64 (rfR w).seen),.im true (.sl 1 ((rfR w).args.map rS)),.im true (.sl 1 ((rfR w).rets.map rS)),.im true (.sl 1 ((rfR w).locals.map rS)),.im true (.sl 1 ((rfR w).takes.map rI)),.nil],.lf (.im true (.bool (rfB w)))]) s∧CallV Try.prog 68 [.lf (.im true (.sl 1 (w.map rS)))] (·=s):=by
 refine CallE (fn:=Try.f68) TTok mixed Try.func68 rfl rfl rfl rfl rfl ?_
 have hsl:=a6Y w
 have hs0:=hsl.2 0
 have hs1:=hsl.2 1
 have hs2:=hsl.2 2
 have hs3:=hsl.2 3
 refine ex [(0,.lf (.m 1 w rS)),(4,.lf (.ptr 2 0)),(5,.cell 2 [.z 0,.nil,.nil,.nil,.nil,.nil])] [] AllP.nil (by kernel_rfl) ?_
 refine etd [] [(5,.own 2 [.z 0,.nil,.nil,.nil,.nil,.nil] [.no,.no])] (fun E=>I9 2 2 rfl) ?_
 obtain⟨_,_,⟨rfl,rfl⟩,cc1⟩:=a5k w (by omega)
 refine exd [0] [(5,.own 2 [.hole,.hole,.hole,.hole,.hole,.hole] [.no,.no]),(8,.lf (.m 1 (spF w) rSS))] [(1,.cg 2 (.own obN [.hole,.hole,.hole,.hole,.hole,.hole] [.no,.no]) (.lf (.m 1 (spF w) rSS)) [] [])] (cgT tx90 cc1) ?_
 refine a7 ?_
 rcases bft (decide (((((spF w).length:Nat):Int):Int)≠4))with g1|g1
 ·have g1p:=d5 g1
  refine exd [] [(40,.bool true)] [(1,.slot (.int (((spF w).length:Nat):Int))),(2,.slot (.bool true))] (a2 (lnl (spF w) rSS) (kB g1)) ?_
  refine ecT rfl ?_
  refine exn [8,40] [(5,.own 2 [.z 0,.nil,.nil,.nil,.nil,.nil] [.no,.no]),(6,.bool false)] ?_
  refine etd [] [(5,.cell 2 [.z 0,.nil,.nil,.nil,.nil,.nil])] (fun E=>d6 2 rfl) ?_
  refine etd [] [(5,.cell 2 [.z 0,.m 1 ([]:List ByteArray) rS,.nil,.nil,.nil,.nil])] (fun E=>j4 2 1 1 rfl rfl) ?_
  refine etd [] [(5,.cell 2 [.z 0,.m 1 ([]:List ByteArray) rS,.m 1 ([]:List ByteArray) rS,.nil,.nil,.nil])] (fun E=>j4 2 2 1 rfl rfl) ?_
  refine etd [] [(5,.cell 2 [.z 0,.m 1 ([]:List ByteArray) rS,.m 1 ([]:List ByteArray) rS,.m 1 ([]:List ByteArray) rS,.nil,.nil])] (fun E=>j4 2 3 1 rfl rfl) ?_
  refine etd [] [(5,.cell 2 [.z 0,.m 1 ([]:List ByteArray) rS,.m 1 ([]:List ByteArray) rS,.m 1 ([]:List ByteArray) rS,.m 1 ([]:List Int) rI,.nil])] (fun E=>j4 2 4 1 rfl rfl) ?_
  exact rtE rfl (retRf (x:=noFn) (rf_no (by unfold rfH;first|(rw[decide_eq_false (by omega)];rfl)|(rw[decide_eq_true (show(nth (spF w) 0).length=0 by omega)];simp))))
 ·have g1p:=i5 g1
  refine exd [] [(40,.bool (decide (((((nth (spF w) 0).length:Nat):Int):Int)=0)))] [(1,.slot (.int (((spF w).length:Nat):Int))),(2,.slot (.bool false)),(5,.row (rSS (nth (spF w) 0))),(7,.slot (.int (((nth (spF w) 0).length:Nat):Int)))] (a2 (lnl (spF w) rSS) (a2 (kB g1) (a2 (ixn rSS (spF w) 0) (lnl (nth (spF w) 0) rS)))) ?_
  refine ecp (fun h2=> ?_) fun h2=> ?_
  ·refine exn [8,40] [(5,.own 2 [.z 0,.nil,.nil,.nil,.nil,.nil] [.no,.no]),(6,.bool false)] ?_
   refine etd [] [(5,.cell 2 [.z 0,.nil,.nil,.nil,.nil,.nil])] (fun E=>d6 2 rfl) ?_
   refine etd [] [(5,.cell 2 [.z 0,.m 1 ([]:List ByteArray) rS,.nil,.nil,.nil,.nil])] (fun E=>j4 2 1 1 rfl rfl) ?_
   refine etd [] [(5,.cell 2 [.z 0,.m 1 ([]:List ByteArray) rS,.m 1 ([]:List ByteArray) rS,.nil,.nil,.nil])] (fun E=>j4 2 2 1 rfl rfl) ?_
   refine etd [] [(5,.cell 2 [.z 0,.m 1 ([]:List ByteArray) rS,.m 1 ([]:List ByteArray) rS,.m 1 ([]:List ByteArray) rS,.nil,.nil])] (fun E=>j4 2 3 1 rfl rfl) ?_
   refine etd [] [(5,.cell 2 [.z 0,.m 1 ([]:List ByteArray) rS,.m 1 ([]:List ByteArray) rS,.m 1 ([]:List ByteArray) rS,.m 1 ([]:List Int) rI,.nil])] (fun E=>j4 2 4 1 rfl rfl) ?_
   exact rtE rfl (retRf (x:=noFn) (rf_no (by unfold rfH;first|(rw[decide_eq_false (by omega)];rfl)|(rw[decide_eq_true (show(nth (spF w) 0).length=0 by omega)];simp))))
  ·refine a5 (exd [40] [(10,.int (l4s (nth (nth (spF w) 0) 0)))] [(1,.row (rSS (nth (spF w) 0))),(3,.row (rS (nth (nth (spF w) 0) 0))),(5,.ret (.int (l4s (nth (nth (spF w) 0) 0))))] (a2 (ixn rSS (spF w) 0) (a2 (ixn rS (nth (spF w) 0) 0) (cl tx65 (J2 (nth (nth (spF w) 0) 0))))) ?_)
   refine exd [] [(12,.lf (.m 1 (rnL (nth (spF w) 3)) rI)),(14,.bool (rnB (nth (spF w) 3)))] [(1,.row (rSS (nth (spF w) 3))),(3,.ret (.tup [.lf (.m 1 (rnL (nth (spF w) 3)) rI),.lf (.y (rnB (nth (spF w) 3)))]))] (a2 (ixn rSS (spF w) 3) (cl tx67 (A3 (nth (spF w) 3) (by first|omega|(simp only[List.length_drop];omega))))) ?_
   refine exd [] [(16,.lf (.m 1 ((nth (spF w) 0).drop 1) rS))] [(1,.row (rSS (nth (spF w) 0))),(3,.cut 1 ((nth (spF w) 0).length) (.lf (.m 1 ((nth (spF w) 0).drop 1) rS)))] (a2 (ixn rSS (spF w) 0) (z1 (f:=rS) (l:=(nth (spF w) 0)) (sz:=1) (h:=1) (lo:=1) rfl (by omega))) ?_
   rcases bft (rnB (nth (spF w) 3))with g2|g2
   ·have g2p:=g2
    rcases bft (decide ((l4s (nth (nth (spF w) 0) 0):Int)≥0))with g3|g3
    ·have g3p:=d5 g3
     rcases bft (fmB ((nth (spF w) 0).drop 1))with g4|g4
     ·have g4p:=g4
      rcases bft (fmB (nth (spF w) 1))with g5|g5
      ·have g5p:=g5
       refine exd [8,10,12,14,16] [(5,.own 2 [.z (l4s (nth (nth (spF w) 0) 0)),.m 1 ((nth (spF w) 0).drop 1) rS,.m 1 (nth (spF w) 1) rS,.m 1 (nth (spF w) 2) rS,.m 1 (rnL (nth (spF w) 3)) rI,.nil] [.no,.no]),(6,.bool (fmB (nth (spF w) 2)))] [(3,.row (rSS (nth (spF w) 1))),(6,.row (rSS (nth (spF w) 2))),(10,.slot (.bool true)),(13,.slot (.bool true)),(17,.ret (.bool (fmB ((nth (spF w) 0).drop 1)))),(18,.slot (.bool true)),(21,.row (rSS (nth (spF w) 1))),(23,.ret (.bool (fmB (nth (spF w) 1)))),(24,.slot (.bool true)),(27,.row (rSS (nth (spF w) 2))),(29,.ret (.bool (fmB (nth (spF w) 2))))] (a2 (ixn rSS (spF w) 1) (a2 (ixn rSS (spF w) 2) (a2 (kB g2) (a2 (kB g3) (a2 (cl tx66 (r5 ((nth (spF w) 0).drop 1) (by first|omega|(simp only[List.length_drop];omega)))) (a2 (kB g4) (a2 (ixn rSS (spF w) 1) (a2 (cl tx66 (r5 (nth (spF w) 1) (by first|omega|(simp only[List.length_drop];omega)))) (a2 (kB g5) (a2 (ixn rSS (spF w) 2) (cl tx66 (r5 (nth (spF w) 2) (by first|omega|(simp only[List.length_drop];omega)))))))))))))) ?_
       refine etd [] [(5,.cell 2 [.z (l4s (nth (nth (spF w) 0) 0)),.m 1 ((nth (spF w) 0).drop 1) rS,.m 1 (nth (spF w) 1) rS,.m 1 (nth (spF w) 2) rS,.m 1 (rnL (nth (spF w) 3)) rI,.nil])] (fun E=>d6 2 rfl) ?_
       exact rtE rfl (retRf (x:=rfV w) (a2H (by unfold rfH;rw[decide_eq_true (by omega),decide_eq_false (by omega)];rfl) (by simp only[g2,g3,g4,g5,Bool.true_and,Bool.false_and,Bool.and_true,Bool.and_false])))
      ·have g5p:=g5
       refine exd [8,10,12,14,16] [(5,.own 2 [.z (l4s (nth (nth (spF w) 0) 0)),.m 1 ((nth (spF w) 0).drop 1) rS,.m 1 (nth (spF w) 1) rS,.m 1 (nth (spF w) 2) rS,.m 1 (rnL (nth (spF w) 3)) rI,.nil] [.no,.no]),(6,.bool false)] [(3,.row (rSS (nth (spF w) 1))),(6,.row (rSS (nth (spF w) 2))),(10,.slot (.bool true)),(13,.slot (.bool true)),(17,.ret (.bool (fmB ((nth (spF w) 0).drop 1)))),(18,.slot (.bool true)),(21,.row (rSS (nth (spF w) 1))),(23,.ret (.bool (fmB (nth (spF w) 1)))),(24,.slot (.bool false))] (a2 (ixn rSS (spF w) 1) (a2 (ixn rSS (spF w) 2) (a2 (kB g2) (a2 (kB g3) (a2 (cl tx66 (r5 ((nth (spF w) 0).drop 1) (by first|omega|(simp only[List.length_drop];omega)))) (a2 (kB g4) (a2 (ixn rSS (spF w) 1) (a2 (cl tx66 (r5 (nth (spF w) 1) (by first|omega|(simp only[List.length_drop];omega)))) (kB g5))))))))) ?_
       refine etd [] [(5,.cell 2 [.z (l4s (nth (nth (spF w) 0) 0)),.m 1 ((nth (spF w) 0).drop 1) rS,.m 1 (nth (spF w) 1) rS,.m 1 (nth (spF w) 2) rS,.m 1 (rnL (nth (spF w) 3)) rI,.nil])] (fun E=>d6 2 rfl) ?_
       exact rtE rfl (retRf (x:=rfV w) (a2H (by unfold rfH;rw[decide_eq_true (by omega),decide_eq_false (by omega)];rfl) (by simp only[g2,g3,g4,g5,Bool.true_and,Bool.false_and,Bool.and_true,Bool.and_false])))
     ·have g4p:=g4
      refine exd [8,10,12,14,16] [(5,.own 2 [.z (l4s (nth (nth (spF w) 0) 0)),.m 1 ((nth (spF w) 0).drop 1) rS,.m 1 (nth (spF w) 1) rS,.m 1 (nth (spF w) 2) rS,.m 1 (rnL (nth (spF w) 3)) rI,.nil] [.no,.no]),(6,.bool false)] [(3,.row (rSS (nth (spF w) 1))),(6,.row (rSS (nth (spF w) 2))),(10,.slot (.bool true)),(13,.slot (.bool true)),(17,.ret (.bool (fmB ((nth (spF w) 0).drop 1)))),(18,.slot (.bool false))] (a2 (ixn rSS (spF w) 1) (a2 (ixn rSS (spF w) 2) (a2 (kB g2) (a2 (kB g3) (a2 (cl tx66 (r5 ((nth (spF w) 0).drop 1) (by first|omega|(simp only[List.length_drop];omega)))) (kB g4)))))) ?_
      refine etd [] [(5,.cell 2 [.z (l4s (nth (nth (spF w) 0) 0)),.m 1 ((nth (spF w) 0).drop 1) rS,.m 1 (nth (spF w) 1) rS,.m 1 (nth (spF w) 2) rS,.m 1 (rnL (nth (spF w) 3)) rI,.nil])] (fun E=>d6 2 rfl) ?_
      exact rtE rfl (retRf (x:=rfV w) (a2H (by unfold rfH;rw[decide_eq_true (by omega),decide_eq_false (by omega)];rfl) (by simp only[g2,g3,g4,Bool.true_and,Bool.false_and,Bool.and_true,Bool.and_false])))
    ·have g3p:=i5 g3
     refine exd [8,10,12,14,16] [(5,.own 2 [.z (l4s (nth (nth (spF w) 0) 0)),.m 1 ((nth (spF w) 0).drop 1) rS,.m 1 (nth (spF w) 1) rS,.m 1 (nth (spF w) 2) rS,.m 1 (rnL (nth (spF w) 3)) rI,.nil] [.no,.no]),(6,.bool false)] [(3,.row (rSS (nth (spF w) 1))),(6,.row (rSS (nth (spF w) 2))),(10,.slot (.bool true)),(13,.slot (.bool false))] (a2 (ixn rSS (spF w) 1) (a2 (ixn rSS (spF w) 2) (a2 (kB g2) (kB g3)))) ?_
     refine etd [] [(5,.cell 2 [.z (l4s (nth (nth (spF w) 0) 0)),.m 1 ((nth (spF w) 0).drop 1) rS,.m 1 (nth (spF w) 1) rS,.m 1 (nth (spF w) 2) rS,.m 1 (rnL (nth (spF w) 3)) rI,.nil])] (fun E=>d6 2 rfl) ?_
     exact rtE rfl (retRf (x:=rfV w) (a2H (by unfold rfH;rw[decide_eq_true (by omega),decide_eq_false (by omega)];rfl) (by simp only[g2,g3,Bool.true_and,Bool.false_and,Bool.and_true,Bool.and_false])))
   ·have g2p:=g2
    refine exd [8,10,12,14,16] [(5,.own 2 [.z (l4s (nth (nth (spF w) 0) 0)),.m 1 ((nth (spF w) 0).drop 1) rS,.m 1 (nth (spF w) 1) rS,.m 1 (nth (spF w) 2) rS,.m 1 (rnL (nth (spF w) 3)) rI,.nil] [.no,.no]),(6,.bool false)] [(3,.row (rSS (nth (spF w) 1))),(6,.row (rSS (nth (spF w) 2))),(10,.slot (.bool false))] (a2 (ixn rSS (spF w) 1) (a2 (ixn rSS (spF w) 2) (kB g2))) ?_
    refine etd [] [(5,.cell 2 [.z (l4s (nth (nth (spF w) 0) 0)),.m 1 ((nth (spF w) 0).drop 1) rS,.m 1 (nth (spF w) 1) rS,.m 1 (nth (spF w) 2) rS,.m 1 (rnL (nth (spF w) 3)) rI,.nil])] (fun E=>d6 2 rfl) ?_
    exact rtE rfl (retRf (x:=rfV w) (a2H (by unfold rfH;rw[decide_eq_true (by omega),decide_eq_false (by omega)];rfl) (by simp only[g2,Bool.true_and,Bool.false_and,Bool.and_true,Bool.and_false])))
end Go.Proofs.Ytjfjdgjhihgdkaa
