/- Part 13 of the proof of FnModuleGoesOn. -/
import Derived.Test.YtjfjdgjhihgdkaaA12
import Derived.KernelRfl
set_option linter.unusedVariables false
set_option linter.unusedSimpArgs false
set_option maxRecDepth 100000
namespace Go.Proofs.Ytjfjdgjhihgdkaa
open Go Go.RowKit V
theorem next_x (b:List UInt8)(q:Nat)(hb:b.length≤2000)(hq:q≤300000000000):
 ∃o r,(fun o s=>∃(q':Nat) (a:List Mod) (at':Int) (m:Mod),q'≤q+60000∧(∀x∈a,Tiny x)∧a.length≤3∧Tiny m∧(-1≤at'∧at'≤3)∧o= .cell obN [.im true (.sl 1 (b.map rB)),.im true (.int .i64 ((q':Nat):Int))]∧s= .tup [.lf (.im true (.sl 3 (a.map rMod))),.lf (.im true (.int .i64 at')),.agg [.im true (.sl 2 (m.records.map rRec)),.im true (.sl 6 (m.funcs.map rFn)),.im true (.sl 1 (m.friends.map rI))]]) o r∧CallM Try.prog 9 [] (.cell obN [.im true (.sl 1 (b.map rB)),.im true (.int .i64 ((q:Nat):Int))]) o r:=by
 refine CallME (fn:=Try.f9) TTok mixed Try.func9 rfl rfl rfl rfl rfl ?_
 refine ex [(0,.lf (.ptr obN 0)),(1,rdr b q),(8,.lf (.ptr 4 0)),(9,.cell 4 [.nil,.nil,.nil])] [] AllP.nil (by kernel_rfl) ?_
 obtain⟨_,_,⟨q1,a,hq1,hA,rfl,rfl⟩,cc1⟩:=a7y b q hb (by omega)
 have hal:=hA.len
 refine exd [] [(1,rdr b q1),(10,.lf (.m 3 a rMod))] [(1,.mth (rdl b q1) [] (.lf (.m 3 a rMod)))] (cl2 tx17 cc1) ?_
 refine a7 (exd [] [(30,.bool (decide ((a.length:Int)=0)))] [(1,.slot (.int (a.length:Int)))] (lnl a rMod) ?_)
 refine ecp (fun h1=> ?_) fun h1=> ?_
 ·obtain⟨_,_,⟨q2,x1,hq2,hM1,rfl,rfl⟩,cc2⟩:=I3 b q1 hb (by omega) a hA (by first|omega|(rw[List.length_take];omega))
  refine exd [10,30] [(1,rdr b q2),(4,.lf (.m 3 a rMod)),(6,.int 0),(9,.cell 4 [.m 2 x1.records rRec,.m 6 x1.funcs rFn,.m 1 x1.friends rI])] [(3,.mth (rdl b q2) [] (.agg [.m 2 x1.records rRec,.m 6 x1.funcs rFn,.m 1 x1.friends rI]))] (cl2 tx18 (CallM.lend cc2)) ?_
  exact rtM rfl (⟨_,a,0,⟨x1.records,x1.funcs,x1.friends⟩,by omega,hA.tiny,hA.len,(Tiny.of hM1),(by omega),rfl,rfl⟩)
 ·refine a5 ?_
  obtain⟨_,_,⟨x2,hx1,rfl,rfl⟩,cc3⟩:=e7 b q1 a.length hb (by omega) (by omega)
  refine exd [30] [(1,rdr b (q1+1)),(12,.int (x2:Int))] [(2,.slot (.int (a.length:Int))),(3,.mth (rdl b (q1+1)) [] (.int (x2:Int)))] (a2 (lnl a rMod) (cl2 tx19 cc3)) ?_
  have hat:x2<a.length:=by omega
  obtain⟨m0,hm0⟩:=u3 (l:=a) (i:=x2) hat
  have hM0:ModG (kindsOf a) x2 m0:=by rw[←J3 hm0];exact hA.mods _ hat
  have hT0:=Tiny.of hM0
  have hfl0:=hM0.fl
  have hrl0:=hM0.recs.len
  refine etd [] [(9,.own 4 [.nil,.nil,.nil] [.no,.no,.no])] (fun E=>I9 4 3 rfl) ?_
  rcases Classical.em (m0.records=[])with hne|hne
  ·have hrz:m0.records.length=0:=by rw[hne];rfl
   obtain⟨_,_,⟨rfl,rfl⟩,cc4⟩:=a45 m0 hT0.small hfl0 hne
   refine exd [] [(9,.own 4 [.hole,.hole,.hole] [.no,.mk 820002 0 45 6 (m0.funcs.map rFn),.no]),(14,.lf (.ptr 7 0)),(15,.cell 7 [.im true .nl,.hd 820002 ((m0.funcs.map rFn).length) 0,.m 1 m0.friends rI])] [(2,.row (rMod m0)),(4,.cg 4 (.own obN [.hole,.hole,.hole] [.no,.mk (obN+2) 0 45 6 (m0.funcs.map rFn),.no]) (.agg [.im true .nl,.hd (obN+2) ((m0.funcs.map rFn).length) 0,.m 1 m0.friends rI]) [(obN+2)] [820002])] (a2 (ixh rMod hm0) (cgT tx20 cc4)) ?_
   obtain⟨_,_,⟨x3,hx2,rfl,rfl⟩,cc5⟩:=e7 b (q1+1) 7 hb (by omega) (by omega)
   refine exd [] [(1,rdr b (q1+1+1)),(16,.int (x3:Int))] [(1,.mth (rdl b (q1+1+1)) [] (.int (x3:Int)))] (cl2 tx19 cc5) ?_
   refine a7 (exn [] [(64,.bool (decide ((x3:Int)=0)))] ?_)
   refine ecp (fun h2=> ?_) fun h2=> ?_
   ·obtain⟨_,_,⟨q3,x4,hq3,hM2,rfl,rfl⟩,cc6⟩:=I3 b (q1+1+1) hb (by omega) (a.take x2) (hA.take (by omega)) (by first|omega|(rw[List.length_take];omega))
    refine exed [16,64] [(1,rdr b q3),(15,.cell 7 [.m 2 x4.records rRec,.m 6 x4.funcs rFn,.m 1 x4.friends rI])] [(3,.cut 0 x2 (.lf (.m 3 (a.take x2) rMod))),(4,.mth (rdl b q3) [] (.agg [.m 2 x4.records rRec,.m 6 x4.funcs rFn,.m 1 x4.friends rI]))] (a2 (cutTo (f:=rMod) (l:=a) (sz:=3) (h:=x2) (hi:=(x2:Int)) rfl (by omega)) (cl2 tx18 (CallM.lend cc6))) ?_
    refine a7 ?_
    obtain⟨_,_,⟨x5,hx3,rfl,rfl⟩,cc7⟩:=e7 b q3 20 hb (by omega) (by omega)
    refine exd [] [(1,rdr b (q3+1)),(290,.bool (decide ((x5:Int)=0)))] [(1,.mth (rdl b (q3+1)) [] (.int (x5:Int)))] (cl2 tx19 cc7) ?_
    refine ecp (fun h3=> ?_) fun h3=> ?_
    ·obtain⟨_,_,⟨t1,ht1,rfl,rfl⟩,cc8⟩:=u0 b (q3+1) hb (by omega) [(-1),3] (by decide) (by decide)
     refine exed [290] [(1,rdr b (q3+1+1)),(12,.int t1)] [(1,.slot (.lf (.m 1 [(-1),3] rI))),(2,.mth (rdl b (q3+1+1)) [] (.int t1))] (a2 (a1 (show([[.int .i64 (-1)],[.int .i64 3]]:List (List SV))=([(-1),3].map rI)from rfl)) (cl2 tx23 cc8)) ?_
     refine etd [] [(9,.cell 4 [.hole,.hole,.hole])] (fun E=>d6 4 rfl) ?_
     refine exn [10,12,14,15] [(4,.lf (.m 3 a rMod)),(6,.int t1),(9,.cell 4 [.m 2 x4.records rRec,.m 6 x4.funcs rFn,.m 1 x4.friends rI])] ?_
     exact rtM rfl (⟨_,a,t1,⟨x4.records,x4.funcs,x4.friends⟩,by omega,hA.tiny,hA.len,(Tiny.of hM2),(numAt ht1),rfl,rfl⟩)
    ·refine a5 (etd [] [(9,.cell 4 [.hole,.hole,.hole])] (fun E=>d6 4 rfl) ?_)
     refine exn [10,12,14,15,290] [(4,.lf (.m 3 a rMod)),(6,.int (x2:Int)),(9,.cell 4 [.m 2 x4.records rRec,.m 6 x4.funcs rFn,.m 1 x4.friends rI])] ?_
     exact rtM rfl (⟨_,a,(x2:Int),⟨x4.records,x4.funcs,x4.friends⟩,by omega,hA.tiny,hA.len,(Tiny.of hM2),(by omega),rfl,rfl⟩)
   ·obtain⟨zc,hz⟩:∃c,c=((decide ((x3:Int)=1))&&(decide ((m0.funcs.length:Int)<4))):=⟨_,rfl⟩
    refine ejd [64] [(90,.bool zc)] (by
     rcases bft (decide ((((x3:Nat):Int):Int)=1))with g1|g1
     ·have g1p:=d5 g1
      exact runJ [(1,.slot (.bool true)),(5,.slot (.int (m0.funcs.length:Int))),(7,.slot (.bool zc))] (a2 (kB g1) (a2 (lnl m0.funcs rFn) (kBs (decide ((m0.funcs.length:Int)<4)) zc)))
     ·have g1p:=i5 g1
      exact runJ [(1,.slot (.bool false)),(7,.slot (.bool zc))] (a2 (kB g1) (kBs false zc))) ?_
    subst hz
    refine ecd (fun h4=> ?_) fun h4=> ?_
    ·have h4a:=d5 (Bool.and_eq_true_iff.1 h4).1
     have h4b:=d5 (Bool.and_eq_true_iff.1 h4).2
     obtain⟨_,_,⟨q4,f1,hq4,hh1,hcd1,rfl,rfl⟩,cc9⟩:=O5 b (q1+1+1) hb (by omega) (kindsOf a) 0 hA.few (by omega)
     refine exed [16,90] [(1,rdr b q4),(9,.own 4 [.hole,.hole,.hole] [.no,.mk 820012 0 45 6 ((m0.funcs++[f1]).map rFn),.no]),(15,.cell 7 [.im true .nl,.hd 820012 ((((m0.funcs++[f1]).map rFn):List (List SV)).length) 0,.m 1 m0.friends rI])] [(4,.ret (.lf (.m 1 (kindsOf a) rRecs))),(5,.mth (rdl b q4) [] (.agg [.z f1.seen,.m 1 f1.args rS,.m 1 f1.rets rS,.m 1 f1.locals rS,.m 1 f1.takes rI,.m 3 f1.code rIns])),(6,.im),(7,.gap 820012 4 1 ((m0.funcs++[f1]).map rFn))] (a2 (cl tx22 (CallV.lend (A4 a hA.small))) (a2 (cl2 tx21 cc9) (gapH (rows:=(m0.funcs.map rFn)) (rows2:=[[.int .i64 f1.seen,.sl 1 (f1.args.map rS),.sl 1 (f1.rets.map rS),.sl 1 (f1.locals.map rS),.sl 1 (f1.takes.map rI),.sl 3 (f1.code.map rIns)]]) (rows3:=((m0.funcs++[f1]).map rFn)) (n:=(m0.funcs.map rFn).length) (bytes:=128) (kt:=47) (y:= .tmp 52) (by rw[List.map_append];rfl) (by simp) (by simp;omega) (by decide) (by simp) (by simp)))) ?_
     refine a7 (esw 820012 820002 [] [(9,.own 4 [.hole,.hole,.hole] [.no,.mk 820002 0 45 6 ((m0.funcs++[f1]).map rFn),.no]),(15,.cell 7 [.im true .nl,.hd 820002 ((((m0.funcs++[f1]).map rFn):List (List SV)).length) 0,.m 1 m0.friends rI])] ?_)
     obtain⟨_,_,⟨x6,hx4,rfl,rfl⟩,cc10⟩:=e7 b q4 20 hb (by omega) (by omega)
     refine exd [] [(1,rdr b (q4+1)),(290,.bool (decide ((x6:Int)=0)))] [(1,.mth (rdl b (q4+1)) [] (.int (x6:Int)))] (cl2 tx19 cc10) ?_
     refine ecp (fun h5=> ?_) fun h5=> ?_
     ·obtain⟨_,_,⟨t2,ht2,rfl,rfl⟩,cc11⟩:=u0 b (q4+1) hb (by omega) [(-1),3] (by decide) (by decide)
      refine exed [290] [(1,rdr b (q4+1+1)),(12,.int t2)] [(1,.slot (.lf (.m 1 [(-1),3] rI))),(2,.mth (rdl b (q4+1+1)) [] (.int t2))] (a2 (a1 (show([[.int .i64 (-1)],[.int .i64 3]]:List (List SV))=([(-1),3].map rI)from rfl)) (cl2 tx23 cc11)) ?_
      refine etd [] [(15,.cell 7 [.m 2 ([]:List Rec) rRec,.hd 820002 ((((m0.funcs++[f1]).map rFn):List (List SV)).length) 0,.m 1 m0.friends rI])] (fun E=>Z3 7 0 2 rfl rfl) ?_
      refine etd [] [(9,.own 4 [.hole,.hole,.hole] [.no,.no,.no]),(15,.cell 7 [.m 2 ([]:List Rec) rRec,.m 6 (m0.funcs++[f1]) rFn,.m 1 m0.friends rI])] (fun E=>l9 4 7 1 1 rfl rfl rfl rfl (by simp) rfl) ?_
      refine etd [] [(9,.cell 4 [.hole,.hole,.hole])] (fun E=>d6 4 rfl) ?_
      refine exn [10,12,14,15] [(4,.lf (.m 3 a rMod)),(6,.int t2),(9,.cell 4 [.m 2 ([]:List Rec) rRec,.m 6 (m0.funcs++[f1]) rFn,.m 1 m0.friends rI])] ?_
      exact rtM rfl (⟨_,a,t2,⟨([]:List Rec),m0.funcs++[f1],m0.friends⟩,by omega,hA.tiny,hA.len,((hT0.rnil hne).addFn (by omega) (hh1.t (by omega) (by rw[hcd1];decide))),(numAt ht2),rfl,rfl⟩)
     ·refine a5 (etd [] [(15,.cell 7 [.m 2 ([]:List Rec) rRec,.hd 820002 ((((m0.funcs++[f1]).map rFn):List (List SV)).length) 0,.m 1 m0.friends rI])] (fun E=>Z3 7 0 2 rfl rfl) ?_)
      refine etd [] [(9,.own 4 [.hole,.hole,.hole] [.no,.no,.no]),(15,.cell 7 [.m 2 ([]:List Rec) rRec,.m 6 (m0.funcs++[f1]) rFn,.m 1 m0.friends rI])] (fun E=>l9 4 7 1 1 rfl rfl rfl rfl (by simp) rfl) ?_
      refine etd [] [(9,.cell 4 [.hole,.hole,.hole])] (fun E=>d6 4 rfl) ?_
      refine exn [10,12,14,15,290] [(4,.lf (.m 3 a rMod)),(6,.int (x2:Int)),(9,.cell 4 [.m 2 ([]:List Rec) rRec,.m 6 (m0.funcs++[f1]) rFn,.m 1 m0.friends rI])] ?_
      exact rtM rfl (⟨_,a,(x2:Int),⟨([]:List Rec),m0.funcs++[f1],m0.friends⟩,by omega,hA.tiny,hA.len,((hT0.rnil hne).addFn (by omega) (hh1.t (by omega) (by rw[hcd1];decide))),(by omega),rfl,rfl⟩)
    ·obtain⟨zc,hz⟩:∃c,c=((decide ((x3:Int)=2))&&(decide ((m0.funcs.length:Int)>0))):=⟨_,rfl⟩
     refine ejd [90] [(124,.bool zc)] (by
      rcases bft (decide ((((x3:Nat):Int):Int)=2))with g2|g2
      ·have g2p:=d5 g2
       exact runJ [(1,.slot (.bool true)),(5,.slot (.int (m0.funcs.length:Int))),(7,.slot (.bool zc))] (a2 (kB g2) (a2 (lnl m0.funcs rFn) (kBs (decide ((m0.funcs.length:Int)>0)) zc)))
      ·have g2p:=i5 g2
       exact runJ [(1,.slot (.bool false)),(7,.slot (.bool zc))] (a2 (kB g2) (kBs false zc))) ?_
     subst hz
     refine ecd (fun h6=> ?_) fun h6=> ?_
     ·have h6a:=d5 (Bool.and_eq_true_iff.1 h6).1
      have h6b:=d5 (Bool.and_eq_true_iff.1 h6).2
      obtain⟨_,_,⟨x7,hx5,rfl,rfl⟩,cc12⟩:=e7 b (q1+1+1) m0.funcs.length hb (by omega) (by omega)
      obtain⟨_,_,⟨x8,hx6,rfl,rfl⟩,cc13⟩:=e7 b (q1+1+1+1) 3 hb (by omega) (by omega)
      refine exed [16,124] [(1,rdr b (q1+1+1+1+1)),(9,.own 4 [.hole,.hole,.hole] [.no,.mk 820002 0 45 6 ((m0.funcs.set x7 ({(nth m0.funcs x7)with seen:=(x8:Int)})).map rFn),.no])] [(5,.slot (.int (m0.funcs.length:Int))),(6,.mth (rdl b (q1+1+1+1)) [] (.int (x7:Int))),(8,.mth (rdl b (q1+1+1+1+1)) [] (.int (x8:Int))),(11,.elem x7 0 (rFn (nth m0.funcs x7)) (some ((m0.funcs.set x7 ({(nth m0.funcs x7)with seen:=(x8:Int)})).map rFn)))] (a2 (lnl m0.funcs rFn) (a2 (cl2 tx19 cc12) (a2 (cl2 tx19 cc13) (a2 (ixu (i:=x7) (n:=(m0.funcs.map rFn).length) (by first|omega|(simp;done)|(simp;omega))) (stT (f:=rFn) (l:=m0.funcs) (i:=x7) (j:=0) (n:=1) (sz:=6) (off:=(x7:Int).toNat*6+0) (y:={(nth m0.funcs x7)with seen:=(x8:Int)}) (new:=[.int .i64 (x8:Int)]) (j6 (l:=m0.funcs) (i:=x7) (by first|omega|(simp;omega))) (by omega) (by omega) rfl (rfl)))))) ?_
      refine a7 ?_
      obtain⟨_,_,⟨x9,hx7,rfl,rfl⟩,cc14⟩:=e7 b (q1+1+1+1+1) 20 hb (by omega) (by omega)
      refine exd [] [(1,rdr b (q1+1+1+1+1+1)),(290,.bool (decide ((x9:Int)=0)))] [(1,.mth (rdl b (q1+1+1+1+1+1)) [] (.int (x9:Int)))] (cl2 tx19 cc14) ?_
      refine ecp (fun h7=> ?_) fun h7=> ?_
      ·obtain⟨_,_,⟨t3,ht3,rfl,rfl⟩,cc15⟩:=u0 b (q1+1+1+1+1+1) hb (by omega) [(-1),3] (by decide) (by decide)
       refine exed [290] [(1,rdr b (q1+1+1+1+1+1+1)),(12,.int t3)] [(1,.slot (.lf (.m 1 [(-1),3] rI))),(2,.mth (rdl b (q1+1+1+1+1+1+1)) [] (.int t3))] (a2 (a1 (show([[.int .i64 (-1)],[.int .i64 3]]:List (List SV))=([(-1),3].map rI)from rfl)) (cl2 tx23 cc15)) ?_
       refine etd [] [(15,.cell 7 [.m 2 ([]:List Rec) rRec,.hd 820002 ((m0.funcs.map rFn).length) 0,.m 1 m0.friends rI])] (fun E=>Z3 7 0 2 rfl rfl) ?_
       refine etd [] [(9,.own 4 [.hole,.hole,.hole] [.no,.no,.no]),(15,.cell 7 [.m 2 ([]:List Rec) rRec,.m 6 (m0.funcs.set x7 ({(nth m0.funcs x7)with seen:=(x8:Int)})) rFn,.m 1 m0.friends rI])] (fun E=>l9 4 7 1 1 rfl rfl rfl rfl (by simp) rfl) ?_
       refine etd [] [(9,.cell 4 [.hole,.hole,.hole])] (fun E=>d6 4 rfl) ?_
       refine exn [10,12,14,15] [(4,.lf (.m 3 a rMod)),(6,.int t3),(9,.cell 4 [.m 2 ([]:List Rec) rRec,.m 6 (m0.funcs.set x7 ({(nth m0.funcs x7)with seen:=(x8:Int)})) rFn,.m 1 m0.friends rI])] ?_
       exact rtM rfl (⟨_,a,t3,⟨([]:List Rec),(m0.funcs.set x7 ({(nth m0.funcs x7)with seen:=(x8:Int)})),m0.friends⟩,by omega,hA.tiny,hA.len,((hT0.rnil hne).setFn (hT0.fns.2 (nth m0.funcs x7) (c6 (l:=m0.funcs) (i:=x7) (by omega)))),(numAt ht3),rfl,rfl⟩)
      ·refine a5 (etd [] [(15,.cell 7 [.m 2 ([]:List Rec) rRec,.hd 820002 ((m0.funcs.map rFn).length) 0,.m 1 m0.friends rI])] (fun E=>Z3 7 0 2 rfl rfl) ?_)
       refine etd [] [(9,.own 4 [.hole,.hole,.hole] [.no,.no,.no]),(15,.cell 7 [.m 2 ([]:List Rec) rRec,.m 6 (m0.funcs.set x7 ({(nth m0.funcs x7)with seen:=(x8:Int)})) rFn,.m 1 m0.friends rI])] (fun E=>l9 4 7 1 1 rfl rfl rfl rfl (by simp) rfl) ?_
       refine etd [] [(9,.cell 4 [.hole,.hole,.hole])] (fun E=>d6 4 rfl) ?_
       refine exn [10,12,14,15,290] [(4,.lf (.m 3 a rMod)),(6,.int (x2:Int)),(9,.cell 4 [.m 2 ([]:List Rec) rRec,.m 6 (m0.funcs.set x7 ({(nth m0.funcs x7)with seen:=(x8:Int)})) rFn,.m 1 m0.friends rI])] ?_
       exact rtM rfl (⟨_,a,(x2:Int),⟨([]:List Rec),(m0.funcs.set x7 ({(nth m0.funcs x7)with seen:=(x8:Int)})),m0.friends⟩,by omega,hA.tiny,hA.len,((hT0.rnil hne).setFn (hT0.fns.2 (nth m0.funcs x7) (c6 (l:=m0.funcs) (i:=x7) (by omega)))),(by omega),rfl,rfl⟩)
     ·refine ejd [124] [(162,.bool false)] (by
       rcases bft (decide ((((x3:Nat):Int):Int)=3))with g3|g3
       ·have g3p:=d5 g3
        exact runJ [(1,.slot (.bool true)),(6,.slot (.bool false))] (a2 (kB g3) (kB (decide_eq_false (show¬((0:Nat):Int)>0 by omega))))
       ·have g3p:=i5 g3
        exact runJ [(1,.slot (.bool false))] (kB g3)) ?_
      refine ecF rfl ?_
      obtain⟨zc,hz⟩:∃c,c=((decide ((x3:Int)=4))&&(decide ((0:Int)<3))):=⟨_,rfl⟩
      refine ejd [162] [(202,.bool zc)] (by
       rcases bft (decide ((((x3:Nat):Int):Int)=4))with g4|g4
       ·have g4p:=d5 g4
        exact runJ [(1,.slot (.bool true)),(7,.slot (.bool zc))] (a2 (kB g4) (kBs (decide ((0:Int)<3)) zc))
       ·have g4p:=i5 g4
        exact runJ [(1,.slot (.bool false)),(7,.slot (.bool zc))] (a2 (kB g4) (kBs false zc))) ?_
      subst hz
      refine ecd (fun h9=> ?_) fun h9=> ?_
      ·have h9a:=d5 (Bool.and_eq_true_iff.1 h9).1
       have h9b:=d5 (Bool.and_eq_true_iff.1 h9).2
       refine exed [16,202] [(9,.own 4 [.hole,.hole,.hole] [.mk 820001 0 41 2 ([(⟨12,[B0]⟩:Rec)].map rRec),.mk 820002 0 45 6 (m0.funcs.map rFn),.no]),(15,.cell 7 [.hd 820001 ((([(⟨12,[B0]⟩:Rec)].map rRec):List (List SV)).length) 0,.hd 820002 ((m0.funcs.map rFn).length) 0,.m 1 m0.friends rI])] [(2,.slot (.lf (.m 1 [B0] rS))),(4,.im),(5,.gap 820001 4 0 ([(⟨12,[B0]⟩:Rec)].map rRec))] (a2 (a1 (show([[.str B0]]:List (List SV))=([B0].map rS)from rfl)) (gapZ (rows2:=[[.int .i64 12,.sl 1 ([B0].map rS)]]) (rows3:=([(⟨12,[B0]⟩:Rec)].map rRec)) (bytes:=32) (by rfl) (by simp) (by decide) (by simp))) ?_
       refine a7 ?_
       obtain⟨_,_,⟨x10,hx8,rfl,rfl⟩,cc16⟩:=e7 b (q1+1+1) 20 hb (by omega) (by omega)
       refine exd [] [(1,rdr b (q1+1+1+1)),(290,.bool (decide ((x10:Int)=0)))] [(1,.mth (rdl b (q1+1+1+1)) [] (.int (x10:Int)))] (cl2 tx19 cc16) ?_
       refine ecp (fun h10=> ?_) fun h10=> ?_
       ·obtain⟨_,_,⟨t4,ht4,rfl,rfl⟩,cc17⟩:=u0 b (q1+1+1+1) hb (by omega) [(-1),3] (by decide) (by decide)
        refine exed [290] [(1,rdr b (q1+1+1+1+1)),(12,.int t4)] [(1,.slot (.lf (.m 1 [(-1),3] rI))),(2,.mth (rdl b (q1+1+1+1+1)) [] (.int t4))] (a2 (a1 (show([[.int .i64 (-1)],[.int .i64 3]]:List (List SV))=([(-1),3].map rI)from rfl)) (cl2 tx23 cc17)) ?_
        refine etd [] [(9,.own 4 [.hole,.hole,.hole] [.no,.mk 820002 0 45 6 (m0.funcs.map rFn),.no]),(15,.cell 7 [.m 2 [(⟨12,[B0]⟩:Rec)] rRec,.hd 820002 ((m0.funcs.map rFn).length) 0,.m 1 m0.friends rI])] (fun E=>l9 4 7 0 0 rfl rfl rfl rfl (by simp) rfl) ?_
        refine etd [] [(9,.own 4 [.hole,.hole,.hole] [.no,.no,.no]),(15,.cell 7 [.m 2 [(⟨12,[B0]⟩:Rec)] rRec,.m 6 m0.funcs rFn,.m 1 m0.friends rI])] (fun E=>l9 4 7 1 1 rfl rfl rfl rfl (by simp) rfl) ?_
        refine etd [] [(9,.cell 4 [.hole,.hole,.hole])] (fun E=>d6 4 rfl) ?_
        refine exn [10,12,14,15] [(4,.lf (.m 3 a rMod)),(6,.int t4),(9,.cell 4 [.m 2 [(⟨12,[B0]⟩:Rec)] rRec,.m 6 m0.funcs rFn,.m 1 m0.friends rI])] ?_
        exact rtM rfl (⟨_,a,t4,⟨[(⟨12,[B0]⟩:Rec)],m0.funcs,m0.friends⟩,by omega,hA.tiny,hA.len,((hT0.rnil hne).addRec (by simp) (by decide)),(numAt ht4),rfl,rfl⟩)
       ·refine a5 (etd [] [(9,.own 4 [.hole,.hole,.hole] [.no,.mk 820002 0 45 6 (m0.funcs.map rFn),.no]),(15,.cell 7 [.m 2 [(⟨12,[B0]⟩:Rec)] rRec,.hd 820002 ((m0.funcs.map rFn).length) 0,.m 1 m0.friends rI])] (fun E=>l9 4 7 0 0 rfl rfl rfl rfl (by simp) rfl) ?_)
        refine etd [] [(9,.own 4 [.hole,.hole,.hole] [.no,.no,.no]),(15,.cell 7 [.m 2 [(⟨12,[B0]⟩:Rec)] rRec,.m 6 m0.funcs rFn,.m 1 m0.friends rI])] (fun E=>l9 4 7 1 1 rfl rfl rfl rfl (by simp) rfl) ?_
        refine etd [] [(9,.cell 4 [.hole,.hole,.hole])] (fun E=>d6 4 rfl) ?_
        refine exn [10,12,14,15,290] [(4,.lf (.m 3 a rMod)),(6,.int (x2:Int)),(9,.cell 4 [.m 2 [(⟨12,[B0]⟩:Rec)] rRec,.m 6 m0.funcs rFn,.m 1 m0.friends rI])] ?_
        exact rtM rfl (⟨_,a,(x2:Int),⟨[(⟨12,[B0]⟩:Rec)],m0.funcs,m0.friends⟩,by omega,hA.tiny,hA.len,((hT0.rnil hne).addRec (by simp) (by decide)),(by omega),rfl,rfl⟩)
      ·obtain⟨zc,hz⟩:∃c,c=((decide ((x3:Int)>4))&&(decide ((m0.funcs.length:Int)>0))):=⟨_,rfl⟩
       refine ejd [16,202] [(232,.bool zc)] (by
        rcases bft (decide ((((x3:Nat):Int):Int)>4))with g5|g5
        ·have g5p:=d5 g5
         exact runJ [(1,.slot (.bool true)),(5,.slot (.int (m0.funcs.length:Int))),(7,.slot (.bool zc))] (a2 (kB g5) (a2 (lnl m0.funcs rFn) (kBs (decide ((m0.funcs.length:Int)>0)) zc)))
        ·have g5p:=i5 g5
         exact runJ [(1,.slot (.bool false)),(7,.slot (.bool zc))] (a2 (kB g5) (kBs false zc))) ?_
       subst hz
       refine ecd (fun h11=> ?_) fun h11=> ?_
       ·have h11a:=d5 (Bool.and_eq_true_iff.1 h11).1
        have h11b:=d5 (Bool.and_eq_true_iff.1 h11).2
        obtain⟨_,_,⟨x11,hx9,rfl,rfl⟩,cc18⟩:=e7 b (q1+1+1) m0.funcs.length hb (by omega) (by omega)
        refine exd [232] [(1,rdr b (q1+1+1+1)),(18,.int (x11:Int))] [(3,.slot (.int (m0.funcs.length:Int))),(4,.mth (rdl b (q1+1+1+1)) [] (.int (x11:Int)))] (a2 (lnl m0.funcs rFn) (cl2 tx19 cc18)) ?_
        refine exd [] [(20,.lf (.u 122 0 27 3 (a.map rMod)))] [(2,.slot (.lf (.u 122 0 27 3 (a.map rMod))))] (a2 (a1 (show([]++(a.map rMod):List (List SV))=(a.map rMod)by rfl)) (ap (a:=([]:List (List SV)).length+((a.map rMod):List (List SV)).length) (b:=72) (by first|(simp;done)|(simp;omega)) (by unfold maxLen;first|(simp;done)|(simp;omega)))) ?_
        refine etd [] [(15,.cell 7 [.m 2 ([]:List Rec) rRec,.hd 820002 ((m0.funcs.map rFn).length) 0,.m 1 m0.friends rI])] (fun E=>Z3 7 0 2 rfl rfl) ?_
        refine exd [] [(20,.lf (.nst 3 ((a.map rMod).set x2 [.sl 2 (([]:List Rec).map rRec),.sl 6 [],.sl 1 (m0.friends.map rI)]) x2 1 820002 ((m0.funcs.map rFn).length) 0))] [(4,.nsw [rMod m0] x2 (.sl 6 []))] (a2 (ixu (i:=x2) (n:=(a.map rMod).length) (by first|omega|(simp;done)|(simp;omega))) (hstN (rows:=a.map rMod) (r:=rMod m0) (i:=x2) (sz:=3) (off:=(x2:Int).toNat*3) (n2:=(m0.funcs.map rFn).length) (by rw[List.getElem?_map,hm0];rfl) rfl (by omega) (by simp only[List.length_map];omega))) ?_
        have hfn1:=hM0.fns _ (c6 (l:=m0.funcs) (i:=x11) (by omega))
        obtain⟨_,_,⟨q5,l1,hq5,hl1,rfl,rfl⟩,cc19⟩:=a5B b (q1+1+1+1) hb (by omega) a (kindsOf a) x2 (nth m0.funcs x11) _ (hA.c7 hat hfn1.hd) (hA.own hat) rfl hA.small (fun u hu=>(hfn1.hd.rets.2 u hu).1) hfn1.hd.args.2
        have hc1:=CallM.nst (rows:=putHd ((a.map rMod).set x2 [.sl 2 (([]:List Rec).map rRec),.sl 6 [],.sl 1 (m0.friends.map rI)]) x2 1 (.sl 6 (m0.funcs.map rFn))) (a3m hm0 hne) cc19
        refine exed [18,20] [(1,rdr b q5),(9,.own 4 [.hole,.hole,.hole] [.no,.mk 820002 0 45 6 ((m0.funcs.set x11 ({(nth m0.funcs x11)with code:=l1})).map rFn),.no])] [(10,.elem x11 0 (rFn (nth m0.funcs x11)) none),(11,.mth (rdl b q5) [] (.lf (.m 3 l1 rIns))),(14,.elem x11 5 (rFn (nth m0.funcs x11)) (some ((m0.funcs.set x11 ({(nth m0.funcs x11)with code:=l1})).map rFn)))] (a2 (ixu (i:=x11) (n:=(m0.funcs.map rFn).length) (by first|omega|(simp;done)|(simp;omega))) (a2 (elT (f:=rFn) (l:=m0.funcs) (i:=x11) (j:=0) (n:=6) (sz:=6) (off:=(x11:Int).toNat*6) (j6 (l:=m0.funcs) (i:=x11) (by first|omega|(simp;omega))) (by omega) (by omega)) (a2 (a1 (show((m0.funcs.map rFn).length:Nat)=((m0.funcs.map rFn):List (List SV)).length by rfl)) (a2 (cl2 tx24 hc1) (a2 (ixu (i:=x11) (n:=(m0.funcs.map rFn).length) (by first|omega|(simp;done)|(simp;omega))) (stT (f:=rFn) (l:=m0.funcs) (i:=x11) (j:=5) (n:=1) (sz:=6) (off:=(x11:Int).toNat*6+5) (y:={(nth m0.funcs x11)with code:=l1}) (new:=[.sl 3 (l1.map rIns)]) (j6 (l:=m0.funcs) (i:=x11) (by first|omega|(simp;omega))) (by omega) (by omega) rfl (rfl))))))) ?_
        refine a7 ?_
        obtain⟨_,_,⟨x12,hx10,rfl,rfl⟩,cc20⟩:=e7 b q5 20 hb (by omega) (by omega)
        refine exd [] [(1,rdr b (q5+1)),(290,.bool (decide ((x12:Int)=0)))] [(1,.mth (rdl b (q5+1)) [] (.int (x12:Int)))] (cl2 tx19 cc20) ?_
        refine ecp (fun h12=> ?_) fun h12=> ?_
        ·obtain⟨_,_,⟨t5,ht5,rfl,rfl⟩,cc21⟩:=u0 b (q5+1) hb (by omega) [(-1),3] (by decide) (by decide)
         refine exed [290] [(1,rdr b (q5+1+1)),(12,.int t5)] [(1,.slot (.lf (.m 1 [(-1),3] rI))),(2,.mth (rdl b (q5+1+1)) [] (.int t5))] (a2 (a1 (show([[.int .i64 (-1)],[.int .i64 3]]:List (List SV))=([(-1),3].map rI)from rfl)) (cl2 tx23 cc21)) ?_
         refine etd [] [(9,.own 4 [.hole,.hole,.hole] [.no,.no,.no]),(15,.cell 7 [.m 2 ([]:List Rec) rRec,.m 6 (m0.funcs.set x11 ({(nth m0.funcs x11)with code:=l1})) rFn,.m 1 m0.friends rI])] (fun E=>l9 4 7 1 1 rfl rfl rfl rfl (by simp) rfl) ?_
         refine etd [] [(9,.cell 4 [.hole,.hole,.hole])] (fun E=>d6 4 rfl) ?_
         refine exn [10,12,14,15] [(4,.lf (.m 3 a rMod)),(6,.int t5),(9,.cell 4 [.m 2 ([]:List Rec) rRec,.m 6 (m0.funcs.set x11 ({(nth m0.funcs x11)with code:=l1})) rFn,.m 1 m0.friends rI])] ?_
         exact rtM rfl (⟨_,a,t5,⟨([]:List Rec),(m0.funcs.set x11 ({(nth m0.funcs x11)with code:=l1})),m0.friends⟩,by omega,hA.tiny,hA.len,((hT0.rnil hne).setFn ((hfn1.hd.code l1).t (Nat.le_refl _) hl1.t)),(numAt ht5),rfl,rfl⟩)
        ·refine a5 (etd [] [(9,.own 4 [.hole,.hole,.hole] [.no,.no,.no]),(15,.cell 7 [.m 2 ([]:List Rec) rRec,.m 6 (m0.funcs.set x11 ({(nth m0.funcs x11)with code:=l1})) rFn,.m 1 m0.friends rI])] (fun E=>l9 4 7 1 1 rfl rfl rfl rfl (by simp) rfl) ?_)
         refine etd [] [(9,.cell 4 [.hole,.hole,.hole])] (fun E=>d6 4 rfl) ?_
         refine exn [10,12,14,15,290] [(4,.lf (.m 3 a rMod)),(6,.int (x2:Int)),(9,.cell 4 [.m 2 ([]:List Rec) rRec,.m 6 (m0.funcs.set x11 ({(nth m0.funcs x11)with code:=l1})) rFn,.m 1 m0.friends rI])] ?_
         exact rtM rfl (⟨_,a,(x2:Int),⟨([]:List Rec),(m0.funcs.set x11 ({(nth m0.funcs x11)with code:=l1})),m0.friends⟩,by omega,hA.tiny,hA.len,((hT0.rnil hne).setFn ((hfn1.hd.code l1).t (Nat.le_refl _) hl1.t)),(by omega),rfl,rfl⟩)
       ·refine a5 ?_
        refine a7 ?_
        obtain⟨_,_,⟨x13,hx11,rfl,rfl⟩,cc22⟩:=e7 b (q1+1+1) 20 hb (by omega) (by omega)
        refine exd [232] [(1,rdr b (q1+1+1+1)),(290,.bool (decide ((x13:Int)=0)))] [(1,.mth (rdl b (q1+1+1+1)) [] (.int (x13:Int)))] (cl2 tx19 cc22) ?_
        refine ecp (fun h13=> ?_) fun h13=> ?_
        ·obtain⟨_,_,⟨t6,ht6,rfl,rfl⟩,cc23⟩:=u0 b (q1+1+1+1) hb (by omega) [(-1),3] (by decide) (by decide)
         refine exed [290] [(1,rdr b (q1+1+1+1+1)),(12,.int t6)] [(1,.slot (.lf (.m 1 [(-1),3] rI))),(2,.mth (rdl b (q1+1+1+1+1)) [] (.int t6))] (a2 (a1 (show([[.int .i64 (-1)],[.int .i64 3]]:List (List SV))=([(-1),3].map rI)from rfl)) (cl2 tx23 cc23)) ?_
         refine etd [] [(15,.cell 7 [.m 2 ([]:List Rec) rRec,.hd 820002 ((m0.funcs.map rFn).length) 0,.m 1 m0.friends rI])] (fun E=>Z3 7 0 2 rfl rfl) ?_
         refine etd [] [(9,.own 4 [.hole,.hole,.hole] [.no,.no,.no]),(15,.cell 7 [.m 2 ([]:List Rec) rRec,.m 6 m0.funcs rFn,.m 1 m0.friends rI])] (fun E=>l9 4 7 1 1 rfl rfl rfl rfl (by simp) rfl) ?_
         refine etd [] [(9,.cell 4 [.hole,.hole,.hole])] (fun E=>d6 4 rfl) ?_
         refine exn [10,12,14,15] [(4,.lf (.m 3 a rMod)),(6,.int t6),(9,.cell 4 [.m 2 ([]:List Rec) rRec,.m 6 m0.funcs rFn,.m 1 m0.friends rI])] ?_
         exact rtM rfl (⟨_,a,t6,⟨([]:List Rec),m0.funcs,m0.friends⟩,by omega,hA.tiny,hA.len,(hT0.rnil hne),(numAt ht6),rfl,rfl⟩)
        ·refine a5 (etd [] [(15,.cell 7 [.m 2 ([]:List Rec) rRec,.hd 820002 ((m0.funcs.map rFn).length) 0,.m 1 m0.friends rI])] (fun E=>Z3 7 0 2 rfl rfl) ?_)
         refine etd [] [(9,.own 4 [.hole,.hole,.hole] [.no,.no,.no]),(15,.cell 7 [.m 2 ([]:List Rec) rRec,.m 6 m0.funcs rFn,.m 1 m0.friends rI])] (fun E=>l9 4 7 1 1 rfl rfl rfl rfl (by simp) rfl) ?_
         refine etd [] [(9,.cell 4 [.hole,.hole,.hole])] (fun E=>d6 4 rfl) ?_
         refine exn [10,12,14,15,290] [(4,.lf (.m 3 a rMod)),(6,.int (x2:Int)),(9,.cell 4 [.m 2 ([]:List Rec) rRec,.m 6 m0.funcs rFn,.m 1 m0.friends rI])] ?_
         exact rtM rfl (⟨_,a,(x2:Int),⟨([]:List Rec),m0.funcs,m0.friends⟩,by omega,hA.tiny,hA.len,(hT0.rnil hne),(by omega),rfl,rfl⟩)
  ·obtain⟨_,_,⟨rfl,rfl⟩,cc24⟩:=a6h m0 hT0.small hfl0 hne
   refine exd [] [(9,.own 4 [.hole,.hole,.hole] [.mk 820001 0 41 2 (m0.records.map rRec),.mk 820002 0 45 6 (m0.funcs.map rFn),.no]),(14,.lf (.ptr 7 0)),(15,.cell 7 [.hd 820001 ((m0.records.map rRec).length) 0,.hd 820002 ((m0.funcs.map rFn).length) 0,.m 1 m0.friends rI])] [(2,.row (rMod m0)),(4,.cg 4 (.own obN [.hole,.hole,.hole] [.mk (obN+1) 0 41 2 (m0.records.map rRec),.mk (obN+2) 0 45 6 (m0.funcs.map rFn),.no]) (.agg [.hd (obN+1) ((m0.records.map rRec).length) 0,.hd (obN+2) ((m0.funcs.map rFn).length) 0,.m 1 m0.friends rI]) [(obN+1),(obN+2)] [820001,820002])] (a2 (ixh rMod hm0) (cgT tx20 cc24)) ?_
   obtain⟨_,_,⟨x14,hx12,rfl,rfl⟩,cc25⟩:=e7 b (q1+1) 7 hb (by omega) (by omega)
   refine exd [] [(1,rdr b (q1+1+1)),(16,.int (x14:Int))] [(1,.mth (rdl b (q1+1+1)) [] (.int (x14:Int)))] (cl2 tx19 cc25) ?_
   refine a7 (exn [] [(64,.bool (decide ((x14:Int)=0)))] ?_)
   refine ecp (fun h14=> ?_) fun h14=> ?_
   ·obtain⟨_,_,⟨q6,x15,hq6,hM3,rfl,rfl⟩,cc26⟩:=I3 b (q1+1+1) hb (by omega) (a.take x2) (hA.take (by omega)) (by first|omega|(rw[List.length_take];omega))
    refine exed [16,64] [(1,rdr b q6),(15,.cell 7 [.m 2 x15.records rRec,.m 6 x15.funcs rFn,.m 1 x15.friends rI])] [(3,.cut 0 x2 (.lf (.m 3 (a.take x2) rMod))),(4,.mth (rdl b q6) [] (.agg [.m 2 x15.records rRec,.m 6 x15.funcs rFn,.m 1 x15.friends rI]))] (a2 (cutTo (f:=rMod) (l:=a) (sz:=3) (h:=x2) (hi:=(x2:Int)) rfl (by omega)) (cl2 tx18 (CallM.lend cc26))) ?_
    refine a7 ?_
    obtain⟨_,_,⟨x16,hx13,rfl,rfl⟩,cc27⟩:=e7 b q6 20 hb (by omega) (by omega)
    refine exd [] [(1,rdr b (q6+1)),(290,.bool (decide ((x16:Int)=0)))] [(1,.mth (rdl b (q6+1)) [] (.int (x16:Int)))] (cl2 tx19 cc27) ?_
    refine ecp (fun h15=> ?_) fun h15=> ?_
    ·obtain⟨_,_,⟨t7,ht7,rfl,rfl⟩,cc28⟩:=u0 b (q6+1) hb (by omega) [(-1),3] (by decide) (by decide)
     refine exed [290] [(1,rdr b (q6+1+1)),(12,.int t7)] [(1,.slot (.lf (.m 1 [(-1),3] rI))),(2,.mth (rdl b (q6+1+1)) [] (.int t7))] (a2 (a1 (show([[.int .i64 (-1)],[.int .i64 3]]:List (List SV))=([(-1),3].map rI)from rfl)) (cl2 tx23 cc28)) ?_
     refine etd [] [(9,.cell 4 [.hole,.hole,.hole])] (fun E=>d6 4 rfl) ?_
     refine exn [10,12,14,15] [(4,.lf (.m 3 a rMod)),(6,.int t7),(9,.cell 4 [.m 2 x15.records rRec,.m 6 x15.funcs rFn,.m 1 x15.friends rI])] ?_
     exact rtM rfl (⟨_,a,t7,⟨x15.records,x15.funcs,x15.friends⟩,by omega,hA.tiny,hA.len,(Tiny.of hM3),(numAt ht7),rfl,rfl⟩)
    ·refine a5 (etd [] [(9,.cell 4 [.hole,.hole,.hole])] (fun E=>d6 4 rfl) ?_)
     refine exn [10,12,14,15,290] [(4,.lf (.m 3 a rMod)),(6,.int (x2:Int)),(9,.cell 4 [.m 2 x15.records rRec,.m 6 x15.funcs rFn,.m 1 x15.friends rI])] ?_
     exact rtM rfl (⟨_,a,(x2:Int),⟨x15.records,x15.funcs,x15.friends⟩,by omega,hA.tiny,hA.len,(Tiny.of hM3),(by omega),rfl,rfl⟩)
   ·obtain⟨zc,hz⟩:∃c,c=((decide ((x14:Int)=1))&&(decide ((m0.funcs.length:Int)<4))):=⟨_,rfl⟩
    refine ejd [64] [(90,.bool zc)] (by
     rcases bft (decide ((((x14:Nat):Int):Int)=1))with g6|g6
     ·have g6p:=d5 g6
      exact runJ [(1,.slot (.bool true)),(5,.slot (.int (m0.funcs.length:Int))),(7,.slot (.bool zc))] (a2 (kB g6) (a2 (lnl m0.funcs rFn) (kBs (decide ((m0.funcs.length:Int)<4)) zc)))
     ·have g6p:=i5 g6
      exact runJ [(1,.slot (.bool false)),(7,.slot (.bool zc))] (a2 (kB g6) (kBs false zc))) ?_
    subst hz
    refine ecd (fun h16=> ?_) fun h16=> ?_
    ·have h16a:=d5 (Bool.and_eq_true_iff.1 h16).1
     have h16b:=d5 (Bool.and_eq_true_iff.1 h16).2
     obtain⟨_,_,⟨q7,f2,hq7,hh2,hcd2,rfl,rfl⟩,cc29⟩:=O5 b (q1+1+1) hb (by omega) (kindsOf a) 0 hA.few (by omega)
     refine exed [16,90] [(1,rdr b q7),(9,.own 4 [.hole,.hole,.hole] [.mk 820001 0 41 2 (m0.records.map rRec),.mk 820012 0 45 6 ((m0.funcs++[f2]).map rFn),.no]),(15,.cell 7 [.hd 820001 ((m0.records.map rRec).length) 0,.hd 820012 ((((m0.funcs++[f2]).map rFn):List (List SV)).length) 0,.m 1 m0.friends rI])] [(4,.ret (.lf (.m 1 (kindsOf a) rRecs))),(5,.mth (rdl b q7) [] (.agg [.z f2.seen,.m 1 f2.args rS,.m 1 f2.rets rS,.m 1 f2.locals rS,.m 1 f2.takes rI,.m 3 f2.code rIns])),(6,.im),(7,.gap 820012 4 1 ((m0.funcs++[f2]).map rFn))] (a2 (cl tx22 (CallV.lend (A4 a hA.small))) (a2 (cl2 tx21 cc29) (gapH (rows:=(m0.funcs.map rFn)) (rows2:=[[.int .i64 f2.seen,.sl 1 (f2.args.map rS),.sl 1 (f2.rets.map rS),.sl 1 (f2.locals.map rS),.sl 1 (f2.takes.map rI),.sl 3 (f2.code.map rIns)]]) (rows3:=((m0.funcs++[f2]).map rFn)) (n:=(m0.funcs.map rFn).length) (bytes:=128) (kt:=47) (y:= .tmp 52) (by rw[List.map_append];rfl) (by simp) (by simp;omega) (by decide) (by simp) (by simp)))) ?_
     refine a7 (esw 820012 820002 [] [(9,.own 4 [.hole,.hole,.hole] [.mk 820001 0 41 2 (m0.records.map rRec),.mk 820002 0 45 6 ((m0.funcs++[f2]).map rFn),.no]),(15,.cell 7 [.hd 820001 ((m0.records.map rRec).length) 0,.hd 820002 ((((m0.funcs++[f2]).map rFn):List (List SV)).length) 0,.m 1 m0.friends rI])] ?_)
     obtain⟨_,_,⟨x17,hx14,rfl,rfl⟩,cc30⟩:=e7 b q7 20 hb (by omega) (by omega)
     refine exd [] [(1,rdr b (q7+1)),(290,.bool (decide ((x17:Int)=0)))] [(1,.mth (rdl b (q7+1)) [] (.int (x17:Int)))] (cl2 tx19 cc30) ?_
     refine ecp (fun h17=> ?_) fun h17=> ?_
     ·obtain⟨_,_,⟨t8,ht8,rfl,rfl⟩,cc31⟩:=u0 b (q7+1) hb (by omega) [(-1),3] (by decide) (by decide)
      refine exed [290] [(1,rdr b (q7+1+1)),(12,.int t8)] [(1,.slot (.lf (.m 1 [(-1),3] rI))),(2,.mth (rdl b (q7+1+1)) [] (.int t8))] (a2 (a1 (show([[.int .i64 (-1)],[.int .i64 3]]:List (List SV))=([(-1),3].map rI)from rfl)) (cl2 tx23 cc31)) ?_
      refine etd [] [(9,.own 4 [.hole,.hole,.hole] [.no,.mk 820002 0 45 6 ((m0.funcs++[f2]).map rFn),.no]),(15,.cell 7 [.m 2 m0.records rRec,.hd 820002 ((((m0.funcs++[f2]).map rFn):List (List SV)).length) 0,.m 1 m0.friends rI])] (fun E=>l9 4 7 0 0 rfl rfl rfl rfl (by simp) rfl) ?_
      refine etd [] [(9,.own 4 [.hole,.hole,.hole] [.no,.no,.no]),(15,.cell 7 [.m 2 m0.records rRec,.m 6 (m0.funcs++[f2]) rFn,.m 1 m0.friends rI])] (fun E=>l9 4 7 1 1 rfl rfl rfl rfl (by simp) rfl) ?_
      refine etd [] [(9,.cell 4 [.hole,.hole,.hole])] (fun E=>d6 4 rfl) ?_
      refine exn [10,12,14,15] [(4,.lf (.m 3 a rMod)),(6,.int t8),(9,.cell 4 [.m 2 m0.records rRec,.m 6 (m0.funcs++[f2]) rFn,.m 1 m0.friends rI])] ?_
      exact rtM rfl (⟨_,a,t8,⟨m0.records,m0.funcs++[f2],m0.friends⟩,by omega,hA.tiny,hA.len,(hT0.eta.addFn (by omega) (hh2.t (by omega) (by rw[hcd2];decide))),(numAt ht8),rfl,rfl⟩)
     ·refine a5 (etd [] [(9,.own 4 [.hole,.hole,.hole] [.no,.mk 820002 0 45 6 ((m0.funcs++[f2]).map rFn),.no]),(15,.cell 7 [.m 2 m0.records rRec,.hd 820002 ((((m0.funcs++[f2]).map rFn):List (List SV)).length) 0,.m 1 m0.friends rI])] (fun E=>l9 4 7 0 0 rfl rfl rfl rfl (by simp) rfl) ?_)
      refine etd [] [(9,.own 4 [.hole,.hole,.hole] [.no,.no,.no]),(15,.cell 7 [.m 2 m0.records rRec,.m 6 (m0.funcs++[f2]) rFn,.m 1 m0.friends rI])] (fun E=>l9 4 7 1 1 rfl rfl rfl rfl (by simp) rfl) ?_
      refine etd [] [(9,.cell 4 [.hole,.hole,.hole])] (fun E=>d6 4 rfl) ?_
      refine exn [10,12,14,15,290] [(4,.lf (.m 3 a rMod)),(6,.int (x2:Int)),(9,.cell 4 [.m 2 m0.records rRec,.m 6 (m0.funcs++[f2]) rFn,.m 1 m0.friends rI])] ?_
      exact rtM rfl (⟨_,a,(x2:Int),⟨m0.records,m0.funcs++[f2],m0.friends⟩,by omega,hA.tiny,hA.len,(hT0.eta.addFn (by omega) (hh2.t (by omega) (by rw[hcd2];decide))),(by omega),rfl,rfl⟩)
    ·obtain⟨zc,hz⟩:∃c,c=((decide ((x14:Int)=2))&&(decide ((m0.funcs.length:Int)>0))):=⟨_,rfl⟩
     refine ejd [90] [(124,.bool zc)] (by
      rcases bft (decide ((((x14:Nat):Int):Int)=2))with g7|g7
      ·have g7p:=d5 g7
       exact runJ [(1,.slot (.bool true)),(5,.slot (.int (m0.funcs.length:Int))),(7,.slot (.bool zc))] (a2 (kB g7) (a2 (lnl m0.funcs rFn) (kBs (decide ((m0.funcs.length:Int)>0)) zc)))
      ·have g7p:=i5 g7
       exact runJ [(1,.slot (.bool false)),(7,.slot (.bool zc))] (a2 (kB g7) (kBs false zc))) ?_
     subst hz
     refine ecd (fun h18=> ?_) fun h18=> ?_
     ·have h18a:=d5 (Bool.and_eq_true_iff.1 h18).1
      have h18b:=d5 (Bool.and_eq_true_iff.1 h18).2
      obtain⟨_,_,⟨x18,hx15,rfl,rfl⟩,cc32⟩:=e7 b (q1+1+1) m0.funcs.length hb (by omega) (by omega)
      obtain⟨_,_,⟨x19,hx16,rfl,rfl⟩,cc33⟩:=e7 b (q1+1+1+1) 3 hb (by omega) (by omega)
      refine exed [16,124] [(1,rdr b (q1+1+1+1+1)),(9,.own 4 [.hole,.hole,.hole] [.mk 820001 0 41 2 (m0.records.map rRec),.mk 820002 0 45 6 ((m0.funcs.set x18 ({(nth m0.funcs x18)with seen:=(x19:Int)})).map rFn),.no])] [(5,.slot (.int (m0.funcs.length:Int))),(6,.mth (rdl b (q1+1+1+1)) [] (.int (x18:Int))),(8,.mth (rdl b (q1+1+1+1+1)) [] (.int (x19:Int))),(11,.elem x18 0 (rFn (nth m0.funcs x18)) (some ((m0.funcs.set x18 ({(nth m0.funcs x18)with seen:=(x19:Int)})).map rFn)))] (a2 (lnl m0.funcs rFn) (a2 (cl2 tx19 cc32) (a2 (cl2 tx19 cc33) (a2 (ixu (i:=x18) (n:=(m0.funcs.map rFn).length) (by first|omega|(simp;done)|(simp;omega))) (stT (f:=rFn) (l:=m0.funcs) (i:=x18) (j:=0) (n:=1) (sz:=6) (off:=(x18:Int).toNat*6+0) (y:={(nth m0.funcs x18)with seen:=(x19:Int)}) (new:=[.int .i64 (x19:Int)]) (j6 (l:=m0.funcs) (i:=x18) (by first|omega|(simp;omega))) (by omega) (by omega) rfl (rfl)))))) ?_
      refine a7 ?_
      obtain⟨_,_,⟨x20,hx17,rfl,rfl⟩,cc34⟩:=e7 b (q1+1+1+1+1) 20 hb (by omega) (by omega)
      refine exd [] [(1,rdr b (q1+1+1+1+1+1)),(290,.bool (decide ((x20:Int)=0)))] [(1,.mth (rdl b (q1+1+1+1+1+1)) [] (.int (x20:Int)))] (cl2 tx19 cc34) ?_
      refine ecp (fun h19=> ?_) fun h19=> ?_
      ·obtain⟨_,_,⟨t9,ht9,rfl,rfl⟩,cc35⟩:=u0 b (q1+1+1+1+1+1) hb (by omega) [(-1),3] (by decide) (by decide)
       refine exed [290] [(1,rdr b (q1+1+1+1+1+1+1)),(12,.int t9)] [(1,.slot (.lf (.m 1 [(-1),3] rI))),(2,.mth (rdl b (q1+1+1+1+1+1+1)) [] (.int t9))] (a2 (a1 (show([[.int .i64 (-1)],[.int .i64 3]]:List (List SV))=([(-1),3].map rI)from rfl)) (cl2 tx23 cc35)) ?_
       refine etd [] [(9,.own 4 [.hole,.hole,.hole] [.no,.mk 820002 0 45 6 ((m0.funcs.set x18 ({(nth m0.funcs x18)with seen:=(x19:Int)})).map rFn),.no]),(15,.cell 7 [.m 2 m0.records rRec,.hd 820002 ((m0.funcs.map rFn).length) 0,.m 1 m0.friends rI])] (fun E=>l9 4 7 0 0 rfl rfl rfl rfl (by simp) rfl) ?_
       refine etd [] [(9,.own 4 [.hole,.hole,.hole] [.no,.no,.no]),(15,.cell 7 [.m 2 m0.records rRec,.m 6 (m0.funcs.set x18 ({(nth m0.funcs x18)with seen:=(x19:Int)})) rFn,.m 1 m0.friends rI])] (fun E=>l9 4 7 1 1 rfl rfl rfl rfl (by simp) rfl) ?_
       refine etd [] [(9,.cell 4 [.hole,.hole,.hole])] (fun E=>d6 4 rfl) ?_
       refine exn [10,12,14,15] [(4,.lf (.m 3 a rMod)),(6,.int t9),(9,.cell 4 [.m 2 m0.records rRec,.m 6 (m0.funcs.set x18 ({(nth m0.funcs x18)with seen:=(x19:Int)})) rFn,.m 1 m0.friends rI])] ?_
       exact rtM rfl (⟨_,a,t9,⟨m0.records,(m0.funcs.set x18 ({(nth m0.funcs x18)with seen:=(x19:Int)})),m0.friends⟩,by omega,hA.tiny,hA.len,(hT0.eta.setFn (hT0.fns.2 (nth m0.funcs x18) (c6 (l:=m0.funcs) (i:=x18) (by omega)))),(numAt ht9),rfl,rfl⟩)
      ·refine a5 (etd [] [(9,.own 4 [.hole,.hole,.hole] [.no,.mk 820002 0 45 6 ((m0.funcs.set x18 ({(nth m0.funcs x18)with seen:=(x19:Int)})).map rFn),.no]),(15,.cell 7 [.m 2 m0.records rRec,.hd 820002 ((m0.funcs.map rFn).length) 0,.m 1 m0.friends rI])] (fun E=>l9 4 7 0 0 rfl rfl rfl rfl (by simp) rfl) ?_)
       refine etd [] [(9,.own 4 [.hole,.hole,.hole] [.no,.no,.no]),(15,.cell 7 [.m 2 m0.records rRec,.m 6 (m0.funcs.set x18 ({(nth m0.funcs x18)with seen:=(x19:Int)})) rFn,.m 1 m0.friends rI])] (fun E=>l9 4 7 1 1 rfl rfl rfl rfl (by simp) rfl) ?_
       refine etd [] [(9,.cell 4 [.hole,.hole,.hole])] (fun E=>d6 4 rfl) ?_
       refine exn [10,12,14,15,290] [(4,.lf (.m 3 a rMod)),(6,.int (x2:Int)),(9,.cell 4 [.m 2 m0.records rRec,.m 6 (m0.funcs.set x18 ({(nth m0.funcs x18)with seen:=(x19:Int)})) rFn,.m 1 m0.friends rI])] ?_
       exact rtM rfl (⟨_,a,(x2:Int),⟨m0.records,(m0.funcs.set x18 ({(nth m0.funcs x18)with seen:=(x19:Int)})),m0.friends⟩,by omega,hA.tiny,hA.len,(hT0.eta.setFn (hT0.fns.2 (nth m0.funcs x18) (c6 (l:=m0.funcs) (i:=x18) (by omega)))),(by omega),rfl,rfl⟩)
     ·obtain⟨zc,hz⟩:∃c,c=((decide ((x14:Int)=3))&&(decide ((m0.records.length:Int)>0))):=⟨_,rfl⟩
      refine ejd [124] [(162,.bool zc)] (by
       rcases bft (decide ((((x14:Nat):Int):Int)=3))with g8|g8
       ·have g8p:=d5 g8
        exact runJ [(1,.slot (.bool true)),(5,.slot (.int (m0.records.length:Int))),(7,.slot (.bool zc))] (a2 (kB g8) (a2 (lnl m0.records rRec) (kBs (decide ((m0.records.length:Int)>0)) zc)))
       ·have g8p:=i5 g8
        exact runJ [(1,.slot (.bool false)),(7,.slot (.bool zc))] (a2 (kB g8) (kBs false zc))) ?_
      subst hz
      refine ecd (fun h20=> ?_) fun h20=> ?_
      ·have h20a:=d5 (Bool.and_eq_true_iff.1 h20).1
       have h20b:=d5 (Bool.and_eq_true_iff.1 h20).2
       obtain⟨_,_,⟨x21,hx18,rfl,rfl⟩,cc36⟩:=e7 b (q1+1+1) m0.records.length hb (by omega) (by omega)
       obtain⟨_,_,⟨t10,ht10,rfl,rfl⟩,cc37⟩:=u0 b (q1+1+1+1) hb (by omega) [12,4,15,0] (by decide) (by decide)
       refine exed [16,162] [(1,rdr b (q1+1+1+1+1)),(9,.own 4 [.hole,.hole,.hole] [.mk 820001 0 41 2 ((m0.records.set x21 ({(nth m0.records x21)with able:=t10})).map rRec),.mk 820002 0 45 6 (m0.funcs.map rFn),.no])] [(5,.slot (.int (m0.records.length:Int))),(6,.mth (rdl b (q1+1+1+1)) [] (.int (x21:Int))),(8,.slot (.lf (.m 1 [12,4,15,0] rI))),(9,.mth (rdl b (q1+1+1+1+1)) [] (.int t10)),(12,.elem x21 0 (rRec (nth m0.records x21)) (some ((m0.records.set x21 ({(nth m0.records x21)with able:=t10})).map rRec)))] (a2 (lnl m0.records rRec) (a2 (cl2 tx19 cc36) (a2 (a1 (show([[.int .i64 12],[.int .i64 4],[.int .i64 15],[.int .i64 0]]:List (List SV))=([12,4,15,0].map rI)from rfl)) (a2 (cl2 tx23 cc37) (a2 (ixu (i:=x21) (n:=(m0.records.map rRec).length) (by first|omega|(simp;done)|(simp;omega))) (stT (f:=rRec) (l:=m0.records) (i:=x21) (j:=0) (n:=1) (sz:=2) (off:=(x21:Int).toNat*2+0) (y:={(nth m0.records x21)with able:=t10}) (new:=[.int .i64 t10]) (j6 (l:=m0.records) (i:=x21) (by first|omega|(simp;omega))) (by omega) (by omega) rfl (rfl))))))) ?_
       refine a7 ?_
       obtain⟨_,_,⟨x22,hx19,rfl,rfl⟩,cc38⟩:=e7 b (q1+1+1+1+1) 20 hb (by omega) (by omega)
       refine exd [] [(1,rdr b (q1+1+1+1+1+1)),(290,.bool (decide ((x22:Int)=0)))] [(1,.mth (rdl b (q1+1+1+1+1+1)) [] (.int (x22:Int)))] (cl2 tx19 cc38) ?_
       refine ecp (fun h21=> ?_) fun h21=> ?_
       ·obtain⟨_,_,⟨t11,ht11,rfl,rfl⟩,cc39⟩:=u0 b (q1+1+1+1+1+1) hb (by omega) [(-1),3] (by decide) (by decide)
        refine exed [290] [(1,rdr b (q1+1+1+1+1+1+1)),(12,.int t11)] [(1,.slot (.lf (.m 1 [(-1),3] rI))),(2,.mth (rdl b (q1+1+1+1+1+1+1)) [] (.int t11))] (a2 (a1 (show([[.int .i64 (-1)],[.int .i64 3]]:List (List SV))=([(-1),3].map rI)from rfl)) (cl2 tx23 cc39)) ?_
        refine etd [] [(9,.own 4 [.hole,.hole,.hole] [.no,.mk 820002 0 45 6 (m0.funcs.map rFn),.no]),(15,.cell 7 [.m 2 (m0.records.set x21 ({(nth m0.records x21)with able:=t10})) rRec,.hd 820002 ((m0.funcs.map rFn).length) 0,.m 1 m0.friends rI])] (fun E=>l9 4 7 0 0 rfl rfl rfl rfl (by simp) rfl) ?_
        refine etd [] [(9,.own 4 [.hole,.hole,.hole] [.no,.no,.no]),(15,.cell 7 [.m 2 (m0.records.set x21 ({(nth m0.records x21)with able:=t10})) rRec,.m 6 m0.funcs rFn,.m 1 m0.friends rI])] (fun E=>l9 4 7 1 1 rfl rfl rfl rfl (by simp) rfl) ?_
        refine etd [] [(9,.cell 4 [.hole,.hole,.hole])] (fun E=>d6 4 rfl) ?_
        refine exn [10,12,14,15] [(4,.lf (.m 3 a rMod)),(6,.int t11),(9,.cell 4 [.m 2 (m0.records.set x21 ({(nth m0.records x21)with able:=t10})) rRec,.m 6 m0.funcs rFn,.m 1 m0.friends rI])] ?_
        exact rtM rfl (⟨_,a,t11,⟨(m0.records.set x21 ({(nth m0.records x21)with able:=t10})),m0.funcs,m0.friends⟩,by omega,hA.tiny,hA.len,(hT0.eta.setRec (hT0.recs.2 (nth m0.records x21) (c6 (l:=m0.records) (i:=x21) (by omega)))),(numAt ht11),rfl,rfl⟩)
       ·refine a5 (etd [] [(9,.own 4 [.hole,.hole,.hole] [.no,.mk 820002 0 45 6 (m0.funcs.map rFn),.no]),(15,.cell 7 [.m 2 (m0.records.set x21 ({(nth m0.records x21)with able:=t10})) rRec,.hd 820002 ((m0.funcs.map rFn).length) 0,.m 1 m0.friends rI])] (fun E=>l9 4 7 0 0 rfl rfl rfl rfl (by simp) rfl) ?_)
        refine etd [] [(9,.own 4 [.hole,.hole,.hole] [.no,.no,.no]),(15,.cell 7 [.m 2 (m0.records.set x21 ({(nth m0.records x21)with able:=t10})) rRec,.m 6 m0.funcs rFn,.m 1 m0.friends rI])] (fun E=>l9 4 7 1 1 rfl rfl rfl rfl (by simp) rfl) ?_
        refine etd [] [(9,.cell 4 [.hole,.hole,.hole])] (fun E=>d6 4 rfl) ?_
        refine exn [10,12,14,15,290] [(4,.lf (.m 3 a rMod)),(6,.int (x2:Int)),(9,.cell 4 [.m 2 (m0.records.set x21 ({(nth m0.records x21)with able:=t10})) rRec,.m 6 m0.funcs rFn,.m 1 m0.friends rI])] ?_
        exact rtM rfl (⟨_,a,(x2:Int),⟨(m0.records.set x21 ({(nth m0.records x21)with able:=t10})),m0.funcs,m0.friends⟩,by omega,hA.tiny,hA.len,(hT0.eta.setRec (hT0.recs.2 (nth m0.records x21) (c6 (l:=m0.records) (i:=x21) (by omega)))),(by omega),rfl,rfl⟩)
      ·obtain⟨zc,hz⟩:∃c,c=((decide ((x14:Int)=4))&&(decide ((m0.records.length:Int)<3))):=⟨_,rfl⟩
       refine ejd [162] [(202,.bool zc)] (by
        rcases bft (decide ((((x14:Nat):Int):Int)=4))with g9|g9
        ·have g9p:=d5 g9
         exact runJ [(1,.slot (.bool true)),(5,.slot (.int (m0.records.length:Int))),(7,.slot (.bool zc))] (a2 (kB g9) (a2 (lnl m0.records rRec) (kBs (decide ((m0.records.length:Int)<3)) zc)))
        ·have g9p:=i5 g9
         exact runJ [(1,.slot (.bool false)),(7,.slot (.bool zc))] (a2 (kB g9) (kBs false zc))) ?_
       subst hz
       refine ecd (fun h22=> ?_) fun h22=> ?_
       ·have h22a:=d5 (Bool.and_eq_true_iff.1 h22).1
        have h22b:=d5 (Bool.and_eq_true_iff.1 h22).2
        refine exed [16,202] [(9,.own 4 [.hole,.hole,.hole] [.mk 820011 0 41 2 ((m0.records++[(⟨12,[B0]⟩:Rec)]).map rRec),.mk 820002 0 45 6 (m0.funcs.map rFn),.no]),(15,.cell 7 [.hd 820011 ((((m0.records++[(⟨12,[B0]⟩:Rec)]).map rRec):List (List SV)).length) 0,.hd 820002 ((m0.funcs.map rFn).length) 0,.m 1 m0.friends rI])] [(2,.slot (.lf (.m 1 [B0] rS))),(4,.im),(5,.gap 820011 4 0 ((m0.records++[(⟨12,[B0]⟩:Rec)]).map rRec))] (a2 (a1 (show([[.str B0]]:List (List SV))=([B0].map rS)from rfl)) (gapH (rows:=(m0.records.map rRec)) (rows2:=[[.int .i64 12,.sl 1 ([B0].map rS)]]) (rows3:=((m0.records++[(⟨12,[B0]⟩:Rec)]).map rRec)) (n:=(m0.records.map rRec).length) (bytes:=32) (kt:=103) (y:= .tmp 106) (by rw[List.map_append];rfl) (by simp) (by simp;omega) (by decide) (by simp) (by simp))) ?_
        refine a7 (esw 820011 820001 [] [(9,.own 4 [.hole,.hole,.hole] [.mk 820001 0 41 2 ((m0.records++[(⟨12,[B0]⟩:Rec)]).map rRec),.mk 820002 0 45 6 (m0.funcs.map rFn),.no]),(15,.cell 7 [.hd 820001 ((((m0.records++[(⟨12,[B0]⟩:Rec)]).map rRec):List (List SV)).length) 0,.hd 820002 ((m0.funcs.map rFn).length) 0,.m 1 m0.friends rI])] ?_)
        obtain⟨_,_,⟨x23,hx20,rfl,rfl⟩,cc40⟩:=e7 b (q1+1+1) 20 hb (by omega) (by omega)
        refine exd [] [(1,rdr b (q1+1+1+1)),(290,.bool (decide ((x23:Int)=0)))] [(1,.mth (rdl b (q1+1+1+1)) [] (.int (x23:Int)))] (cl2 tx19 cc40) ?_
        refine ecp (fun h23=> ?_) fun h23=> ?_
        ·obtain⟨_,_,⟨t12,ht12,rfl,rfl⟩,cc41⟩:=u0 b (q1+1+1+1) hb (by omega) [(-1),3] (by decide) (by decide)
         refine exed [290] [(1,rdr b (q1+1+1+1+1)),(12,.int t12)] [(1,.slot (.lf (.m 1 [(-1),3] rI))),(2,.mth (rdl b (q1+1+1+1+1)) [] (.int t12))] (a2 (a1 (show([[.int .i64 (-1)],[.int .i64 3]]:List (List SV))=([(-1),3].map rI)from rfl)) (cl2 tx23 cc41)) ?_
         refine etd [] [(9,.own 4 [.hole,.hole,.hole] [.no,.mk 820002 0 45 6 (m0.funcs.map rFn),.no]),(15,.cell 7 [.m 2 (m0.records++[(⟨12,[B0]⟩:Rec)]) rRec,.hd 820002 ((m0.funcs.map rFn).length) 0,.m 1 m0.friends rI])] (fun E=>l9 4 7 0 0 rfl rfl rfl rfl (by simp) rfl) ?_
         refine etd [] [(9,.own 4 [.hole,.hole,.hole] [.no,.no,.no]),(15,.cell 7 [.m 2 (m0.records++[(⟨12,[B0]⟩:Rec)]) rRec,.m 6 m0.funcs rFn,.m 1 m0.friends rI])] (fun E=>l9 4 7 1 1 rfl rfl rfl rfl (by simp) rfl) ?_
         refine etd [] [(9,.cell 4 [.hole,.hole,.hole])] (fun E=>d6 4 rfl) ?_
         refine exn [10,12,14,15] [(4,.lf (.m 3 a rMod)),(6,.int t12),(9,.cell 4 [.m 2 (m0.records++[(⟨12,[B0]⟩:Rec)]) rRec,.m 6 m0.funcs rFn,.m 1 m0.friends rI])] ?_
         exact rtM rfl (⟨_,a,t12,⟨m0.records++[(⟨12,[B0]⟩:Rec)],m0.funcs,m0.friends⟩,by omega,hA.tiny,hA.len,(hT0.eta.addRec (by omega) (by decide)),(numAt ht12),rfl,rfl⟩)
        ·refine a5 (etd [] [(9,.own 4 [.hole,.hole,.hole] [.no,.mk 820002 0 45 6 (m0.funcs.map rFn),.no]),(15,.cell 7 [.m 2 (m0.records++[(⟨12,[B0]⟩:Rec)]) rRec,.hd 820002 ((m0.funcs.map rFn).length) 0,.m 1 m0.friends rI])] (fun E=>l9 4 7 0 0 rfl rfl rfl rfl (by simp) rfl) ?_)
         refine etd [] [(9,.own 4 [.hole,.hole,.hole] [.no,.no,.no]),(15,.cell 7 [.m 2 (m0.records++[(⟨12,[B0]⟩:Rec)]) rRec,.m 6 m0.funcs rFn,.m 1 m0.friends rI])] (fun E=>l9 4 7 1 1 rfl rfl rfl rfl (by simp) rfl) ?_
         refine etd [] [(9,.cell 4 [.hole,.hole,.hole])] (fun E=>d6 4 rfl) ?_
         refine exn [10,12,14,15,290] [(4,.lf (.m 3 a rMod)),(6,.int (x2:Int)),(9,.cell 4 [.m 2 (m0.records++[(⟨12,[B0]⟩:Rec)]) rRec,.m 6 m0.funcs rFn,.m 1 m0.friends rI])] ?_
         exact rtM rfl (⟨_,a,(x2:Int),⟨m0.records++[(⟨12,[B0]⟩:Rec)],m0.funcs,m0.friends⟩,by omega,hA.tiny,hA.len,(hT0.eta.addRec (by omega) (by decide)),(by omega),rfl,rfl⟩)
       ·obtain⟨zc,hz⟩:∃c,c=((decide ((x14:Int)>4))&&(decide ((m0.funcs.length:Int)>0))):=⟨_,rfl⟩
        refine ejd [16,202] [(232,.bool zc)] (by
         rcases bft (decide ((((x14:Nat):Int):Int)>4))with g10|g10
         ·have g10p:=d5 g10
          exact runJ [(1,.slot (.bool true)),(5,.slot (.int (m0.funcs.length:Int))),(7,.slot (.bool zc))] (a2 (kB g10) (a2 (lnl m0.funcs rFn) (kBs (decide ((m0.funcs.length:Int)>0)) zc)))
         ·have g10p:=i5 g10
          exact runJ [(1,.slot (.bool false)),(7,.slot (.bool zc))] (a2 (kB g10) (kBs false zc))) ?_
        subst hz
        refine ecd (fun h24=> ?_) fun h24=> ?_
        ·have h24a:=d5 (Bool.and_eq_true_iff.1 h24).1
         have h24b:=d5 (Bool.and_eq_true_iff.1 h24).2
         obtain⟨_,_,⟨x24,hx21,rfl,rfl⟩,cc42⟩:=e7 b (q1+1+1) m0.funcs.length hb (by omega) (by omega)
         refine exd [232] [(1,rdr b (q1+1+1+1)),(18,.int (x24:Int))] [(3,.slot (.int (m0.funcs.length:Int))),(4,.mth (rdl b (q1+1+1+1)) [] (.int (x24:Int)))] (a2 (lnl m0.funcs rFn) (cl2 tx19 cc42)) ?_
         refine exd [] [(20,.lf (.u 122 0 27 3 (a.map rMod)))] [(2,.slot (.lf (.u 122 0 27 3 (a.map rMod))))] (a2 (a1 (show([]++(a.map rMod):List (List SV))=(a.map rMod)by rfl)) (ap (a:=([]:List (List SV)).length+((a.map rMod):List (List SV)).length) (b:=72) (by first|(simp;done)|(simp;omega)) (by unfold maxLen;first|(simp;done)|(simp;omega)))) ?_
         refine etd [] [(9,.own 4 [.hole,.hole,.hole] [.no,.mk 820002 0 45 6 (m0.funcs.map rFn),.no]),(15,.cell 7 [.m 2 m0.records rRec,.hd 820002 ((m0.funcs.map rFn).length) 0,.m 1 m0.friends rI])] (fun E=>l9 4 7 0 0 rfl rfl rfl rfl (by simp) rfl) ?_
         refine exd [] [(20,.lf (.nst 3 ((a.map rMod).set x2 [.sl 2 (m0.records.map rRec),.sl 6 [],.sl 1 (m0.friends.map rI)]) x2 1 820002 ((m0.funcs.map rFn).length) 0))] [(4,.nsw [rMod m0] x2 (.sl 6 []))] (a2 (ixu (i:=x2) (n:=(a.map rMod).length) (by first|omega|(simp;done)|(simp;omega))) (hstN (rows:=a.map rMod) (r:=rMod m0) (i:=x2) (sz:=3) (off:=(x2:Int).toNat*3) (n2:=(m0.funcs.map rFn).length) (by rw[List.getElem?_map,hm0];rfl) rfl (by omega) (by simp only[List.length_map];omega))) ?_
         have hfn2:=hM0.fns _ (c6 (l:=m0.funcs) (i:=x24) (by omega))
         obtain⟨_,_,⟨q8,l2,hq8,hl2,rfl,rfl⟩,cc43⟩:=a5B b (q1+1+1+1) hb (by omega) a (kindsOf a) x2 (nth m0.funcs x24) _ (hA.c7 hat hfn2.hd) (hA.own hat) rfl hA.small (fun u hu=>(hfn2.hd.rets.2 u hu).1) hfn2.hd.args.2
         have hc2:=CallM.nst (rows:=putHd ((a.map rMod).set x2 [.sl 2 (m0.records.map rRec),.sl 6 [],.sl 1 (m0.friends.map rI)]) x2 1 (.sl 6 (m0.funcs.map rFn))) (a0U hm0) cc43
         refine exed [18,20] [(1,rdr b q8),(9,.own 4 [.hole,.hole,.hole] [.no,.mk 820002 0 45 6 ((m0.funcs.set x24 ({(nth m0.funcs x24)with code:=l2})).map rFn),.no])] [(10,.elem x24 0 (rFn (nth m0.funcs x24)) none),(11,.mth (rdl b q8) [] (.lf (.m 3 l2 rIns))),(14,.elem x24 5 (rFn (nth m0.funcs x24)) (some ((m0.funcs.set x24 ({(nth m0.funcs x24)with code:=l2})).map rFn)))] (a2 (ixu (i:=x24) (n:=(m0.funcs.map rFn).length) (by first|omega|(simp;done)|(simp;omega))) (a2 (elT (f:=rFn) (l:=m0.funcs) (i:=x24) (j:=0) (n:=6) (sz:=6) (off:=(x24:Int).toNat*6) (j6 (l:=m0.funcs) (i:=x24) (by first|omega|(simp;omega))) (by omega) (by omega)) (a2 (a1 (show((m0.funcs.map rFn).length:Nat)=((m0.funcs.map rFn):List (List SV)).length by rfl)) (a2 (cl2 tx24 hc2) (a2 (ixu (i:=x24) (n:=(m0.funcs.map rFn).length) (by first|omega|(simp;done)|(simp;omega))) (stT (f:=rFn) (l:=m0.funcs) (i:=x24) (j:=5) (n:=1) (sz:=6) (off:=(x24:Int).toNat*6+5) (y:={(nth m0.funcs x24)with code:=l2}) (new:=[.sl 3 (l2.map rIns)]) (j6 (l:=m0.funcs) (i:=x24) (by first|omega|(simp;omega))) (by omega) (by omega) rfl (rfl))))))) ?_
         refine a7 ?_
         obtain⟨_,_,⟨x25,hx22,rfl,rfl⟩,cc44⟩:=e7 b q8 20 hb (by omega) (by omega)
         refine exd [] [(1,rdr b (q8+1)),(290,.bool (decide ((x25:Int)=0)))] [(1,.mth (rdl b (q8+1)) [] (.int (x25:Int)))] (cl2 tx19 cc44) ?_
         refine ecp (fun h25=> ?_) fun h25=> ?_
         ·obtain⟨_,_,⟨t13,ht13,rfl,rfl⟩,cc45⟩:=u0 b (q8+1) hb (by omega) [(-1),3] (by decide) (by decide)
          refine exed [290] [(1,rdr b (q8+1+1)),(12,.int t13)] [(1,.slot (.lf (.m 1 [(-1),3] rI))),(2,.mth (rdl b (q8+1+1)) [] (.int t13))] (a2 (a1 (show([[.int .i64 (-1)],[.int .i64 3]]:List (List SV))=([(-1),3].map rI)from rfl)) (cl2 tx23 cc45)) ?_
          refine etd [] [(9,.own 4 [.hole,.hole,.hole] [.no,.no,.no]),(15,.cell 7 [.m 2 m0.records rRec,.m 6 (m0.funcs.set x24 ({(nth m0.funcs x24)with code:=l2})) rFn,.m 1 m0.friends rI])] (fun E=>l9 4 7 1 1 rfl rfl rfl rfl (by simp) rfl) ?_
          refine etd [] [(9,.cell 4 [.hole,.hole,.hole])] (fun E=>d6 4 rfl) ?_
          refine exn [10,12,14,15] [(4,.lf (.m 3 a rMod)),(6,.int t13),(9,.cell 4 [.m 2 m0.records rRec,.m 6 (m0.funcs.set x24 ({(nth m0.funcs x24)with code:=l2})) rFn,.m 1 m0.friends rI])] ?_
          exact rtM rfl (⟨_,a,t13,⟨m0.records,(m0.funcs.set x24 ({(nth m0.funcs x24)with code:=l2})),m0.friends⟩,by omega,hA.tiny,hA.len,(hT0.eta.setFn ((hfn2.hd.code l2).t (Nat.le_refl _) hl2.t)),(numAt ht13),rfl,rfl⟩)
         ·refine a5 (etd [] [(9,.own 4 [.hole,.hole,.hole] [.no,.no,.no]),(15,.cell 7 [.m 2 m0.records rRec,.m 6 (m0.funcs.set x24 ({(nth m0.funcs x24)with code:=l2})) rFn,.m 1 m0.friends rI])] (fun E=>l9 4 7 1 1 rfl rfl rfl rfl (by simp) rfl) ?_)
          refine etd [] [(9,.cell 4 [.hole,.hole,.hole])] (fun E=>d6 4 rfl) ?_
          refine exn [10,12,14,15,290] [(4,.lf (.m 3 a rMod)),(6,.int (x2:Int)),(9,.cell 4 [.m 2 m0.records rRec,.m 6 (m0.funcs.set x24 ({(nth m0.funcs x24)with code:=l2})) rFn,.m 1 m0.friends rI])] ?_
          exact rtM rfl (⟨_,a,(x2:Int),⟨m0.records,(m0.funcs.set x24 ({(nth m0.funcs x24)with code:=l2})),m0.friends⟩,by omega,hA.tiny,hA.len,(hT0.eta.setFn ((hfn2.hd.code l2).t (Nat.le_refl _) hl2.t)),(by omega),rfl,rfl⟩)
        ·refine a5 ?_
         refine a7 ?_
         obtain⟨_,_,⟨x26,hx23,rfl,rfl⟩,cc46⟩:=e7 b (q1+1+1) 20 hb (by omega) (by omega)
         refine exd [232] [(1,rdr b (q1+1+1+1)),(290,.bool (decide ((x26:Int)=0)))] [(1,.mth (rdl b (q1+1+1+1)) [] (.int (x26:Int)))] (cl2 tx19 cc46) ?_
         refine ecp (fun h26=> ?_) fun h26=> ?_
         ·obtain⟨_,_,⟨t14,ht14,rfl,rfl⟩,cc47⟩:=u0 b (q1+1+1+1) hb (by omega) [(-1),3] (by decide) (by decide)
          refine exed [290] [(1,rdr b (q1+1+1+1+1)),(12,.int t14)] [(1,.slot (.lf (.m 1 [(-1),3] rI))),(2,.mth (rdl b (q1+1+1+1+1)) [] (.int t14))] (a2 (a1 (show([[.int .i64 (-1)],[.int .i64 3]]:List (List SV))=([(-1),3].map rI)from rfl)) (cl2 tx23 cc47)) ?_
          refine etd [] [(9,.own 4 [.hole,.hole,.hole] [.no,.mk 820002 0 45 6 (m0.funcs.map rFn),.no]),(15,.cell 7 [.m 2 m0.records rRec,.hd 820002 ((m0.funcs.map rFn).length) 0,.m 1 m0.friends rI])] (fun E=>l9 4 7 0 0 rfl rfl rfl rfl (by simp) rfl) ?_
          refine etd [] [(9,.own 4 [.hole,.hole,.hole] [.no,.no,.no]),(15,.cell 7 [.m 2 m0.records rRec,.m 6 m0.funcs rFn,.m 1 m0.friends rI])] (fun E=>l9 4 7 1 1 rfl rfl rfl rfl (by simp) rfl) ?_
          refine etd [] [(9,.cell 4 [.hole,.hole,.hole])] (fun E=>d6 4 rfl) ?_
          refine exn [10,12,14,15] [(4,.lf (.m 3 a rMod)),(6,.int t14),(9,.cell 4 [.m 2 m0.records rRec,.m 6 m0.funcs rFn,.m 1 m0.friends rI])] ?_
          exact rtM rfl (⟨_,a,t14,⟨m0.records,m0.funcs,m0.friends⟩,by omega,hA.tiny,hA.len,hT0.eta,(numAt ht14),rfl,rfl⟩)
         ·refine a5 (etd [] [(9,.own 4 [.hole,.hole,.hole] [.no,.mk 820002 0 45 6 (m0.funcs.map rFn),.no]),(15,.cell 7 [.m 2 m0.records rRec,.hd 820002 ((m0.funcs.map rFn).length) 0,.m 1 m0.friends rI])] (fun E=>l9 4 7 0 0 rfl rfl rfl rfl (by simp) rfl) ?_)
          refine etd [] [(9,.own 4 [.hole,.hole,.hole] [.no,.no,.no]),(15,.cell 7 [.m 2 m0.records rRec,.m 6 m0.funcs rFn,.m 1 m0.friends rI])] (fun E=>l9 4 7 1 1 rfl rfl rfl rfl (by simp) rfl) ?_
          refine etd [] [(9,.cell 4 [.hole,.hole,.hole])] (fun E=>d6 4 rfl) ?_
          refine exn [10,12,14,15,290] [(4,.lf (.m 3 a rMod)),(6,.int (x2:Int)),(9,.cell 4 [.m 2 m0.records rRec,.m 6 m0.funcs rFn,.m 1 m0.friends rI])] ?_
          exact rtM rfl (⟨_,a,(x2:Int),⟨m0.records,m0.funcs,m0.friends⟩,by omega,hA.tiny,hA.len,hT0.eta,(by omega),rfl,rfl⟩)
theorem a6n (code:List UInt8):
 ∃ls,(fun ls=>ls=[.im true (.sl 1 ((code.take 2000).map rB)),.im true (.int .i64 0)]) ls∧CallPX Try.prog 8 [.lf (.im true (.sl 1 (code.map rB)))] ls:=by
 refine CallPE (t0:=2) (fn:=Try.f8) TTok mixed Try.func8 rfl rfl rfl rfl rfl ?_
 refine ex [(0,.lf (.m 1 code rB))] [] AllP.nil (by kernel_rfl) ?_
 refine a7 (exd [] [(10,.bool (decide ((code.length:Int)>2000)))] [(1,.slot (.int (code.length:Int)))] (lnl code rB) ?_)
 refine ecp (fun h1=> ?_) fun h1=> ?_
 ·refine exed [10] [(0,.lf (.m 1 (code.take 2000) rB))] [(1,.cut 0 2000 (.lf (.m 1 (code.take 2000) rB)))] (cutTo (f:=rB) (l:=code) (sz:=1) (h:=2000) (hi:=2000) rfl (by omega)) ?_
  refine exn [0] [(4,.lf (.ptr 10 0)),(21,.cell 10 [.m 1 (code.take 2000) rB,.z 0])] ?_
  refine etd [21] [(1,.cell 10 [.m 1 (code.take 2000) rB,.z 0])] (fun E=>a3F 10 0 rfl rfl rfl) ?_
  exact a1h ⟨.inl rfl,_,_,rfl,rfl,rfl,rfl⟩
 ·refine a5 (exn [0,10] [(4,.lf (.ptr 10 0)),(21,.cell 10 [.m 1 code rB,.z 0])] ?_)
  refine etd [21] [(1,.cell 10 [.m 1 code rB,.z 0])] (fun E=>a3F 10 0 rfl rfl rfl) ?_
  exact a1h ⟨.inl rfl,_,_,rfl,rfl,rfl,by rw[List.take_of_length_le (by omega)]⟩
theorem draw_x (code:List UInt8):
 ∃s,(fun s=>∃x y:Mod,Tiny x∧Tiny y∧s= .tup [.agg [.im true (.sl 2 (x.records.map rRec)),.im true (.sl 6 (x.funcs.map rFn)),.im true (.sl 1 (x.friends.map rI))],.agg [.im true (.sl 2 (y.records.map rRec)),.im true (.sl 6 (y.funcs.map rFn)),.im true (.sl 1 (y.friends.map rI))]]) s∧CallV Try.prog 4 [.lf (.im true (.sl 1 (code.map rB)))] (·=s):=by
 refine CallE (fn:=Try.f4) TTok mixed Try.func4 rfl rfl rfl rfl rfl ?_
 refine ex [(0,.lf (.m 1 code rB)),(4,.lf (.ptr 2 0)),(5,.cell 2 [.nil,.nil,.nil]),(6,.lf (.ptr 3 0)),(7,.cell 3 [.nil,.nil,.nil])] [] AllP.nil (by kernel_rfl) ?_
 obtain⟨_,rfl,cc1⟩:=a6n code
 refine exd [0] [(8,.lf (.ptr 830001 0)),(21,.cell 830001 [.m 1 (code.take 2000) rB,.z 0])] [(1,.mth [.m 1 (code.take 2000) rB,.z 0] [.no] (.lf (.ptr 830001 0)))] (clP tx8 cc1) ?_
 obtain⟨_,_,⟨q1,a,at9,m,hq1,hTa,hal,hTm,hat9,rfl,rfl⟩,cc2⟩:=next_x (code.take 2000) 0 (by rw[List.length_take];omega) (by omega)
 refine exd [8,21] [(10,.lf (.m 3 a rMod)),(12,.int at9),(14,.lf (.ptr 7 0)),(15,.cell 7 [.m 2 m.records rRec,.m 6 m.funcs rFn,.m 1 m.friends rI])] [(1,.mth [.m 1 (code.take 2000) rB,.z (q1:Int)] [] (.tup [.lf (.m 3 a rMod),.lf (.z at9),.agg [.m 2 m.records rRec,.m 6 m.funcs rFn,.m 1 m.friends rI]]))] (cl2 tx9 cc2) ?_
 refine exn [] [(16,.lf (.ptr 8 0)),(17,.cell 8 [.nil,.nil,.nil])] ?_
 refine a7 (exd [] [(44,.bool (inI at9 0 ((a.length:Int)-1)))] [(2,.slot (.int (a.length:Int))),(3,.slot (.int ((a.length:Int)-1))),(4,.ret (.bool (inI at9 0 ((a.length:Int)-1))))] (a2 (lnl a rMod) (a2 (wIo ((a.length:Int)-1) ((a.length:Int)-1)) (cl tx10 (y1 at9 0 ((a.length:Int)-1))))) ?_)
 refine ecd (fun h1=> ?_) fun h1=> ?_
 ·have hin:0≤at9∧at9≤((a.length:Nat):Int)-1:=by unfold inI at h1;simpa using h1
  obtain⟨n9,hn9⟩:=Int.eq_ofNat_of_zero_le hin.1
  subst hn9
  refine exed [10,12,44] [(17,.cell 8 [.m 2 ((nth a n9).records) rRec,.m 6 ((nth a n9).funcs) rFn,.m 1 ((nth a n9).friends) rI])] [(2,.row (rMod (nth a n9)))] (ixn rMod a n9) ?_
  refine exn [14,15,16,17] [(5,.cell 2 [.m 2 ((nth a n9).records) rRec,.m 6 ((nth a n9).funcs) rFn,.m 1 ((nth a n9).friends) rI]),(7,.cell 3 [.m 2 m.records rRec,.m 6 m.funcs rFn,.m 1 m.friends rI])] ?_
  exact rtE rfl (⟨(nth a n9),m,hTa _ (c6 (l:=a) (i:=n9) (by omega)),hTm,rfl⟩)
 ·refine a5 (etd [] [(17,.cell 8 [.m 2 ([]:List Rec) rRec,.nil,.nil])] (fun E=>j4 8 0 2 rfl rfl) ?_)
  refine etd [] [(17,.cell 8 [.m 2 ([]:List Rec) rRec,.m 6 ([]:List Fn) rFn,.nil])] (fun E=>j4 8 1 6 rfl rfl) ?_
  refine etd [] [(17,.cell 8 [.m 2 ([]:List Rec) rRec,.m 6 ([]:List Fn) rFn,.m 1 ([]:List Int) rI])] (fun E=>j4 8 2 1 rfl rfl) ?_
  refine exn [10,12,14,15,16,17,44] [(5,.cell 2 [.m 2 ([]:List Rec) rRec,.m 6 ([]:List Fn) rFn,.m 1 ([]:List Int) rI]),(7,.cell 3 [.m 2 m.records rRec,.m 6 m.funcs rFn,.m 1 m.friends rI])] ?_
  exact rtE rfl (⟨⟨[],[],[]⟩,m,Tiny.none,hTm,rfl⟩)
theorem A1 (a b:List ByteArray)(ha:a.length≤140737488355328):
 CallV Try.prog 13 [.lf (.im true (.sl 1 (a.map rS))),.lf (.im true (.sl 1 (b.map rS)))] (·= .bool (decide (a=b))):=by
 refine CallX (fn:=Try.f13) TTok mixed Try.func13 rfl rfl rfl rfl rfl fun E c hMay=> ?_
 refine vx c [(0,.lf (.m 1 a rS)),(2,.lf (.m 1 b rS))] [] AllP.nil (by kernel_rfl) ?_
 refine b9 (vxd c [] [(20,.bool (decide ((a.length:Int)≠(b.length:Int))))] [(1,.slot (.int (a.length:Int))),(3,.slot (.int (b.length:Int)))] (a2 (lnl a rS) (lnl b rS)) ?_)
 refine vcp (fun h1=> ?_) fun h1=> ?_
 ·refine vxn c [0,2,20] [(8,.bool false)] ?_
  exact rtV rfl (retF (a3I h1))
 ·have hl:a.length=b.length:=by omega
  refine c5 (b9 (vxn c [20] [(10,.int 0)] ?_))
  refine c8 (vld (fun l0 n L=>∃(i:Nat),L=upG [] [(10,.int (i:Int))] l0∧n=a.length-i∧(i≤a.length∧a.take i=b.take i)) _ ⟨0,rfl,rfl,⟨by omega,by simp⟩⟩ ?_)
  rintro n L ⟨i,rfl,rfl,hP1⟩
  refine b9 (vxd c [] [(28,.bool (decide ((i:Int)<(a.length:Int))))] [(2,.slot (.int (a.length:Int)))] (lnl a rS) ?_)
  refine vcp (fun h2=> ?_) fun h2=> ?_
  ·refine c5 ?_
   refine b9 ?_
   refine c8 ?_
   obtain⟨x1,hx1⟩:=u3 (l:=a) (i:=i) (by omega)
   obtain⟨x2,hx2⟩:=u3 (l:=b) (i:=i) (by omega)
   refine vxd c [28] [(50,.bool (!(x1.toList==x2.toList)))] [(2,.row (rS x1)),(6,.row (rS x2))] (a2 (ixh rS hx1) (ixh rS hx2)) ?_
   refine vcd (fun h3=> ?_) fun h3=> ?_
   ·have h3:(x1.toList==x2.toList)=false:=o4 h3
    refine vxn c [0,2,10,50] [(8,.bool false)] ?_
    exact rtV rfl (retF (a6i hx1 hx2 (by intro e;subst e;simp at h3)))
   ·have h3:(x1.toList==x2.toList)=true:=o3 h3
    exact c5 (vxed c [50] [(10,.int (↑(i+1):Int))] [(1,.slot (.int (↑(i+1):Int)))] (wI1 i) (⟨_,by omega,(i+1),rfl,rfl,⟨by omega,(F3 hx1 hx2).2 ⟨hP1.2,y0.1 (by simpa using h3)⟩⟩⟩))
  ·refine n4 (vxn c [0,2,10,28] [(8,.bool true)] ?_)
   exact rtV rfl (retT (V7 hl (by omega) hP1.2))
theorem m8 (a b:List ByteArray)(ha:a.length≤140737488355328):
 CallV Try.prog 11 [.lf (.im true (.sl 1 (a.map rS))),.lf (.im true (.sl 1 (b.map rS)))] (·= .bool (decide (a=b))):=by
 refine CallX (fn:=Try.f11) TTok mixed Try.func11 rfl rfl rfl rfl rfl fun E c hMay=> ?_
 refine vx c [(0,.lf (.m 1 a rS)),(2,.lf (.m 1 b rS))] [] AllP.nil (by kernel_rfl) ?_
 refine b9 (vxd c [] [(20,.bool (decide ((a.length:Int)≠(b.length:Int))))] [(1,.slot (.int (a.length:Int))),(3,.slot (.int (b.length:Int)))] (a2 (lnl a rS) (lnl b rS)) ?_)
 refine vcp (fun h1=> ?_) fun h1=> ?_
 ·refine vxn c [0,2,20] [(8,.bool false)] ?_
  exact rtV rfl (retF (a3I h1))
 ·have hl:a.length=b.length:=by omega
  refine c5 (b9 (vxd c [20] [(24,.int (a.length:Int)),(26,.int 0)] [(1,.slot (.int (a.length:Int)))] (lnl a rS) ?_))
  refine c8 (vld (fun l0 n L=>∃(i:Nat),L=upG [] [(26,.int (i:Int))] l0∧n=a.length-i∧(i≤a.length∧a.take i=b.take i)) _ ⟨0,rfl,rfl,⟨by omega,by simp⟩⟩ ?_)
  rintro n L ⟨i,rfl,rfl,hP1⟩
  refine vxn c [] [(28,.bool (decide ((i:Int)<(a.length:Int))))] ?_
  refine b9 (vcp (fun h2=> ?_) fun h2=> ?_)
  ·refine c5 (b9 (c8 (vxn c [28] [(10,.int (i:Int))] ?_)))
   obtain⟨x1,hx1⟩:=u3 (l:=a) (i:=i) (by omega)
   obtain⟨x2,hx2⟩:=u3 (l:=b) (i:=i) (by omega)
   refine vxd c [10] [(48,.bool (!(x1.toList==x2.toList)))] [(2,.row (rS x1)),(6,.row (rS x2))] (a2 (ixh rS hx1) (ixh rS hx2)) ?_
   refine vcd (fun h3=> ?_) fun h3=> ?_
   ·have h3:(x1.toList==x2.toList)=false:=o4 h3
    refine vxn c [0,2,24,26,48] [(8,.bool false)] ?_
    exact rtV rfl (retF (a6i hx1 hx2 (by intro e;subst e;simp at h3)))
   ·have h3:(x1.toList==x2.toList)=true:=o3 h3
    exact c5 (vxed c [48] [(26,.int (↑(i+1):Int))] [(0,.slot (.int (↑(i+1):Int)))] (wI1 i) (⟨_,by omega,(i+1),rfl,rfl,⟨by omega,(F3 hx1 hx2).2 ⟨hP1.2,y0.1 (by simpa using h3)⟩⟩⟩))
  ·refine n4 (vxn c [0,2,24,26,28] [(8,.bool true)] ?_)
   exact rtV rfl (retT (V7 hl (by omega) hP1.2))
theorem a0D (a b:Fn)(hok:a.ok):
 CallV Try.prog 14 [.agg [.im true (.int .i64 a.seen),.im true (.sl 1 (a.args.map rS)),.im true (.sl 1 (a.rets.map rS)),.im true (.sl 1 (a.locals.map rS)),.im true (.sl 1 (a.takes.map rI)),.im true (.sl 3 (a.code.map rIns))],.agg [.im true (.int .i64 b.seen),.im true (.sl 1 (b.args.map rS)),.im true (.sl 1 (b.rets.map rS)),.im true (.sl 1 (b.locals.map rS)),.im true (.sl 1 (b.takes.map rI)),.im true (.sl 3 (b.code.map rIns))]] (·= .bool (B (FnOn a b))):=by
 refine CallX (fn:=Try.f14) TTok mixed Try.func14 rfl rfl rfl rfl rfl fun E c hMay=> ?_
 have b1:=hok.1.1
 have b2:=hok.2.1.1
 refine vx c [(4,.lf (.ptr 2 0)),(5,.cell 2 [.z a.seen,.m 1 a.args rS,.m 1 a.rets rS,.m 1 a.locals rS,.m 1 a.takes rI,.m 3 a.code rIns]),(6,.lf (.ptr 3 0)),(7,.cell 3 [.z b.seen,.m 1 b.args rS,.m 1 b.rets rS,.m 1 b.locals rS,.m 1 b.takes rI,.m 3 b.code rIns])] [] AllP.nil (by kernel_rfl) ?_
 refine b9 (vxn c [] [(14,.bool (decide ((a.seen:Int)=0)))] ?_)
 refine vcp (fun h1=> ?_) fun h1=> ?_
 ·refine vxn c [4,5,6,7,14] [(8,.bool true)] ?_
  exact rtV rfl (retBT (.inl h1))
 ·refine c5 ?_
  obtain⟨zc,hz⟩:∃c,c=((decide ((b.seen:Int)≥a.seen))&&((decide (a.args=b.args))&&(decide (a.rets=b.rets)))):=⟨_,rfl⟩
  refine vjd c [4,5,6,7,14] [(8,.bool zc)] (by
   rcases bft (decide ((b.seen:Int)≥a.seen))with g1|g1
   ·have g1p:=d5 g1
    rcases bft (decide (a.args=b.args))with g2|g2
    ·have g2p:=d5 g2
     exact runJ [(4,.slot (.bool true)),(10,.ret (.bool (decide (a.args=b.args)))),(11,.slot (.bool true)),(17,.ret (.bool (decide (a.rets=b.rets)))),(19,.slot (.bool zc))] (a2 (kB g1) (a2 (cl tx13 (A1 a.args b.args (by assumption))) (a2 (kB g2) (a2 (cl tx13 (A1 a.rets b.rets (by assumption))) (kBs (decide (a.rets=b.rets)) zc)))))
    ·have g2p:=i5 g2
     exact runJ [(4,.slot (.bool true)),(10,.ret (.bool (decide (a.args=b.args)))),(11,.slot (.bool false)),(19,.slot (.bool zc))] (a2 (kB g1) (a2 (cl tx13 (A1 a.args b.args (by assumption))) (a2 (kB g2) (kBs false zc))))
   ·have g1p:=i5 g1
    exact runJ [(4,.slot (.bool false)),(19,.slot (.bool zc))] (a2 (kB g1) (kBs false zc))) ?_
  subst hz
  exact rtV rfl (retBB (by simp[FnOn,h1]))
theorem a3n (a:List Int)(ha:a.length≤140737488355328)(v:Int):
 CallV Try.prog 15 [.lf (.im true (.sl 1 (a.map rI))),.lf (.im true (.int .i64 v))] (·= .bool (B (v∈a))):=by
 refine CallX (fn:=Try.f15) TTok mixed Try.func15 rfl rfl rfl rfl rfl fun E c hMay=> ?_
 refine vx c [(0,.lf (.m 1 a rI)),(2,.int v)] [] AllP.nil (by kernel_rfl) ?_
 refine b9 (vxn c [] [(10,.int 0)] ?_)
 refine c8 (vld (fun l0 n L=>∃(i:Nat),L=upG [] [(10,.int (i:Int))] l0∧n=a.length-i∧(i≤a.length∧∀y∈a.take i,y≠v)) _ ⟨0,rfl,rfl,⟨by omega,by simp⟩⟩ ?_)
 rintro n L ⟨i,rfl,rfl,hP1⟩
 refine b9 (vxd c [] [(18,.bool (decide ((i:Int)<(a.length:Int))))] [(2,.slot (.int (a.length:Int)))] (lnl a rI) ?_)
 refine vcp (fun h1=> ?_) fun h1=> ?_
 ·refine c5 ?_
  refine b9 ?_
  refine c8 ?_
  obtain⟨x1,hx1⟩:=u3 (l:=a) (i:=i) (by omega)
  refine vxd c [18] [(34,.bool (decide ((x1:Int)=v)))] [(2,.row (rI x1))] (ixh rI hx1) ?_
  refine vcp (fun h2=> ?_) fun h2=> ?_
  ·refine vxn c [0,2,10,34] [(8,.bool true)] ?_
   exact rtV rfl (retBT (by rw[←h2];exact List.mem_of_getElem? hx1))
  ·exact c5 (vxed c [34] [(10,.int (↑(i+1):Int))] [(1,.slot (.int (↑(i+1):Int)))] (wI1 i) (⟨_,by omega,(i+1),rfl,rfl,⟨by omega,W9 hP1.2 hx1 h2⟩⟩))
 ·refine n4 (vxn c [0,2,10,18] [(8,.bool false)] ?_)
  exact rtV rfl (retBF (fun hm=>a08 hP1.2 (by omega) v hm rfl))
theorem G2 (a:List Int)(ha:a.length≤140737488355328)(v:Int):
 CallV Try.prog 25 [.lf (.im true (.sl 1 (a.map rI))),.lf (.im true (.int .i64 v))] (·= .int (indexOf a v)):=by
 refine CallX (fn:=Try.f25) TTok mixed Try.func25 rfl rfl rfl rfl rfl fun E c hMay=> ?_
 refine vx c [(0,.lf (.m 1 a rI)),(2,.int v)] [] AllP.nil (by kernel_rfl) ?_
 refine b9 (vxd c [] [(14,.int (a.length:Int)),(16,.int 0)] [(1,.slot (.int (a.length:Int)))] (lnl a rI) ?_)
 refine c8 (vld (fun l0 n L=>∃(i:Nat),L=upG [] [(16,.int (i:Int))] l0∧n=a.length-i∧(i≤a.length∧∀y∈a.take i,y≠v)) _ ⟨0,rfl,rfl,⟨by omega,by simp⟩⟩ ?_)
 rintro n L ⟨i,rfl,rfl,hP1⟩
 refine vxn c [] [(18,.bool (decide ((i:Int)<(a.length:Int))))] ?_
 refine b9 (vcp (fun h1=> ?_) fun h1=> ?_)
 ·refine c5 (b9 (c8 (vxn c [18] [(10,.int (i:Int))] ?_)))
  obtain⟨x1,hx1⟩:=u3 (l:=a) (i:=i) (by omega)
  refine vxd c [] [(32,.bool (decide ((v:Int)=x1)))] [(3,.row (rI x1))] (ixh rI hx1) ?_
  refine vcp (fun h2=> ?_) fun h2=> ?_
  ·refine vxn c [0,2,10,14,16,32] [(8,.int (i:Int))] ?_
   exact rtV rfl (retI (a34 (by rw[h2];exact hx1) hP1.2).symm)
  ·exact c5 (vxed c [10,32] [(16,.int (↑(i+1):Int))] [(0,.slot (.int (↑(i+1):Int)))] (wI1 i) (⟨_,by omega,(i+1),rfl,rfl,⟨by omega,W9 hP1.2 hx1 (fun e=>h2 e.symm)⟩⟩))
 ·refine n4 (vxn c [0,2,14,16,18] [(8,.int (-1))] ?_)
  exact rtV rfl (retI (a4o (a08 hP1.2 (by omega))).symm)
theorem E3 (a:List Int)(ha:a.length≤140737488355328)(v:Int):
 CallV Try.prog 12 [.lf (.im true (.sl 1 (a.map rI))),.lf (.im true (.int .i64 v))] (·= .bool (B (v∈a))):=by
 refine CallX (fn:=Try.f12) TTok mixed Try.func12 rfl rfl rfl rfl rfl fun E c hMay=> ?_
 refine vx c [(0,.lf (.m 1 a rI)),(2,.int v)] [] AllP.nil (by kernel_rfl) ?_
 refine vxd c [0,2] [(8,.bool (decide ((indexOf a v:Int)≥0)))] [(2,.ret (.int (indexOf a v)))] (cl tx25 (G2 a (by assumption) v)) ?_
 exact rtV rfl (retBB a28)
theorem O1 (a b:Mod)(hoa:a.ok)(hob:b.ok):
 CallV Try.prog 6 [.agg [.im true (.sl 2 (a.records.map rRec)),.im true (.sl 6 (a.funcs.map rFn)),.im true (.sl 1 (a.friends.map rI))],.agg [.im true (.sl 2 (b.records.map rRec)),.im true (.sl 6 (b.funcs.map rFn)),.im true (.sl 1 (b.friends.map rI))]] (·= .bool (B (GoesOn a b))):=by
 refine CallX (fn:=Try.f6) TTok mixed Try.func6 rfl rfl rfl rfl rfl fun E c hMay=> ?_
 have b1:=hoa.1.1
 have b2:=hoa.2.1.1
 have b3:=hoa.2.2
 have c1:=hob.1.1
 have c2:=hob.2.1.1
 have c3:=hob.2.2
 refine vx c [(4,.lf (.ptr 2 0)),(5,.cell 2 [.m 2 a.records rRec,.m 6 a.funcs rFn,.m 1 a.friends rI]),(6,.lf (.ptr 3 0)),(7,.cell 3 [.m 2 b.records rRec,.m 6 b.funcs rFn,.m 1 b.friends rI])] [] AllP.nil (by kernel_rfl) ?_
 refine b9 ?_
 obtain⟨zc,hz⟩:∃c,c=((decide ((b.records.length:Int)<(a.records.length:Int)))||(decide ((b.funcs.length:Int)<(a.funcs.length:Int)))):=⟨_,rfl⟩
 refine vjd c [] [(46,.bool zc)] (by
  rcases bft (decide ((((b.records.length:Nat):Int):Int)<((a.records.length:Nat):Int)))with g1|g1
  ·have g1p:=d5 g1
   exact runJ [(2,.slot (.int (b.records.length:Int))),(5,.slot (.int (a.records.length:Int))),(6,.slot (.bool true)),(15,.slot (.bool zc))] (a2 (lnl b.records rRec) (a2 (lnl a.records rRec) (a2 (kB g1) (kBs true zc))))
  ·have g1p:=i5 g1
   exact runJ [(2,.slot (.int (b.records.length:Int))),(5,.slot (.int (a.records.length:Int))),(6,.slot (.bool false)),(10,.slot (.int (b.funcs.length:Int))),(13,.slot (.int (a.funcs.length:Int))),(15,.slot (.bool zc))] (a2 (lnl b.records rRec) (a2 (lnl a.records rRec) (a2 (kB g1) (a2 (lnl b.funcs rFn) (a2 (lnl a.funcs rFn) (kBs (decide ((b.funcs.length:Int)<(a.funcs.length:Int))) zc))))))) ?_
 subst hz
 refine vcd (fun h1=> ?_) fun h1=> ?_
 ·refine vxn c [4,5,6,7,46] [(8,.bool false)] ?_
  exact rtV rfl (retBF (fun hg=>by have:=hg.recs;have:=hg.funcs;simp at h1;omega))
 ·have hlen:a.records.length≤b.records.length∧a.funcs.length≤b.funcs.length:=by simp at h1;omega
  refine c5 (b9 (vxn c [46] [(10,.int 0)] ?_))
  refine c8 (vld (fun l0 n L=>∃(i:Nat),L=upG [] [(10,.int (i:Int))] l0∧n=a.records.length-i∧(i≤a.records.length∧∀(j:Nat) r s,j<i→a.records[j]? =some r→b.records[j]? =some s→r=s)) _ ⟨0,rfl,rfl,⟨by omega,by omega⟩⟩ ?_)
  rintro n L ⟨i,rfl,rfl,hP1⟩
  refine b9 (vxd c [] [(56,.bool (decide ((i:Int)<(a.records.length:Int))))] [(3,.slot (.int (a.records.length:Int)))] (lnl a.records rRec) ?_)
  refine vcp (fun h2=> ?_) fun h2=> ?_
  ·refine c5 ?_
   refine b9 ?_
   refine c8 ?_
   obtain⟨x1,hx1⟩:=u3 (l:=a.records) (i:=i) (by omega)
   obtain⟨x2,hx2⟩:=u3 (l:=b.records) (i:=i) (by omega)
   obtain⟨zc,hz⟩:∃c,c=((decide ((x1.able:Int)≠x2.able))||(!(decide (x1.fields=x2.fields)))):=⟨_,rfl⟩
   refine vjd c [56] [(118,.bool zc)] (by
    rcases bft (decide ((x1.able:Int)≠x2.able))with g2|g2
    ·have g2p:=d5 g2
     exact runJ [(3,.row (rRec x1)),(9,.row (rRec x2)),(12,.slot (.bool true)),(28,.slot (.bool zc))] (a2 (ixh rRec hx1) (a2 (ixh rRec hx2) (a2 (kB g2) (kBs true zc))))
    ·have g2p:=i5 g2
     exact runJ [(3,.row (rRec x1)),(9,.row (rRec x2)),(12,.slot (.bool false)),(17,.row (rRec x1)),(23,.row (rRec x2)),(26,.ret (.bool (decide (x1.fields=x2.fields)))),(28,.slot (.bool zc))] (a2 (ixh rRec hx1) (a2 (ixh rRec hx2) (a2 (kB g2) (a2 (ixh rRec hx1) (a2 (ixh rRec hx2) (a2 (cl tx13 (A1 x1.fields x2.fields (by exact(hoa.1.2 _ (List.mem_of_getElem? hx1)).1))) (kBs (!(decide (x1.fields=x2.fields))) zc)))))))) ?_
   subst hz
   refine vcd (fun h3=> ?_) fun h3=> ?_
   ·refine vxn c [4,5,6,7,10,118] [(8,.bool false)] ?_
    exact rtV rfl (retBF (fun hg=>by have:=hg.recEq _ _ _ hx1 hx2;subst this;simp at h3))
   ·exact c5 (vxed c [118] [(10,.int (↑(i+1):Int))] [(1,.slot (.int (↑(i+1):Int)))] (wI1 i) (⟨_,by omega,(i+1),rfl,rfl,⟨by omega,R3 hP1.2 hx1 hx2 (by simp at h3;exact a5l h3.1 h3.2)⟩⟩))
  ·refine n4 (b9 (vxn c [10,56] [(12,.int 0)] ?_))
   refine c8 (vld (fun l0 n L=>∃(k:Nat),L=upG [] [(12,.int (k:Int))] l0∧n=a.funcs.length-k∧(k≤a.funcs.length∧∀(j:Nat) r s,j<k→a.funcs[j]? =some r→b.funcs[j]? =some s→FnOn r s)) _ ⟨0,rfl,rfl,⟨by omega,by omega⟩⟩ ?_)
   rintro n L ⟨k,rfl,rfl,hP2⟩
   refine b9 (vxd c [] [(128,.bool (decide ((k:Int)<(a.funcs.length:Int))))] [(3,.slot (.int (a.funcs.length:Int)))] (lnl a.funcs rFn) ?_)
   refine vcp (fun h4=> ?_) fun h4=> ?_
   ·refine c5 ?_
    refine b9 ?_
    refine c8 ?_
    obtain⟨x3,hx3⟩:=u3 (l:=a.funcs) (i:=k) (by omega)
    obtain⟨x4,hx4⟩:=u3 (l:=b.funcs) (i:=k) (by omega)
    refine vxd c [128] [(156,.bool (!(B (FnOn x3 x4))))] [(3,.row (rFn x3)),(8,.row (rFn x4)),(10,.ret (.bool (B (FnOn x3 x4))))] (a2 (ixh rFn hx3) (a2 (ixh rFn hx4) (cl tx14 (a0D x3 x4 (by exact hoa.2.1.2 _ (List.mem_of_getElem? hx3)))))) ?_
    refine vcd (fun h5=> ?_) fun h5=> ?_
    ·have h5:(B (FnOn x3 x4))=false:=o4 h5
     refine vxn c [4,5,6,7,12,156] [(8,.bool false)] ?_
     exact rtV rfl (retBF (fun hg=>by have:=K2 (hg.fn _ _ _ hx3 hx4);rw[this]at h5;simp at h5))
    ·have h5:(B (FnOn x3 x4))=true:=o3 h5
     exact c5 (vxed c [156] [(12,.int (↑(k+1):Int))] [(1,.slot (.int (↑(k+1):Int)))] (wI1 k) (⟨_,by omega,(k+1),rfl,rfl,⟨by omega,R3 hP2.2 hx3 hx4 (a4v.1 (by simpa using h5))⟩⟩))
   ·refine n4 (b9 (vxn c [12,128] [(14,.int 0)] ?_))
    refine c8 (vld (fun l0 n L=>∃(q:Nat),L=upG [] [(14,.int (q:Int))] l0∧n=a.friends.length-q∧(q≤a.friends.length∧∀y∈a.friends.take q,y∈b.friends)) _ ⟨0,rfl,rfl,⟨by omega,by simp⟩⟩ ?_)
    rintro n L ⟨q,rfl,rfl,hP3⟩
    refine b9 (vxd c [] [(166,.bool (decide ((q:Int)<(a.friends.length:Int))))] [(3,.slot (.int (a.friends.length:Int)))] (lnl a.friends rI) ?_)
    refine vcp (fun h6=> ?_) fun h6=> ?_
    ·refine c5 ?_
     refine b9 ?_
     refine c8 ?_
     obtain⟨x5,hx5⟩:=u3 (l:=a.friends) (i:=q) (by omega)
     refine vxd c [166] [(188,.bool (!(B (x5∈b.friends))))] [(5,.row (rI x5)),(7,.ret (.bool (B (x5∈b.friends))))] (a2 (ixh rI hx5) (cl tx15 (a3n b.friends (by assumption) x5))) ?_
     refine vcd (fun h7=> ?_) fun h7=> ?_
     ·have h7:(B (x5∈b.friends))=false:=o4 h7
      refine vxn c [4,5,6,7,14,188] [(8,.bool false)] ?_
      exact rtV rfl (retBF (fun hg=>by have:=K2 (hg.friend _ (List.mem_of_getElem? hx5));rw[this]at h7;simp at h7))
     ·have h7:(B (x5∈b.friends))=true:=o3 h7
      exact c5 (vxed c [188] [(14,.int (↑(q+1):Int))] [(1,.slot (.int (↑(q+1):Int)))] (wI1 q) (⟨_,by omega,(q+1),rfl,rfl,⟨by omega,W9 hP3.2 hx5 (a4v.1 (by simpa using h7))⟩⟩))
    ·refine n4 (vxn c [4,5,6,7,14,166] [(8,.bool true)] ?_)
     exact rtV rfl (retBT ⟨hlen.1,hlen.2,W5 hP1.2 (by omega),W5 hP2.2 (by omega),a08 hP3.2 (by omega)⟩)
theorem e6 (a b:Mod)(hoa:a.ok)(hob:b.ok):
 CallV Try.prog 5 [.agg [.im true (.sl 2 (a.records.map rRec)),.im true (.sl 6 (a.funcs.map rFn)),.im true (.sl 1 (a.friends.map rI))],.agg [.im true (.sl 2 (b.records.map rRec)),.im true (.sl 6 (b.funcs.map rFn)),.im true (.sl 1 (b.friends.map rI))]] (·= .bool (B (GoesOn a b))):=by
 refine CallX (fn:=Try.f5) TTok mixed Try.func5 rfl rfl rfl rfl rfl fun E c hMay=> ?_
 have b1:=hoa.1.1
 have b2:=hoa.2.1.1
 have b3:=hoa.2.2
 have c1:=hob.1.1
 have c2:=hob.2.1.1
 have c3:=hob.2.2
 refine vx c [(4,.lf (.ptr 2 0)),(5,.cell 2 [.m 2 a.records rRec,.m 6 a.funcs rFn,.m 1 a.friends rI]),(6,.lf (.ptr 3 0)),(7,.cell 3 [.m 2 b.records rRec,.m 6 b.funcs rFn,.m 1 b.friends rI])] [] AllP.nil (by kernel_rfl) ?_
 refine b9 ?_
 obtain⟨zc,hz⟩:∃c,c=((decide ((b.records.length:Int)<(a.records.length:Int)))||(decide ((b.funcs.length:Int)<(a.funcs.length:Int)))):=⟨_,rfl⟩
 refine vjd c [] [(54,.bool zc)] (by
  rcases bft (decide ((((b.records.length:Nat):Int):Int)<((a.records.length:Nat):Int)))with g1|g1
  ·have g1p:=d5 g1
   exact runJ [(2,.slot (.int (b.records.length:Int))),(5,.slot (.int (a.records.length:Int))),(6,.slot (.bool true)),(15,.slot (.bool zc))] (a2 (lnl b.records rRec) (a2 (lnl a.records rRec) (a2 (kB g1) (kBs true zc))))
  ·have g1p:=i5 g1
   exact runJ [(2,.slot (.int (b.records.length:Int))),(5,.slot (.int (a.records.length:Int))),(6,.slot (.bool false)),(10,.slot (.int (b.funcs.length:Int))),(13,.slot (.int (a.funcs.length:Int))),(15,.slot (.bool zc))] (a2 (lnl b.records rRec) (a2 (lnl a.records rRec) (a2 (kB g1) (a2 (lnl b.funcs rFn) (a2 (lnl a.funcs rFn) (kBs (decide ((b.funcs.length:Int)<(a.funcs.length:Int))) zc))))))) ?_
 subst hz
 refine vcd (fun h1=> ?_) fun h1=> ?_
 ·refine vxn c [4,5,6,7,54] [(8,.bool false)] ?_
  exact rtV rfl (retBF (fun hg=>by have:=hg.recs;have:=hg.funcs;simp at h1;omega))
 ·have hlen:a.records.length≤b.records.length∧a.funcs.length≤b.funcs.length:=by simp at h1;omega
  refine c5 (b9 (vxd c [54] [(58,.lf (.m 2 a.records rRec)),(60,.int (a.records.length:Int)),(62,.int 0)] [(2,.slot (.int (a.records.length:Int)))] (lnl a.records rRec) ?_))
  refine c8 (vld (fun l0 n L=>∃(i:Nat),L=upG [] [(62,.int (i:Int))] l0∧n=a.records.length-i∧(i≤a.records.length∧∀(j:Nat) r s,j<i→a.records[j]? =some r→b.records[j]? =some s→r=s)) _ ⟨0,rfl,rfl,⟨by omega,by omega⟩⟩ ?_)
  rintro n L ⟨i,rfl,rfl,hP1⟩
  refine vxn c [] [(64,.bool (decide ((i:Int)<(a.records.length:Int))))] ?_
  refine b9 (vcp (fun h2=> ?_) fun h2=> ?_)
  ·refine c5 ?_
   refine b9 ?_
   refine c8 ?_
   obtain⟨x1,hx1⟩:=u3 (l:=a.records) (i:=i) (by omega)
   refine vxd c [64] [(10,.int (i:Int)),(12,.lf (.ptr 6 0)),(13,.cell 6 [.z x1.able,.m 1 x1.fields rS])] [(1,.row (rRec x1))] (ixh rRec hx1) ?_
   obtain⟨x2,hx2⟩:=u3 (l:=b.records) (i:=i) (by omega)
   obtain⟨zc,hz⟩:∃c,c=((decide ((x2.able:Int)≠x1.able))||(!(decide (x2.fields=x1.fields)))):=⟨_,rfl⟩
   refine vjd c [10,12,13] [(112,.bool zc)] (by
    rcases bft (decide ((x2.able:Int)≠x1.able))with g2|g2
    ·have g2p:=d5 g2
     exact runJ [(3,.row (rRec x2)),(8,.slot (.bool true)),(20,.slot (.bool zc))] (a2 (ixh rRec hx2) (a2 (kB g2) (kBs true zc)))
    ·have g2p:=i5 g2
     exact runJ [(3,.row (rRec x2)),(8,.slot (.bool false)),(13,.row (rRec x2)),(18,.ret (.bool (decide (x2.fields=x1.fields)))),(20,.slot (.bool zc))] (a2 (ixh rRec hx2) (a2 (kB g2) (a2 (ixh rRec hx2) (a2 (cl tx11 (m8 x2.fields x1.fields (by exact(hob.1.2 _ (List.mem_of_getElem? hx2)).1))) (kBs (!(decide (x2.fields=x1.fields))) zc)))))) ?_
   subst hz
   refine vcd (fun h3=> ?_) fun h3=> ?_
   ·refine vxn c [4,5,6,7,58,60,62,112] [(8,.bool false)] ?_
    exact rtV rfl (retBF (fun hg=>by have:=hg.recEq _ _ _ hx1 hx2;subst this;simp at h3))
   ·exact c5 (vxed c [112] [(62,.int (↑(i+1):Int))] [(0,.slot (.int (↑(i+1):Int)))] (wI1 i) (⟨_,by omega,(i+1),rfl,rfl,⟨by omega,R3 hP1.2 hx1 hx2 (by simp at h3;exact a5l h3.1.symm h3.2.symm)⟩⟩))
  ·refine n4 (b9 (vxd c [58,60,62,64] [(118,.lf (.m 6 a.funcs rFn)),(120,.int (a.funcs.length:Int)),(122,.int 0)] [(2,.slot (.int (a.funcs.length:Int)))] (lnl a.funcs rFn) ?_))
   refine c8 (vld (fun l0 n L=>∃(k:Nat),L=upG [] [(122,.int (k:Int))] l0∧n=a.funcs.length-k∧(k≤a.funcs.length∧∀(j:Nat) r s,j<k→a.funcs[j]? =some r→b.funcs[j]? =some s→FnOn r s)) _ ⟨0,rfl,rfl,⟨by omega,by omega⟩⟩ ?_)
   rintro n L ⟨k,rfl,rfl,hP2⟩
   refine vxn c [] [(124,.bool (decide ((k:Int)<(a.funcs.length:Int))))] ?_
   refine b9 (vcp (fun h4=> ?_) fun h4=> ?_)
   ·refine c5 ?_
    refine b9 ?_
    refine c8 ?_
    obtain⟨x3,hx3⟩:=u3 (l:=a.funcs) (i:=k) (by omega)
    refine vxd c [124] [(14,.int (k:Int)),(16,.lf (.ptr 8 0)),(17,.cell 8 [.z x3.seen,.m 1 x3.args rS,.m 1 x3.rets rS,.m 1 x3.locals rS,.m 1 x3.takes rI,.m 3 x3.code rIns])] [(1,.row (rFn x3))] (ixh rFn hx3) ?_
    obtain⟨x4,hx4⟩:=u3 (l:=b.funcs) (i:=k) (by omega)
    refine vxd c [14] [(18,.lf (.ptr 9 0)),(19,.cell 9 [.z x4.seen,.m 1 x4.args rS,.m 1 x4.rets rS,.m 1 x4.locals rS,.m 1 x4.takes rI,.m 3 x4.code rIns])] [(3,.row (rFn x4))] (ixh rFn hx4) ?_
    obtain⟨zc,hz⟩:∃c,c=((decide ((x3.seen:Int)≠0))&&((decide ((x4.seen:Int)<x3.seen))||((!(decide (x4.args=x3.args)))||(!(decide (x4.rets=x3.rets)))))):=⟨_,rfl⟩
    refine vjd c [16,17,18,19] [(192,.bool zc)] (by
     rcases bft (decide ((x3.seen:Int)≠0))with g3|g3
     ·have g3p:=d5 g3
      rcases bft (decide ((x4.seen:Int)<x3.seen))with g4|g4
      ·have g4p:=d5 g4
       exact runJ [(2,.slot (.bool true)),(8,.slot (.bool true)),(25,.slot (.bool zc))] (a2 (kB g3) (a2 (kB g4) (kBs true zc)))
      ·have g4p:=i5 g4
       rcases bft (!(decide (x4.args=x3.args)))with g5|g5
       ·have g5p:=o4 g5
        exact runJ [(2,.slot (.bool true)),(8,.slot (.bool false)),(14,.ret (.bool (decide (x4.args=x3.args)))),(15,.slot (.bool true)),(25,.slot (.bool zc))] (a2 (kB g3) (a2 (kB g4) (a2 (cl tx11 (m8 x4.args x3.args (by exact(hob.2.1.2 _ (List.mem_of_getElem? hx4)).1.1))) (a2 (kB g5) (kBs true zc)))))
       ·have g5p:=o3 g5
        exact runJ [(2,.slot (.bool true)),(8,.slot (.bool false)),(14,.ret (.bool (decide (x4.args=x3.args)))),(15,.slot (.bool false)),(22,.ret (.bool (decide (x4.rets=x3.rets)))),(25,.slot (.bool zc))] (a2 (kB g3) (a2 (kB g4) (a2 (cl tx11 (m8 x4.args x3.args (by exact(hob.2.1.2 _ (List.mem_of_getElem? hx4)).1.1))) (a2 (kB g5) (a2 (cl tx11 (m8 x4.rets x3.rets (by exact(hob.2.1.2 _ (List.mem_of_getElem? hx4)).2.1.1))) (kBs (!(decide (x4.rets=x3.rets))) zc))))))
     ·have g3p:=i5 g3
      exact runJ [(2,.slot (.bool false)),(25,.slot (.bool zc))] (a2 (kB g3) (kBs false zc))) ?_
    subst hz
    refine vcd (fun h5=> ?_) fun h5=> ?_
    ·refine vxn c [4,5,6,7,118,120,122,192] [(8,.bool false)] ?_
     exact rtV rfl (retBF (fun hg=>by have:=hg.fn _ _ _ hx3 hx4;unfold FnOn at this;grind))
    ·exact c5 (vxed c [192] [(122,.int (↑(k+1):Int))] [(0,.slot (.int (↑(k+1):Int)))] (wI1 k) (⟨_,by omega,(k+1),rfl,rfl,⟨by omega,R3 hP2.2 hx3 hx4 (by unfold FnOn;grind)⟩⟩))
   ·refine n4 (b9 (vxd c [4,5,118,120,122,124] [(198,.lf (.m 1 a.friends rI)),(200,.int (a.friends.length:Int)),(202,.int 0)] [(2,.slot (.int (a.friends.length:Int)))] (lnl a.friends rI) ?_))
    refine c8 (vld (fun l0 n L=>∃(q:Nat),L=upG [] [(202,.int (q:Int))] l0∧n=a.friends.length-q∧(q≤a.friends.length∧∀y∈a.friends.take q,y∈b.friends)) _ ⟨0,rfl,rfl,⟨by omega,by simp⟩⟩ ?_)
    rintro n L ⟨q,rfl,rfl,hP3⟩
    refine vxn c [] [(204,.bool (decide ((q:Int)<(a.friends.length:Int))))] ?_
    refine b9 (vcp (fun h6=> ?_) fun h6=> ?_)
    ·refine c5 ?_
     refine b9 ?_
     refine c8 ?_
     obtain⟨x5,hx5⟩:=u3 (l:=a.friends) (i:=q) (by omega)
     refine vxd c [204] [(22,.int x5)] [(0,.row (rI x5))] (ixh rI hx5) ?_
     refine vxd c [22] [(218,.bool (!(B (x5∈b.friends))))] [(3,.ret (.bool (B (x5∈b.friends))))] (cl tx12 (E3 b.friends (by assumption) x5)) ?_
     refine vcd (fun h7=> ?_) fun h7=> ?_
     ·have h7:(B (x5∈b.friends))=false:=o4 h7
      refine vxn c [6,7,198,200,202,218] [(8,.bool false)] ?_
      exact rtV rfl (retBF (fun hg=>by have:=K2 (hg.friend _ (List.mem_of_getElem? hx5));rw[this]at h7;simp at h7))
     ·have h7:(B (x5∈b.friends))=true:=o3 h7
      exact c5 (vxed c [218] [(202,.int (↑(q+1):Int))] [(0,.slot (.int (↑(q+1):Int)))] (wI1 q) (⟨_,by omega,(q+1),rfl,rfl,⟨by omega,W9 hP3.2 hx5 (a4v.1 (by simpa using h7))⟩⟩))
    ·refine n4 (vxn c [6,7,198,200,202,204] [(8,.bool true)] ?_)
     exact rtV rfl (retBT ⟨hlen.1,hlen.2,W5 hP1.2 (by omega),W5 hP2.2 (by omega),a08 hP3.2 (by omega)⟩)
theorem a0u (a b:List ByteArray)(ha:a.length≤140737488355328):
 CallV Try.prog 16 [.lf (.im true (.sl 1 (a.map rS))),.lf (.im true (.sl 1 (b.map rS)))] (·= .bool (decide (a=b))):=by
 refine CallX (fn:=Try.f16) TTok mixed Try.func16 rfl rfl rfl rfl rfl fun E c hMay=> ?_
 refine vx c [(0,.lf (.m 1 a rS)),(2,.lf (.m 1 b rS))] [] AllP.nil (by kernel_rfl) ?_
 refine b9 (vxd c [] [(20,.bool (decide ((a.length:Int)≠(b.length:Int))))] [(1,.slot (.int (a.length:Int))),(3,.slot (.int (b.length:Int)))] (a2 (lnl a rS) (lnl b rS)) ?_)
 refine vcp (fun h1=> ?_) fun h1=> ?_
 ·refine vxn c [0,2,20] [(8,.bool false)] ?_
  exact rtV rfl (retF (a3I h1))
 ·have hl:a.length=b.length:=by omega
  refine c5 (b9 (vxn c [20] [(10,.int 0)] ?_))
  refine c8 (vld (fun l0 n L=>∃(i:Nat),L=upG [] [(10,.int (i:Int))] l0∧n=a.length-i∧(i≤a.length∧a.take i=b.take i)) _ ⟨0,rfl,rfl,⟨by omega,by simp⟩⟩ ?_)
  rintro n L ⟨i,rfl,rfl,hP1⟩
  refine b9 (vxd c [] [(28,.bool (decide ((i:Int)<(a.length:Int))))] [(2,.slot (.int (a.length:Int)))] (lnl a rS) ?_)
  refine vcp (fun h2=> ?_) fun h2=> ?_
  ·refine c5 ?_
   refine b9 ?_
   refine c8 ?_
   obtain⟨x1,hx1⟩:=u3 (l:=a) (i:=i) (by omega)
   obtain⟨x2,hx2⟩:=u3 (l:=b) (i:=i) (by omega)
   refine vxd c [28] [(50,.bool (!(x1.toList==x2.toList)))] [(2,.row (rS x1)),(6,.row (rS x2))] (a2 (ixh rS hx1) (ixh rS hx2)) ?_
   refine vcd (fun h3=> ?_) fun h3=> ?_
   ·have h3:(x1.toList==x2.toList)=false:=o4 h3
    refine vxn c [0,2,10,50] [(8,.bool false)] ?_
    exact rtV rfl (retF (a6i hx1 hx2 (by intro e;subst e;simp at h3)))
   ·have h3:(x1.toList==x2.toList)=true:=o3 h3
    exact c5 (vxed c [50] [(10,.int (↑(i+1):Int))] [(1,.slot (.int (↑(i+1):Int)))] (wI1 i) (⟨_,by omega,(i+1),rfl,rfl,⟨by omega,(F3 hx1 hx2).2 ⟨hP1.2,y0.1 (by simpa using h3)⟩⟩⟩))
  ·refine n4 (vxn c [0,2,10,28] [(8,.bool true)] ?_)
   exact rtV rfl (retT (V7 hl (by omega) hP1.2))
theorem U7 (a b:List Rec)(ha:a.length≤140737488355328)(hok:∀x∈a,x.ok):
 CallV Try.prog 7 [.lf (.im true (.sl 2 (a.map rRec))),.lf (.im true (.sl 2 (b.map rRec)))] (·= .bool (decide (a=b))):=by
 refine CallX (fn:=Try.f7) TTok mixed Try.func7 rfl rfl rfl rfl rfl fun E c hMay=> ?_
 refine vx c [(0,.lf (.m 2 a rRec)),(2,.lf (.m 2 b rRec))] [] AllP.nil (by kernel_rfl) ?_
 refine b9 (vxd c [] [(20,.bool (decide ((a.length:Int)≠(b.length:Int))))] [(1,.slot (.int (a.length:Int))),(3,.slot (.int (b.length:Int)))] (a2 (lnl a rRec) (lnl b rRec)) ?_)
 refine vcp (fun h1=> ?_) fun h1=> ?_
 ·refine vxn c [0,2,20] [(8,.bool false)] ?_
  exact rtV rfl (retF (a3I h1))
 ·have hl:a.length=b.length:=by omega
  refine c5 (b9 (vxn c [20] [(10,.int 0)] ?_))
  refine c8 (vld (fun l0 n L=>∃(i:Nat),L=upG [] [(10,.int (i:Int))] l0∧n=a.length-i∧(i≤a.length∧a.take i=b.take i)) _ ⟨0,rfl,rfl,⟨by omega,by simp⟩⟩ ?_)
  rintro n L ⟨i,rfl,rfl,hP1⟩
  refine b9 (vxd c [] [(28,.bool (decide ((i:Int)<(a.length:Int))))] [(2,.slot (.int (a.length:Int)))] (lnl a rRec) ?_)
  refine vcp (fun h2=> ?_) fun h2=> ?_
  ·refine c5 ?_
   refine b9 ?_
   refine c8 ?_
   obtain⟨x1,hx1⟩:=u3 (l:=a) (i:=i) (by omega)
   obtain⟨x2,hx2⟩:=u3 (l:=b) (i:=i) (by omega)
   obtain⟨zc,hz⟩:∃c,c=((decide ((x1.able:Int)≠x2.able))||(!(decide (x1.fields=x2.fields)))):=⟨_,rfl⟩
   refine vjd c [28] [(82,.bool zc)] (by
    rcases bft (decide ((x1.able:Int)≠x2.able))with g1|g1
    ·have g1p:=d5 g1
     exact runJ [(2,.row (rRec x1)),(7,.row (rRec x2)),(10,.slot (.bool true)),(24,.slot (.bool zc))] (a2 (ixh rRec hx1) (a2 (ixh rRec hx2) (a2 (kB g1) (kBs true zc))))
    ·have g1p:=i5 g1
     exact runJ [(2,.row (rRec x1)),(7,.row (rRec x2)),(10,.slot (.bool false)),(14,.row (rRec x1)),(19,.row (rRec x2)),(22,.ret (.bool (decide (x1.fields=x2.fields)))),(24,.slot (.bool zc))] (a2 (ixh rRec hx1) (a2 (ixh rRec hx2) (a2 (kB g1) (a2 (ixh rRec hx1) (a2 (ixh rRec hx2) (a2 (cl tx16 (a0u x1.fields x2.fields (by exact(hok _ (List.mem_of_getElem? hx1)).1))) (kBs (!(decide (x1.fields=x2.fields))) zc)))))))) ?_
   subst hz
   refine vcd (fun h3=> ?_) fun h3=> ?_
   ·refine vxn c [0,2,10,82] [(8,.bool false)] ?_
    exact rtV rfl (retF (a6i hx1 hx2 (by intro e;subst e;simp at h3)))
   ·exact c5 (vxed c [82] [(10,.int (↑(i+1):Int))] [(1,.slot (.int (↑(i+1):Int)))] (wI1 i) (⟨_,by omega,(i+1),rfl,rfl,⟨by omega,(F3 hx1 hx2).2 ⟨hP1.2,by simp at h3;exact a5l h3.1 h3.2⟩⟩⟩))
  ·refine n4 (vxn c [0,2,10,28] [(8,.bool true)] ?_)
   exact rtV rfl (retT (V7 hl (by omega) hP1.2))
theorem law5_x (code:List UInt8):
 ∃s,(fun s=>s= .bool true) s∧CallV Try.prog 3 [.lf (.im true (.sl 1 (code.map rB)))] (·=s):=by
 refine CallE (fn:=Try.f3) TTok mixed Try.func3 rfl rfl rfl rfl rfl ?_
 refine ex [(0,.lf (.m 1 code rB))] [] AllP.nil (by kernel_rfl) ?_
 refine a7 (exd [] [(18,.bool (decide ((code.length:Int)>1048576)))] [(1,.slot (.int (code.length:Int)))] (lnl code rB) ?_)
 refine ecp (fun h1=> ?_) fun h1=> ?_
 ·refine exn [0,18] [(4,.bool true)] ?_
  exact rtE rfl (by first|rfl|exact congrArg Slot.bool (a2l x y rfl))
 ·refine a5 ?_
  obtain⟨_,⟨x,y,hTx,hTy,rfl⟩,cc1⟩:=draw_x code
  have hox:=hTx.ok
  have hoy:=hTy.ok
  refine exd [0,18] [(6,.lf (.ptr 3 0)),(7,.cell 3 [.m 2 x.records rRec,.m 6 x.funcs rFn,.m 1 x.friends rI]),(8,.lf (.ptr 4 0)),(9,.cell 4 [.m 2 y.records rRec,.m 6 y.funcs rFn,.m 1 y.friends rI])] [(1,.ret (.tup [.agg [.m 2 x.records rRec,.m 6 x.funcs rFn,.m 1 x.friends rI],.agg [.m 2 y.records rRec,.m 6 y.funcs rFn,.m 1 y.friends rI]]))] (cl tx4 cc1) ?_
  refine exd [] [(10,.bool (B (GoesOn x y)))] [(2,.ret (.bool (B (GoesOn x y))))] (cl tx5 (e6 x y (by assumption) (by assumption))) ?_
  refine exd [] [(12,.bool (B (GoesOn x y)))] [(2,.ret (.bool (B (GoesOn x y))))] (cl tx6 (O1 x y (by assumption) (by assumption))) ?_
  refine a7 (exn [12] [(46,.bool ((B (GoesOn x y)) !=(B (GoesOn x y))))] ?_)
  refine ecd (fun h2=> ?_) fun h2=> ?_
  ·exact absurd h2 (by simp)
  ·refine a5 ?_
   obtain⟨zc,hz⟩:∃c,c=((B (GoesOn y y))&&((B (GoesOn x x))&&((!(B (GoesOn x y)))||((!(B (GoesOn y x)))||(decide (x.records=y.records)))))):=⟨_,rfl⟩
   refine ejd [6,7,8,9,10,46] [(4,.bool zc)] (by
    rcases bft (B (GoesOn y y))with g1|g1
    ·rcases bft (B (GoesOn x x))with g2|g2
     ·rcases bft (!(B (GoesOn x y)))with g3|g3
      ·have g3p:=o4 g3
       exact runJ [(2,.ret (.bool (B (GoesOn y y)))),(3,.slot (.bool true)),(6,.ret (.bool (B (GoesOn x x)))),(7,.slot (.bool true)),(10,.slot (.bool true)),(25,.slot (.bool zc))] (a2 (cl tx5 (e6 y y (by assumption) (by assumption))) (a2 (kB g1) (a2 (cl tx5 (e6 x x (by assumption) (by assumption))) (a2 (kB g2) (a2 (kB g3) (kBs true zc))))))
      ·have g3p:=o3 g3
       rcases bft (!(B (GoesOn y x)))with g4|g4
       ·have g4p:=o4 g4
        exact runJ [(2,.ret (.bool (B (GoesOn y y)))),(3,.slot (.bool true)),(6,.ret (.bool (B (GoesOn x x)))),(7,.slot (.bool true)),(10,.slot (.bool false)),(14,.ret (.bool (B (GoesOn y x)))),(15,.slot (.bool true)),(25,.slot (.bool zc))] (a2 (cl tx5 (e6 y y (by assumption) (by assumption))) (a2 (kB g1) (a2 (cl tx5 (e6 x x (by assumption) (by assumption))) (a2 (kB g2) (a2 (kB g3) (a2 (cl tx5 (e6 y x (by assumption) (by assumption))) (a2 (kB g4) (kBs true zc))))))))
       ·have g4p:=o3 g4
        exact runJ [(2,.ret (.bool (B (GoesOn y y)))),(3,.slot (.bool true)),(6,.ret (.bool (B (GoesOn x x)))),(7,.slot (.bool true)),(10,.slot (.bool false)),(14,.ret (.bool (B (GoesOn y x)))),(15,.slot (.bool false)),(22,.ret (.bool (decide (x.records=y.records)))),(25,.slot (.bool zc))] (a2 (cl tx5 (e6 y y (by assumption) (by assumption))) (a2 (kB g1) (a2 (cl tx5 (e6 x x (by assumption) (by assumption))) (a2 (kB g2) (a2 (kB g3) (a2 (cl tx5 (e6 y x (by assumption) (by assumption))) (a2 (kB g4) (a2 (cl tx7 (U7 x.records y.records hox.1.1 hox.1.2)) (kBs (decide (x.records=y.records)) zc)))))))))
     ·exact runJ [(2,.ret (.bool (B (GoesOn y y)))),(3,.slot (.bool true)),(6,.ret (.bool (B (GoesOn x x)))),(7,.slot (.bool false)),(25,.slot (.bool zc))] (a2 (cl tx5 (e6 y y (by assumption) (by assumption))) (a2 (kB g1) (a2 (cl tx5 (e6 x x (by assumption) (by assumption))) (a2 (kB g2) (kBs false zc)))))
    ·exact runJ [(2,.ret (.bool (B (GoesOn y y)))),(3,.slot (.bool false)),(25,.slot (.bool zc))] (a2 (cl tx5 (e6 y y (by assumption) (by assumption))) (a2 (kB g1) (kBs false zc)))) ?_
   subst hz
   exact rtE rfl (by first|rfl|exact congrArg Slot.bool (a2l x y rfl))
theorem law5_h (code:List UInt8):CallV Try.prog 3 [.lf (.im true (.sl 1 (code.map rB)))] (·= .bool true):=by
 obtain⟨_,rfl,h⟩:=law5_x code
 exact h
end Go.Proofs.Ytjfjdgjhihgdkaa
