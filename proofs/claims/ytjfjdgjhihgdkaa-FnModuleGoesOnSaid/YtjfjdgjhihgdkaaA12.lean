/- Part 12 of the proof of FnModuleGoesOn. -/
import Derived.Test.YtjfjdgjhihgdkaaA11
import Derived.KernelRfl
set_option linter.unusedVariables false
set_option linter.unusedSimpArgs false
set_option maxRecDepth 100000
namespace Go.Proofs.Ytjfjdgjhihgdkaa
open Go Go.RowKit V
theorem a5n (R:List Rec)(fr:List Int)(line:ByteArray)(hs:line.size≤4000)(hR:R.length≤3):
 ∃o r,(fun o s=>∃ok:Bool,(∃(R':List Rec) (fr':List Int),o= .own obN [.hole,.hole,.hole] [.mk (obN+1) 0 41 2 (R'.map rRec),.mk (obN+2) 0 45 6 ([]:List (List SV)),.no]∧s= .tup [.agg [.hd (obN+1) ((R'.map rRec:List (List SV)).length) 0,.hd (obN+2) ((([]:List (List SV)):List (List SV)).length) 0,.im true (.sl 1 (fr'.map rI))],.lf (.im true (.bool ok))]∧rdL (⟨R,[],fr⟩:Mod) line=bif ok then some (⟨R',[],fr'⟩:Mod)else none)∨(∃(R':List Rec) (fr':List Int) (pre':List Fn) (cur':Fn),cur'.code=[]∧o= .own obN [.hole,.hole,.hole] [.mk (obN+1) 0 41 2 (R'.map rRec),.mk (obN+2) 0 45 6 (pre'.map rFn++[rFnZ cur']),.no]∧s= .tup [.agg [.hd (obN+1) ((R'.map rRec:List (List SV)).length) 0,.hd (obN+2) (((pre'.map rFn++[rFnZ cur']):List (List SV)).length) 0,.im true (.sl 1 (fr'.map rI))],.lf (.im true (.bool ok))]∧rdL (⟨R,[],fr⟩:Mod) line=bif ok then some (⟨R',pre'++[cur'],fr'⟩:Mod)else none)) o r∧CallGX Try.prog 51 [.agg [.hd (obN+1) ((R.map rRec:List (List SV)).length) 0,.hd (obN+2) ((([]:List (List SV)):List (List SV)).length) 0,.im true (.sl 1 (fr.map rI))],.lf (.im true (.str line))] (.own obN [.hole,.hole,.hole] [.mk (obN+1) 0 41 2 (R.map rRec),.mk (obN+2) 0 45 6 ([]:List (List SV)),.no]) o r:=by
 refine CallGE (fn:=Try.f51) TTok mixed Try.func51 rfl rfl rfl rfl ?_
 have hwl:1≤(words line).length∧(words line).length≤line.size+1:=K4 line line.size
 refine ex [(1,.own obN [.hole,.hole,.hole] [.mk (obN+1) 0 41 2 (R.map rRec),.mk (obN+2) 0 45 6 ([]:List (List SV)),.no]),(2,.lf (.q line)),(4,.lf (.ptr 2 0)),(5,.cell 2 [.hd (obN+1) ((R.map rRec).length) 0,.hd (obN+2) ((([]:List (List SV)):List (List SV)).length) 0,.m 1 fr rI]),(8,.lf (.ptr 4 0)),(9,.cell 4 [.nil,.nil,.nil])] [] AllP.nil (by kernel_rfl) ?_
 refine exd [] [(12,.lf (.m 1 (words line) rS))] [(1,.ret (.lf (.m 1 (words line) rS)))] (cl tx64 (P1 line (by omega))) ?_
 refine exd [] [(14,.int 0)] [(2,.slot (.int 0))] (a1 (show(Slot.int (((([]:List (List SV)):List (List SV)).length:Nat):Int))= .int 0 by rw[show(([]:List (List SV)):List (List SV)).length=0 by simp]<;>rfl)) ?_
 refine a7 ?_
 obtain⟨zc,hz⟩:∃c,c=(((nth (words line) 0).toList==B15.toList)&&(decide (((((words line).length:Nat):Int):Int)>1))):=⟨_,rfl⟩
 refine ejd [] [(56,.bool zc)] (by
  rcases bft ((nth (words line) 0).toList==B15.toList)with g1|g1
  ·exact runJ [(1,.row (rS (nth (words line) 0))),(3,.slot (.bool true)),(6,.slot (.int (((words line).length:Nat):Int))),(8,.slot (.bool zc))] (a2 (ixn rS (words line) 0) (a2 (kB g1) (a2 (lnl (words line) rS) (kBs (decide (((((words line).length:Nat):Int):Int)>1)) zc))))
  ·exact runJ [(1,.row (rS (nth (words line) 0))),(3,.slot (.bool false)),(8,.slot (.bool zc))] (a2 (ixn rS (words line) 0) (a2 (kB g1) (kBs false zc)))) ?_
 subst hz
 refine ecd (fun h1=> ?_) fun h1=> ?_
 ·have hW1:(isW line wREC&&decide (((words line).length:Int)>1))=true:=h1
  have hlw:1<(words line).length:=by have h9:=of_decide_eq_true (Bool.and_eq_true_iff.1 h1).2;omega
  refine exd [2,14,56] [(16,.int (l4s (nth (words line) 1)))] [(1,.row (rS (nth (words line) 1))),(3,.ret (.int (l4s (nth (words line) 1))))] (a2 (ixn rS (words line) 1) (cl tx65 (J2 (nth (words line) 1)))) ?_
  refine exd [] [(1,.own obN [.hole,.hole,.hole] [.mk 800011 0 41 2 ((R++[recL line]).map rRec),.mk (obN+2) 0 45 6 ([]:List (List SV)),.no]),(5,.cell 2 [.hd 800011 (((R++[recL line]).map rRec).length) 0,.hd (obN+2) ((([]:List (List SV)):List (List SV)).length) 0,.m 1 fr rI])] [(4,.cut 2 ((words line).length) (.lf (.m 1 ((words line).drop 2) rS))),(6,.im),(7,.gap 800011 0 0 ((R++[recL line]).map rRec))] (a2 (z1 (f:=rS) (l:=words line) (sz:=1) (h:=2) (lo:=2) rfl (by omega)) (gapH (rows:=R.map rRec) (rows2:=[[.int .i64 (l4s (nth (words line) 1)),.sl 1 (((words line).drop 2).map rS)]]) (rows3:=(R++[recL line]).map rRec) (n:=(R.map rRec).length) (bytes:=32) (kt:=34) (y:= .tmp 39) (by rw[List.map_append];rfl) (by simp) (by simp;omega) (by decide) (by simp) (by simp))) ?_
  obtain⟨zc,hz⟩:∃c,c=((decide ((l4s (nth (words line) 1):Int)≥0))&&((fmB ((words line).drop 2))&&(decide (((((R++[recL line]).length:Nat):Int):Int)≤3)))):=⟨_,rfl⟩
  refine ejd [4,5,12,16] [(9,.cell 4 [.hd 800011 (((R++[recL line]).map rRec).length) 0,.hd (obN+2) ((([]:List (List SV)):List (List SV)).length) 0,.m 1 fr rI]),(10,.bool zc)] (by
   rcases bft (decide ((l4s (nth (words line) 1):Int)≥0))with g2|g2
   ·have g2p:=d5 g2
    rcases bft (fmB ((words line).drop 2))with g3|g3
    ·exact runJ [(2,.slot (.bool true)),(5,.cut 2 ((words line).length) (.lf (.m 1 ((words line).drop 2) rS))),(6,.ret (.bool (fmB ((words line).drop 2)))),(7,.slot (.bool true)),(11,.slot (.int (((R++[recL line]).length:Nat):Int))),(15,.slot (.bool zc))] (a2 (kB g2) (a2 (z1 (f:=rS) (l:=words line) (sz:=1) (h:=2) (lo:=2) rfl (by omega)) (a2 (cl tx66 (r5 ((words line).drop 2) (by first|omega|(simp only[List.length_drop];omega)))) (a2 (kB g3) (a2 (lnl (R++[recL line]) rRec) (kBs (decide (((((R++[recL line]).length:Nat):Int):Int)≤3)) zc))))))
    ·exact runJ [(2,.slot (.bool true)),(5,.cut 2 ((words line).length) (.lf (.m 1 ((words line).drop 2) rS))),(6,.ret (.bool (fmB ((words line).drop 2)))),(7,.slot (.bool false)),(15,.slot (.bool zc))] (a2 (kB g2) (a2 (z1 (f:=rS) (l:=words line) (sz:=1) (h:=2) (lo:=2) rfl (by omega)) (a2 (cl tx66 (r5 ((words line).drop 2) (by first|omega|(simp only[List.length_drop];omega)))) (a2 (kB g3) (kBs false zc)))))
   ·have g2p:=i5 g2
    exact runJ [(2,.slot (.bool false)),(15,.slot (.bool zc))] (a2 (kB g2) (kBs false zc))) ?_
  subst hz
  refine esw 800011 (obN+1) [] [(1,.own obN [.hole,.hole,.hole] [.mk (obN+1) 0 41 2 ((R++[recL line]).map rRec),.mk (obN+2) 0 45 6 ([]:List (List SV)),.no]),(9,.cell 4 [.hd (obN+1) (((R++[recL line]).map rRec).length) 0,.hd (obN+2) ((([]:List (List SV)):List (List SV)).length) 0,.m 1 fr rI])] ?_
  exact rtG rfl (⟨((decide ((l4s (nth (words line) 1):Int)≥0))&&((fmB ((words line).drop 2))&&(decide (((((R++[recL line]).length:Nat):Int):Int)≤3)))),.inl ⟨(R++[recL line]),fr,rfl,rfl,a5M hW1 (by congr 2;exact decide_eq_decide.2 (by simp;omega))⟩⟩)
 ·have hW1:(isW line wREC&&decide (((words line).length:Int)>1))=false:=h1
  refine a5 (a7 (exd [56] [(118,.bool ((nth (words line) 0).toList==B25.toList))] [(1,.row (rS (nth (words line) 0)))] (ixn rS (words line) 0) ?_))
  refine ecd (fun h2=> ?_) fun h2=> ?_
  ·have hW2:isW line wFRI=true:=h2
   refine exd [2,12,14,118] [(18,.lf (.m 1 (rnL ((words line).drop 1)) rI)),(20,.bool (rnB ((words line).drop 1)))] [(1,.cut 1 ((words line).length) (.lf (.m 1 ((words line).drop 1) rS))),(2,.ret (.tup [.lf (.m 1 (rnL ((words line).drop 1)) rI),.lf (.y (rnB ((words line).drop 1)))]))] (a2 (z1 (f:=rS) (l:=words line) (sz:=1) (h:=1) (lo:=1) rfl (by omega)) (cl tx67 (A3 ((words line).drop 1) (by first|omega|(simp only[List.length_drop];omega))))) ?_
   refine exn [18] [(5,.cell 2 [.hd (obN+1) ((R.map rRec).length) 0,.hd (obN+2) ((([]:List (List SV)):List (List SV)).length) 0,.m 1 (rnL ((words line).drop 1)) rI])] ?_
   refine exn [4,5,20] [(9,.cell 4 [.hd (obN+1) ((R.map rRec).length) 0,.hd (obN+2) ((([]:List (List SV)):List (List SV)).length) 0,.m 1 (rnL ((words line).drop 1)) rI]),(10,.bool (rnB ((words line).drop 1)))] ?_
   exact rtG rfl (⟨(rnB ((words line).drop 1)),.inl ⟨R,(rnL ((words line).drop 1)),rfl,rfl,a5O hW1 hW2⟩⟩)
  ·have hW2:isW line wFRI=false:=h2
   refine a5 (a7 (exd [118] [(146,.bool ((nth (words line) 0).toList==B35.toList))] [(1,.row (rS (nth (words line) 0)))] (ixn rS (words line) 0) ?_))
   refine ecd (fun h3=> ?_) fun h3=> ?_
   ·have hW3:isW line wFUN=true:=h3
    obtain⟨_,rfl,cc1⟩:=J4 ((words line).drop 1) (by first|omega|(simp only[List.length_drop];omega))
    refine exd [2,12,146] [(22,.lf (.ptr 11 0)),(23,.cell 11 [.z ((rfR ((words line).drop 1)).seen),.m 1 ((rfR ((words line).drop 1)).args) rS,.m 1 ((rfR ((words line).drop 1)).rets) rS,.m 1 ((rfR ((words line).drop 1)).locals) rS,.m 1 ((rfR ((words line).drop 1)).takes) rI,.nil]),(24,.bool (rfB ((words line).drop 1)))] [(1,.cut 1 ((words line).length) (.lf (.m 1 ((words line).drop 1) rS))),(2,.ret (.tup [.agg [.z ((rfR ((words line).drop 1)).seen),.m 1 ((rfR ((words line).drop 1)).args) rS,.m 1 ((rfR ((words line).drop 1)).rets) rS,.m 1 ((rfR ((words line).drop 1)).locals) rS,.m 1 ((rfR ((words line).drop 1)).takes) rI,.nil],.lf (.y (rfB ((words line).drop 1)))]))] (a2 (z1 (f:=rS) (l:=words line) (sz:=1) (h:=1) (lo:=1) rfl (by omega)) (cl tx68 cc1)) ?_
    refine exd [22,23] [(1,.own obN [.hole,.hole,.hole] [.mk (obN+1) 0 41 2 (R.map rRec),.mk 800012 0 45 6 (([]:List Fn).map rFn++[rFnZ (rfR ((words line).drop 1))]),.no]),(5,.cell 2 [.hd (obN+1) ((R.map rRec).length) 0,.hd 800012 (((([]:List Fn).map rFn++[rFnZ (rfR ((words line).drop 1))]):List (List SV)).length) 0,.m 1 fr rI])] [(3,.lnt [rFnZ (rfR ((words line).drop 1))]),(4,.gap 800012 0 1 (([]:List Fn).map rFn++[rFnZ (rfR ((words line).drop 1))]))] (a2 (a1 (show([[.int .i64 ((rfR ((words line).drop 1)).seen),.sl 1 (((rfR ((words line).drop 1)).args).map rS),.sl 1 (((rfR ((words line).drop 1)).rets).map rS),.sl 1 (((rfR ((words line).drop 1)).locals).map rS),.sl 1 (((rfR ((words line).drop 1)).takes).map rI),.nl]]:List (List SV))=[rFnZ (rfR ((words line).drop 1))]from rfl)) (gapH (rows:=([]:List (List SV))) (rows2:=[rFnZ (rfR ((words line).drop 1))]) (rows3:=(([]:List Fn).map rFn++[rFnZ (rfR ((words line).drop 1))])) (n:=(([]:List (List SV)):List (List SV)).length) (bytes:=128) (kt:=81) (y:= .tmp 83) (by rfl) (by simp) (by first|(simp;done)|(simp;omega)) (by decide) (by simp) (by simp))) ?_
    refine ejd [4,5,14,24] [(9,.cell 4 [.hd (obN+1) ((R.map rRec).length) 0,.hd 800012 (((([]:List Fn).map rFn++[rFnZ (rfR ((words line).drop 1))]):List (List SV)).length) 0,.m 1 fr rI]),(10,.bool ((rfB ((words line).drop 1))&&(decide ((0:Int)<4))))] (by
     rcases bft (rfB ((words line).drop 1))with g4|g4
     ·exact runJ [(1,.slot (.bool true)),(7,.slot (.bool ((rfB ((words line).drop 1))&&(decide ((0:Int)<4)))))] (a2 (kB g4) (kBs (decide ((0:Int)<4)) ((rfB ((words line).drop 1))&&(decide ((0:Int)<4)))))
     ·exact runJ [(1,.slot (.bool false)),(7,.slot (.bool ((rfB ((words line).drop 1))&&(decide ((0:Int)<4)))))] (a2 (kB g4) (kBs false ((rfB ((words line).drop 1))&&(decide ((0:Int)<4)))))) ?_
    refine esw 800012 (obN+2) [] [(1,.own obN [.hole,.hole,.hole] [.mk (obN+1) 0 41 2 (R.map rRec),.mk (obN+2) 0 45 6 (([]:List Fn).map rFn++[rFnZ (rfR ((words line).drop 1))]),.no]),(9,.cell 4 [.hd (obN+1) ((R.map rRec).length) 0,.hd (obN+2) (((([]:List Fn).map rFn++[rFnZ (rfR ((words line).drop 1))]):List (List SV)).length) 0,.m 1 fr rI])] ?_
    exact rtG rfl (⟨((rfB ((words line).drop 1))&&(decide ((0:Int)<4))),.inr ⟨R,fr,([]:List Fn),(rfR ((words line).drop 1)),a1U _,rfl,rfl,a5y hW1 hW2 hW3 (by first|rfl|(congr 1;exact decide_eq_decide.2 (by first|(simp;done)|(simp;omega))))⟩⟩)
   ·have hW3:isW line wFUN=false:=h3
    refine a5 (exd [2,12,146] [(26,.lf (.ptr 13 0)),(27,.cell 13 [.q ((irR line).op),.z ((irR line).a),.z ((irR line).b)]),(28,.bool (irB line))] [(1,.ret (.tup [.agg [.q ((irR line).op),.z ((irR line).a),.z ((irR line).b)],.lf (.y (irB line))]))] (cl tx69 (G1 line)) ?_)
    refine a7 ?_
    rcases bft (!(irB line))with g5|g5
    ·have g5p:=o4 g5
     refine exd [28] [(226,.bool true)] [(1,.slot (.bool true))] (kB g5) ?_
     refine ecT rfl ?_
     refine exn [4,5,14,26,27,226] [(9,.cell 4 [.hd (obN+1) ((R.map rRec).length) 0,.hd (obN+2) ((([]:List (List SV)):List (List SV)).length) 0,.m 1 fr rI]),(10,.bool false)] ?_
     exact rtG rfl (⟨false,.inl ⟨R,fr,rfl,rfl,T3 (b:=false) hW1 hW2 hW3 (by first|(simp;done)|(simp_all;done)|(simp_all;omega))⟩⟩)
    ·have g5p:=o3 g5
     refine exd [28] [(226,.bool true)] [(1,.slot (.bool false)),(4,.slot (.bool true))] (a2 (kB g5) (kB (decide_eq_true (show((0:Nat):Int)=0 from rfl)))) ?_
     refine ecT rfl ?_
     refine exn [4,5,14,26,27,226] [(9,.cell 4 [.hd (obN+1) ((R.map rRec).length) 0,.hd (obN+2) ((([]:List (List SV)):List (List SV)).length) 0,.m 1 fr rI]),(10,.bool false)] ?_
     exact rtG rfl (⟨false,.inl ⟨R,fr,rfl,rfl,T3 (b:=false) hW1 hW2 hW3 (by first|(simp;done)|(simp_all;done)|(simp_all;omega))⟩⟩)
theorem a5i (R:List Rec)(fr:List Int)(pre:List Fn)(cur:Fn)(line:ByteArray)(hs:line.size≤4000)(hR:R.length≤3)(hp:pre.length≤3)(hcur:cur.code=[]):
 ∃o r,(fun o s=>∃ok:Bool,(∃(R':List Rec) (fr':List Int) (pre':List Fn) (cur':Fn),cur'.code=[]∧o= .own obN [.hole,.hole,.hole] [.mk (obN+1) 0 41 2 (R'.map rRec),.mk (obN+2) 0 45 6 (pre'.map rFn++[rFnZ cur']),.no]∧s= .tup [.agg [.hd (obN+1) ((R'.map rRec:List (List SV)).length) 0,.hd (obN+2) (((pre'.map rFn++[rFnZ cur']):List (List SV)).length) 0,.im true (.sl 1 (fr'.map rI))],.lf (.im true (.bool ok))]∧rdL (⟨R,pre++[cur],fr⟩:Mod) line=bif ok then some (⟨R',pre'++[cur'],fr'⟩:Mod)else none)∨(∃(R':List Rec) (fr':List Int) (pre':List Fn) (cur':Fn) (c':List Ins),cur'.code=[]∧o= .own obN [.hole,.hole,.hole] [.mk (obN+1) 0 41 2 (R'.map rRec),.mkh (obN+2) 0 45 6 (pre'.map rFn++[rFnZ cur']) pre'.length 5 (obN+3) ((c'.map rIns:List (List SV)).length),.mk (obN+3) 0 67 3 (c'.map rIns)]∧s= .tup [.agg [.hd (obN+1) ((R'.map rRec:List (List SV)).length) 0,.hd (obN+2) (((pre'.map rFn++[rFnZ cur']):List (List SV)).length) 0,.im true (.sl 1 (fr'.map rI))],.lf (.im true (.bool ok))]∧rdL (⟨R,pre++[cur],fr⟩:Mod) line=bif ok then some (⟨R',pre'++[{cur' with code:=c'}],fr'⟩:Mod)else none)) o r∧CallGX Try.prog 51 [.agg [.hd (obN+1) ((R.map rRec:List (List SV)).length) 0,.hd (obN+2) (((pre.map rFn++[rFnZ cur]):List (List SV)).length) 0,.im true (.sl 1 (fr.map rI))],.lf (.im true (.str line))] (.own obN [.hole,.hole,.hole] [.mk (obN+1) 0 41 2 (R.map rRec),.mk (obN+2) 0 45 6 (pre.map rFn++[rFnZ cur]),.no]) o r:=by
 refine CallGE (fn:=Try.f51) TTok mixed Try.func51 rfl rfl rfl rfl ?_
 have hwl:1≤(words line).length∧(words line).length≤line.size+1:=K4 line line.size
 refine ex [(1,.own obN [.hole,.hole,.hole] [.mk (obN+1) 0 41 2 (R.map rRec),.mk (obN+2) 0 45 6 (pre.map rFn++[rFnZ cur]),.no]),(2,.lf (.q line)),(4,.lf (.ptr 2 0)),(5,.cell 2 [.hd (obN+1) ((R.map rRec).length) 0,.hd (obN+2) (((pre.map rFn++[rFnZ cur]):List (List SV)).length) 0,.m 1 fr rI]),(8,.lf (.ptr 4 0)),(9,.cell 4 [.nil,.nil,.nil])] [] AllP.nil (by kernel_rfl) ?_
 refine exd [] [(12,.lf (.m 1 (words line) rS))] [(1,.ret (.lf (.m 1 (words line) rS)))] (cl tx64 (P1 line (by omega))) ?_
 refine exd [] [(14,.int (↑(pre.length+1):Int))] [(2,.slot (.int (↑(pre.length+1):Int)))] (a1 (show(Slot.int ((((pre.map rFn++[rFnZ cur]):List (List SV)).length:Nat):Int))= .int (↑(pre.length+1):Int)by rw[show((pre.map rFn++[rFnZ cur]):List (List SV)).length=pre.length+1 by simp]<;>rfl)) ?_
 refine a7 ?_
 obtain⟨zc,hz⟩:∃c,c=(((nth (words line) 0).toList==B15.toList)&&(decide (((((words line).length:Nat):Int):Int)>1))):=⟨_,rfl⟩
 refine ejd [] [(56,.bool zc)] (by
  rcases bft ((nth (words line) 0).toList==B15.toList)with g1|g1
  ·exact runJ [(1,.row (rS (nth (words line) 0))),(3,.slot (.bool true)),(6,.slot (.int (((words line).length:Nat):Int))),(8,.slot (.bool zc))] (a2 (ixn rS (words line) 0) (a2 (kB g1) (a2 (lnl (words line) rS) (kBs (decide (((((words line).length:Nat):Int):Int)>1)) zc))))
  ·exact runJ [(1,.row (rS (nth (words line) 0))),(3,.slot (.bool false)),(8,.slot (.bool zc))] (a2 (ixn rS (words line) 0) (a2 (kB g1) (kBs false zc)))) ?_
 subst hz
 refine ecd (fun h1=> ?_) fun h1=> ?_
 ·have hW1:(isW line wREC&&decide (((words line).length:Int)>1))=true:=h1
  have hlw:1<(words line).length:=by have h9:=of_decide_eq_true (Bool.and_eq_true_iff.1 h1).2;omega
  refine exd [2,14,56] [(16,.int (l4s (nth (words line) 1)))] [(1,.row (rS (nth (words line) 1))),(3,.ret (.int (l4s (nth (words line) 1))))] (a2 (ixn rS (words line) 1) (cl tx65 (J2 (nth (words line) 1)))) ?_
  refine exd [] [(1,.own obN [.hole,.hole,.hole] [.mk 800011 0 41 2 ((R++[recL line]).map rRec),.mk (obN+2) 0 45 6 (pre.map rFn++[rFnZ cur]),.no]),(5,.cell 2 [.hd 800011 (((R++[recL line]).map rRec).length) 0,.hd (obN+2) (((pre.map rFn++[rFnZ cur]):List (List SV)).length) 0,.m 1 fr rI])] [(4,.cut 2 ((words line).length) (.lf (.m 1 ((words line).drop 2) rS))),(6,.im),(7,.gap 800011 0 0 ((R++[recL line]).map rRec))] (a2 (z1 (f:=rS) (l:=words line) (sz:=1) (h:=2) (lo:=2) rfl (by omega)) (gapH (rows:=R.map rRec) (rows2:=[[.int .i64 (l4s (nth (words line) 1)),.sl 1 (((words line).drop 2).map rS)]]) (rows3:=(R++[recL line]).map rRec) (n:=(R.map rRec).length) (bytes:=32) (kt:=34) (y:= .tmp 39) (by rw[List.map_append];rfl) (by simp) (by simp;omega) (by decide) (by simp) (by simp))) ?_
  obtain⟨zc,hz⟩:∃c,c=((decide ((l4s (nth (words line) 1):Int)≥0))&&((fmB ((words line).drop 2))&&(decide (((((R++[recL line]).length:Nat):Int):Int)≤3)))):=⟨_,rfl⟩
  refine ejd [4,5,12,16] [(9,.cell 4 [.hd 800011 (((R++[recL line]).map rRec).length) 0,.hd (obN+2) (((pre.map rFn++[rFnZ cur]):List (List SV)).length) 0,.m 1 fr rI]),(10,.bool zc)] (by
   rcases bft (decide ((l4s (nth (words line) 1):Int)≥0))with g2|g2
   ·have g2p:=d5 g2
    rcases bft (fmB ((words line).drop 2))with g3|g3
    ·exact runJ [(2,.slot (.bool true)),(5,.cut 2 ((words line).length) (.lf (.m 1 ((words line).drop 2) rS))),(6,.ret (.bool (fmB ((words line).drop 2)))),(7,.slot (.bool true)),(11,.slot (.int (((R++[recL line]).length:Nat):Int))),(15,.slot (.bool zc))] (a2 (kB g2) (a2 (z1 (f:=rS) (l:=words line) (sz:=1) (h:=2) (lo:=2) rfl (by omega)) (a2 (cl tx66 (r5 ((words line).drop 2) (by first|omega|(simp only[List.length_drop];omega)))) (a2 (kB g3) (a2 (lnl (R++[recL line]) rRec) (kBs (decide (((((R++[recL line]).length:Nat):Int):Int)≤3)) zc))))))
    ·exact runJ [(2,.slot (.bool true)),(5,.cut 2 ((words line).length) (.lf (.m 1 ((words line).drop 2) rS))),(6,.ret (.bool (fmB ((words line).drop 2)))),(7,.slot (.bool false)),(15,.slot (.bool zc))] (a2 (kB g2) (a2 (z1 (f:=rS) (l:=words line) (sz:=1) (h:=2) (lo:=2) rfl (by omega)) (a2 (cl tx66 (r5 ((words line).drop 2) (by first|omega|(simp only[List.length_drop];omega)))) (a2 (kB g3) (kBs false zc)))))
   ·have g2p:=i5 g2
    exact runJ [(2,.slot (.bool false)),(15,.slot (.bool zc))] (a2 (kB g2) (kBs false zc))) ?_
  subst hz
  refine esw 800011 (obN+1) [] [(1,.own obN [.hole,.hole,.hole] [.mk (obN+1) 0 41 2 ((R++[recL line]).map rRec),.mk (obN+2) 0 45 6 (pre.map rFn++[rFnZ cur]),.no]),(9,.cell 4 [.hd (obN+1) (((R++[recL line]).map rRec).length) 0,.hd (obN+2) (((pre.map rFn++[rFnZ cur]):List (List SV)).length) 0,.m 1 fr rI])] ?_
  exact rtG rfl (⟨((decide ((l4s (nth (words line) 1):Int)≥0))&&((fmB ((words line).drop 2))&&(decide (((((R++[recL line]).length:Nat):Int):Int)≤3)))),.inl ⟨(R++[recL line]),fr,pre,cur,hcur,rfl,rfl,a5M hW1 (by congr 2;exact decide_eq_decide.2 (by simp;omega))⟩⟩)
 ·have hW1:(isW line wREC&&decide (((words line).length:Int)>1))=false:=h1
  refine a5 (a7 (exd [56] [(118,.bool ((nth (words line) 0).toList==B25.toList))] [(1,.row (rS (nth (words line) 0)))] (ixn rS (words line) 0) ?_))
  refine ecd (fun h2=> ?_) fun h2=> ?_
  ·have hW2:isW line wFRI=true:=h2
   refine exd [2,12,14,118] [(18,.lf (.m 1 (rnL ((words line).drop 1)) rI)),(20,.bool (rnB ((words line).drop 1)))] [(1,.cut 1 ((words line).length) (.lf (.m 1 ((words line).drop 1) rS))),(2,.ret (.tup [.lf (.m 1 (rnL ((words line).drop 1)) rI),.lf (.y (rnB ((words line).drop 1)))]))] (a2 (z1 (f:=rS) (l:=words line) (sz:=1) (h:=1) (lo:=1) rfl (by omega)) (cl tx67 (A3 ((words line).drop 1) (by first|omega|(simp only[List.length_drop];omega))))) ?_
   refine exn [18] [(5,.cell 2 [.hd (obN+1) ((R.map rRec).length) 0,.hd (obN+2) (((pre.map rFn++[rFnZ cur]):List (List SV)).length) 0,.m 1 (rnL ((words line).drop 1)) rI])] ?_
   refine exn [4,5,20] [(9,.cell 4 [.hd (obN+1) ((R.map rRec).length) 0,.hd (obN+2) (((pre.map rFn++[rFnZ cur]):List (List SV)).length) 0,.m 1 (rnL ((words line).drop 1)) rI]),(10,.bool (rnB ((words line).drop 1)))] ?_
   exact rtG rfl (⟨(rnB ((words line).drop 1)),.inl ⟨R,(rnL ((words line).drop 1)),pre,cur,hcur,rfl,rfl,a5O hW1 hW2⟩⟩)
  ·have hW2:isW line wFRI=false:=h2
   refine a5 (a7 (exd [118] [(146,.bool ((nth (words line) 0).toList==B35.toList))] [(1,.row (rS (nth (words line) 0)))] (ixn rS (words line) 0) ?_))
   refine ecd (fun h3=> ?_) fun h3=> ?_
   ·have hW3:isW line wFUN=true:=h3
    obtain⟨_,rfl,cc1⟩:=J4 ((words line).drop 1) (by first|omega|(simp only[List.length_drop];omega))
    refine exd [2,12,146] [(22,.lf (.ptr 11 0)),(23,.cell 11 [.z ((rfR ((words line).drop 1)).seen),.m 1 ((rfR ((words line).drop 1)).args) rS,.m 1 ((rfR ((words line).drop 1)).rets) rS,.m 1 ((rfR ((words line).drop 1)).locals) rS,.m 1 ((rfR ((words line).drop 1)).takes) rI,.nil]),(24,.bool (rfB ((words line).drop 1)))] [(1,.cut 1 ((words line).length) (.lf (.m 1 ((words line).drop 1) rS))),(2,.ret (.tup [.agg [.z ((rfR ((words line).drop 1)).seen),.m 1 ((rfR ((words line).drop 1)).args) rS,.m 1 ((rfR ((words line).drop 1)).rets) rS,.m 1 ((rfR ((words line).drop 1)).locals) rS,.m 1 ((rfR ((words line).drop 1)).takes) rI,.nil],.lf (.y (rfB ((words line).drop 1)))]))] (a2 (z1 (f:=rS) (l:=words line) (sz:=1) (h:=1) (lo:=1) rfl (by omega)) (cl tx68 cc1)) ?_
    refine etd [] [(1,.own obN [.hole,.hole,.hole] [.mk (obN+1) 0 41 2 (R.map rRec),.mk (obN+2) 0 45 6 (putHd (pre.map rFn++[rFnZ cur]) pre.length 5 (.sl 3 [])),.no])] (fun E=>a3y 0 1 3 (i:=pre.length) (j:=5) (r:=(rFnZ cur)) rfl rfl (by simp) (by rfl)) ?_
    rw[show putHd (pre.map rFn++[rFnZ cur]) pre.length 5 (.sl 3 [])=(pre++[cur]).map rFn from by exact a46 pre hcur]
    refine exd [22,23] [(1,.own obN [.hole,.hole,.hole] [.mk (obN+1) 0 41 2 (R.map rRec),.mk 800012 0 45 6 ((pre++[cur]).map rFn++[rFnZ (rfR ((words line).drop 1))]),.no]),(5,.cell 2 [.hd (obN+1) ((R.map rRec).length) 0,.hd 800012 ((((pre++[cur]).map rFn++[rFnZ (rfR ((words line).drop 1))]):List (List SV)).length) 0,.m 1 fr rI])] [(3,.lnt [rFnZ (rfR ((words line).drop 1))]),(4,.gap 800012 0 1 ((pre++[cur]).map rFn++[rFnZ (rfR ((words line).drop 1))]))] (a2 (a1 (show([[.int .i64 ((rfR ((words line).drop 1)).seen),.sl 1 (((rfR ((words line).drop 1)).args).map rS),.sl 1 (((rfR ((words line).drop 1)).rets).map rS),.sl 1 (((rfR ((words line).drop 1)).locals).map rS),.sl 1 (((rfR ((words line).drop 1)).takes).map rI),.nl]]:List (List SV))=[rFnZ (rfR ((words line).drop 1))]from rfl)) (gapH (rows:=(pre++[cur]).map rFn) (rows2:=[rFnZ (rfR ((words line).drop 1))]) (rows3:=((pre++[cur]).map rFn++[rFnZ (rfR ((words line).drop 1))])) (n:=((pre.map rFn++[rFnZ cur]):List (List SV)).length) (bytes:=128) (kt:=81) (y:= .tmp 83) (by rfl) (by simp) (by first|(simp;done)|(simp;omega)) (by decide) (by simp) (by simp))) ?_
    obtain⟨zc,hz⟩:∃c,c=((rfB ((words line).drop 1))&&(decide (((↑(pre.length+1):Int):Int)<4))):=⟨_,rfl⟩
    refine ejd [4,5,14,24] [(9,.cell 4 [.hd (obN+1) ((R.map rRec).length) 0,.hd 800012 ((((pre++[cur]).map rFn++[rFnZ (rfR ((words line).drop 1))]):List (List SV)).length) 0,.m 1 fr rI]),(10,.bool zc)] (by
     rcases bft (rfB ((words line).drop 1))with g4|g4
     ·exact runJ [(1,.slot (.bool true)),(7,.slot (.bool zc))] (a2 (kB g4) (kBs (decide (((↑(pre.length+1):Int):Int)<4)) zc))
     ·exact runJ [(1,.slot (.bool false)),(7,.slot (.bool zc))] (a2 (kB g4) (kBs false zc))) ?_
    subst hz
    refine esw 800012 (obN+2) [] [(1,.own obN [.hole,.hole,.hole] [.mk (obN+1) 0 41 2 (R.map rRec),.mk (obN+2) 0 45 6 ((pre++[cur]).map rFn++[rFnZ (rfR ((words line).drop 1))]),.no]),(9,.cell 4 [.hd (obN+1) ((R.map rRec).length) 0,.hd (obN+2) ((((pre++[cur]).map rFn++[rFnZ (rfR ((words line).drop 1))]):List (List SV)).length) 0,.m 1 fr rI])] ?_
    exact rtG rfl (⟨((rfB ((words line).drop 1))&&(decide (((↑(pre.length+1):Int):Int)<4))),.inl ⟨R,fr,(pre++[cur]),(rfR ((words line).drop 1)),a1U _,rfl,rfl,a5y hW1 hW2 hW3 (by first|rfl|(congr 1;exact decide_eq_decide.2 (by first|(simp;done)|(simp;omega))))⟩⟩)
   ·have hW3:isW line wFUN=false:=h3
    refine a5 (exd [2,12,146] [(26,.lf (.ptr 13 0)),(27,.cell 13 [.q ((irR line).op),.z ((irR line).a),.z ((irR line).b)]),(28,.bool (irB line))] [(1,.ret (.tup [.agg [.q ((irR line).op),.z ((irR line).a),.z ((irR line).b)],.lf (.y (irB line))]))] (cl tx69 (G1 line)) ?_)
    refine a7 ?_
    rcases bft (!(irB line))with g5|g5
    ·have g5p:=o4 g5
     refine exd [28] [(226,.bool true)] [(1,.slot (.bool true))] (kB g5) ?_
     refine ecT rfl ?_
     refine exn [4,5,14,26,27,226] [(9,.cell 4 [.hd (obN+1) ((R.map rRec).length) 0,.hd (obN+2) (((pre.map rFn++[rFnZ cur]):List (List SV)).length) 0,.m 1 fr rI]),(10,.bool false)] ?_
     exact rtG rfl (⟨false,.inl ⟨R,fr,pre,cur,hcur,rfl,rfl,T3 (b:=false) hW1 hW2 hW3 (by first|(simp;done)|(simp_all;done)|(simp_all;omega))⟩⟩)
    ·have g5p:=o3 g5
     refine exd [28] [(226,.bool (decide ((0:Int)=40)))] [(1,.slot (.bool false)),(4,.slot (.bool false)),(10,.slot (.int (pre.length:Int))),(13,.elem pre.length 5 (rFnZ cur) none)] (a2 (kB g5) (a2 (kB (decide_eq_false (show¬(↑(pre.length+1):Int)=0 by omega))) (a2 (wIo ((↑(pre.length+1):Int)-1) (pre.length:Int)) (a2 (ixu (i:=pre.length) (n:=((pre.map rFn++[rFnZ cur]):List (List SV)).length) (by first|omega|(simp;done)|(simp;omega))) (elR (rows:=(pre.map rFn++[rFnZ cur])) (r:=(rFnZ cur)) (i:=pre.length) (j:=5) (n:=1) (sz:=6) (off:=(pre.length:Int).toNat*6+5) (by simp) (by omega) (by decide)))))) ?_
     refine ecp (fun h5=> ?_) fun h5=> ?_
     ·refine exn [4,5,14,26,27,226] [(9,.cell 4 [.hd (obN+1) ((R.map rRec).length) 0,.hd (obN+2) (((pre.map rFn++[rFnZ cur]):List (List SV)).length) 0,.m 1 fr rI]),(10,.bool false)] ?_
      exact rtG rfl (⟨false,.inl ⟨R,fr,pre,cur,hcur,rfl,rfl,T3 (b:=false) hW1 hW2 hW3 (by first|(simp;done)|(simp_all;done)|(simp_all;omega))⟩⟩)
     ·refine a5 (exd [14,26,27,226] [(1,.own obN [.hole,.hole,.hole] [.mk (obN+1) 0 41 2 (R.map rRec),.mkh (obN+2) 0 45 6 (pre.map rFn++[rFnZ cur]) pre.length 5 (obN+3) ((([irR line]:List Ins).map rIns:List (List SV)).length),.mk (obN+3) 0 67 3 (([irR line]:List Ins).map rIns)])] [(3,.slot (.int (pre.length:Int))),(7,.slot (.int (pre.length:Int))),(10,.elem pre.length 5 (rFnZ cur) none),(12,.im),(13,.gap (obN+3) 0 2 (([irR line]:List Ins).map rIns)),(16,.hst pre.length 5 (rFnZ cur))] (a2 (wIo ((↑(pre.length+1):Int)-1) (pre.length:Int)) (a2 (wIo ((↑(pre.length+1):Int)-1) (pre.length:Int)) (a2 (ixu (i:=pre.length) (n:=((pre.map rFn++[rFnZ cur]):List (List SV)).length) (by first|omega|(simp;done)|(simp;omega))) (a2 (elR (rows:=(pre.map rFn++[rFnZ cur])) (r:=(rFnZ cur)) (i:=pre.length) (j:=5) (n:=1) (sz:=6) (off:=(pre.length:Int).toNat*6+5) (by simp) (by omega) (by decide)) (a2 (gapZ (rows2:=[[.str ((irR line).op),.int .i64 ((irR line).a),.int .i64 ((irR line).b)]]) (rows3:=([irR line]:List Ins).map rIns) (bytes:=32) (by rfl) (by simp) (by decide) (by simp)) (a2 (ixu (i:=pre.length) (n:=((pre.map rFn++[rFnZ cur]):List (List SV)).length) (by first|omega|(simp;done)|(simp;omega))) (hstT (rows:=(pre.map rFn++[rFnZ cur])) (r:=(rFnZ cur)) (i:=pre.length) (j:=5) (sz:=6) (off:=(pre.length:Int).toNat*6+5) (n2:=(([irR line]:List Ins).map rIns:List (List SV)).length) (by simp) (by rfl) (by omega) (by decide) (by simp)))))))) ?_)
      refine exn [4,5] [(9,.cell 4 [.hd (obN+1) ((R.map rRec).length) 0,.hd (obN+2) (((pre.map rFn++[rFnZ cur]):List (List SV)).length) 0,.m 1 fr rI]),(10,.bool true)] ?_
      exact rtG rfl (⟨true,.inr ⟨R,fr,pre,cur,[irR line],hcur,rfl,rfl,(T3 (b:=true) hW1 hW2 hW3 (by first|(simp;done)|(simp_all;done)|(simp_all;omega))).trans (by simp[setLast,hcur])⟩⟩)
theorem a5N (R:List Rec)(fr:List Int)(pre:List Fn)(cur:Fn)(c:List Ins)(line:ByteArray)(hs:line.size≤4000)(hR:R.length≤3)(hp:pre.length≤3)(hcur:cur.code=[])(hc:c.length≤40):
 ∃o r,(fun o s=>∃ok:Bool,(∃(R':List Rec) (fr':List Int) (pre':List Fn) (cur':Fn),cur'.code=[]∧o= .own obN [.hole,.hole,.hole] [.mk (obN+1) 0 41 2 (R'.map rRec),.mk (obN+2) 0 45 6 (pre'.map rFn++[rFnZ cur']),.no]∧s= .tup [.agg [.hd (obN+1) ((R'.map rRec:List (List SV)).length) 0,.hd (obN+2) (((pre'.map rFn++[rFnZ cur']):List (List SV)).length) 0,.im true (.sl 1 (fr'.map rI))],.lf (.im true (.bool ok))]∧rdL (⟨R,pre++[{cur with code:=c}],fr⟩:Mod) line=bif ok then some (⟨R',pre'++[cur'],fr'⟩:Mod)else none)∨(∃(R':List Rec) (fr':List Int) (pre':List Fn) (cur':Fn) (c':List Ins),cur'.code=[]∧o= .own obN [.hole,.hole,.hole] [.mk (obN+1) 0 41 2 (R'.map rRec),.mkh (obN+2) 0 45 6 (pre'.map rFn++[rFnZ cur']) pre'.length 5 (obN+3) ((c'.map rIns:List (List SV)).length),.mk (obN+3) 0 67 3 (c'.map rIns)]∧s= .tup [.agg [.hd (obN+1) ((R'.map rRec:List (List SV)).length) 0,.hd (obN+2) (((pre'.map rFn++[rFnZ cur']):List (List SV)).length) 0,.im true (.sl 1 (fr'.map rI))],.lf (.im true (.bool ok))]∧rdL (⟨R,pre++[{cur with code:=c}],fr⟩:Mod) line=bif ok then some (⟨R',pre'++[{cur' with code:=c'}],fr'⟩:Mod)else none)) o r∧CallGX Try.prog 51 [.agg [.hd (obN+1) ((R.map rRec:List (List SV)).length) 0,.hd (obN+2) (((pre.map rFn++[rFnZ cur]):List (List SV)).length) 0,.im true (.sl 1 (fr.map rI))],.lf (.im true (.str line))] (.own obN [.hole,.hole,.hole] [.mk (obN+1) 0 41 2 (R.map rRec),.mkh (obN+2) 0 45 6 (pre.map rFn++[rFnZ cur]) pre.length 5 (obN+3) ((c.map rIns:List (List SV)).length),.mk (obN+3) 0 67 3 (c.map rIns)]) o r:=by
 refine CallGE (fn:=Try.f51) TTok mixed Try.func51 rfl rfl rfl rfl ?_
 have hwl:1≤(words line).length∧(words line).length≤line.size+1:=K4 line line.size
 refine ex [(1,.own obN [.hole,.hole,.hole] [.mk (obN+1) 0 41 2 (R.map rRec),.mkh (obN+2) 0 45 6 (pre.map rFn++[rFnZ cur]) pre.length 5 (obN+3) ((c.map rIns).length),.mk (obN+3) 0 67 3 (c.map rIns)]),(2,.lf (.q line)),(4,.lf (.ptr 2 0)),(5,.cell 2 [.hd (obN+1) ((R.map rRec).length) 0,.hd (obN+2) (((pre.map rFn++[rFnZ cur]):List (List SV)).length) 0,.m 1 fr rI]),(8,.lf (.ptr 4 0)),(9,.cell 4 [.nil,.nil,.nil])] [] AllP.nil (by kernel_rfl) ?_
 refine exd [] [(12,.lf (.m 1 (words line) rS))] [(1,.ret (.lf (.m 1 (words line) rS)))] (cl tx64 (P1 line (by omega))) ?_
 refine exd [] [(14,.int (↑(pre.length+1):Int))] [(2,.slot (.int (↑(pre.length+1):Int)))] (a1 (show(Slot.int ((((pre.map rFn++[rFnZ cur]):List (List SV)).length:Nat):Int))= .int (↑(pre.length+1):Int)by rw[show((pre.map rFn++[rFnZ cur]):List (List SV)).length=pre.length+1 by simp]<;>rfl)) ?_
 refine a7 ?_
 obtain⟨zc,hz⟩:∃c,c=(((nth (words line) 0).toList==B15.toList)&&(decide (((((words line).length:Nat):Int):Int)>1))):=⟨_,rfl⟩
 refine ejd [] [(56,.bool zc)] (by
  rcases bft ((nth (words line) 0).toList==B15.toList)with g1|g1
  ·exact runJ [(1,.row (rS (nth (words line) 0))),(3,.slot (.bool true)),(6,.slot (.int (((words line).length:Nat):Int))),(8,.slot (.bool zc))] (a2 (ixn rS (words line) 0) (a2 (kB g1) (a2 (lnl (words line) rS) (kBs (decide (((((words line).length:Nat):Int):Int)>1)) zc))))
  ·exact runJ [(1,.row (rS (nth (words line) 0))),(3,.slot (.bool false)),(8,.slot (.bool zc))] (a2 (ixn rS (words line) 0) (a2 (kB g1) (kBs false zc)))) ?_
 subst hz
 refine ecd (fun h1=> ?_) fun h1=> ?_
 ·have hW1:(isW line wREC&&decide (((words line).length:Int)>1))=true:=h1
  have hlw:1<(words line).length:=by have h9:=of_decide_eq_true (Bool.and_eq_true_iff.1 h1).2;omega
  refine exd [2,14,56] [(16,.int (l4s (nth (words line) 1)))] [(1,.row (rS (nth (words line) 1))),(3,.ret (.int (l4s (nth (words line) 1))))] (a2 (ixn rS (words line) 1) (cl tx65 (J2 (nth (words line) 1)))) ?_
  refine exd [] [(1,.own obN [.hole,.hole,.hole] [.mk 800011 0 41 2 ((R++[recL line]).map rRec),.mkh (obN+2) 0 45 6 (pre.map rFn++[rFnZ cur]) pre.length 5 (obN+3) ((c.map rIns).length),.mk (obN+3) 0 67 3 (c.map rIns)]),(5,.cell 2 [.hd 800011 (((R++[recL line]).map rRec).length) 0,.hd (obN+2) (((pre.map rFn++[rFnZ cur]):List (List SV)).length) 0,.m 1 fr rI])] [(4,.cut 2 ((words line).length) (.lf (.m 1 ((words line).drop 2) rS))),(6,.im),(7,.gap 800011 0 0 ((R++[recL line]).map rRec))] (a2 (z1 (f:=rS) (l:=words line) (sz:=1) (h:=2) (lo:=2) rfl (by omega)) (gapH (rows:=R.map rRec) (rows2:=[[.int .i64 (l4s (nth (words line) 1)),.sl 1 (((words line).drop 2).map rS)]]) (rows3:=(R++[recL line]).map rRec) (n:=(R.map rRec).length) (bytes:=32) (kt:=34) (y:= .tmp 39) (by rw[List.map_append];rfl) (by simp) (by simp;omega) (by decide) (by simp) (by simp))) ?_
  obtain⟨zc,hz⟩:∃c,c=((decide ((l4s (nth (words line) 1):Int)≥0))&&((fmB ((words line).drop 2))&&(decide (((((R++[recL line]).length:Nat):Int):Int)≤3)))):=⟨_,rfl⟩
  refine ejd [4,5,12,16] [(9,.cell 4 [.hd 800011 (((R++[recL line]).map rRec).length) 0,.hd (obN+2) (((pre.map rFn++[rFnZ cur]):List (List SV)).length) 0,.m 1 fr rI]),(10,.bool zc)] (by
   rcases bft (decide ((l4s (nth (words line) 1):Int)≥0))with g2|g2
   ·have g2p:=d5 g2
    rcases bft (fmB ((words line).drop 2))with g3|g3
    ·exact runJ [(2,.slot (.bool true)),(5,.cut 2 ((words line).length) (.lf (.m 1 ((words line).drop 2) rS))),(6,.ret (.bool (fmB ((words line).drop 2)))),(7,.slot (.bool true)),(11,.slot (.int (((R++[recL line]).length:Nat):Int))),(15,.slot (.bool zc))] (a2 (kB g2) (a2 (z1 (f:=rS) (l:=words line) (sz:=1) (h:=2) (lo:=2) rfl (by omega)) (a2 (cl tx66 (r5 ((words line).drop 2) (by first|omega|(simp only[List.length_drop];omega)))) (a2 (kB g3) (a2 (lnl (R++[recL line]) rRec) (kBs (decide (((((R++[recL line]).length:Nat):Int):Int)≤3)) zc))))))
    ·exact runJ [(2,.slot (.bool true)),(5,.cut 2 ((words line).length) (.lf (.m 1 ((words line).drop 2) rS))),(6,.ret (.bool (fmB ((words line).drop 2)))),(7,.slot (.bool false)),(15,.slot (.bool zc))] (a2 (kB g2) (a2 (z1 (f:=rS) (l:=words line) (sz:=1) (h:=2) (lo:=2) rfl (by omega)) (a2 (cl tx66 (r5 ((words line).drop 2) (by first|omega|(simp only[List.length_drop];omega)))) (a2 (kB g3) (kBs false zc)))))
   ·have g2p:=i5 g2
    exact runJ [(2,.slot (.bool false)),(15,.slot (.bool zc))] (a2 (kB g2) (kBs false zc))) ?_
  subst hz
  refine esw 800011 (obN+1) [] [(1,.own obN [.hole,.hole,.hole] [.mk (obN+1) 0 41 2 ((R++[recL line]).map rRec),.mkh (obN+2) 0 45 6 (pre.map rFn++[rFnZ cur]) pre.length 5 (obN+3) ((c.map rIns).length),.mk (obN+3) 0 67 3 (c.map rIns)]),(9,.cell 4 [.hd (obN+1) (((R++[recL line]).map rRec).length) 0,.hd (obN+2) (((pre.map rFn++[rFnZ cur]):List (List SV)).length) 0,.m 1 fr rI])] ?_
  exact rtG rfl (⟨((decide ((l4s (nth (words line) 1):Int)≥0))&&((fmB ((words line).drop 2))&&(decide (((((R++[recL line]).length:Nat):Int):Int)≤3)))),.inr ⟨(R++[recL line]),fr,pre,cur,c,hcur,rfl,rfl,a5M hW1 (by congr 2;exact decide_eq_decide.2 (by simp;omega))⟩⟩)
 ·have hW1:(isW line wREC&&decide (((words line).length:Int)>1))=false:=h1
  refine a5 (a7 (exd [56] [(118,.bool ((nth (words line) 0).toList==B25.toList))] [(1,.row (rS (nth (words line) 0)))] (ixn rS (words line) 0) ?_))
  refine ecd (fun h2=> ?_) fun h2=> ?_
  ·have hW2:isW line wFRI=true:=h2
   refine exd [2,12,14,118] [(18,.lf (.m 1 (rnL ((words line).drop 1)) rI)),(20,.bool (rnB ((words line).drop 1)))] [(1,.cut 1 ((words line).length) (.lf (.m 1 ((words line).drop 1) rS))),(2,.ret (.tup [.lf (.m 1 (rnL ((words line).drop 1)) rI),.lf (.y (rnB ((words line).drop 1)))]))] (a2 (z1 (f:=rS) (l:=words line) (sz:=1) (h:=1) (lo:=1) rfl (by omega)) (cl tx67 (A3 ((words line).drop 1) (by first|omega|(simp only[List.length_drop];omega))))) ?_
   refine exn [18] [(5,.cell 2 [.hd (obN+1) ((R.map rRec).length) 0,.hd (obN+2) (((pre.map rFn++[rFnZ cur]):List (List SV)).length) 0,.m 1 (rnL ((words line).drop 1)) rI])] ?_
   refine exn [4,5,20] [(9,.cell 4 [.hd (obN+1) ((R.map rRec).length) 0,.hd (obN+2) (((pre.map rFn++[rFnZ cur]):List (List SV)).length) 0,.m 1 (rnL ((words line).drop 1)) rI]),(10,.bool (rnB ((words line).drop 1)))] ?_
   exact rtG rfl (⟨(rnB ((words line).drop 1)),.inr ⟨R,(rnL ((words line).drop 1)),pre,cur,c,hcur,rfl,rfl,a5O hW1 hW2⟩⟩)
  ·have hW2:isW line wFRI=false:=h2
   refine a5 (a7 (exd [118] [(146,.bool ((nth (words line) 0).toList==B35.toList))] [(1,.row (rS (nth (words line) 0)))] (ixn rS (words line) 0) ?_))
   refine ecd (fun h3=> ?_) fun h3=> ?_
   ·have hW3:isW line wFUN=true:=h3
    obtain⟨_,rfl,cc1⟩:=J4 ((words line).drop 1) (by first|omega|(simp only[List.length_drop];omega))
    refine exd [2,12,146] [(22,.lf (.ptr 11 0)),(23,.cell 11 [.z ((rfR ((words line).drop 1)).seen),.m 1 ((rfR ((words line).drop 1)).args) rS,.m 1 ((rfR ((words line).drop 1)).rets) rS,.m 1 ((rfR ((words line).drop 1)).locals) rS,.m 1 ((rfR ((words line).drop 1)).takes) rI,.nil]),(24,.bool (rfB ((words line).drop 1)))] [(1,.cut 1 ((words line).length) (.lf (.m 1 ((words line).drop 1) rS))),(2,.ret (.tup [.agg [.z ((rfR ((words line).drop 1)).seen),.m 1 ((rfR ((words line).drop 1)).args) rS,.m 1 ((rfR ((words line).drop 1)).rets) rS,.m 1 ((rfR ((words line).drop 1)).locals) rS,.m 1 ((rfR ((words line).drop 1)).takes) rI,.nil],.lf (.y (rfB ((words line).drop 1)))]))] (a2 (z1 (f:=rS) (l:=words line) (sz:=1) (h:=1) (lo:=1) rfl (by omega)) (cl tx68 cc1)) ?_
    refine etd [] [(1,.own obN [.hole,.hole,.hole] [.mk (obN+1) 0 41 2 (R.map rRec),.mk (obN+2) 0 45 6 (putHd (pre.map rFn++[rFnZ cur]) pre.length 5 (.sl 3 (c.map rIns))),.no])] (fun E=>a1s 0 1 2 rfl rfl rfl (by simp) (by decide)) ?_
    rw[show putHd (pre.map rFn++[rFnZ cur]) pre.length 5 (.sl 3 (c.map rIns))=(pre++[{cur with code:=c}]).map rFn from by exact a4r pre cur c]
    refine exd [22,23] [(1,.own obN [.hole,.hole,.hole] [.mk (obN+1) 0 41 2 (R.map rRec),.mk 800012 0 45 6 ((pre++[{cur with code:=c}]).map rFn++[rFnZ (rfR ((words line).drop 1))]),.no]),(5,.cell 2 [.hd (obN+1) ((R.map rRec).length) 0,.hd 800012 ((((pre++[{cur with code:=c}]).map rFn++[rFnZ (rfR ((words line).drop 1))]):List (List SV)).length) 0,.m 1 fr rI])] [(3,.lnt [rFnZ (rfR ((words line).drop 1))]),(4,.gap 800012 0 1 ((pre++[{cur with code:=c}]).map rFn++[rFnZ (rfR ((words line).drop 1))]))] (a2 (a1 (show([[.int .i64 ((rfR ((words line).drop 1)).seen),.sl 1 (((rfR ((words line).drop 1)).args).map rS),.sl 1 (((rfR ((words line).drop 1)).rets).map rS),.sl 1 (((rfR ((words line).drop 1)).locals).map rS),.sl 1 (((rfR ((words line).drop 1)).takes).map rI),.nl]]:List (List SV))=[rFnZ (rfR ((words line).drop 1))]from rfl)) (gapH (rows:=(pre++[{cur with code:=c}]).map rFn) (rows2:=[rFnZ (rfR ((words line).drop 1))]) (rows3:=((pre++[{cur with code:=c}]).map rFn++[rFnZ (rfR ((words line).drop 1))])) (n:=((pre.map rFn++[rFnZ cur]):List (List SV)).length) (bytes:=128) (kt:=81) (y:= .tmp 83) (by rfl) (by simp) (by first|(simp;done)|(simp;omega)) (by decide) (by simp) (by simp))) ?_
    obtain⟨zc,hz⟩:∃c,c=((rfB ((words line).drop 1))&&(decide (((↑(pre.length+1):Int):Int)<4))):=⟨_,rfl⟩
    refine ejd [4,5,14,24] [(9,.cell 4 [.hd (obN+1) ((R.map rRec).length) 0,.hd 800012 ((((pre++[{cur with code:=c}]).map rFn++[rFnZ (rfR ((words line).drop 1))]):List (List SV)).length) 0,.m 1 fr rI]),(10,.bool zc)] (by
     rcases bft (rfB ((words line).drop 1))with g4|g4
     ·exact runJ [(1,.slot (.bool true)),(7,.slot (.bool zc))] (a2 (kB g4) (kBs (decide (((↑(pre.length+1):Int):Int)<4)) zc))
     ·exact runJ [(1,.slot (.bool false)),(7,.slot (.bool zc))] (a2 (kB g4) (kBs false zc))) ?_
    subst hz
    refine esw 800012 (obN+2) [] [(1,.own obN [.hole,.hole,.hole] [.mk (obN+1) 0 41 2 (R.map rRec),.mk (obN+2) 0 45 6 ((pre++[{cur with code:=c}]).map rFn++[rFnZ (rfR ((words line).drop 1))]),.no]),(9,.cell 4 [.hd (obN+1) ((R.map rRec).length) 0,.hd (obN+2) ((((pre++[{cur with code:=c}]).map rFn++[rFnZ (rfR ((words line).drop 1))]):List (List SV)).length) 0,.m 1 fr rI])] ?_
    exact rtG rfl (⟨((rfB ((words line).drop 1))&&(decide (((↑(pre.length+1):Int):Int)<4))),.inl ⟨R,fr,(pre++[{cur with code:=c}]),(rfR ((words line).drop 1)),a1U _,rfl,rfl,a5y hW1 hW2 hW3 (by first|rfl|(congr 1;exact decide_eq_decide.2 (by first|(simp;done)|(simp;omega))))⟩⟩)
   ·have hW3:isW line wFUN=false:=h3
    refine a5 (exd [2,12,146] [(26,.lf (.ptr 13 0)),(27,.cell 13 [.q ((irR line).op),.z ((irR line).a),.z ((irR line).b)]),(28,.bool (irB line))] [(1,.ret (.tup [.agg [.q ((irR line).op),.z ((irR line).a),.z ((irR line).b)],.lf (.y (irB line))]))] (cl tx69 (G1 line)) ?_)
    refine a7 ?_
    rcases bft (!(irB line))with g5|g5
    ·have g5p:=o4 g5
     refine exd [28] [(226,.bool true)] [(1,.slot (.bool true))] (kB g5) ?_
     refine ecT rfl ?_
     refine exn [4,5,14,26,27,226] [(9,.cell 4 [.hd (obN+1) ((R.map rRec).length) 0,.hd (obN+2) (((pre.map rFn++[rFnZ cur]):List (List SV)).length) 0,.m 1 fr rI]),(10,.bool false)] ?_
     exact rtG rfl (⟨false,.inr ⟨R,fr,pre,cur,c,hcur,rfl,rfl,T3 (b:=false) hW1 hW2 hW3 (by first|(simp;done)|(simp_all;done)|(simp_all;omega))⟩⟩)
    ·have g5p:=o3 g5
     refine exd [28] [(226,.bool (decide ((c.length:Int)=40)))] [(1,.slot (.bool false)),(4,.slot (.bool false)),(10,.slot (.int (pre.length:Int))),(13,.hel (rFnZ cur)),(14,.slot (.int (c.length:Int)))] (a2 (kB g5) (a2 (kB (decide_eq_false (show¬(↑(pre.length+1):Int)=0 by omega))) (a2 (wIo ((↑(pre.length+1):Int)-1) (pre.length:Int)) (a2 (ixu (i:=pre.length) (n:=((pre.map rFn++[rFnZ cur]):List (List SV)).length) (by first|omega|(simp;done)|(simp;omega))) (a2 (helT (rows:=(pre.map rFn++[rFnZ cur])) (r:=(rFnZ cur)) (i:=pre.length) (j:=5) (sz:=6) (off:=(pre.length:Int).toNat*6+5) (by simp) (by rfl) (by omega) (by decide)) (lnl c rIns)))))) ?_
     refine ecp (fun h5=> ?_) fun h5=> ?_
     ·refine exn [4,5,14,26,27,226] [(9,.cell 4 [.hd (obN+1) ((R.map rRec).length) 0,.hd (obN+2) (((pre.map rFn++[rFnZ cur]):List (List SV)).length) 0,.m 1 fr rI]),(10,.bool false)] ?_
      exact rtG rfl (⟨false,.inr ⟨R,fr,pre,cur,c,hcur,rfl,rfl,T3 (b:=false) hW1 hW2 hW3 (by first|(simp;done)|(simp_all;done)|(simp_all;omega))⟩⟩)
     ·refine a5 (exd [14,26,27,226] [(1,.own obN [.hole,.hole,.hole] [.mk (obN+1) 0 41 2 (R.map rRec),.mkh (obN+2) 0 45 6 (pre.map rFn++[rFnZ cur]) pre.length 5 800013 (((c++[irR line]).map rIns).length),.mk 800013 0 67 3 ((c++[irR line]).map rIns)])] [(3,.slot (.int (pre.length:Int))),(7,.slot (.int (pre.length:Int))),(10,.hel (rFnZ cur)),(12,.im),(13,.gap 800013 0 2 ((c++[irR line]).map rIns)),(16,.hst pre.length 5 (rFnZ cur))] (a2 (wIo ((↑(pre.length+1):Int)-1) (pre.length:Int)) (a2 (wIo ((↑(pre.length+1):Int)-1) (pre.length:Int)) (a2 (ixu (i:=pre.length) (n:=((pre.map rFn++[rFnZ cur]):List (List SV)).length) (by first|omega|(simp;done)|(simp;omega))) (a2 (helT (rows:=(pre.map rFn++[rFnZ cur])) (r:=(rFnZ cur)) (i:=pre.length) (j:=5) (sz:=6) (off:=(pre.length:Int).toNat*6+5) (by simp) (by rfl) (by omega) (by decide)) (a2 (gapH (rows:=c.map rIns) (rows2:=[[.str ((irR line).op),.int .i64 ((irR line).a),.int .i64 ((irR line).b)]]) (rows3:=(c++[irR line]).map rIns) (n:=(c.map rIns).length) (bytes:=32) (kt:=125) (y:= .tmp 127) (by rw[List.map_append];rfl) (by simp) (by simp;omega) (by decide) (by simp) (by simp)) (a2 (ixu (i:=pre.length) (n:=((pre.map rFn++[rFnZ cur]):List (List SV)).length) (by first|omega|(simp;done)|(simp;omega))) (hstT2 (rows:=(pre.map rFn++[rFnZ cur])) (r:=(rFnZ cur)) (i:=pre.length) (j:=5) (sz:=6) (off:=(pre.length:Int).toNat*6+5) (n2:=((c++[irR line]).map rIns).length) (by simp) (by rfl) (by omega) (by decide) (by simp) rfl rfl))))))) ?_)
      refine exn [4,5] [(9,.cell 4 [.hd (obN+1) ((R.map rRec).length) 0,.hd (obN+2) (((pre.map rFn++[rFnZ cur]):List (List SV)).length) 0,.m 1 fr rI]),(10,.bool true)] ?_
      refine esw 800013 (obN+3) [] [(1,.own obN [.hole,.hole,.hole] [.mk (obN+1) 0 41 2 (R.map rRec),.mkh (obN+2) 0 45 6 (pre.map rFn++[rFnZ cur]) pre.length 5 (obN+3) (((c++[irR line]).map rIns).length),.mk (obN+3) 0 67 3 ((c++[irR line]).map rIns)])] ?_
      exact rtG rfl (⟨true,.inr ⟨R,fr,pre,cur,(c++[irR line]),hcur,rfl,rfl,(T3 (b:=true) hW1 hW2 hW3 (by first|(simp;done)|(simp_all;done)|(simp_all;omega))).trans (by simp[setLast,hcur])⟩⟩)
theorem a13 (u:ByteArray):
 ∃s,(fun r=>r= .tup [.agg [.im true (.sl 2 ((mrR u).records.map rRec)),.im true (.sl 6 ((mrR u).funcs.map rFn)),.im true (.sl 1 ((mrR u).friends.map rI))],.lf (.im true (.bool (mrB u)))]) s∧CallV Try.prog 37 [.lf (.im true (.str u))] (·=s):=by
 refine CallE (fn:=Try.f37) TTok mixed Try.func37 rfl rfl rfl rfl rfl ?_
 refine ex [(0,.lf (.q u)),(4,.lf (.ptr 2 0)),(5,.cell 2 [.nil,.nil,.nil])] [] AllP.nil (by kernel_rfl) ?_
 refine a7 (exn [] [(20,.bool (decide ((u.size:Int)>4000)))] ?_)
 refine ecp (fun h1=> ?_) fun h1=> ?_
 ·refine exn [0,20] [(6,.bool false)] ?_
  refine etd [] [(5,.cell 2 [.m 2 ([]:List Rec) rRec,.nil,.nil])] (fun E=>j4 2 0 2 rfl rfl) ?_
  refine etd [] [(5,.cell 2 [.m 2 ([]:List Rec) rRec,.m 6 ([]:List Fn) rFn,.nil])] (fun E=>j4 2 1 6 rfl rfl) ?_
  refine etd [] [(5,.cell 2 [.m 2 ([]:List Rec) rRec,.m 6 ([]:List Fn) rFn,.m 1 ([]:List Int) rI])] (fun E=>j4 2 2 1 rfl rfl) ?_
  exact rtE rfl (retMr (m:=noMod) (N9 (a7t (by omega))))
 ·have hs4:u.size≤4000:=by omega
  have hll:(lnL u).length≤u.size:=(a1O u u.size).1
  refine a5 (exn [20] [(8,.lf (.ptr 4 0)),(9,.cell 4 [.nil,.nil,.nil])] ?_)
  refine exd [] [(10,.lf (.m 1 (lnL u) rS)),(12,.bool (lnB u))] [(1,.ret (.tup [.lf (.m 1 (lnL u) rS),.lf (.y (lnB u))]))] (cl tx50 (a4x u (by omega))) ?_
  refine a7 (etd [] [(9,.cell 4 [.nil,.nil,.m 1 ([]:List Int) rI])] (fun E=>j4 4 2 1 rfl rfl) ?_)
  refine etd [] [(9,.own 4 [.nil,.nil,.m 1 ([]:List Int) rI] [.no,.no,.no])] (fun E=>I9 4 3 rfl) ?_
  refine T5 4 0 0 810001 41 2 [(0,.lf (.q u)),(4,.lf (.ptr 2 0)),(5,.cell 2 [.nil,.nil,.nil]),(8,.lf (.ptr 4 0)),(9,.own 4 [.hd 810001 0 0,.nil,.m 1 ([]:List Int) rI] [.mk 810001 0 41 2 [],.no,.no]),(10,.lf (.m 1 (lnL u) rS)),(12,.bool (lnB u))] rfl rfl rfl (by kernel_rfl) (by kernel_rfl) (by kernel_rfl) ?_
  refine T5 4 1 1 810002 45 6 [(0,.lf (.q u)),(4,.lf (.ptr 2 0)),(5,.cell 2 [.nil,.nil,.nil]),(8,.lf (.ptr 4 0)),(9,.own 4 [.hd 810001 0 0,.hd 810002 0 0,.m 1 ([]:List Int) rI] [.mk 810001 0 41 2 [],.mk 810002 0 45 6 [],.no]),(10,.lf (.m 1 (lnL u) rS)),(12,.bool (lnB u))] rfl rfl rfl (by kernel_rfl) (by kernel_rfl) (by kernel_rfl) ?_
  refine exn [] [(9,.own 4 [.hd 810001 0 0,.hd 810002 0 0,.m 1 ([]:List Int) rI] [.mk 810001 0 41 2 [],.mk 810002 0 45 6 [],.no]),(14,.int 0)] ?_
  refine a9 (eld (fun l0 n L=>(∃(i:Nat) (ok:Bool) (R:List Rec) (fr:List Int),L=upG [] [(9,.own 4 [.hd 810001 ((R.map rRec).length) 0,.hd 810002 ((([]:List (List SV)):List (List SV)).length) 0,.m 1 fr rI] [.mk 810001 0 41 2 (R.map rRec),.mk 810002 0 45 6 ([]:List (List SV)),.no]),(12,.bool ok),(14,.int (i:Int))] l0∧n=(lnL u).length-i∧(Hd7 u i ok (⟨R,[],fr⟩:Mod)))∨(∃(i:Nat) (ok:Bool) (R:List Rec) (fr:List Int) (pre:List Fn) (cur:Fn),L=upG [] [(9,.own 4 [.hd 810001 ((R.map rRec).length) 0,.hd 810002 (((pre.map rFn++[rFnZ cur]):List (List SV)).length) 0,.m 1 fr rI] [.mk 810001 0 41 2 (R.map rRec),.mk 810002 0 45 6 (pre.map rFn++[rFnZ cur]),.no]),(12,.bool ok),(14,.int (i:Int))] l0∧n=(lnL u).length-i∧(cur.code=[]∧Hd7 u i ok (⟨R,pre++[cur],fr⟩:Mod)))∨(∃(i:Nat) (ok:Bool) (R:List Rec) (fr:List Int) (pre:List Fn) (cur:Fn) (c:List Ins),L=upG [] [(9,.own 4 [.hd 810001 ((R.map rRec).length) 0,.hd 810002 (((pre.map rFn++[rFnZ cur]):List (List SV)).length) 0,.m 1 fr rI] [.mk 810001 0 41 2 (R.map rRec),.mkh 810002 0 45 6 (pre.map rFn++[rFnZ cur]) pre.length 5 810003 ((c.map rIns).length),.mk 810003 0 67 3 (c.map rIns)]),(12,.bool ok),(14,.int (i:Int))] l0∧n=(lnL u).length-i∧(cur.code=[]∧Hd7 u i ok (⟨R,pre++[{cur with code:=c}],fr⟩:Mod)))) _ (.inl ⟨0,(lnB u),[],[],rfl,rfl,Hd7.zero u⟩) ?_)
  rintro n L (⟨i,ok,R,fr,rfl,rfl,hP1⟩|⟨i,ok,R,fr,pre,cur,rfl,rfl,hP1⟩|⟨i,ok,R,fr,pre,cur,c,rfl,rfl,hP1⟩)
  ·have hile:=hP1.le
   refine a7 ?_
   refine exj [(0,.lf (.q u)),(4,.lf (.ptr 2 0)),(5,.cell 2 [.nil,.nil,.nil]),(8,.lf (.ptr 4 0)),(9,.own 4 [.hd 810001 ((R.map rRec).length) 0,.hd 810002 ((([]:List (List SV)):List (List SV)).length) 0,.m 1 fr rI] [.mk 810001 0 41 2 (R.map rRec),.mk 810002 0 45 6 ([]:List (List SV)),.no]),(10,.lf (.m 1 (lnL u) rS)),(12,.bool ok),(14,.int (i:Int)),(48,.bool ((decide ((i:Int)<(((lnL u).length:Nat):Int)))&&ok))] (by
    rcases bft (decide ((((i:Nat):Int):Int)<(((lnL u).length:Nat):Int)))with g1|g1
    ·have g1p:=d5 g1
     exact⟨[(2,.slot (.int (((lnL u).length:Nat):Int))),(3,.slot (.bool true)),(6,.slot (.bool ((decide ((i:Int)<(((lnL u).length:Nat):Int)))&&ok)))],_,(a2 (ln (l:=lnL u) (f:=rS)) (a2 (kB g1) (a2 (kB (b:=ok) (c:=((decide ((i:Int)<(((lnL u).length:Nat):Int)))&&ok)) (by first|(simp only[g1,Bool.true_or,Bool.false_or,Bool.or_false,Bool.or_true,Bool.true_and,Bool.false_and,Bool.and_true,Bool.and_false,Bool.not_true,Bool.not_false,cond_true,cond_false];done)|(simp[g1];done))) AllP.nil))),by kernel_rfl⟩
    ·have g1p:=i5 g1
     exact⟨[(2,.slot (.int (((lnL u).length:Nat):Int))),(3,.slot (.bool false)),(6,.slot (.bool ((decide ((i:Int)<(((lnL u).length:Nat):Int)))&&ok)))],_,(a2 (ln (l:=lnL u) (f:=rS)) (a2 (kB g1) (a2 (kB (b:=false) (c:=((decide ((i:Int)<(((lnL u).length:Nat):Int)))&&ok)) (by first|(simp only[g1,Bool.true_or,Bool.false_or,Bool.or_false,Bool.or_true,Bool.true_and,Bool.false_and,Bool.and_true,Bool.and_false,Bool.not_true,Bool.not_false,cond_true,cond_false];done)|(simp[g1];done))) AllP.nil))),by kernel_rfl⟩) ?_
   refine ecd (fun h2=> ?_) fun h2=> ?_
   ·refine a5 ?_
    refine a7 ?_
    refine a9 ?_
    have hokq1:ok=true:=(Bool.and_eq_true_iff.1 h2).2
    have hilq1:i<(lnL u).length:=by have h9:=of_decide_eq_true (Bool.and_eq_true_iff.1 h2).1;omega
    have hOkq1:=hP1.ok hokq1
    obtain⟨oq1,rq1,⟨okq1,hRq1⟩,ccq1⟩:=a5n R fr (nth (lnL u) i) (a1D hs4 i) hOkq1.rl
    rcases hRq1 with⟨Rq1,frq1,rfl,rfl,hrdq1⟩|⟨Rq1,frq1,preq1,curq1,hczq1,rfl,rfl,hrdq1⟩
    ·refine exed [48] [(9,.own 4 [.hd 810001 ((Rq1.map rRec).length) 0,.hd 810002 ((([]:List (List SV)):List (List SV)).length) 0,.m 1 frq1 rI] [.mk 810001 0 41 2 (Rq1.map rRec),.mk 810002 0 45 6 ([]:List (List SV)),.no]),(12,.bool okq1)] [(3,.row (rS (nth (lnL u) i))),(5,.cg 4 (.own obN [.hole,.hole,.hole] [.mk (obN+1) 0 41 2 (Rq1.map rRec),.mk (obN+2) 0 45 6 ([]:List (List SV)),.no]) (.tup [.agg [.hd (obN+1) ((Rq1.map rRec).length) 0,.hd (obN+2) ((([]:List (List SV)):List (List SV)).length) 0,.m 1 frq1 rI],.lf (.y okq1)]) [(obN+1),(obN+2)] [810001,810002])] (a2 (ixn rS (lnL u) i) (cgT tx51 ccq1)) ?_
     exact exed [] [(14,.int (↑(i+1):Int))] [(1,.slot (.int (↑(i+1):Int)))] (wI1 i) (⟨_,by omega,(.inl ⟨(i+1),okq1,Rq1,frq1,rfl,rfl,hP1.next hokq1 hilq1 hrdq1⟩)⟩)
    ·refine exed [48] [(9,.own 4 [.hd 810001 ((Rq1.map rRec).length) 0,.hd 810002 (((preq1.map rFn++[rFnZ curq1]):List (List SV)).length) 0,.m 1 frq1 rI] [.mk 810001 0 41 2 (Rq1.map rRec),.mk 810002 0 45 6 (preq1.map rFn++[rFnZ curq1]),.no]),(12,.bool okq1)] [(3,.row (rS (nth (lnL u) i))),(5,.cg 4 (.own obN [.hole,.hole,.hole] [.mk (obN+1) 0 41 2 (Rq1.map rRec),.mk (obN+2) 0 45 6 (preq1.map rFn++[rFnZ curq1]),.no]) (.tup [.agg [.hd (obN+1) ((Rq1.map rRec).length) 0,.hd (obN+2) (((preq1.map rFn++[rFnZ curq1]):List (List SV)).length) 0,.m 1 frq1 rI],.lf (.y okq1)]) [(obN+1),(obN+2)] [810001,810002])] (a2 (ixn rS (lnL u) i) (cgT tx51 ccq1)) ?_
     exact exed [] [(14,.int (↑(i+1):Int))] [(1,.slot (.int (↑(i+1):Int)))] (wI1 i) (⟨_,by omega,(.inr (.inl ⟨(i+1),okq1,Rq1,frq1,preq1,curq1,rfl,rfl,⟨hczq1,hP1.next hokq1 hilq1 hrdq1⟩⟩))⟩)
   ·refine d9 (a7 (etd [] [(9,.own 4 [.m 2 R rRec,.hd 810002 ((([]:List (List SV)):List (List SV)).length) 0,.m 1 fr rI] [.no,.mk 810002 0 45 6 ([]:List (List SV)),.no])] (fun E=>A8 4 0 0 rfl rfl rfl (by simp)) ?_))
    refine etd [] [(9,.own 4 [.m 2 R rRec,.im true (.sl 6 ([]:List (List SV))),.m 1 fr rI] [.no,.no,.no])] (fun E=>A8 4 1 1 rfl rfl rfl (by simp)) ?_
    refine etd [] [(9,.cell 4 [.m 2 R rRec,.im true (.sl 6 ([]:List (List SV))),.m 1 fr rI])] (fun E=>d6 4 rfl) ?_
    refine ekd [] [(9,.cell 4 [.m 2 ((⟨R,[],fr⟩:Mod).records) rRec,.m 6 ((⟨R,[],fr⟩:Mod).funcs) rFn,.m 1 ((⟨R,[],fr⟩:Mod).friends) rI])] ?_
    rcases bft (!ok)with g2|g2
    ·have g2p:=o4 g2
     refine exd [0,10,12,14,48] [(86,.bool true)] [(1,.slot (.bool true))] (kB g2) ?_
     refine ecT rfl ?_
     refine exn [8,9,86] [(6,.bool false)] ?_
     refine etd [] [(5,.cell 2 [.m 2 ([]:List Rec) rRec,.nil,.nil])] (fun E=>j4 2 0 2 rfl rfl) ?_
     refine etd [] [(5,.cell 2 [.m 2 ([]:List Rec) rRec,.m 6 ([]:List Fn) rFn,.nil])] (fun E=>j4 2 1 6 rfl rfl) ?_
     refine etd [] [(5,.cell 2 [.m 2 ([]:List Rec) rRec,.m 6 ([]:List Fn) rFn,.m 1 ([]:List Int) rI])] (fun E=>j4 2 2 1 rfl rfl) ?_
     exact rtE rfl (retMr (m:=noMod) (N9 (a4y hP1.le hP1.no g2)))
    ·have g2p:=o3 g2
     have hok:ok=true:=by simpa using g2
     have hOk:=hP1.ok hok
     have hrng:=hOk.rng
     have hwm:=hOk.w
     have hia:=hP1.le
     have hie:i=(lnL u).length:=by rw[hok,Bool.and_true]at h2;have h9:=i5 h2;omega
     refine exd [0,10,12,14,48] [(86,.bool (!((bl (modT (⟨R,[],fr⟩:Mod))).toList==u.toList)))] [(1,.slot (.bool false)),(4,.ret (.lf (.q (bl (modT (⟨R,[],fr⟩:Mod))))))] (a2 (kB g2) (cl tx52 (A9 (⟨R,[],fr⟩:Mod) (by assumption) (by assumption)))) ?_
     refine ecd (fun h4=> ?_) fun h4=> ?_
     ·have h4:((bl (modT (⟨R,[],fr⟩:Mod))).toList==u.toList)=false:=o4 h4
      refine exn [8,9,86] [(6,.bool false)] ?_
      refine etd [] [(5,.cell 2 [.m 2 ([]:List Rec) rRec,.nil,.nil])] (fun E=>j4 2 0 2 rfl rfl) ?_
      refine etd [] [(5,.cell 2 [.m 2 ([]:List Rec) rRec,.m 6 ([]:List Fn) rFn,.nil])] (fun E=>j4 2 1 6 rfl rfl) ?_
      refine etd [] [(5,.cell 2 [.m 2 ([]:List Rec) rRec,.m 6 ([]:List Fn) rFn,.m 1 ([]:List Int) rI])] (fun E=>j4 2 2 1 rfl rfl) ?_
      exact rtE rfl (retMr (m:=noMod) (N9 (a6V hs4 hP1.yes hok hie h4)))
     ·have h4:((bl (modT (⟨R,[],fr⟩:Mod))).toList==u.toList)=true:=o3 h4
      refine a5 (exn [8,9,86] [(5,.cell 2 [.m 2 ((⟨R,[],fr⟩:Mod).records) rRec,.m 6 ((⟨R,[],fr⟩:Mod).funcs) rFn,.m 1 ((⟨R,[],fr⟩:Mod).friends) rI]),(6,.bool true)] ?_)
      exact rtE rfl (retMr (a2M (a66 hs4 hP1.yes hok hie h4)))
  ·have hile:=hP1.2.le
   refine a7 ?_
   refine exj [(0,.lf (.q u)),(4,.lf (.ptr 2 0)),(5,.cell 2 [.nil,.nil,.nil]),(8,.lf (.ptr 4 0)),(9,.own 4 [.hd 810001 ((R.map rRec).length) 0,.hd 810002 (((pre.map rFn++[rFnZ cur]):List (List SV)).length) 0,.m 1 fr rI] [.mk 810001 0 41 2 (R.map rRec),.mk 810002 0 45 6 (pre.map rFn++[rFnZ cur]),.no]),(10,.lf (.m 1 (lnL u) rS)),(12,.bool ok),(14,.int (i:Int)),(48,.bool ((decide ((i:Int)<(((lnL u).length:Nat):Int)))&&ok))] (by
    rcases bft (decide ((((i:Nat):Int):Int)<(((lnL u).length:Nat):Int)))with g3|g3
    ·have g3p:=d5 g3
     exact⟨[(2,.slot (.int (((lnL u).length:Nat):Int))),(3,.slot (.bool true)),(6,.slot (.bool ((decide ((i:Int)<(((lnL u).length:Nat):Int)))&&ok)))],_,(a2 (ln (l:=lnL u) (f:=rS)) (a2 (kB g3) (a2 (kB (b:=ok) (c:=((decide ((i:Int)<(((lnL u).length:Nat):Int)))&&ok)) (by first|(simp only[g3,Bool.true_or,Bool.false_or,Bool.or_false,Bool.or_true,Bool.true_and,Bool.false_and,Bool.and_true,Bool.and_false,Bool.not_true,Bool.not_false,cond_true,cond_false];done)|(simp[g3];done))) AllP.nil))),by kernel_rfl⟩
    ·have g3p:=i5 g3
     exact⟨[(2,.slot (.int (((lnL u).length:Nat):Int))),(3,.slot (.bool false)),(6,.slot (.bool ((decide ((i:Int)<(((lnL u).length:Nat):Int)))&&ok)))],_,(a2 (ln (l:=lnL u) (f:=rS)) (a2 (kB g3) (a2 (kB (b:=false) (c:=((decide ((i:Int)<(((lnL u).length:Nat):Int)))&&ok)) (by first|(simp only[g3,Bool.true_or,Bool.false_or,Bool.or_false,Bool.or_true,Bool.true_and,Bool.false_and,Bool.and_true,Bool.and_false,Bool.not_true,Bool.not_false,cond_true,cond_false];done)|(simp[g3];done))) AllP.nil))),by kernel_rfl⟩) ?_
   refine ecd (fun h5=> ?_) fun h5=> ?_
   ·refine a5 ?_
    refine a7 ?_
    refine a9 ?_
    have hokq2:ok=true:=(Bool.and_eq_true_iff.1 h5).2
    have hilq2:i<(lnL u).length:=by have h9:=of_decide_eq_true (Bool.and_eq_true_iff.1 h5).1;omega
    have hOkq2:=hP1.2.ok hokq2
    have hflq2:=hOkq2.fl
    simp only[List.length_append,List.length_singleton]at hflq2
    obtain⟨oq2,rq2,⟨okq2,hRq2⟩,ccq2⟩:=a5i R fr pre cur (nth (lnL u) i) (a1D hs4 i) hOkq2.rl (by omega) hP1.1
    rcases hRq2 with⟨Rq2,frq2,preq2,curq2,hczq2,rfl,rfl,hrdq2⟩|⟨Rq2,frq2,preq2,curq2,cq2,hczq2,rfl,rfl,hrdq2⟩
    ·refine exed [48] [(9,.own 4 [.hd 810001 ((Rq2.map rRec).length) 0,.hd 810002 (((preq2.map rFn++[rFnZ curq2]):List (List SV)).length) 0,.m 1 frq2 rI] [.mk 810001 0 41 2 (Rq2.map rRec),.mk 810002 0 45 6 (preq2.map rFn++[rFnZ curq2]),.no]),(12,.bool okq2)] [(3,.row (rS (nth (lnL u) i))),(5,.cg 4 (.own obN [.hole,.hole,.hole] [.mk (obN+1) 0 41 2 (Rq2.map rRec),.mk (obN+2) 0 45 6 (preq2.map rFn++[rFnZ curq2]),.no]) (.tup [.agg [.hd (obN+1) ((Rq2.map rRec).length) 0,.hd (obN+2) (((preq2.map rFn++[rFnZ curq2]):List (List SV)).length) 0,.m 1 frq2 rI],.lf (.y okq2)]) [(obN+1),(obN+2)] [810001,810002])] (a2 (ixn rS (lnL u) i) (cgT tx51 ccq2)) ?_
     exact exed [] [(14,.int (↑(i+1):Int))] [(1,.slot (.int (↑(i+1):Int)))] (wI1 i) (⟨_,by omega,(.inr (.inl ⟨(i+1),okq2,Rq2,frq2,preq2,curq2,rfl,rfl,⟨hczq2,hP1.2.next hokq2 hilq2 hrdq2⟩⟩))⟩)
    ·refine exed [48] [(9,.own 4 [.hd 810001 ((Rq2.map rRec).length) 0,.hd 810002 (((preq2.map rFn++[rFnZ curq2]):List (List SV)).length) 0,.m 1 frq2 rI] [.mk 810001 0 41 2 (Rq2.map rRec),.mkh 810002 0 45 6 (preq2.map rFn++[rFnZ curq2]) preq2.length 5 810003 ((cq2.map rIns).length),.mk 810003 0 67 3 (cq2.map rIns)]),(12,.bool okq2)] [(3,.row (rS (nth (lnL u) i))),(5,.cg 4 (.own obN [.hole,.hole,.hole] [.mk (obN+1) 0 41 2 (Rq2.map rRec),.mkh (obN+2) 0 45 6 (preq2.map rFn++[rFnZ curq2]) preq2.length 5 (obN+3) ((cq2.map rIns).length),.mk (obN+3) 0 67 3 (cq2.map rIns)]) (.tup [.agg [.hd (obN+1) ((Rq2.map rRec).length) 0,.hd (obN+2) (((preq2.map rFn++[rFnZ curq2]):List (List SV)).length) 0,.m 1 frq2 rI],.lf (.y okq2)]) [(obN+1),(obN+2),(obN+3)] [810001,810002,810003])] (a2 (ixn rS (lnL u) i) (cgT tx51 ccq2)) ?_
     exact exed [] [(14,.int (↑(i+1):Int))] [(1,.slot (.int (↑(i+1):Int)))] (wI1 i) (⟨_,by omega,(.inr (.inr ⟨(i+1),okq2,Rq2,frq2,preq2,curq2,cq2,rfl,rfl,⟨hczq2,hP1.2.next hokq2 hilq2 hrdq2⟩⟩))⟩)
   ·refine d9 (a7 (etd [] [(9,.own 4 [.hd 810001 ((R.map rRec).length) 0,.hd 810002 (((pre.map rFn++[rFnZ cur]):List (List SV)).length) 0,.m 1 fr rI] [.mk 810001 0 41 2 (R.map rRec),.mk 810002 0 45 6 (putHd (pre.map rFn++[rFnZ cur]) pre.length 5 (.sl 3 [])),.no])] (fun E=>a3y 4 1 3 (i:=pre.length) (j:=5) (r:=(rFnZ cur)) rfl rfl (by simp) (by rfl)) ?_))
    rw[show putHd (pre.map rFn++[rFnZ cur]) pre.length 5 (.sl 3 [])=(pre++[cur]).map rFn from by exact a46 pre hP1.1]
    refine etd [] [(9,.own 4 [.m 2 R rRec,.hd 810002 (((pre.map rFn++[rFnZ cur]):List (List SV)).length) 0,.m 1 fr rI] [.no,.mk 810002 0 45 6 ((pre++[cur]).map rFn),.no])] (fun E=>A8 4 0 0 rfl rfl rfl (by simp)) ?_
    refine etd [] [(9,.own 4 [.m 2 R rRec,.m 6 (pre++[cur]) rFn,.m 1 fr rI] [.no,.no,.no])] (fun E=>A8 4 1 1 rfl rfl rfl (by simp)) ?_
    refine etd [] [(9,.cell 4 [.m 2 R rRec,.m 6 (pre++[cur]) rFn,.m 1 fr rI])] (fun E=>d6 4 rfl) ?_
    refine ekd [] [(9,.cell 4 [.m 2 ((⟨R,pre++[cur],fr⟩:Mod).records) rRec,.m 6 ((⟨R,pre++[cur],fr⟩:Mod).funcs) rFn,.m 1 ((⟨R,pre++[cur],fr⟩:Mod).friends) rI])] ?_
    rcases bft (!ok)with g4|g4
    ·have g4p:=o4 g4
     refine exd [0,10,12,14,48] [(86,.bool true)] [(1,.slot (.bool true))] (kB g4) ?_
     refine ecT rfl ?_
     refine exn [8,9,86] [(6,.bool false)] ?_
     refine etd [] [(5,.cell 2 [.m 2 ([]:List Rec) rRec,.nil,.nil])] (fun E=>j4 2 0 2 rfl rfl) ?_
     refine etd [] [(5,.cell 2 [.m 2 ([]:List Rec) rRec,.m 6 ([]:List Fn) rFn,.nil])] (fun E=>j4 2 1 6 rfl rfl) ?_
     refine etd [] [(5,.cell 2 [.m 2 ([]:List Rec) rRec,.m 6 ([]:List Fn) rFn,.m 1 ([]:List Int) rI])] (fun E=>j4 2 2 1 rfl rfl) ?_
     exact rtE rfl (retMr (m:=noMod) (N9 (a4y hP1.2.le hP1.2.no g4)))
    ·have g4p:=o3 g4
     have hok:ok=true:=by simpa using g4
     have hOk:=hP1.2.ok hok
     have hrng:=hOk.rng
     have hwm:=hOk.w
     have hia:=hP1.2.le
     have hie:i=(lnL u).length:=by rw[hok,Bool.and_true]at h5;have h9:=i5 h5;omega
     refine exd [0,10,12,14,48] [(86,.bool (!((bl (modT (⟨R,pre++[cur],fr⟩:Mod))).toList==u.toList)))] [(1,.slot (.bool false)),(4,.ret (.lf (.q (bl (modT (⟨R,pre++[cur],fr⟩:Mod))))))] (a2 (kB g4) (cl tx52 (A9 (⟨R,pre++[cur],fr⟩:Mod) (by assumption) (by assumption)))) ?_
     refine ecd (fun h7=> ?_) fun h7=> ?_
     ·have h7:((bl (modT (⟨R,pre++[cur],fr⟩:Mod))).toList==u.toList)=false:=o4 h7
      refine exn [8,9,86] [(6,.bool false)] ?_
      refine etd [] [(5,.cell 2 [.m 2 ([]:List Rec) rRec,.nil,.nil])] (fun E=>j4 2 0 2 rfl rfl) ?_
      refine etd [] [(5,.cell 2 [.m 2 ([]:List Rec) rRec,.m 6 ([]:List Fn) rFn,.nil])] (fun E=>j4 2 1 6 rfl rfl) ?_
      refine etd [] [(5,.cell 2 [.m 2 ([]:List Rec) rRec,.m 6 ([]:List Fn) rFn,.m 1 ([]:List Int) rI])] (fun E=>j4 2 2 1 rfl rfl) ?_
      exact rtE rfl (retMr (m:=noMod) (N9 (a6V hs4 hP1.2.yes hok hie h7)))
     ·have h7:((bl (modT (⟨R,pre++[cur],fr⟩:Mod))).toList==u.toList)=true:=o3 h7
      refine a5 (exn [8,9,86] [(5,.cell 2 [.m 2 ((⟨R,pre++[cur],fr⟩:Mod).records) rRec,.m 6 ((⟨R,pre++[cur],fr⟩:Mod).funcs) rFn,.m 1 ((⟨R,pre++[cur],fr⟩:Mod).friends) rI]),(6,.bool true)] ?_)
      exact rtE rfl (retMr (a2M (a66 hs4 hP1.2.yes hok hie h7)))
  ·have hile:=hP1.2.le
   refine a7 ?_
   refine exj [(0,.lf (.q u)),(4,.lf (.ptr 2 0)),(5,.cell 2 [.nil,.nil,.nil]),(8,.lf (.ptr 4 0)),(9,.own 4 [.hd 810001 ((R.map rRec).length) 0,.hd 810002 (((pre.map rFn++[rFnZ cur]):List (List SV)).length) 0,.m 1 fr rI] [.mk 810001 0 41 2 (R.map rRec),.mkh 810002 0 45 6 (pre.map rFn++[rFnZ cur]) pre.length 5 810003 ((c.map rIns).length),.mk 810003 0 67 3 (c.map rIns)]),(10,.lf (.m 1 (lnL u) rS)),(12,.bool ok),(14,.int (i:Int)),(48,.bool ((decide ((i:Int)<(((lnL u).length:Nat):Int)))&&ok))] (by
    rcases bft (decide ((((i:Nat):Int):Int)<(((lnL u).length:Nat):Int)))with g5|g5
    ·have g5p:=d5 g5
     exact⟨[(2,.slot (.int (((lnL u).length:Nat):Int))),(3,.slot (.bool true)),(6,.slot (.bool ((decide ((i:Int)<(((lnL u).length:Nat):Int)))&&ok)))],_,(a2 (ln (l:=lnL u) (f:=rS)) (a2 (kB g5) (a2 (kB (b:=ok) (c:=((decide ((i:Int)<(((lnL u).length:Nat):Int)))&&ok)) (by first|(simp only[g5,Bool.true_or,Bool.false_or,Bool.or_false,Bool.or_true,Bool.true_and,Bool.false_and,Bool.and_true,Bool.and_false,Bool.not_true,Bool.not_false,cond_true,cond_false];done)|(simp[g5];done))) AllP.nil))),by kernel_rfl⟩
    ·have g5p:=i5 g5
     exact⟨[(2,.slot (.int (((lnL u).length:Nat):Int))),(3,.slot (.bool false)),(6,.slot (.bool ((decide ((i:Int)<(((lnL u).length:Nat):Int)))&&ok)))],_,(a2 (ln (l:=lnL u) (f:=rS)) (a2 (kB g5) (a2 (kB (b:=false) (c:=((decide ((i:Int)<(((lnL u).length:Nat):Int)))&&ok)) (by first|(simp only[g5,Bool.true_or,Bool.false_or,Bool.or_false,Bool.or_true,Bool.true_and,Bool.false_and,Bool.and_true,Bool.and_false,Bool.not_true,Bool.not_false,cond_true,cond_false];done)|(simp[g5];done))) AllP.nil))),by kernel_rfl⟩) ?_
   refine ecd (fun h8=> ?_) fun h8=> ?_
   ·refine a5 ?_
    refine a7 ?_
    refine a9 ?_
    have hokq3:ok=true:=(Bool.and_eq_true_iff.1 h8).2
    have hilq3:i<(lnL u).length:=by have h9:=of_decide_eq_true (Bool.and_eq_true_iff.1 h8).1;omega
    have hOkq3:=hP1.2.ok hokq3
    have hflq3:=hOkq3.fl
    simp only[List.length_append,List.length_singleton]at hflq3
    obtain⟨oq3,rq3,⟨okq3,hRq3⟩,ccq3⟩:=a5N R fr pre cur c (nth (lnL u) i) (a1D hs4 i) hOkq3.rl (by omega) hP1.1 (hOkq3.fns {cur with code:=c} (by simp)).code.1
    rcases hRq3 with⟨Rq3,frq3,preq3,curq3,hczq3,rfl,rfl,hrdq3⟩|⟨Rq3,frq3,preq3,curq3,cq3,hczq3,rfl,rfl,hrdq3⟩
    ·refine exed [48] [(9,.own 4 [.hd 810001 ((Rq3.map rRec).length) 0,.hd 810002 (((preq3.map rFn++[rFnZ curq3]):List (List SV)).length) 0,.m 1 frq3 rI] [.mk 810001 0 41 2 (Rq3.map rRec),.mk 810002 0 45 6 (preq3.map rFn++[rFnZ curq3]),.no]),(12,.bool okq3)] [(3,.row (rS (nth (lnL u) i))),(5,.cg 4 (.own obN [.hole,.hole,.hole] [.mk (obN+1) 0 41 2 (Rq3.map rRec),.mk (obN+2) 0 45 6 (preq3.map rFn++[rFnZ curq3]),.no]) (.tup [.agg [.hd (obN+1) ((Rq3.map rRec).length) 0,.hd (obN+2) (((preq3.map rFn++[rFnZ curq3]):List (List SV)).length) 0,.m 1 frq3 rI],.lf (.y okq3)]) [(obN+1),(obN+2)] [810001,810002])] (a2 (ixn rS (lnL u) i) (cgT tx51 ccq3)) ?_
     exact exed [] [(14,.int (↑(i+1):Int))] [(1,.slot (.int (↑(i+1):Int)))] (wI1 i) (⟨_,by omega,(.inr (.inl ⟨(i+1),okq3,Rq3,frq3,preq3,curq3,rfl,rfl,⟨hczq3,hP1.2.next hokq3 hilq3 hrdq3⟩⟩))⟩)
    ·refine exed [48] [(9,.own 4 [.hd 810001 ((Rq3.map rRec).length) 0,.hd 810002 (((preq3.map rFn++[rFnZ curq3]):List (List SV)).length) 0,.m 1 frq3 rI] [.mk 810001 0 41 2 (Rq3.map rRec),.mkh 810002 0 45 6 (preq3.map rFn++[rFnZ curq3]) preq3.length 5 810003 ((cq3.map rIns).length),.mk 810003 0 67 3 (cq3.map rIns)]),(12,.bool okq3)] [(3,.row (rS (nth (lnL u) i))),(5,.cg 4 (.own obN [.hole,.hole,.hole] [.mk (obN+1) 0 41 2 (Rq3.map rRec),.mkh (obN+2) 0 45 6 (preq3.map rFn++[rFnZ curq3]) preq3.length 5 (obN+3) ((cq3.map rIns).length),.mk (obN+3) 0 67 3 (cq3.map rIns)]) (.tup [.agg [.hd (obN+1) ((Rq3.map rRec).length) 0,.hd (obN+2) (((preq3.map rFn++[rFnZ curq3]):List (List SV)).length) 0,.m 1 frq3 rI],.lf (.y okq3)]) [(obN+1),(obN+2),(obN+3)] [810001,810002,810003])] (a2 (ixn rS (lnL u) i) (cgT tx51 ccq3)) ?_
     exact exed [] [(14,.int (↑(i+1):Int))] [(1,.slot (.int (↑(i+1):Int)))] (wI1 i) (⟨_,by omega,(.inr (.inr ⟨(i+1),okq3,Rq3,frq3,preq3,curq3,cq3,rfl,rfl,⟨hczq3,hP1.2.next hokq3 hilq3 hrdq3⟩⟩))⟩)
   ·refine d9 (a7 (etd [] [(9,.own 4 [.hd 810001 ((R.map rRec).length) 0,.hd 810002 (((pre.map rFn++[rFnZ cur]):List (List SV)).length) 0,.m 1 fr rI] [.mk 810001 0 41 2 (R.map rRec),.mk 810002 0 45 6 (putHd (pre.map rFn++[rFnZ cur]) pre.length 5 (.sl 3 (c.map rIns))),.no])] (fun E=>a1s 4 1 2 rfl rfl rfl (by simp) (by decide)) ?_))
    rw[show putHd (pre.map rFn++[rFnZ cur]) pre.length 5 (.sl 3 (c.map rIns))=(pre++[{cur with code:=c}]).map rFn from by exact a4r pre cur c]
    refine etd [] [(9,.own 4 [.m 2 R rRec,.hd 810002 (((pre.map rFn++[rFnZ cur]):List (List SV)).length) 0,.m 1 fr rI] [.no,.mk 810002 0 45 6 ((pre++[{cur with code:=c}]).map rFn),.no])] (fun E=>A8 4 0 0 rfl rfl rfl (by simp)) ?_
    refine etd [] [(9,.own 4 [.m 2 R rRec,.m 6 (pre++[{cur with code:=c}]) rFn,.m 1 fr rI] [.no,.no,.no])] (fun E=>A8 4 1 1 rfl rfl rfl (by simp)) ?_
    refine etd [] [(9,.cell 4 [.m 2 R rRec,.m 6 (pre++[{cur with code:=c}]) rFn,.m 1 fr rI])] (fun E=>d6 4 rfl) ?_
    refine ekd [] [(9,.cell 4 [.m 2 ((⟨R,pre++[{cur with code:=c}],fr⟩:Mod).records) rRec,.m 6 ((⟨R,pre++[{cur with code:=c}],fr⟩:Mod).funcs) rFn,.m 1 ((⟨R,pre++[{cur with code:=c}],fr⟩:Mod).friends) rI])] ?_
    rcases bft (!ok)with g6|g6
    ·have g6p:=o4 g6
     refine exd [0,10,12,14,48] [(86,.bool true)] [(1,.slot (.bool true))] (kB g6) ?_
     refine ecT rfl ?_
     refine exn [8,9,86] [(6,.bool false)] ?_
     refine etd [] [(5,.cell 2 [.m 2 ([]:List Rec) rRec,.nil,.nil])] (fun E=>j4 2 0 2 rfl rfl) ?_
     refine etd [] [(5,.cell 2 [.m 2 ([]:List Rec) rRec,.m 6 ([]:List Fn) rFn,.nil])] (fun E=>j4 2 1 6 rfl rfl) ?_
     refine etd [] [(5,.cell 2 [.m 2 ([]:List Rec) rRec,.m 6 ([]:List Fn) rFn,.m 1 ([]:List Int) rI])] (fun E=>j4 2 2 1 rfl rfl) ?_
     exact rtE rfl (retMr (m:=noMod) (N9 (a4y hP1.2.le hP1.2.no g6)))
    ·have g6p:=o3 g6
     have hok:ok=true:=by simpa using g6
     have hOk:=hP1.2.ok hok
     have hrng:=hOk.rng
     have hwm:=hOk.w
     have hia:=hP1.2.le
     have hie:i=(lnL u).length:=by rw[hok,Bool.and_true]at h8;have h9:=i5 h8;omega
     refine exd [0,10,12,14,48] [(86,.bool (!((bl (modT (⟨R,pre++[{cur with code:=c}],fr⟩:Mod))).toList==u.toList)))] [(1,.slot (.bool false)),(4,.ret (.lf (.q (bl (modT (⟨R,pre++[{cur with code:=c}],fr⟩:Mod))))))] (a2 (kB g6) (cl tx52 (A9 (⟨R,pre++[{cur with code:=c}],fr⟩:Mod) (by assumption) (by assumption)))) ?_
     refine ecd (fun h10=> ?_) fun h10=> ?_
     ·have h10:((bl (modT (⟨R,pre++[{cur with code:=c}],fr⟩:Mod))).toList==u.toList)=false:=o4 h10
      refine exn [8,9,86] [(6,.bool false)] ?_
      refine etd [] [(5,.cell 2 [.m 2 ([]:List Rec) rRec,.nil,.nil])] (fun E=>j4 2 0 2 rfl rfl) ?_
      refine etd [] [(5,.cell 2 [.m 2 ([]:List Rec) rRec,.m 6 ([]:List Fn) rFn,.nil])] (fun E=>j4 2 1 6 rfl rfl) ?_
      refine etd [] [(5,.cell 2 [.m 2 ([]:List Rec) rRec,.m 6 ([]:List Fn) rFn,.m 1 ([]:List Int) rI])] (fun E=>j4 2 2 1 rfl rfl) ?_
      exact rtE rfl (retMr (m:=noMod) (N9 (a6V hs4 hP1.2.yes hok hie h10)))
     ·have h10:((bl (modT (⟨R,pre++[{cur with code:=c}],fr⟩:Mod))).toList==u.toList)=true:=o3 h10
      refine a5 (exn [8,9,86] [(5,.cell 2 [.m 2 ((⟨R,pre++[{cur with code:=c}],fr⟩:Mod).records) rRec,.m 6 ((⟨R,pre++[{cur with code:=c}],fr⟩:Mod).funcs) rFn,.m 1 ((⟨R,pre++[{cur with code:=c}],fr⟩:Mod).friends) rI]),(6,.bool true)] ?_)
      exact rtE rfl (retMr (a2M (a66 hs4 hP1.2.yes hok hie h10)))
theorem a2n (u:ByteArray):
 ∃s,(fun r=>r= .agg [.im true (.sl 2 ((mrR u).records.map rRec)),.im true (.sl 6 ((mrR u).funcs.map rFn)),.im true (.sl 1 ((mrR u).friends.map rI))]) s∧CallV Try.prog 26 [.lf (.im true (.str u))] (·=s):=by
 refine CallE (fn:=Try.f26) TTok mixed Try.func26 rfl rfl rfl rfl rfl ?_
 refine ex [(0,.lf (.q u)),(4,.lf (.ptr 2 0)),(5,.cell 2 [.nil,.nil,.nil])] [] AllP.nil (by kernel_rfl) ?_
 obtain⟨_,rfl,cc1⟩:=a13 u
 refine exd [0] [(6,.lf (.ptr 3 0)),(7,.cell 3 [.m 2 ((mrR u).records) rRec,.m 6 ((mrR u).funcs) rFn,.m 1 ((mrR u).friends) rI])] [(1,.ret (.tup [.agg [.m 2 ((mrR u).records) rRec,.m 6 ((mrR u).funcs) rFn,.m 1 ((mrR u).friends) rI],.lf (.y (mrB u))]))] (cl tx37 cc1) ?_
 refine exn [6,7] [(5,.cell 2 [.m 2 ((mrR u).records) rRec,.m 6 ((mrR u).funcs) rFn,.m 1 ((mrR u).friends) rI])] ?_
 exact rtE rfl (rfl)
def COINS :Mod:=⟨[⟨4,[⟨#[110]⟩]⟩,⟨12,[⟨#[83,48,48]⟩]⟩],[⟨2,[⟨#[110]⟩],[⟨#[83,48,48]⟩],[],[],[⟨⟨#[109,111,118,101]⟩,0,0⟩,⟨⟨#[112,97,99,107]⟩,0,0⟩,⟨⟨#[114,101,116]⟩,0,0⟩]⟩,
 ⟨2,[⟨#[83,48,48]⟩],[],[],[],[⟨⟨#[109,111,118,101]⟩,0,0⟩,⟨⟨#[112,97,99,107]⟩,1,0⟩,⟨⟨#[109,101]⟩,0,0⟩,⟨⟨#[107,101,101,112]⟩,1,0⟩,⟨⟨#[114,101,116]⟩,0,0⟩]⟩,
 ⟨2,[⟨#[111]⟩,⟨#[110]⟩],[],[],[1],[⟨⟨#[109,101]⟩,0,0⟩,⟨⟨#[115,101,101,119]⟩,1,0⟩,⟨⟨#[102,105,101,108,100]⟩,0,1⟩,⟨⟨#[102,105,101,108,100]⟩,0,0⟩,⟨⟨#[112,101,101,107]⟩,0,0⟩,⟨⟨#[99,111,112,121]⟩,1,0⟩,⟨⟨#[115,117,98]⟩,0,0⟩,⟨⟨#[119,114,105,116,101]⟩,0,0⟩,⟨⟨#[99,111,112,121]⟩,0,0⟩,⟨⟨#[115,101,101,119]⟩,1,0⟩,⟨⟨#[102,105,101,108,100]⟩,0,1⟩,⟨⟨#[102,105,101,108,100]⟩,0,0⟩,⟨⟨#[112,101,101,107]⟩,0,0⟩,⟨⟨#[99,111,112,121]⟩,1,0⟩,⟨⟨#[97,100,100]⟩,0,0⟩,⟨⟨#[119,114,105,116,101]⟩,0,0⟩,⟨⟨#[114,101,116]⟩,0,0⟩]⟩,
 ⟨2,[⟨#[111]⟩],[⟨#[110]⟩],[],[1],[⟨⟨#[99,111,112,121]⟩,0,0⟩,⟨⟨#[104,97,115]⟩,1,0⟩,⟨⟨#[122,101,114,111]⟩,8,0⟩,⟨⟨#[99,111,112,121]⟩,0,0⟩,⟨⟨#[115,101,101]⟩,1,0⟩,⟨⟨#[102,105,101,108,100]⟩,0,1⟩,⟨⟨#[102,105,101,108,100]⟩,0,0⟩,⟨⟨#[114,101,97,100]⟩,0,0⟩,⟨⟨#[114,101,116]⟩,0,0⟩,⟨⟨#[110,117,109]⟩,0,0⟩,⟨⟨#[114,101,116]⟩,0,0⟩]⟩],[]⟩
def GAMES :Mod:=⟨[⟨12,[⟨#[110]⟩,⟨#[98]⟩]⟩,⟨3,[⟨#[110]⟩]⟩],[⟨2,[⟨#[110]⟩],[],[],[],[⟨⟨#[109,111,118,101]⟩,0,0⟩,⟨⟨#[116,114,117,101]⟩,0,0⟩,⟨⟨#[112,97,99,107]⟩,0,0⟩,⟨⟨#[109,101]⟩,0,0⟩,⟨⟨#[107,101,101,112]⟩,0,0⟩,⟨⟨#[114,101,116]⟩,0,0⟩]⟩,
 ⟨2,[],[⟨#[110]⟩],[],[0],[⟨⟨#[109,101]⟩,0,0⟩,⟨⟨#[116,97,107,101]⟩,0,0⟩,⟨⟨#[117,110,112,97,99,107]⟩,0,0⟩,⟨⟨#[100,114,111,112]⟩,0,0⟩,⟨⟨#[114,101,116]⟩,0,0⟩]⟩,
 ⟨2,[⟨#[111]⟩],[],[⟨#[33,110]⟩],[0],[⟨⟨#[109,111,118,101]⟩,0,0⟩,⟨⟨#[115,101,101,119]⟩,0,0⟩,⟨⟨#[102,105,101,108,100]⟩,0,0⟩,⟨⟨#[112,117,116]⟩,1,0⟩,⟨⟨#[109,111,118,101]⟩,1,0⟩,⟨⟨#[112,101,101,107]⟩,0,0⟩,⟨⟨#[110,117,109]⟩,1,0⟩,⟨⟨#[97,100,100]⟩,0,0⟩,⟨⟨#[119,114,105,116,101]⟩,0,0⟩,⟨⟨#[114,101,116]⟩,0,0⟩]⟩,
 ⟨2,[⟨#[110]⟩,⟨#[111]⟩],[⟨#[98]⟩],[],[],[⟨⟨#[109,101]⟩,0,0⟩,⟨⟨#[99,111,112,121]⟩,1,0⟩,⟨⟨#[99,111,112,121]⟩,0,0⟩,⟨⟨#[99,97,108,108]⟩,0,2⟩,⟨⟨#[109,111,118,101]⟩,1,0⟩,⟨⟨#[115,97,109,101]⟩,0,0⟩,⟨⟨#[114,101,116]⟩,0,0⟩]⟩],[]⟩
def COINST :ByteArray:=B56
def GAMEST :ByteArray:=B57
theorem a4g :ModG [COINS.records] 0 COINS:=a3g (by decide+kernel)
theorem a38 :ModG [GAMES.records] 0 GAMES:=a3g (by decide+kernel)
theorem a3b :ModG [COINS.records,GAMES.records] 1 GAMES:=a3g (by decide+kernel)
theorem a2a :ShG [COINS]:=ShG.snoc ShG.nil (by decide) a4g
theorem a4t :ShG [GAMES]:=ShG.snoc ShG.nil (by decide) a38
theorem a6a :ShG ([COINS]++[GAMES]):=ShG.snoc a2a (by decide) a3b
theorem a6s :mrO COINST=some COINS:=by decide+kernel
theorem a4p :CallV Try.prog 26 [.lf (.im true (.str COINST))] (·= .agg [.im true (.sl 2 (COINS.records.map rRec)),.im true (.sl 6 (COINS.funcs.map rFn)),.im true (.sl 1 (COINS.friends.map rI))]):=by
 obtain⟨_,rfl,h⟩:=a2n COINST
 rw[show mrR COINST=COINS from by unfold mrR;rw[a6s];rfl]at h
 exact h
theorem a52 :mrO GAMEST=some GAMES:=by decide+kernel
theorem a0S :CallV Try.prog 26 [.lf (.im true (.str GAMEST))] (·= .agg [.im true (.sl 2 (GAMES.records.map rRec)),.im true (.sl 6 (GAMES.funcs.map rFn)),.im true (.sl 1 (GAMES.friends.map rI))]):=by
 obtain⟨_,rfl,h⟩:=a2n GAMEST
 rw[show mrR GAMEST=GAMES from by unfold mrR;rw[a52];rfl]at h
 exact h
theorem a4h :
 ∃s,((·= .lf (.im true (.str COINST)))) s∧CallV Try.prog 27 [] (·=s):=by
 refine CallE (fn:=Try.f27) TTok mixed Try.func27 rfl rfl rfl rfl rfl ?_
 refine ex [] [] AllP.nil (by kernel_rfl) ?_
 refine exn [] [(0,.lf (.q B56))] ?_
 exact rtE rfl (rfl)
theorem a00 :
 ∃s,((·= .lf (.im true (.str GAMEST)))) s∧CallV Try.prog 28 [] (·=s):=by
 refine CallE (fn:=Try.f28) TTok mixed Try.func28 rfl rfl rfl rfl rfl ?_
 refine ex [] [] AllP.nil (by kernel_rfl) ?_
 refine exn [] [(0,.lf (.q B57))] ?_
 exact rtE rfl (rfl)
theorem a7y (b:List UInt8)(q:Nat)(hb:b.length≤2000)(hq:q≤400000000000):
 ∃o r,(fun o s=>∃(q':Nat) (a:List Mod),q'≤q+13000∧ShG a∧o= .cell obN [.im true (.sl 1 (b.map rB)),.im true (.int .i64 ((q':Nat):Int))]∧s= .lf (.im true (.sl 3 (a.map rMod)))) o r∧CallM Try.prog 17 [] (.cell obN [.im true (.sl 1 (b.map rB)),.im true (.int .i64 ((q:Nat):Int))]) o r:=by
 refine CallME (fn:=Try.f17) TTok mixed Try.func17 rfl rfl rfl rfl rfl ?_
 refine ex [(0,.lf (.ptr obN 0)),(1,rdr b q)] [] AllP.nil (by kernel_rfl) ?_
 refine exn [] [(6,.lf (.u 6 0 27 3 (([]:List Mod).map rMod)))] ?_
 obtain⟨_,_,⟨x1,hx1,rfl,rfl⟩,cc1⟩:=e7 b q 5 hb (by omega) (by omega)
 refine exd [] [(1,rdr b (q+1)),(8,.int (x1:Int))] [(1,.mth (rdl b (q+1)) [] (.int (x1:Int)))] (cl2 tx19 cc1) ?_
 refine a7 (exn [] [(20,.bool (decide ((x1:Int)>0)))] ?_)
 refine ecp (fun h1=> ?_) fun h1=> ?_
 ·obtain⟨_,rfl,cc2⟩:=a4h
  refine exed [20] [(6,.lf (.u 6 0 27 3 ([COINS].map rMod)))] [(1,.ret (.lf (.q COINST))),(2,.ret (.agg [.m 2 COINS.records rRec,.m 6 COINS.funcs rFn,.m 1 COINS.friends rI])),(3,.im),(4,.slot (.lf (.u 6 0 27 3 ([COINS].map rMod))))] (a2 (cl tx27 cc2) (a2 (cl tx26 a4p) (a2 (a1 (show((([]:List Mod).map rMod)++[[.sl 2 (COINS.records.map rRec),.sl 6 (COINS.funcs.map rFn),.sl 1 (COINS.friends.map rI)]]:List (List SV))=[COINS].map rMod by rfl)) (a2 (hl ((([]:List Mod).map rMod).length)) (ap (a:=(([]:List Mod).map rMod:List (List SV)).length+([[.sl 2 (COINS.records.map rRec),.sl 6 (COINS.funcs.map rFn),.sl 1 (COINS.friends.map rI)]]:List (List SV)).length) (b:=72) (by first|omega|(simp;done)|(simp;omega)) (by unfold maxLen;first|omega|(simp;done)|(simp;omega))))))) ?_
  refine a7 (exn [8] [(34,.bool (decide ((x1:Int)>3)))] ?_)
  refine ecp (fun h2=> ?_) fun h2=> ?_
  ·obtain⟨_,rfl,cc3⟩:=a00
   refine exed [34] [(6,.lf (.u 6 0 27 3 (([COINS]++[GAMES]).map rMod)))] [(1,.ret (.lf (.q GAMEST))),(2,.ret (.agg [.m 2 GAMES.records rRec,.m 6 GAMES.funcs rFn,.m 1 GAMES.friends rI])),(3,.im),(4,.slot (.lf (.u 6 0 27 3 (([COINS]++[GAMES]).map rMod))))] (a2 (cl tx28 cc3) (a2 (cl tx26 a0S) (a2 (a1 (show(([COINS].map rMod)++[[.sl 2 (GAMES.records.map rRec),.sl 6 (GAMES.funcs.map rFn),.sl 1 (GAMES.friends.map rI)]]:List (List SV))=([COINS]++[GAMES]).map rMod by exact(List.map_append (f:=rMod) (l₁:=[COINS]) (l₂:=[GAMES])).symm)) (a2 (hl (([COINS].map rMod).length)) (ap (a:=([COINS].map rMod).length+([[.sl 2 (GAMES.records.map rRec),.sl 6 (GAMES.funcs.map rFn),.sl 1 (GAMES.friends.map rI)]]:List (List SV)).length) (b:=72) (by first|omega|(simp;done)|(simp;omega)) (by unfold maxLen;first|omega|(simp;done)|(simp;omega))))))) ?_
   refine a7 ?_
   obtain⟨_,_,⟨x2,hx2,rfl,rfl⟩,cc4⟩:=e7 b (q+1) 3 hb (by omega) (by omega)
   refine exd [] [(1,rdr b (q+1+1)),(10,.int (x2:Int))] [(1,.mth (rdl b (q+1+1)) [] (.int (x2:Int)))] (cl2 tx19 cc4) ?_
   refine a9 (eld (fun l0 n L=>∃(nw:Nat) (ow:List Mod) (qs:Nat),L=upG [] [(1,rdr b qs),(6,.lf (.u 6 0 27 3 (ow.map rMod))),(10,.int (nw:Int))] l0∧n=nw+1∧(ShG ow∧qs+4000*nw≤q+12100)) _ ⟨x2,([COINS]++[GAMES]),q+1+1,rfl,rfl,⟨a6a,by omega⟩⟩ ?_)
   rintro n L ⟨nw,ow,qs,rfl,rfl,hP1⟩
   have how:=hP1.1
   have hqs:=hP1.2
   have howl:=how.len
   refine a7 ?_
   rcases bft (decide ((((nw:Nat):Int):Int)>0))with g1|g1
   ·have g1p:=d5 g1
    refine exd [] [(62,.bool (decide ((ow.length:Int)<3)))] [(1,.slot (.bool true)),(4,.slot (.int (ow.length:Int)))] (a2 (kB g1) (lnl ow rMod)) ?_
    refine ecp (fun h3=> ?_) fun h3=> ?_
    ·refine a5 ?_
     refine a7 ?_
     refine a9 ?_
     obtain⟨_,_,⟨q1,x3,hq1,hM1,rfl,rfl⟩,cc5⟩:=I3 b qs hb (by omega) ow how (by omega)
     refine exed [62] [(1,rdr b q1),(6,.lf (.u 6 0 27 3 ((ow++[x3]).map rMod)))] [(3,.mth (rdl b q1) [] (.agg [.m 2 x3.records rRec,.m 6 x3.funcs rFn,.m 1 x3.friends rI])),(4,.im),(5,.slot (.lf (.u 6 0 27 3 ((ow++[x3]).map rMod))))] (a2 (hl ((ow.map rMod).length)) (a2 (cl2 tx18 cc5) (a2 (a1 (show((ow.map rMod)++[[.sl 2 (x3.records.map rRec),.sl 6 (x3.funcs.map rFn),.sl 1 (x3.friends.map rI)]]:List (List SV))=(ow++[x3]).map rMod by exact(List.map_append (f:=rMod) (l₁:=ow) (l₂:=[x3])).symm)) (a2 (hl ((ow.map rMod).length)) (ap (a:=(ow.map rMod).length+([[.sl 2 (x3.records.map rRec),.sl 6 (x3.funcs.map rFn),.sl 1 (x3.friends.map rI)]]:List (List SV)).length) (b:=72) (by first|omega|(simp;done)|(simp;omega)) (by unfold maxLen;first|omega|(simp;done)|(simp;omega))))))) ?_
     exact exed [] [(10,.int ((nw-1:Nat):Int))] [(1,.slot (.int ((nw-1:Nat):Int)))] (wIo ((nw:Int)-1) ((nw-1:Nat):Int)) (⟨_,by omega,(nw-1),(ow++[x3]),q1,rfl,rfl,⟨(ShG.snoc how (by omega) hM1),by omega⟩⟩)
    ·refine d9 ?_
     refine a7 ?_
     rcases bft (decide ((((ow.length:Nat):Int):Int)>1))with g2|g2
     ·have g2p:=d5 g2
      obtain⟨_,_,⟨x4,hx3,rfl,rfl⟩,cc6⟩:=e7 b qs 3 hb (by omega) (by omega)
      refine exd [10,62] [(1,rdr b (qs+1)),(94,.bool (decide ((x4:Int)=0)))] [(1,.slot (.int (ow.length:Int))),(2,.slot (.bool true)),(5,.mth (rdl b (qs+1)) [] (.int (x4:Int)))] (a2 (lnl ow rMod) (a2 (kB g2) (cl2 tx19 cc6))) ?_
      refine ecp (fun h4=> ?_) fun h4=> ?_
      ·refine exed [94] [(6,.lf (.u 6 0 27 3 ((ow.set 0 ({(nth ow 0)with friends:=[1]})).map rMod)))] [(1,.slot (.lf (.m 1 [1] rI))),(4,.elem 0 2 (rMod (nth ow 0)) (some ((ow.set 0 ({(nth ow 0)with friends:=[1]})).map rMod)))] (a2 (a1 (show([[.int .i64 1]]:List (List SV))=([1].map rI)from rfl)) (a2 (ixu (i:=0) (n:=(ow.map rMod).length) (by simp;omega)) (stT (f:=rMod) (l:=ow) (i:=0) (j:=2) (n:=1) (sz:=3) (off:=(0:Int).toNat*3+2) (y:={(nth ow 0)with friends:=[1]}) (new:=[.sl 1 ([1].map rI)]) (j6 (l:=ow) (i:=0) (by omega)) (by omega) (by omega) rfl (rfl)))) ?_
       refine efd 3 [] [(6,.lf (.m 3 (ow.set 0 ({(nth ow 0)with friends:=[1]})) rMod))] ?_
       refine exn [6] [(4,.lf (.m 3 (ow.set 0 ({(nth ow 0)with friends:=[1]})) rMod))] ?_
       exact rtM rfl (⟨_,_,by omega,ShG.friends how (by omega) (by decide),rfl,rfl⟩)
      ·refine a5 (efd 3 [] [(6,.lf (.m 3 ow rMod))] ?_)
       refine exn [6,94] [(4,.lf (.m 3 ow rMod))] ?_
       exact rtM rfl (⟨_,_,by omega,how,rfl,rfl⟩)
     ·have g2p:=i5 g2
      refine exd [10,62] [(94,.bool false)] [(1,.slot (.int (ow.length:Int))),(2,.slot (.bool false))] (a2 (lnl ow rMod) (kB g2)) ?_
      refine ecF rfl ?_
      refine a5 (efd 3 [] [(6,.lf (.m 3 ow rMod))] ?_)
      refine exn [6,94] [(4,.lf (.m 3 ow rMod))] ?_
      exact rtM rfl (⟨_,_,by omega,how,rfl,rfl⟩)
   ·have g1p:=i5 g1
    refine exd [] [(62,.bool false)] [(1,.slot (.bool false))] (kB g1) ?_
    refine ecF rfl ?_
    refine d9 ?_
    refine a7 ?_
    rcases bft (decide ((((ow.length:Nat):Int):Int)>1))with g3|g3
    ·have g3p:=d5 g3
     obtain⟨_,_,⟨x5,hx4,rfl,rfl⟩,cc7⟩:=e7 b qs 3 hb (by omega) (by omega)
     refine exd [10,62] [(1,rdr b (qs+1)),(94,.bool (decide ((x5:Int)=0)))] [(1,.slot (.int (ow.length:Int))),(2,.slot (.bool true)),(5,.mth (rdl b (qs+1)) [] (.int (x5:Int)))] (a2 (lnl ow rMod) (a2 (kB g3) (cl2 tx19 cc7))) ?_
     refine ecp (fun h7=> ?_) fun h7=> ?_
     ·refine exed [94] [(6,.lf (.u 6 0 27 3 ((ow.set 0 ({(nth ow 0)with friends:=[1]})).map rMod)))] [(1,.slot (.lf (.m 1 [1] rI))),(4,.elem 0 2 (rMod (nth ow 0)) (some ((ow.set 0 ({(nth ow 0)with friends:=[1]})).map rMod)))] (a2 (a1 (show([[.int .i64 1]]:List (List SV))=([1].map rI)from rfl)) (a2 (ixu (i:=0) (n:=(ow.map rMod).length) (by simp;omega)) (stT (f:=rMod) (l:=ow) (i:=0) (j:=2) (n:=1) (sz:=3) (off:=(0:Int).toNat*3+2) (y:={(nth ow 0)with friends:=[1]}) (new:=[.sl 1 ([1].map rI)]) (j6 (l:=ow) (i:=0) (by omega)) (by omega) (by omega) rfl (rfl)))) ?_
      refine efd 3 [] [(6,.lf (.m 3 (ow.set 0 ({(nth ow 0)with friends:=[1]})) rMod))] ?_
      refine exn [6] [(4,.lf (.m 3 (ow.set 0 ({(nth ow 0)with friends:=[1]})) rMod))] ?_
      exact rtM rfl (⟨_,_,by omega,ShG.friends how (by omega) (by decide),rfl,rfl⟩)
     ·refine a5 (efd 3 [] [(6,.lf (.m 3 ow rMod))] ?_)
      refine exn [6,94] [(4,.lf (.m 3 ow rMod))] ?_
      exact rtM rfl (⟨_,_,by omega,how,rfl,rfl⟩)
    ·have g3p:=i5 g3
     refine exd [10,62] [(94,.bool false)] [(1,.slot (.int (ow.length:Int))),(2,.slot (.bool false))] (a2 (lnl ow rMod) (kB g3)) ?_
     refine ecF rfl ?_
     refine a5 (efd 3 [] [(6,.lf (.m 3 ow rMod))] ?_)
     refine exn [6,94] [(4,.lf (.m 3 ow rMod))] ?_
     exact rtM rfl (⟨_,_,by omega,how,rfl,rfl⟩)
  ·refine a5 ?_
   refine a7 ?_
   obtain⟨_,_,⟨x6,hx5,rfl,rfl⟩,cc8⟩:=e7 b (q+1) 3 hb (by omega) (by omega)
   refine exd [34] [(1,rdr b (q+1+1)),(10,.int (x6:Int))] [(1,.mth (rdl b (q+1+1)) [] (.int (x6:Int)))] (cl2 tx19 cc8) ?_
   refine a9 (eld (fun l0 n L=>∃(nw:Nat) (ow:List Mod) (qs:Nat),L=upG [] [(1,rdr b qs),(6,.lf (.u 6 0 27 3 (ow.map rMod))),(10,.int (nw:Int))] l0∧n=nw+1∧(ShG ow∧qs+4000*nw≤q+12100)) _ ⟨x6,[COINS],q+1+1,rfl,rfl,⟨a2a,by omega⟩⟩ ?_)
   rintro n L ⟨nw,ow,qs,rfl,rfl,hP2⟩
   have how:=hP2.1
   have hqs:=hP2.2
   have howl:=how.len
   refine a7 ?_
   rcases bft (decide ((((nw:Nat):Int):Int)>0))with g4|g4
   ·have g4p:=d5 g4
    refine exd [] [(62,.bool (decide ((ow.length:Int)<3)))] [(1,.slot (.bool true)),(4,.slot (.int (ow.length:Int)))] (a2 (kB g4) (lnl ow rMod)) ?_
    refine ecp (fun h9=> ?_) fun h9=> ?_
    ·refine a5 ?_
     refine a7 ?_
     refine a9 ?_
     obtain⟨_,_,⟨q2,x7,hq2,hM2,rfl,rfl⟩,cc9⟩:=I3 b qs hb (by omega) ow how (by omega)
     refine exed [62] [(1,rdr b q2),(6,.lf (.u 6 0 27 3 ((ow++[x7]).map rMod)))] [(3,.mth (rdl b q2) [] (.agg [.m 2 x7.records rRec,.m 6 x7.funcs rFn,.m 1 x7.friends rI])),(4,.im),(5,.slot (.lf (.u 6 0 27 3 ((ow++[x7]).map rMod))))] (a2 (hl ((ow.map rMod).length)) (a2 (cl2 tx18 cc9) (a2 (a1 (show((ow.map rMod)++[[.sl 2 (x7.records.map rRec),.sl 6 (x7.funcs.map rFn),.sl 1 (x7.friends.map rI)]]:List (List SV))=(ow++[x7]).map rMod by exact(List.map_append (f:=rMod) (l₁:=ow) (l₂:=[x7])).symm)) (a2 (hl ((ow.map rMod).length)) (ap (a:=(ow.map rMod).length+([[.sl 2 (x7.records.map rRec),.sl 6 (x7.funcs.map rFn),.sl 1 (x7.friends.map rI)]]:List (List SV)).length) (b:=72) (by first|omega|(simp;done)|(simp;omega)) (by unfold maxLen;first|omega|(simp;done)|(simp;omega))))))) ?_
     exact exed [] [(10,.int ((nw-1:Nat):Int))] [(1,.slot (.int ((nw-1:Nat):Int)))] (wIo ((nw:Int)-1) ((nw-1:Nat):Int)) (⟨_,by omega,(nw-1),(ow++[x7]),q2,rfl,rfl,⟨(ShG.snoc how (by omega) hM2),by omega⟩⟩)
    ·refine d9 ?_
     refine a7 ?_
     rcases bft (decide ((((ow.length:Nat):Int):Int)>1))with g5|g5
     ·have g5p:=d5 g5
      obtain⟨_,_,⟨x8,hx6,rfl,rfl⟩,cc10⟩:=e7 b qs 3 hb (by omega) (by omega)
      refine exd [10,62] [(1,rdr b (qs+1)),(94,.bool (decide ((x8:Int)=0)))] [(1,.slot (.int (ow.length:Int))),(2,.slot (.bool true)),(5,.mth (rdl b (qs+1)) [] (.int (x8:Int)))] (a2 (lnl ow rMod) (a2 (kB g5) (cl2 tx19 cc10))) ?_
      refine ecp (fun h10=> ?_) fun h10=> ?_
      ·refine exed [94] [(6,.lf (.u 6 0 27 3 ((ow.set 0 ({(nth ow 0)with friends:=[1]})).map rMod)))] [(1,.slot (.lf (.m 1 [1] rI))),(4,.elem 0 2 (rMod (nth ow 0)) (some ((ow.set 0 ({(nth ow 0)with friends:=[1]})).map rMod)))] (a2 (a1 (show([[.int .i64 1]]:List (List SV))=([1].map rI)from rfl)) (a2 (ixu (i:=0) (n:=(ow.map rMod).length) (by simp;omega)) (stT (f:=rMod) (l:=ow) (i:=0) (j:=2) (n:=1) (sz:=3) (off:=(0:Int).toNat*3+2) (y:={(nth ow 0)with friends:=[1]}) (new:=[.sl 1 ([1].map rI)]) (j6 (l:=ow) (i:=0) (by omega)) (by omega) (by omega) rfl (rfl)))) ?_
       refine efd 3 [] [(6,.lf (.m 3 (ow.set 0 ({(nth ow 0)with friends:=[1]})) rMod))] ?_
       refine exn [6] [(4,.lf (.m 3 (ow.set 0 ({(nth ow 0)with friends:=[1]})) rMod))] ?_
       exact rtM rfl (⟨_,_,by omega,ShG.friends how (by omega) (by decide),rfl,rfl⟩)
      ·refine a5 (efd 3 [] [(6,.lf (.m 3 ow rMod))] ?_)
       refine exn [6,94] [(4,.lf (.m 3 ow rMod))] ?_
       exact rtM rfl (⟨_,_,by omega,how,rfl,rfl⟩)
     ·have g5p:=i5 g5
      refine exd [10,62] [(94,.bool false)] [(1,.slot (.int (ow.length:Int))),(2,.slot (.bool false))] (a2 (lnl ow rMod) (kB g5)) ?_
      refine ecF rfl ?_
      refine a5 (efd 3 [] [(6,.lf (.m 3 ow rMod))] ?_)
      refine exn [6,94] [(4,.lf (.m 3 ow rMod))] ?_
      exact rtM rfl (⟨_,_,by omega,how,rfl,rfl⟩)
   ·have g4p:=i5 g4
    refine exd [] [(62,.bool false)] [(1,.slot (.bool false))] (kB g4) ?_
    refine ecF rfl ?_
    refine d9 ?_
    refine a7 ?_
    rcases bft (decide ((((ow.length:Nat):Int):Int)>1))with g6|g6
    ·have g6p:=d5 g6
     obtain⟨_,_,⟨x9,hx7,rfl,rfl⟩,cc11⟩:=e7 b qs 3 hb (by omega) (by omega)
     refine exd [10,62] [(1,rdr b (qs+1)),(94,.bool (decide ((x9:Int)=0)))] [(1,.slot (.int (ow.length:Int))),(2,.slot (.bool true)),(5,.mth (rdl b (qs+1)) [] (.int (x9:Int)))] (a2 (lnl ow rMod) (a2 (kB g6) (cl2 tx19 cc11))) ?_
     refine ecp (fun h13=> ?_) fun h13=> ?_
     ·refine exed [94] [(6,.lf (.u 6 0 27 3 ((ow.set 0 ({(nth ow 0)with friends:=[1]})).map rMod)))] [(1,.slot (.lf (.m 1 [1] rI))),(4,.elem 0 2 (rMod (nth ow 0)) (some ((ow.set 0 ({(nth ow 0)with friends:=[1]})).map rMod)))] (a2 (a1 (show([[.int .i64 1]]:List (List SV))=([1].map rI)from rfl)) (a2 (ixu (i:=0) (n:=(ow.map rMod).length) (by simp;omega)) (stT (f:=rMod) (l:=ow) (i:=0) (j:=2) (n:=1) (sz:=3) (off:=(0:Int).toNat*3+2) (y:={(nth ow 0)with friends:=[1]}) (new:=[.sl 1 ([1].map rI)]) (j6 (l:=ow) (i:=0) (by omega)) (by omega) (by omega) rfl (rfl)))) ?_
      refine efd 3 [] [(6,.lf (.m 3 (ow.set 0 ({(nth ow 0)with friends:=[1]})) rMod))] ?_
      refine exn [6] [(4,.lf (.m 3 (ow.set 0 ({(nth ow 0)with friends:=[1]})) rMod))] ?_
      exact rtM rfl (⟨_,_,by omega,ShG.friends how (by omega) (by decide),rfl,rfl⟩)
     ·refine a5 (efd 3 [] [(6,.lf (.m 3 ow rMod))] ?_)
      refine exn [6,94] [(4,.lf (.m 3 ow rMod))] ?_
      exact rtM rfl (⟨_,_,by omega,how,rfl,rfl⟩)
    ·have g6p:=i5 g6
     refine exd [10,62] [(94,.bool false)] [(1,.slot (.int (ow.length:Int))),(2,.slot (.bool false))] (a2 (lnl ow rMod) (kB g6)) ?_
     refine ecF rfl ?_
     refine a5 (efd 3 [] [(6,.lf (.m 3 ow rMod))] ?_)
     refine exn [6,94] [(4,.lf (.m 3 ow rMod))] ?_
     exact rtM rfl (⟨_,_,by omega,how,rfl,rfl⟩)
 ·refine a5 (a7 (exn [8,20] [(34,.bool (decide ((x1:Int)>3)))] ?_))
  refine ecp (fun h15=> ?_) fun h15=> ?_
  ·obtain⟨_,rfl,cc12⟩:=a00
   refine exed [34] [(6,.lf (.u 6 0 27 3 ([GAMES].map rMod)))] [(1,.ret (.lf (.q GAMEST))),(2,.ret (.agg [.m 2 GAMES.records rRec,.m 6 GAMES.funcs rFn,.m 1 GAMES.friends rI])),(3,.im),(4,.slot (.lf (.u 6 0 27 3 ([GAMES].map rMod))))] (a2 (cl tx28 cc12) (a2 (cl tx26 a0S) (a2 (a1 (show((([]:List Mod).map rMod)++[[.sl 2 (GAMES.records.map rRec),.sl 6 (GAMES.funcs.map rFn),.sl 1 (GAMES.friends.map rI)]]:List (List SV))=[GAMES].map rMod by rfl)) (a2 (hl ((([]:List Mod).map rMod).length)) (ap (a:=(([]:List Mod).map rMod:List (List SV)).length+([[.sl 2 (GAMES.records.map rRec),.sl 6 (GAMES.funcs.map rFn),.sl 1 (GAMES.friends.map rI)]]:List (List SV)).length) (b:=72) (by first|omega|(simp;done)|(simp;omega)) (by unfold maxLen;first|omega|(simp;done)|(simp;omega))))))) ?_
   refine a7 ?_
   obtain⟨_,_,⟨x10,hx8,rfl,rfl⟩,cc13⟩:=e7 b (q+1) 3 hb (by omega) (by omega)
   refine exd [] [(1,rdr b (q+1+1)),(10,.int (x10:Int))] [(1,.mth (rdl b (q+1+1)) [] (.int (x10:Int)))] (cl2 tx19 cc13) ?_
   refine a9 (eld (fun l0 n L=>∃(nw:Nat) (ow:List Mod) (qs:Nat),L=upG [] [(1,rdr b qs),(6,.lf (.u 6 0 27 3 (ow.map rMod))),(10,.int (nw:Int))] l0∧n=nw+1∧(ShG ow∧qs+4000*nw≤q+12100)) _ ⟨x10,[GAMES],q+1+1,rfl,rfl,⟨a4t,by omega⟩⟩ ?_)
   rintro n L ⟨nw,ow,qs,rfl,rfl,hP3⟩
   have how:=hP3.1
   have hqs:=hP3.2
   have howl:=how.len
   refine a7 ?_
   rcases bft (decide ((((nw:Nat):Int):Int)>0))with g7|g7
   ·have g7p:=d5 g7
    refine exd [] [(62,.bool (decide ((ow.length:Int)<3)))] [(1,.slot (.bool true)),(4,.slot (.int (ow.length:Int)))] (a2 (kB g7) (lnl ow rMod)) ?_
    refine ecp (fun h16=> ?_) fun h16=> ?_
    ·refine a5 ?_
     refine a7 ?_
     refine a9 ?_
     obtain⟨_,_,⟨q3,x11,hq3,hM3,rfl,rfl⟩,cc14⟩:=I3 b qs hb (by omega) ow how (by omega)
     refine exed [62] [(1,rdr b q3),(6,.lf (.u 6 0 27 3 ((ow++[x11]).map rMod)))] [(3,.mth (rdl b q3) [] (.agg [.m 2 x11.records rRec,.m 6 x11.funcs rFn,.m 1 x11.friends rI])),(4,.im),(5,.slot (.lf (.u 6 0 27 3 ((ow++[x11]).map rMod))))] (a2 (hl ((ow.map rMod).length)) (a2 (cl2 tx18 cc14) (a2 (a1 (show((ow.map rMod)++[[.sl 2 (x11.records.map rRec),.sl 6 (x11.funcs.map rFn),.sl 1 (x11.friends.map rI)]]:List (List SV))=(ow++[x11]).map rMod by exact(List.map_append (f:=rMod) (l₁:=ow) (l₂:=[x11])).symm)) (a2 (hl ((ow.map rMod).length)) (ap (a:=(ow.map rMod).length+([[.sl 2 (x11.records.map rRec),.sl 6 (x11.funcs.map rFn),.sl 1 (x11.friends.map rI)]]:List (List SV)).length) (b:=72) (by first|omega|(simp;done)|(simp;omega)) (by unfold maxLen;first|omega|(simp;done)|(simp;omega))))))) ?_
     exact exed [] [(10,.int ((nw-1:Nat):Int))] [(1,.slot (.int ((nw-1:Nat):Int)))] (wIo ((nw:Int)-1) ((nw-1:Nat):Int)) (⟨_,by omega,(nw-1),(ow++[x11]),q3,rfl,rfl,⟨(ShG.snoc how (by omega) hM3),by omega⟩⟩)
    ·refine d9 ?_
     refine a7 ?_
     rcases bft (decide ((((ow.length:Nat):Int):Int)>1))with g8|g8
     ·have g8p:=d5 g8
      obtain⟨_,_,⟨x12,hx9,rfl,rfl⟩,cc15⟩:=e7 b qs 3 hb (by omega) (by omega)
      refine exd [10,62] [(1,rdr b (qs+1)),(94,.bool (decide ((x12:Int)=0)))] [(1,.slot (.int (ow.length:Int))),(2,.slot (.bool true)),(5,.mth (rdl b (qs+1)) [] (.int (x12:Int)))] (a2 (lnl ow rMod) (a2 (kB g8) (cl2 tx19 cc15))) ?_
      refine ecp (fun h17=> ?_) fun h17=> ?_
      ·refine exed [94] [(6,.lf (.u 6 0 27 3 ((ow.set 0 ({(nth ow 0)with friends:=[1]})).map rMod)))] [(1,.slot (.lf (.m 1 [1] rI))),(4,.elem 0 2 (rMod (nth ow 0)) (some ((ow.set 0 ({(nth ow 0)with friends:=[1]})).map rMod)))] (a2 (a1 (show([[.int .i64 1]]:List (List SV))=([1].map rI)from rfl)) (a2 (ixu (i:=0) (n:=(ow.map rMod).length) (by simp;omega)) (stT (f:=rMod) (l:=ow) (i:=0) (j:=2) (n:=1) (sz:=3) (off:=(0:Int).toNat*3+2) (y:={(nth ow 0)with friends:=[1]}) (new:=[.sl 1 ([1].map rI)]) (j6 (l:=ow) (i:=0) (by omega)) (by omega) (by omega) rfl (rfl)))) ?_
       refine efd 3 [] [(6,.lf (.m 3 (ow.set 0 ({(nth ow 0)with friends:=[1]})) rMod))] ?_
       refine exn [6] [(4,.lf (.m 3 (ow.set 0 ({(nth ow 0)with friends:=[1]})) rMod))] ?_
       exact rtM rfl (⟨_,_,by omega,ShG.friends how (by omega) (by decide),rfl,rfl⟩)
      ·refine a5 (efd 3 [] [(6,.lf (.m 3 ow rMod))] ?_)
       refine exn [6,94] [(4,.lf (.m 3 ow rMod))] ?_
       exact rtM rfl (⟨_,_,by omega,how,rfl,rfl⟩)
     ·have g8p:=i5 g8
      refine exd [10,62] [(94,.bool false)] [(1,.slot (.int (ow.length:Int))),(2,.slot (.bool false))] (a2 (lnl ow rMod) (kB g8)) ?_
      refine ecF rfl ?_
      refine a5 (efd 3 [] [(6,.lf (.m 3 ow rMod))] ?_)
      refine exn [6,94] [(4,.lf (.m 3 ow rMod))] ?_
      exact rtM rfl (⟨_,_,by omega,how,rfl,rfl⟩)
   ·have g7p:=i5 g7
    refine exd [] [(62,.bool false)] [(1,.slot (.bool false))] (kB g7) ?_
    refine ecF rfl ?_
    refine d9 ?_
    refine a7 ?_
    rcases bft (decide ((((ow.length:Nat):Int):Int)>1))with g9|g9
    ·have g9p:=d5 g9
     obtain⟨_,_,⟨x13,hx10,rfl,rfl⟩,cc16⟩:=e7 b qs 3 hb (by omega) (by omega)
     refine exd [10,62] [(1,rdr b (qs+1)),(94,.bool (decide ((x13:Int)=0)))] [(1,.slot (.int (ow.length:Int))),(2,.slot (.bool true)),(5,.mth (rdl b (qs+1)) [] (.int (x13:Int)))] (a2 (lnl ow rMod) (a2 (kB g9) (cl2 tx19 cc16))) ?_
     refine ecp (fun h20=> ?_) fun h20=> ?_
     ·refine exed [94] [(6,.lf (.u 6 0 27 3 ((ow.set 0 ({(nth ow 0)with friends:=[1]})).map rMod)))] [(1,.slot (.lf (.m 1 [1] rI))),(4,.elem 0 2 (rMod (nth ow 0)) (some ((ow.set 0 ({(nth ow 0)with friends:=[1]})).map rMod)))] (a2 (a1 (show([[.int .i64 1]]:List (List SV))=([1].map rI)from rfl)) (a2 (ixu (i:=0) (n:=(ow.map rMod).length) (by simp;omega)) (stT (f:=rMod) (l:=ow) (i:=0) (j:=2) (n:=1) (sz:=3) (off:=(0:Int).toNat*3+2) (y:={(nth ow 0)with friends:=[1]}) (new:=[.sl 1 ([1].map rI)]) (j6 (l:=ow) (i:=0) (by omega)) (by omega) (by omega) rfl (rfl)))) ?_
      refine efd 3 [] [(6,.lf (.m 3 (ow.set 0 ({(nth ow 0)with friends:=[1]})) rMod))] ?_
      refine exn [6] [(4,.lf (.m 3 (ow.set 0 ({(nth ow 0)with friends:=[1]})) rMod))] ?_
      exact rtM rfl (⟨_,_,by omega,ShG.friends how (by omega) (by decide),rfl,rfl⟩)
     ·refine a5 (efd 3 [] [(6,.lf (.m 3 ow rMod))] ?_)
      refine exn [6,94] [(4,.lf (.m 3 ow rMod))] ?_
      exact rtM rfl (⟨_,_,by omega,how,rfl,rfl⟩)
    ·have g9p:=i5 g9
     refine exd [10,62] [(94,.bool false)] [(1,.slot (.int (ow.length:Int))),(2,.slot (.bool false))] (a2 (lnl ow rMod) (kB g9)) ?_
     refine ecF rfl ?_
     refine a5 (efd 3 [] [(6,.lf (.m 3 ow rMod))] ?_)
     refine exn [6,94] [(4,.lf (.m 3 ow rMod))] ?_
     exact rtM rfl (⟨_,_,by omega,how,rfl,rfl⟩)
  ·refine a5 ?_
   refine a7 ?_
   obtain⟨_,_,⟨x14,hx11,rfl,rfl⟩,cc17⟩:=e7 b (q+1) 3 hb (by omega) (by omega)
   refine exd [34] [(1,rdr b (q+1+1)),(10,.int (x14:Int))] [(1,.mth (rdl b (q+1+1)) [] (.int (x14:Int)))] (cl2 tx19 cc17) ?_
   refine a9 (eld (fun l0 n L=>∃(nw:Nat) (ow:List Mod) (qs:Nat),L=upG [] [(1,rdr b qs),(6,.lf (.u 6 0 27 3 (ow.map rMod))),(10,.int (nw:Int))] l0∧n=nw+1∧(ShG ow∧qs+4000*nw≤q+12100)) _ ⟨x14,([]:List Mod),q+1+1,rfl,rfl,⟨ShG.nil,by omega⟩⟩ ?_)
   rintro n L ⟨nw,ow,qs,rfl,rfl,hP4⟩
   have how:=hP4.1
   have hqs:=hP4.2
   have howl:=how.len
   refine a7 ?_
   rcases bft (decide ((((nw:Nat):Int):Int)>0))with g10|g10
   ·have g10p:=d5 g10
    refine exd [] [(62,.bool (decide ((ow.length:Int)<3)))] [(1,.slot (.bool true)),(4,.slot (.int (ow.length:Int)))] (a2 (kB g10) (lnl ow rMod)) ?_
    refine ecp (fun h22=> ?_) fun h22=> ?_
    ·refine a5 ?_
     refine a7 ?_
     refine a9 ?_
     obtain⟨_,_,⟨q4,x15,hq4,hM4,rfl,rfl⟩,cc18⟩:=I3 b qs hb (by omega) ow how (by omega)
     refine exed [62] [(1,rdr b q4),(6,.lf (.u 6 0 27 3 ((ow++[x15]).map rMod)))] [(3,.mth (rdl b q4) [] (.agg [.m 2 x15.records rRec,.m 6 x15.funcs rFn,.m 1 x15.friends rI])),(4,.im),(5,.slot (.lf (.u 6 0 27 3 ((ow++[x15]).map rMod))))] (a2 (hl ((ow.map rMod).length)) (a2 (cl2 tx18 cc18) (a2 (a1 (show((ow.map rMod)++[[.sl 2 (x15.records.map rRec),.sl 6 (x15.funcs.map rFn),.sl 1 (x15.friends.map rI)]]:List (List SV))=(ow++[x15]).map rMod by exact(List.map_append (f:=rMod) (l₁:=ow) (l₂:=[x15])).symm)) (a2 (hl ((ow.map rMod).length)) (ap (a:=(ow.map rMod).length+([[.sl 2 (x15.records.map rRec),.sl 6 (x15.funcs.map rFn),.sl 1 (x15.friends.map rI)]]:List (List SV)).length) (b:=72) (by first|omega|(simp;done)|(simp;omega)) (by unfold maxLen;first|omega|(simp;done)|(simp;omega))))))) ?_
     exact exed [] [(10,.int ((nw-1:Nat):Int))] [(1,.slot (.int ((nw-1:Nat):Int)))] (wIo ((nw:Int)-1) ((nw-1:Nat):Int)) (⟨_,by omega,(nw-1),(ow++[x15]),q4,rfl,rfl,⟨(ShG.snoc how (by omega) hM4),by omega⟩⟩)
    ·refine d9 ?_
     refine a7 ?_
     rcases bft (decide ((((ow.length:Nat):Int):Int)>1))with g11|g11
     ·have g11p:=d5 g11
      obtain⟨_,_,⟨x16,hx12,rfl,rfl⟩,cc19⟩:=e7 b qs 3 hb (by omega) (by omega)
      refine exd [10,62] [(1,rdr b (qs+1)),(94,.bool (decide ((x16:Int)=0)))] [(1,.slot (.int (ow.length:Int))),(2,.slot (.bool true)),(5,.mth (rdl b (qs+1)) [] (.int (x16:Int)))] (a2 (lnl ow rMod) (a2 (kB g11) (cl2 tx19 cc19))) ?_
      refine ecp (fun h23=> ?_) fun h23=> ?_
      ·refine exed [94] [(6,.lf (.u 6 0 27 3 ((ow.set 0 ({(nth ow 0)with friends:=[1]})).map rMod)))] [(1,.slot (.lf (.m 1 [1] rI))),(4,.elem 0 2 (rMod (nth ow 0)) (some ((ow.set 0 ({(nth ow 0)with friends:=[1]})).map rMod)))] (a2 (a1 (show([[.int .i64 1]]:List (List SV))=([1].map rI)from rfl)) (a2 (ixu (i:=0) (n:=(ow.map rMod).length) (by simp;omega)) (stT (f:=rMod) (l:=ow) (i:=0) (j:=2) (n:=1) (sz:=3) (off:=(0:Int).toNat*3+2) (y:={(nth ow 0)with friends:=[1]}) (new:=[.sl 1 ([1].map rI)]) (j6 (l:=ow) (i:=0) (by omega)) (by omega) (by omega) rfl (rfl)))) ?_
       refine efd 3 [] [(6,.lf (.m 3 (ow.set 0 ({(nth ow 0)with friends:=[1]})) rMod))] ?_
       refine exn [6] [(4,.lf (.m 3 (ow.set 0 ({(nth ow 0)with friends:=[1]})) rMod))] ?_
       exact rtM rfl (⟨_,_,by omega,ShG.friends how (by omega) (by decide),rfl,rfl⟩)
      ·refine a5 (efd 3 [] [(6,.lf (.m 3 ow rMod))] ?_)
       refine exn [6,94] [(4,.lf (.m 3 ow rMod))] ?_
       exact rtM rfl (⟨_,_,by omega,how,rfl,rfl⟩)
     ·have g11p:=i5 g11
      refine exd [10,62] [(94,.bool false)] [(1,.slot (.int (ow.length:Int))),(2,.slot (.bool false))] (a2 (lnl ow rMod) (kB g11)) ?_
      refine ecF rfl ?_
      refine a5 (efd 3 [] [(6,.lf (.m 3 ow rMod))] ?_)
      refine exn [6,94] [(4,.lf (.m 3 ow rMod))] ?_
      exact rtM rfl (⟨_,_,by omega,how,rfl,rfl⟩)
   ·have g10p:=i5 g10
    refine exd [] [(62,.bool false)] [(1,.slot (.bool false))] (kB g10) ?_
    refine ecF rfl ?_
    refine d9 ?_
    refine a7 ?_
    rcases bft (decide ((((ow.length:Nat):Int):Int)>1))with g12|g12
    ·have g12p:=d5 g12
     obtain⟨_,_,⟨x17,hx13,rfl,rfl⟩,cc20⟩:=e7 b qs 3 hb (by omega) (by omega)
     refine exd [10,62] [(1,rdr b (qs+1)),(94,.bool (decide ((x17:Int)=0)))] [(1,.slot (.int (ow.length:Int))),(2,.slot (.bool true)),(5,.mth (rdl b (qs+1)) [] (.int (x17:Int)))] (a2 (lnl ow rMod) (a2 (kB g12) (cl2 tx19 cc20))) ?_
     refine ecp (fun h26=> ?_) fun h26=> ?_
     ·refine exed [94] [(6,.lf (.u 6 0 27 3 ((ow.set 0 ({(nth ow 0)with friends:=[1]})).map rMod)))] [(1,.slot (.lf (.m 1 [1] rI))),(4,.elem 0 2 (rMod (nth ow 0)) (some ((ow.set 0 ({(nth ow 0)with friends:=[1]})).map rMod)))] (a2 (a1 (show([[.int .i64 1]]:List (List SV))=([1].map rI)from rfl)) (a2 (ixu (i:=0) (n:=(ow.map rMod).length) (by simp;omega)) (stT (f:=rMod) (l:=ow) (i:=0) (j:=2) (n:=1) (sz:=3) (off:=(0:Int).toNat*3+2) (y:={(nth ow 0)with friends:=[1]}) (new:=[.sl 1 ([1].map rI)]) (j6 (l:=ow) (i:=0) (by omega)) (by omega) (by omega) rfl (rfl)))) ?_
      refine efd 3 [] [(6,.lf (.m 3 (ow.set 0 ({(nth ow 0)with friends:=[1]})) rMod))] ?_
      refine exn [6] [(4,.lf (.m 3 (ow.set 0 ({(nth ow 0)with friends:=[1]})) rMod))] ?_
      exact rtM rfl (⟨_,_,by omega,ShG.friends how (by omega) (by decide),rfl,rfl⟩)
     ·refine a5 (efd 3 [] [(6,.lf (.m 3 ow rMod))] ?_)
      refine exn [6,94] [(4,.lf (.m 3 ow rMod))] ?_
      exact rtM rfl (⟨_,_,by omega,how,rfl,rfl⟩)
    ·have g12p:=i5 g12
     refine exd [10,62] [(94,.bool false)] [(1,.slot (.int (ow.length:Int))),(2,.slot (.bool false))] (a2 (lnl ow rMod) (kB g12)) ?_
     refine ecF rfl ?_
     refine a5 (efd 3 [] [(6,.lf (.m 3 ow rMod))] ?_)
     refine exn [6,94] [(4,.lf (.m 3 ow rMod))] ?_
     exact rtM rfl (⟨_,_,by omega,how,rfl,rfl⟩)
theorem a3Q (f:Fn)(hs:f.small):
 CallV Try.prog 31 [.agg [.im true (.int .i64 f.seen),.im true (.sl 1 (f.args.map rS)),.im true (.sl 1 (f.rets.map rS)),.im true (.sl 1 (f.locals.map rS)),.im true (.sl 1 (f.takes.map rI)),.im true (.sl 3 (f.code.map rIns))]] (·= .agg [.im true (.int .i64 f.seen),.im true (.sl 1 (f.args.map rS)),.im true (.sl 1 (f.rets.map rS)),.im true (.sl 1 (f.locals.map rS)),.im true (.sl 1 (f.takes.map rI)),.im true (.sl 3 (f.code.map rIns))]):=by
 refine CallX (fn:=Try.f31) TTok mixed Try.func31 rfl rfl rfl rfl rfl fun E c hMay=> ?_
 obtain⟨q1,q2,q3,q4,q5⟩:=hs
 refine vx c [(2,.lf (.ptr 1 0)),(3,.cell 1 [.z f.seen,.m 1 f.args rS,.m 1 f.rets rS,.m 1 f.locals rS,.m 1 f.takes rI,.m 3 f.code rIns]),(4,.lf (.ptr 2 0)),(5,.cell 2 [.z 0,.nil,.nil,.nil,.nil,.nil])] [] AllP.nil (by kernel_rfl) ?_
 refine vxd c [2,3] [(5,.cell 2 [.z f.seen,.m 1 f.args rS,.m 1 f.rets rS,.m 1 f.locals rS,.m 1 f.takes rI,.m 3 f.code rIns])] [(5,.im),(9,.im),(13,.im),(17,.im),(21,.im)] (a2 (ap (a:=([]:List (List SV)).length+((f.args.map rS):List (List SV)).length) (b:=16) (by simp only[List.length_map,List.length_nil];omega) (by unfold maxLen;simp only[List.length_map,List.length_nil];omega)) (a2 (ap (a:=([]:List (List SV)).length+((f.rets.map rS):List (List SV)).length) (b:=16) (by simp only[List.length_map,List.length_nil];omega) (by unfold maxLen;simp only[List.length_map,List.length_nil];omega)) (a2 (ap (a:=([]:List (List SV)).length+((f.locals.map rS):List (List SV)).length) (b:=16) (by simp only[List.length_map,List.length_nil];omega) (by unfold maxLen;simp only[List.length_map,List.length_nil];omega)) (a2 (ap (a:=([]:List (List SV)).length+((f.takes.map rI):List (List SV)).length) (b:=8) (by simp only[List.length_map,List.length_nil];omega) (by unfold maxLen;simp only[List.length_map,List.length_nil];omega)) (ap (a:=([]:List (List SV)).length+((f.code.map rIns):List (List SV)).length) (b:=32) (by simp only[List.length_map,List.length_nil];omega) (by unfold maxLen;simp only[List.length_map,List.length_nil];omega)))))) ?_
 exact rtV rfl (rfl)
theorem a4X (x:Mod)(hs:x.small)(hne:x.records≠[]):
 ∃o r,(fun o r=>o= .own obN [.hole,.hole,.hole] [.mk 15 0 41 2 (x.records.map rRec),.no,.mkh 810021 0 23 1 [[SV.nl]] 0 0 15 ((x.records.map rRec:List (List SV)).length)]∧r= .lf (.hd 810021 (([[SV.nl]]:List (List SV)).length) 0)) o r∧CallGX Try.prog 22 [.lf (.im true (.sl 3 ([x].map rMod)))] (.own obN [.hole,.hole,.hole] [.no,.no,.no]) o r:=by
 refine CallGE (fn:=Try.f22) TTok mixed Try.func22 rfl rfl rfl rfl ?_
 obtain⟨⟨hrl,hrs⟩,-⟩:=hs
 refine ex [(0,.lf (.m 3 [x] rMod)),(1,.own obN [.hole,.hole,.hole] [.no,.no,.no])] [] AllP.nil (by kernel_rfl) ?_
 refine exd [] [(6,.lf (.im true .nl))] [(0,.slot (.one (.lf (.im true .nl))))] AllP.nil ?_
 refine a7 (exn [] [(8,.int 0)] ?_)
 refine a9 (eld (fun l0 n L=>(L=upG [] [] l0∧n=1∧True)∨(L=upG [] [(1,.own obN [.hole,.hole,.hole] [.mk 15 0 41 2 (x.records.map rRec),.no,.mkh 810021 0 23 1 [[SV.nl]] 0 0 15 ((x.records.map rRec).length)]),(6,.lf (.hd 810021 (([[SV.nl]]:List (List SV)).length) 0)),(8,.int 1)] l0∧n=0∧True)) _ (.inl ⟨rfl,rfl,trivial⟩) ?_)
 rintro n L (⟨rfl,rfl,hP1⟩|⟨rfl,rfl,hP1⟩)
 ·refine a7 (ex [(0,.lf (.m 3 [x] rMod)),(1,.own obN [.hole,.hole,.hole] [.no,.no,.no]),(6,.lf (.im true .nl)),(8,.int 0),(24,.bool (decide ((0:Int)<(([x].length:Nat):Int))))] [(2,.slot (.int (([x].length:Nat):Int)))] (a2 (ln (l:=[x]) (f:=rMod)) AllP.nil) (by kernel_rfl) ?_)
  refine ecd (fun h1=> ?_) fun h1=> ?_
  ·have h1:=d5 h1
   refine a5 (a7 (a9 (exn [24] [(10,.lf (.u 15 0 41 2 []))] ?_)))
   refine a7 (exn [] [(12,.int 0)] ?_)
   refine a9 (eld (fun l0 n L=>∃(k:Nat),L=upG [] [(10,.lf (.u 15 0 41 2 ((x.records.take k).map rRec))),(12,.int (k:Int))] l0∧n=x.records.length-k∧(k≤x.records.length)) _ ⟨0,rfl,rfl,by omega⟩ ?_)
   rintro n L ⟨k,rfl,rfl,hP2⟩
   refine a7 (exd [] [(46,.bool (decide ((k:Int)<(x.records.length:Int))))] [(3,.row (rMod x)),(6,.slot (.int (x.records.length:Int)))] (a2 (ixh rMod (rfl:([x]:List Mod)[0]? =some x)) (lnl x.records rRec)) ?_)
   refine ecp (fun h2=> ?_) fun h2=> ?_
   ·have hq2:(nth x.records k).fields.length≤1048576:=hrs _ (c6 (by omega))
    refine a5 (a7 (a9 (exd [46] [(14,.lf (.ptr 7 0)),(15,.cell 7 [.z ((nth x.records k).able),.m 1 ((nth x.records k).fields) rS])] [(2,.row (rMod x)),(6,.row (rRec (nth x.records k)))] (a2 (ixh rMod (rfl:([x]:List Mod)[0]? =some x)) (ixn rRec x.records k)) ?_)))
    refine exed [14,15] [(10,.lf (.u 15 0 41 2 ((x.records.take (k+1)).map rRec)))] [(6,.im),(8,.im),(9,.slot (.lf (.u 15 0 41 2 ((x.records.take (k+1)).map rRec))))] (a2 (ap (a:=([]:List (List SV)).length+((((nth x.records k).fields).map rS):List (List SV)).length) (b:=16) (by first|(simp;done)|(simp;omega)) (by unfold maxLen;first|(simp;done)|(simp;omega))) (a2 (a1 (show(((x.records.take k).map rRec)++[[.int .i64 ((nth x.records k).able),.sl 1 (((nth x.records k).fields).map rS)]]:List (List SV))=((x.records.take (k+1)).map rRec)by exact F6 (f:=rRec) (l:=x.records) (j6 (by omega)))) (a2 (hl (((x.records.take k).map rRec).length)) (ap (a:=(((x.records.take k).map rRec):List (List SV)).length+([[.int .i64 ((nth x.records k).able),.sl 1 (((nth x.records k).fields).map rS)]]:List (List SV)).length) (b:=32) (by first|(simp;done)|(simp;omega)) (by unfold maxLen;first|(simp;done)|(simp;omega)))))) ?_
    exact exed [] [(12,.int (↑(k+1):Int))] [(1,.slot (.int (↑(k+1):Int)))] (wI1 k) (⟨_,by omega,(k+1),rfl,rfl,by omega⟩)
   ·refine d9 ?_
    rw[show x.records.take k=x.records from List.take_of_length_le (by omega)]
    refine etd [] [(1,.own obN [.hole,.hole,.hole] [.mk 15 0 41 2 (x.records.map rRec),.no,.no]),(10,.lf (.hd 15 (((x.records.map rRec):List (List SV)).length) 0))] (fun E=>a5f 5 0 0 rfl rfl rfl) ?_
    refine exed [10,12,46] [(1,.own obN [.hole,.hole,.hole] [.mk 15 0 41 2 (x.records.map rRec),.no,.mkh 810021 0 23 1 [[SV.nl]] 0 0 15 (((x.records.map rRec):List (List SV)).length)]),(6,.lf (.hd 810021 (([[SV.nl]]:List (List SV)).length) 0))] [(2,.nsw [] 0 SV.nl),(3,.gap 810021 0 2 [])] (a2 (a1 (show(((x.records.map rRec):List (List SV)).length:Nat)≠0 by simp;exact hne)) (gapN (bytes:=24) SV.nl (by decide))) ?_
    exact exed [] [(1,.own obN [.hole,.hole,.hole] [.mk 15 0 41 2 (x.records.map rRec),.no,.mkh 810021 0 23 1 [[SV.nl]] 0 0 15 ((x.records.map rRec).length)]),(8,.int 1)] [(1,.slot (.int 1))] (wIo (0+1) 1) (⟨_,by omega,(.inr ⟨rfl,rfl,trivial⟩)⟩)
  ·exact absurd h1 (by simp)
 ·refine a7 (ex [(0,.lf (.m 3 [x] rMod)),(1,.own obN [.hole,.hole,.hole] [.mk 15 0 41 2 (x.records.map rRec),.no,.mkh 810021 0 23 1 [[SV.nl]] 0 0 15 ((x.records.map rRec).length)]),(6,.lf (.hd 810021 (([[SV.nl]]:List (List SV)).length) 0)),(8,.int 1),(24,.bool (decide ((1:Int)<(([x].length:Nat):Int))))] [(2,.slot (.int (([x].length:Nat):Int)))] (a2 (ln (l:=[x]) (f:=rMod)) AllP.nil) (by kernel_rfl) ?_)
  refine ecd (fun h3=> ?_) fun h3=> ?_
  ·exact absurd h3 (by simp)
  ·have h3:=i5 h3
   refine d9 (exn [0,6,8,24] [(4,.lf (.hd 810021 (([[SV.nl]]:List (List SV)).length) 0))] ?_)
   exact rtG rfl (⟨rfl,rfl⟩)
theorem a31 (x:Mod)(hs0:x.records=[]):
 ∃s,(fun r=>r= .lf (.im true (.sl 1 ([()].map rNl)))) s∧CallV Try.prog 22 [.lf (.im true (.sl 3 ([x].map rMod)))] (·=s):=by
 refine CallE (fn:=Try.f22) TTok mixed Try.func22 rfl rfl rfl rfl rfl ?_
 have hne:x.records.length=0:=by rw[hs0];rfl
 refine ex [(0,.lf (.m 3 [x] rMod))] [] AllP.nil (by kernel_rfl) ?_
 refine exn [] [(6,.lf (.u 8 0 23 1 []))] ?_
 refine a7 (exn [] [(8,.int 0)] ?_)
 refine a9 (eld (fun l0 n L=>(L=upG [] [(6,.lf (.u 8 0 23 1 ([]:List (List SV))))] l0∧n=1∧True)∨(L=upG [] [(6,.lf (.u 8 0 23 1 [[SV.nl]])),(8,.int 1)] l0∧n=0∧True)) _ (.inl ⟨rfl,rfl,trivial⟩) ?_)
 rintro n L (⟨rfl,rfl,hP1⟩|⟨rfl,rfl,hP1⟩)
 ·refine a7 (ex [(0,.lf (.m 3 [x] rMod)),(6,.lf (.u 8 0 23 1 ([]:List (List SV)))),(8,.int 0),(24,.bool (decide ((0:Int)<(([x].length:Nat):Int))))] [(2,.slot (.int (([x].length:Nat):Int)))] (a2 (ln (l:=[x]) (f:=rMod)) AllP.nil) (by kernel_rfl) ?_)
  refine ecd (fun h1=> ?_) fun h1=> ?_
  ·have h1:=d5 h1
   refine a5 (a7 (a9 (exd [24] [(10,.lf (.im true .nl))] [(0,.slot (.one (.lf (.im true .nl))))] AllP.nil ?_)))
   refine a7 (exn [] [(12,.int 0)] ?_)
   refine a9 (eld (fun l0 n L=>∃(k:Nat),L=upG [] [(12,.int (k:Int))] l0∧n=k+1∧True) _ ⟨0,rfl,rfl,trivial⟩ ?_)
   rintro n L ⟨k,rfl,rfl,-⟩
   refine a7 (exd [] [(46,.bool (decide ((k:Int)<(x.records.length:Int))))] [(3,.row (rMod x)),(6,.slot (.int (x.records.length:Int)))] (a2 (ixh rMod (rfl:([x]:List Mod)[0]? =some x)) (lnl x.records rRec)) ?_)
   refine ecd (fun h2=> ?_) fun h2=> ?_
   ·exact absurd (d5 h2) (by omega)
   ·have h2:=i5 h2
    refine d9 (exed [10,12,46] [(6,.lf (.u 8 0 23 1 [[SV.nl]]))] [(2,.im),(3,.slot (.lf (.u 8 0 23 1 [[SV.nl]])))] (a2 (a1 (show(([]:List (List SV))++[[.nl]]:List (List SV))=[[SV.nl]]by rfl)) (a2 (hl (([]:List (List SV)).length)) (ap (a:=(([]:List (List SV)):List (List SV)).length+([[.nl]]:List (List SV)).length) (b:=24) (by first|(simp;done)|(simp;omega)) (by unfold maxLen;first|(simp;done)|(simp;omega))))) ?_)
    exact exed [] [(8,.int 1)] [(1,.slot (.int 1))] (wIo (0+1) 1) (⟨_,by omega,(.inr ⟨rfl,rfl,trivial⟩)⟩)
  ·exact absurd h1 (by simp)
 ·refine a7 (ex [(0,.lf (.m 3 [x] rMod)),(6,.lf (.u 8 0 23 1 [[SV.nl]])),(8,.int 1),(24,.bool (decide ((1:Int)<(([x].length:Nat):Int))))] [(2,.slot (.int (([x].length:Nat):Int)))] (a2 (ln (l:=[x]) (f:=rMod)) AllP.nil) (by kernel_rfl) ?_)
  refine ecd (fun h3=> ?_) fun h3=> ?_
  ·exact absurd h3 (by simp)
  ·have h3:=i5 h3
   refine d9 (efd 3 [] [(6,.lf (.m 1 [()] rNl))] ?_)
   refine exn [0,6,8,24] [(4,.lf (.m 1 [()] rNl))] ?_
   exact rtE rfl (rfl)
theorem a6h (x:Mod)(hs:x.small)(hfl:x.funcs.length≤10)(hne:x.records≠[]):
 ∃o r,(fun o r=>o= .own obN [.hole,.hole,.hole] [.mk (obN+1) 0 41 2 (x.records.map rRec),.mk (obN+2) 0 45 6 (x.funcs.map rFn),.no]∧r= .agg [.hd (obN+1) ((x.records.map rRec:List (List SV)).length) 0,.hd (obN+2) ((x.funcs.map rFn:List (List SV)).length) 0,.im true (.sl 1 (x.friends.map rI))]) o r∧CallGX Try.prog 20 [.agg [.im true (.sl 2 (x.records.map rRec)),.im true (.sl 6 (x.funcs.map rFn)),.im true (.sl 1 (x.friends.map rI))]] (.own obN [.hole,.hole,.hole] [.no,.no,.no]) o r:=by
 refine CallGE (fn:=Try.f20) TTok mixed Try.func20 rfl rfl rfl rfl ?_
 have hfr:=hs.2.2
 refine ex [(1,.own obN [.hole,.hole,.hole] [.no,.no,.no]),(2,.lf (.ptr 1 0)),(3,.cell 1 [.m 2 x.records rRec,.m 6 x.funcs rFn,.m 1 x.friends rI]),(4,.lf (.ptr 2 0)),(5,.cell 2 [.nil,.nil,.nil])] [] AllP.nil (by kernel_rfl) ?_
 refine exd [] [(6,.lf (.ptr 3 0)),(7,.cell 3 [.nil,.nil,.m 1 x.friends rI])] [(3,.im)] (ap (a:=([]:List (List SV)).length+((x.friends.map rI):List (List SV)).length) (b:=8) (by simp only[List.length_map,List.length_nil];omega) (by unfold maxLen;simp only[List.length_map,List.length_nil];omega)) ?_
 obtain⟨_,_,⟨rfl,rfl⟩,cc1⟩:=a4X x hs hne
 refine exd [] [(1,.own obN [.hole,.hole,.hole] [.mk (obN+1) 0 41 2 (x.records.map rRec),.no,.mkh 810022 0 23 1 [[SV.nl]] 0 0 (obN+1) ((x.records.map rRec).length)]),(7,.cell 3 [.hd (obN+1) ((x.records.map rRec).length) 0,.nil,.m 1 x.friends rI])] [(1,.slot (.lf (.m 3 [x] rMod))),(2,.cg 0 (.own obN [.hole,.hole,.hole] [.mk 15 0 41 2 (x.records.map rRec),.no,.mkh 810021 0 23 1 [[SV.nl]] 0 0 15 ((x.records.map rRec).length)]) (.lf (.hd 810021 (([[SV.nl]]:List (List SV)).length) 0)) [15,810021] [(obN+1),810022]),(4,.hel [SV.nl])] (a2 (a1 (show([[.sl 2 (x.records.map rRec),.sl 6 (x.funcs.map rFn),.sl 1 (x.friends.map rI)]]:List (List SV))=[x].map rMod from rfl)) (a2 (cgT tx22 cc1) (a2 (ixu (i:=0) (n:=([[SV.nl]]:List (List SV)).length) (by simp)) (helT (rows:=[[SV.nl]]) (r:=[SV.nl]) (i:=0) (j:=0) (sz:=1) (off:=(0:Int).toNat*1) (by rfl) (by rfl) (by rfl) (by decide))))) ?_
 refine a7 (etd [] [(1,.own obN [.hole,.hole,.hole] [.mk (obN+1) 0 41 2 (x.records.map rRec),.no,.no])] (fun E=>a62 0 2 rfl) ?_)
 refine a6J 3 1 0 1 (obN+2) 45 6 [(1,.own obN [.hole,.hole,.hole] [.mk (obN+1) 0 41 2 (x.records.map rRec),.mk (obN+2) 0 45 6 [],.no]),(2,.lf (.ptr 1 0)),(3,.cell 1 [.m 2 x.records rRec,.m 6 x.funcs rFn,.m 1 x.friends rI]),(4,.lf (.ptr 2 0)),(5,.cell 2 [.nil,.nil,.nil]),(6,.lf (.ptr 3 0)),(7,.cell 3 [.hd (obN+1) ((x.records.map rRec).length) 0,.hd (obN+2) 0 0,.m 1 x.friends rI])] rfl rfl rfl rfl (by kernel_rfl) (by kernel_rfl) (by kernel_rfl) (by kernel_rfl) ?_
 refine exn [] [(1,.own obN [.hole,.hole,.hole] [.mk (obN+1) 0 41 2 (x.records.map rRec),.mk (obN+2) 0 45 6 [],.no]),(7,.cell 3 [.hd (obN+1) ((x.records.map rRec).length) 0,.hd (obN+2) 0 0,.m 1 x.friends rI]),(8,.int 0)] ?_
 refine a9 (eld (fun l0 n L=>∃(i:Nat),L=upG [] [(1,.own obN [.hole,.hole,.hole] [.mk (obN+1) 0 41 2 (x.records.map rRec),.mk (obN+2) 0 45 6 ((x.funcs.take i).map rFn),.no]),(7,.cell 3 [.hd (obN+1) ((x.records.map rRec).length) 0,.hd (obN+2) (((x.funcs.take i).map rFn).length) 0,.m 1 x.friends rI]),(8,.int (i:Int))] l0∧n=x.funcs.length-i∧(i≤x.funcs.length)) _ ⟨0,rfl,rfl,by omega⟩ ?_)
 rintro n L ⟨i,rfl,rfl,hP1⟩
 refine a7 (exd [] [(40,.bool (decide ((i:Int)<(x.funcs.length:Int))))] [(3,.slot (.int (x.funcs.length:Int)))] (lnl x.funcs rFn) ?_)
 refine ecp (fun h1=> ?_) fun h1=> ?_
 ·refine a5 (a7 (a9 (exed [40] [(1,.own obN [.hole,.hole,.hole] [.mk (obN+1) 0 41 2 (x.records.map rRec),.mk 810032 0 45 6 ((x.funcs.take (i+1)).map rFn),.no]),(7,.cell 3 [.hd (obN+1) ((x.records.map rRec).length) 0,.hd 810032 ((((x.funcs.take (i+1)).map rFn):List (List SV)).length) 0,.m 1 x.friends rI])] [(5,.row (rFn (nth x.funcs i))),(7,.ret (.agg [.z ((nth x.funcs i).seen),.m 1 ((nth x.funcs i).args) rS,.m 1 ((nth x.funcs i).rets) rS,.m 1 ((nth x.funcs i).locals) rS,.m 1 ((nth x.funcs i).takes) rI,.m 3 ((nth x.funcs i).code) rIns])),(8,.im),(9,.gap 810032 0 1 ((x.funcs.take (i+1)).map rFn))] (a2 (ixn rFn x.funcs i) (a2 (cl tx31 (a3Q (nth x.funcs i) (by exact hs.2.1.2 _ (c6 (by omega))))) (gapH (rows:=((x.funcs.take i).map rFn)) (rows2:=[[.int .i64 ((nth x.funcs i).seen),.sl 1 (((nth x.funcs i).args).map rS),.sl 1 (((nth x.funcs i).rets).map rS),.sl 1 (((nth x.funcs i).locals).map rS),.sl 1 (((nth x.funcs i).takes).map rI),.sl 3 (((nth x.funcs i).code).map rIns)]]) (rows3:=((x.funcs.take (i+1)).map rFn)) (n:=((x.funcs.take i).map rFn).length) (bytes:=128) (kt:=24) (y:= .tmp 31) (by exact F6 (f:=rFn) (l:=x.funcs) (j6 (by omega))) (by simp) (by simp;omega) (by decide) (by simp) (by simp)))) ?_)))
  refine esw 810032 (obN+2) [] [(1,.own obN [.hole,.hole,.hole] [.mk (obN+1) 0 41 2 (x.records.map rRec),.mk (obN+2) 0 45 6 ((x.funcs.take (i+1)).map rFn),.no]),(7,.cell 3 [.hd (obN+1) ((x.records.map rRec).length) 0,.hd (obN+2) ((((x.funcs.take (i+1)).map rFn):List (List SV)).length) 0,.m 1 x.friends rI])] ?_
  exact exed [] [(7,.cell 3 [.hd (obN+1) ((x.records.map rRec).length) 0,.hd (obN+2) (((x.funcs.take (i+1)).map rFn:List (List SV)).length) 0,.m 1 x.friends rI]),(8,.int (↑(i+1):Int))] [(1,.slot (.int (↑(i+1):Int)))] (wI1 i) (⟨_,by omega,(i+1),rfl,rfl,by omega⟩)
 ·refine d9 ?_
  rw[show x.funcs.take i=x.funcs from List.take_of_length_le (by omega)]
  refine exn [2,3,6,7,8,40] [(1,.own obN [.hole,.hole,.hole] [.mk (obN+1) 0 41 2 (x.records.map rRec),.mk (obN+2) 0 45 6 (x.funcs.map rFn),.no]),(5,.cell 2 [.hd (obN+1) ((x.records.map rRec).length) 0,.hd (obN+2) ((x.funcs.map rFn).length) 0,.m 1 x.friends rI])] ?_
  exact rtG rfl (⟨rfl,rfl⟩)
theorem a45 (x:Mod)(hs:x.small)(hfl:x.funcs.length≤10)(hne:x.records=[]):
 ∃o r,(fun o r=>o= .own obN [.hole,.hole,.hole] [.no,.mk (obN+2) 0 45 6 (x.funcs.map rFn),.no]∧r= .agg [.im true .nl,.hd (obN+2) ((x.funcs.map rFn:List (List SV)).length) 0,.im true (.sl 1 (x.friends.map rI))]) o r∧CallGX Try.prog 20 [.agg [.im true (.sl 2 (x.records.map rRec)),.im true (.sl 6 (x.funcs.map rFn)),.im true (.sl 1 (x.friends.map rI))]] (.own obN [.hole,.hole,.hole] [.no,.no,.no]) o r:=by
 refine CallGE (fn:=Try.f20) TTok mixed Try.func20 rfl rfl rfl rfl ?_
 have hfr:=hs.2.2
 refine ex [(1,.own obN [.hole,.hole,.hole] [.no,.no,.no]),(2,.lf (.ptr 1 0)),(3,.cell 1 [.m 2 x.records rRec,.m 6 x.funcs rFn,.m 1 x.friends rI]),(4,.lf (.ptr 2 0)),(5,.cell 2 [.nil,.nil,.nil])] [] AllP.nil (by kernel_rfl) ?_
 refine exd [] [(6,.lf (.ptr 3 0)),(7,.cell 3 [.nil,.nil,.m 1 x.friends rI])] [(3,.im)] (ap (a:=([]:List (List SV)).length+((x.friends.map rI):List (List SV)).length) (b:=8) (by simp only[List.length_map,List.length_nil];omega) (by unfold maxLen;simp only[List.length_map,List.length_nil];omega)) ?_
 obtain⟨_,rfl,cc1⟩:=a31 x hne
 refine exd [] [(7,.cell 3 [.im true .nl,.nil,.m 1 x.friends rI])] [(1,.slot (.lf (.m 3 [x] rMod))),(2,.ret (.lf (.m 1 [()] rNl))),(3,.row (rNl ()))] (a2 (a1 (show([[.sl 2 (x.records.map rRec),.sl 6 (x.funcs.map rFn),.sl 1 (x.friends.map rI)]]:List (List SV))=[x].map rMod from rfl)) (a2 (cl tx22 cc1) (ixh rNl (rfl:([()]:List Unit)[0]? =some ())))) ?_
 refine a7 (a6J 3 1 0 1 (obN+2) 45 6 [(1,.own obN [.hole,.hole,.hole] [.no,.mk (obN+2) 0 45 6 [],.no]),(2,.lf (.ptr 1 0)),(3,.cell 1 [.m 2 x.records rRec,.m 6 x.funcs rFn,.m 1 x.friends rI]),(4,.lf (.ptr 2 0)),(5,.cell 2 [.nil,.nil,.nil]),(6,.lf (.ptr 3 0)),(7,.cell 3 [.im true .nl,.hd (obN+2) 0 0,.m 1 x.friends rI])] rfl rfl rfl rfl (by kernel_rfl) (by kernel_rfl) (by kernel_rfl) (by kernel_rfl) ?_)
 refine exn [] [(1,.own obN [.hole,.hole,.hole] [.no,.mk (obN+2) 0 45 6 [],.no]),(7,.cell 3 [.im true .nl,.hd (obN+2) 0 0,.m 1 x.friends rI]),(8,.int 0)] ?_
 refine a9 (eld (fun l0 n L=>∃(i:Nat),L=upG [] [(1,.own obN [.hole,.hole,.hole] [.no,.mk (obN+2) 0 45 6 ((x.funcs.take i).map rFn),.no]),(7,.cell 3 [.im true .nl,.hd (obN+2) (((x.funcs.take i).map rFn).length) 0,.m 1 x.friends rI]),(8,.int (i:Int))] l0∧n=x.funcs.length-i∧(i≤x.funcs.length)) _ ⟨0,rfl,rfl,by omega⟩ ?_)
 rintro n L ⟨i,rfl,rfl,hP1⟩
 refine a7 (exd [] [(40,.bool (decide ((i:Int)<(x.funcs.length:Int))))] [(3,.slot (.int (x.funcs.length:Int)))] (lnl x.funcs rFn) ?_)
 refine ecp (fun h1=> ?_) fun h1=> ?_
 ·refine a5 (a7 (a9 (exed [40] [(1,.own obN [.hole,.hole,.hole] [.no,.mk 810032 0 45 6 ((x.funcs.take (i+1)).map rFn),.no]),(7,.cell 3 [.im true .nl,.hd 810032 ((((x.funcs.take (i+1)).map rFn):List (List SV)).length) 0,.m 1 x.friends rI])] [(5,.row (rFn (nth x.funcs i))),(7,.ret (.agg [.z ((nth x.funcs i).seen),.m 1 ((nth x.funcs i).args) rS,.m 1 ((nth x.funcs i).rets) rS,.m 1 ((nth x.funcs i).locals) rS,.m 1 ((nth x.funcs i).takes) rI,.m 3 ((nth x.funcs i).code) rIns])),(8,.im),(9,.gap 810032 0 1 ((x.funcs.take (i+1)).map rFn))] (a2 (ixn rFn x.funcs i) (a2 (cl tx31 (a3Q (nth x.funcs i) (by exact hs.2.1.2 _ (c6 (by omega))))) (gapH (rows:=((x.funcs.take i).map rFn)) (rows2:=[[.int .i64 ((nth x.funcs i).seen),.sl 1 (((nth x.funcs i).args).map rS),.sl 1 (((nth x.funcs i).rets).map rS),.sl 1 (((nth x.funcs i).locals).map rS),.sl 1 (((nth x.funcs i).takes).map rI),.sl 3 (((nth x.funcs i).code).map rIns)]]) (rows3:=((x.funcs.take (i+1)).map rFn)) (n:=((x.funcs.take i).map rFn).length) (bytes:=128) (kt:=24) (y:= .tmp 31) (by exact F6 (f:=rFn) (l:=x.funcs) (j6 (by omega))) (by simp) (by simp;omega) (by decide) (by simp) (by simp)))) ?_)))
  refine esw 810032 (obN+2) [] [(1,.own obN [.hole,.hole,.hole] [.no,.mk (obN+2) 0 45 6 ((x.funcs.take (i+1)).map rFn),.no]),(7,.cell 3 [.im true .nl,.hd (obN+2) ((((x.funcs.take (i+1)).map rFn):List (List SV)).length) 0,.m 1 x.friends rI])] ?_
  exact exed [] [(7,.cell 3 [.im true .nl,.hd (obN+2) (((x.funcs.take (i+1)).map rFn:List (List SV)).length) 0,.m 1 x.friends rI]),(8,.int (↑(i+1):Int))] [(1,.slot (.int (↑(i+1):Int)))] (wI1 i) (⟨_,by omega,(i+1),rfl,rfl,by omega⟩)
 ·refine d9 ?_
  rw[show x.funcs.take i=x.funcs from List.take_of_length_le (by omega)]
  refine exn [2,3,6,7,8,40] [(1,.own obN [.hole,.hole,.hole] [.no,.mk (obN+2) 0 45 6 (x.funcs.map rFn),.no]),(5,.cell 2 [.im true .nl,.hd (obN+2) ((x.funcs.map rFn).length) 0,.m 1 x.friends rI])] ?_
  exact rtG rfl (⟨rfl,rfl⟩)
end Go.Proofs.Ytjfjdgjhihgdkaa
