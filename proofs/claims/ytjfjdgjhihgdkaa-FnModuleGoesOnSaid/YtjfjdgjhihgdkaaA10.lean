/- Part 10 of the proof of FnModuleGoesOn. -/
import Derived.Test.YtjfjdgjhihgdkaaA9
import Derived.KernelRfl
import Derived.Lib.Join
import Derived.Lib.ItoaNum
set_option linter.unusedVariables false
set_option linter.unusedSimpArgs false
set_option maxRecDepth 100000
namespace Go.Proofs.Ytjfjdgjhihgdkaa
open Go Go.RowKit V
theorem do_u (sh:List Mod)(ks:Kinds)(m:Nat)(f:Fn)(st pls:List Mk)(s9:S7)(op:ByteArray)(ia ib:Nat)(out:List Ins)(ho:out.length≤40)(cs9:CallV Try.prog 35 [.lf (.im false (.sl 3 (sh.map rMod))),.lf (.im true (.sl 1 (ks.map rRecs))),.lf (.im true (.int .i64 ((m:Nat):Int))),.agg [.im true (.int .i64 f.seen),.im true (.sl 1 (f.args.map rS)),.im true (.sl 1 (f.rets.map rS)),.im true (.sl 1 (f.locals.map rS)),.im true (.sl 1 (f.takes.map rI)),.im true (.sl 3 (f.code.map rIns))],.agg [.im true (.sl 2 (st.map rMk)),.im true (.sl 2 (pls.map rMk))],.agg [.im true (.str op),.im true (.int .i64 ((ia:Nat):Int)),.im true (.int .i64 ((ib:Nat):Int))]] (·= .tup [.agg [.im true (.sl 2 (s9.st.map rMk)),.im true (.sl 2 (s9.pls.map rMk))],.lf (.im true (.int .i64 s9.code))])):
 ∃o s,(fun o s=>o=Slot.hole∧(((decide (s9.code=0)&&decide (out.length≤36))=true∧s= .tup [.agg [.im true (.sl 2 (s9.st.map rMk)),.im true (.sl 2 (s9.pls.map rMk))],.lf (.ap rsN 0 67 3 ((out++[(⟨op,((ia:Nat):Int),((ib:Nat):Int)⟩:Ins)]).map rIns)),.lf (.im true (.bool true))])∨((decide (s9.code=0)&&decide (out.length≤36))=false∧s= .tup [.agg [.im true (.sl 2 (st.map rMk)),.im true (.sl 2 (pls.map rMk))],.lf (.ap rsN 0 67 3 (out.map rIns)),.lf (.im true (.bool false))]))) o s∧CallUX Try.prog 48 [.lf (.im false (.sl 3 (sh.map rMod))),.lf (.im true (.sl 1 (ks.map rRecs))),.lf (.im true (.int .i64 ((m:Nat):Int))),.agg [.im true (.int .i64 f.seen),.im true (.sl 1 (f.args.map rS)),.im true (.sl 1 (f.rets.map rS)),.im true (.sl 1 (f.locals.map rS)),.im true (.sl 1 (f.takes.map rI)),.im true (.sl 3 (f.code.map rIns))],.agg [.im true (.sl 2 (st.map rMk)),.im true (.sl 2 (pls.map rMk))],.lf (.ap obN 0 67 3 (out.map rIns)),.agg [.im true (.str op),.im true (.int .i64 ((ia:Nat):Int)),.im true (.int .i64 ((ib:Nat):Int))]] (Slot.hole) o s (some 5):=by
 refine CallUE (fn:=Try.f48) false TTok mixed Try.func48 rfl rfl rfl rfl okq ?_
 refine ex [(0,.lf (.l 3 sh rMod)),(2,.lf (.m 1 ks rRecs)),(4,.int (m:Int)),(10,.lf (.ap obN 0 67 3 (out.map rIns))),(20,.lf (.ptr 10 0)),(21,.cell 10 [.z f.seen,.m 1 f.args rS,.m 1 f.rets rS,.m 1 f.locals rS,.m 1 f.takes rI,.m 3 f.code rIns]),(22,.lf (.ptr 11 0)),(23,.cell 11 [.m 2 st rMk,.m 2 pls rMk]),(26,.lf (.ptr 13 0)),(27,.cell 13 [.q op,.z (ia:Int),.z (ib:Int)]),(28,.lf (.ptr 14 0)),(29,.cell 14 [.nil,.nil])] [] AllP.nil (by kernel_rfl) ?_
 refine exd [0,2,4,20,21] [(34,.lf (.ptr 17 0)),(35,.cell 17 [.m 2 s9.st rMk,.m 2 s9.pls rMk]),(36,.int s9.code)] [(6,.ret (.tup [.agg [.m 2 s9.st rMk,.m 2 s9.pls rMk],.lf (.z s9.code)]))] (cl tx35 cs9) ?_
 refine a7 ?_
 rcases bft (decide ((s9.code:Int)≠0))with g1|g1
 ·have g1p:=d5 g1
  refine exd [36] [(70,.bool true)] [(1,.slot (.bool true))] (kB g1) ?_
  refine ecT rfl ?_
  refine exn [22,23,26,27,34,35,70] [(29,.cell 14 [.m 2 st rMk,.m 2 pls rMk]),(30,.lf (.ap obN 0 67 3 (out.map rIns))),(32,.bool false)] ?_
  exact rtU obN rfl (okp ⟨rfl,rfl⟩) (⟨rfl,.inr ⟨by simp at*;omega,rfl⟩⟩)
 ·have g1p:=i5 g1
  refine exd [36] [(70,.bool (decide ((out.length:Int)>36)))] [(1,.slot (.bool false)),(4,.slot (.int (out.length:Int)))] (a2 (kB g1) (lnl out rIns)) ?_
  refine ecp (fun h2=> ?_) fun h2=> ?_
  ·refine exn [22,23,26,27,34,35,70] [(29,.cell 14 [.m 2 st rMk,.m 2 pls rMk]),(30,.lf (.ap obN 0 67 3 (out.map rIns))),(32,.bool false)] ?_
   exact rtU obN rfl (okp ⟨rfl,rfl⟩) (⟨rfl,.inr ⟨by simp at*;omega,rfl⟩⟩)
  ·refine a5 (exd [22,23,26,27,34,35,70] [(29,.cell 14 [.m 2 s9.st rMk,.m 2 s9.pls rMk]),(30,.lf (.ap 600042 0 67 3 ((out++[(⟨op,(ia:Int),(ib:Int)⟩:Ins)]).map rIns))),(32,.bool true)] [(3,.im),(4,.apw 600042 ((out++[(⟨op,(ia:Int),(ib:Int)⟩:Ins)]).map rIns) [5])] (a2 (a1 (show(out.map rIns:List (List SV))++[[.str op,.int .i64 (ia:Int),.int .i64 (ib:Int)]]=(out++[(⟨op,(ia:Int),(ib:Int)⟩:Ins)]).map rIns by exact(List.map_append (f:=rIns) (l₁:=out) (l₂:=[(⟨op,(ia:Int),(ib:Int)⟩:Ins)])).symm)) (a2 (a1 (show([[.str op,.int .i64 (ia:Int),.int .i64 (ib:Int)]]:List (List SV))≠[]by simp)) (a2 (ap (a:=(out.map rIns).length+([[.str op,.int .i64 (ia:Int),.int .i64 (ib:Int)]]:List (List SV)).length) (b:=32) (by simp only[List.length_map,List.length_cons,List.length_nil,maxLen];omega) (by simp only[List.length_map,List.length_cons,List.length_nil,maxLen];omega)) (a1 (show(.lf (.ap obN 0 67 3 (out.map rIns)):Slot)= .lf (.ap obN 0 67 3 (out.map rIns))from rfl))))) ?_)
   exact rtU 600042 rfl (okp ⟨rfl,rfl⟩) (⟨rfl,.inl ⟨by simp at*;omega,rfl⟩⟩)
theorem do_v (sh:List Mod)(ks:Kinds)(m:Nat)(f:Fn)(st pls:List Mk)(s9:S7)(op:ByteArray)(ia ib:Nat)(out:List Ins)(ho:out.length≤40)(cs9:CallV Try.prog 35 [.lf (.l 3 sh rMod),.lf (.m 1 ks rRecs),.lf (.z (m:Int)),.agg [.z f.seen,.m 1 f.args rS,.m 1 f.rets rS,.m 1 f.locals rS,.m 1 f.takes rI,.m 3 f.code rIns],.agg [.m 2 st rMk,.m 2 pls rMk],.agg [.q op,.z (ia:Int),.z (ib:Int)]] (·= .tup [.agg [.m 2 s9.st rMk,.m 2 s9.pls rMk],.lf (.z s9.code)]))(hb:(decide (s9.code=0)&&decide (out.length≤36))=false):
 ∃s,((·= .tup [.agg [.im true (.sl 2 (st.map rMk)),.im true (.sl 2 (pls.map rMk))],.lf (.im false (.sl 3 (out.map rIns))),.lf (.im true (.bool false))])) s∧CallV Try.prog 48 [.lf (.im false (.sl 3 (sh.map rMod))),.lf (.im true (.sl 1 (ks.map rRecs))),.lf (.im true (.int .i64 ((m:Nat):Int))),.agg [.im true (.int .i64 f.seen),.im true (.sl 1 (f.args.map rS)),.im true (.sl 1 (f.rets.map rS)),.im true (.sl 1 (f.locals.map rS)),.im true (.sl 1 (f.takes.map rI)),.im true (.sl 3 (f.code.map rIns))],.agg [.im true (.sl 2 (st.map rMk)),.im true (.sl 2 (pls.map rMk))],.lf (.im false (.sl 3 (out.map rIns))),.agg [.im true (.str op),.im true (.int .i64 ((ia:Nat):Int)),.im true (.int .i64 ((ib:Nat):Int))]] (·=s):=by
 refine CallE (fn:=Try.f48) TTok mixed Try.func48 rfl rfl rfl rfl rfl ?_
 refine ex [(0,.lf (.l 3 sh rMod)),(2,.lf (.m 1 ks rRecs)),(4,.int (m:Int)),(10,.lf (.l 3 out rIns)),(20,.lf (.ptr 10 0)),(21,.cell 10 [.z f.seen,.m 1 f.args rS,.m 1 f.rets rS,.m 1 f.locals rS,.m 1 f.takes rI,.m 3 f.code rIns]),(22,.lf (.ptr 11 0)),(23,.cell 11 [.m 2 st rMk,.m 2 pls rMk]),(26,.lf (.ptr 13 0)),(27,.cell 13 [.q op,.z (ia:Int),.z (ib:Int)]),(28,.lf (.ptr 14 0)),(29,.cell 14 [.nil,.nil])] [] AllP.nil (by kernel_rfl) ?_
 refine exd [0,2,4,20,21] [(34,.lf (.ptr 17 0)),(35,.cell 17 [.m 2 s9.st rMk,.m 2 s9.pls rMk]),(36,.int s9.code)] [(6,.ret (.tup [.agg [.m 2 s9.st rMk,.m 2 s9.pls rMk],.lf (.z s9.code)]))] (cl tx35 cs9) ?_
 refine a7 ?_
 rcases bft (decide ((s9.code:Int)≠0))with g1|g1
 ·have g1p:=d5 g1
  refine exd [36] [(70,.bool true)] [(1,.slot (.bool true))] (kB g1) ?_
  refine ecT rfl ?_
  refine exn [10,22,23,26,27,34,35,70] [(29,.cell 14 [.m 2 st rMk,.m 2 pls rMk]),(30,.lf (.l 3 out rIns)),(32,.bool false)] ?_
  exact rtE rfl (rfl)
 ·have g1p:=i5 g1
  refine exd [36] [(70,.bool (decide ((out.length:Int)>36)))] [(1,.slot (.bool false)),(4,.slot (.int (out.length:Int)))] (a2 (kB g1) (lnl out rIns)) ?_
  refine ecd (fun h2=> ?_) fun h2=> ?_
  ·have h2:=d5 h2
   refine exn [10,22,23,26,27,34,35,70] [(29,.cell 14 [.m 2 st rMk,.m 2 pls rMk]),(30,.lf (.l 3 out rIns)),(32,.bool false)] ?_
   exact rtE rfl (rfl)
  ·exact absurd hb (by simp at*;omega)
theorem do_x (sh:List Mod)(ks:Kinds)(m:Nat)(f:Fn)(np:Nat)(hC:C7 sh ks m f np)(st pls:List Mk)(hI:J7 ks np st pls)(op:ByteArray)(ia ib:Nat)(hi9:ia≤1000000∧ib≤1000000)(hop:op.size≤8)(out:List Ins)(ho:OutOk out):
 ∃b st' pls',(b=true→(J7 ks np st' pls'∧OutOk (out++[(⟨op,((ia:Nat):Int),((ib:Nat):Int)⟩:Ins)]))∧CallUX Try.prog 48 [.lf (.im false (.sl 3 (sh.map rMod))),.lf (.im true (.sl 1 (ks.map rRecs))),.lf (.im true (.int .i64 ((m:Nat):Int))),.agg [.im true (.int .i64 f.seen),.im true (.sl 1 (f.args.map rS)),.im true (.sl 1 (f.rets.map rS)),.im true (.sl 1 (f.locals.map rS)),.im true (.sl 1 (f.takes.map rI)),.im true (.sl 3 (f.code.map rIns))],.agg [.im true (.sl 2 (st.map rMk)),.im true (.sl 2 (pls.map rMk))],.lf (.ap waN 0 67 3 (out.map rIns)),.agg [.im true (.str op),.im true (.int .i64 ((ia:Nat):Int)),.im true (.int .i64 ((ib:Nat):Int))]] Slot.hole Slot.hole (.tup [.agg [.im true (.sl 2 (st'.map rMk)),.im true (.sl 2 (pls'.map rMk))],.lf (.ap rsN 0 67 3 ((out++[(⟨op,((ia:Nat):Int),((ib:Nat):Int)⟩:Ins)]).map rIns)),.lf (.im true (.bool true))]) none∧CallUX Try.prog 48 [.lf (.im false (.sl 3 (sh.map rMod))),.lf (.im true (.sl 1 (ks.map rRecs))),.lf (.im true (.int .i64 ((m:Nat):Int))),.agg [.im true (.int .i64 f.seen),.im true (.sl 1 (f.args.map rS)),.im true (.sl 1 (f.rets.map rS)),.im true (.sl 1 (f.locals.map rS)),.im true (.sl 1 (f.takes.map rI)),.im true (.sl 3 (f.code.map rIns))],.agg [.im true (.sl 2 (st.map rMk)),.im true (.sl 2 (pls.map rMk))],.lf (.ap obN 0 67 3 (out.map rIns)),.agg [.im true (.str op),.im true (.int .i64 ((ia:Nat):Int)),.im true (.int .i64 ((ib:Nat):Int))]] Slot.hole Slot.hole (.tup [.agg [.im true (.sl 2 (st'.map rMk)),.im true (.sl 2 (pls'.map rMk))],.lf (.ap rsN 0 67 3 ((out++[(⟨op,((ia:Nat):Int),((ib:Nat):Int)⟩:Ins)]).map rIns)),.lf (.im true (.bool true))]) (some 5))∧
  (b=false→CallUX Try.prog 48 [.lf (.im false (.sl 3 (sh.map rMod))),.lf (.im true (.sl 1 (ks.map rRecs))),.lf (.im true (.int .i64 ((m:Nat):Int))),.agg [.im true (.int .i64 f.seen),.im true (.sl 1 (f.args.map rS)),.im true (.sl 1 (f.rets.map rS)),.im true (.sl 1 (f.locals.map rS)),.im true (.sl 1 (f.takes.map rI)),.im true (.sl 3 (f.code.map rIns))],.agg [.im true (.sl 2 (st.map rMk)),.im true (.sl 2 (pls.map rMk))],.lf (.ap waN 0 67 3 (out.map rIns)),.agg [.im true (.str op),.im true (.int .i64 ((ia:Nat):Int)),.im true (.int .i64 ((ib:Nat):Int))]] Slot.hole Slot.hole (.tup [.agg [.im true (.sl 2 (st.map rMk)),.im true (.sl 2 (pls.map rMk))],.lf (.ap rsN 0 67 3 (out.map rIns)),.lf (.im true (.bool false))]) none∧CallV Try.prog 48 [.lf (.im false (.sl 3 (sh.map rMod))),.lf (.im true (.sl 1 (ks.map rRecs))),.lf (.im true (.int .i64 ((m:Nat):Int))),.agg [.im true (.int .i64 f.seen),.im true (.sl 1 (f.args.map rS)),.im true (.sl 1 (f.rets.map rS)),.im true (.sl 1 (f.locals.map rS)),.im true (.sl 1 (f.takes.map rI)),.im true (.sl 3 (f.code.map rIns))],.agg [.im true (.sl 2 (st.map rMk)),.im true (.sl 2 (pls.map rMk))],.lf (.im false (.sl 3 (out.map rIns))),.agg [.im true (.str op),.im true (.int .i64 ((ia:Nat):Int)),.im true (.int .i64 ((ib:Nat):Int))]] (·= .tup [.agg [.im true (.sl 2 (st.map rMk)),.im true (.sl 2 (pls.map rMk))],.lf .hole,.lf (.im true (.bool false))])):=by
 obtain⟨_,⟨s9,hs9,rfl⟩,cs9⟩:=a4U sh ks m f np 100 st pls hI op ia ib hi9 hC (by omega)
 obtain⟨_,_,⟨rfl,h⟩,cu⟩:=do_u sh ks m f st pls s9 op ia ib out ho.len cs9
 rcases h with⟨hb,rfl⟩|⟨hb,rfl⟩
 ·refine⟨true,s9.st,s9.pls,fun _=>⟨?_,CallUX.plain cu fun _=>rfl,cu⟩,(fun h=>by cases h)⟩
  rw[Bool.and_eq_true]at hb
  have h1:=of_decide_eq_true hb.1
  have h2:=of_decide_eq_true hb.2
  obtain⟨h3,h4⟩:=hs9 h1
  exact⟨⟨h3.st,h3.pl,h3.n,by simp only at*;omega⟩,ho.app1 h2 hop hi9⟩
 ·obtain⟨_,rfl,cv⟩:=do_v sh ks m f st pls s9 op ia ib out ho.len cs9 hb
  exact⟨false,st,pls,(fun h=>by cases h),fun _=>⟨CallUX.plain cu fun _=>rfl,CallV.mid cv⟩⟩
theorem off_x (sh:List Mod)(ks:Kinds)(m:Nat)(f:Fn)(np:Nat)(hC:C7 sh ks m f np)(b:List UInt8)(q:Nat)(hb:b.length≤2000)(hq:q≤800000000000)(st pls:List Mk)(hI:J7 ks np st pls)(out:List Ins)(ho:OutOk out)(hne:0<st.length):
 ∃o s,(fun o s=>∃q' st' pls' out' b',q'≤q+1∧J7 ks np st' pls'∧OutOk out'∧o= .cell obN [.im true (.sl 1 (b.map rB)),.im true (.int .i64 ((q':Nat):Int))]∧s= .tup [.agg [.im true (.sl 2 (st'.map rMk)),.im true (.sl 2 (pls'.map rMk))],.lf (.ap rsN 0 67 3 (out'.map rIns)),.lf (.im true (.bool b'))]) o s∧CallUX Try.prog 45 [.lf (.ptr obN 0),.lf (.im false (.sl 3 (sh.map rMod))),.lf (.im true (.sl 1 (ks.map rRecs))),.lf (.im true (.int .i64 ((m:Nat):Int))),.agg [.im true (.int .i64 f.seen),.im true (.sl 1 (f.args.map rS)),.im true (.sl 1 (f.rets.map rS)),.im true (.sl 1 (f.locals.map rS)),.im true (.sl 1 (f.takes.map rI)),.im true (.sl 3 (f.code.map rIns))],.agg [.im true (.sl 2 (st.map rMk)),.im true (.sl 2 (pls.map rMk))],.lf (.ap waN 0 67 3 (out.map rIns))] (.cell obN [.im true (.sl 1 (b.map rB)),.im true (.int .i64 ((q:Nat):Int))]) o s none:=by
 refine CallUE (fn:=Try.f45) true TTok mixed Try.func45 rfl rfl rfl rfl nokq ?_
 have hkr:=kR_lt (nth st (st.length-1)).type
 have hstl:=hI.l
 simp only at hstl
 refine ex [(0,.lf (.ptr obN 0)),(1,rdr b q),(2,.lf (.l 3 sh rMod)),(4,.lf (.m 1 ks rRecs)),(6,.int (m:Int)),(12,.lf (.ap waN 0 67 3 (out.map rIns))),(22,.lf (.ptr 11 0)),(23,.cell 11 [.z f.seen,.m 1 f.args rS,.m 1 f.rets rS,.m 1 f.locals rS,.m 1 f.takes rI,.m 3 f.code rIns]),(24,.lf (.ptr 12 0)),(25,.cell 12 [.m 2 st rMk,.m 2 pls rMk]),(28,.lf (.ptr 14 0)),(29,.cell 14 [.nil,.nil])] [] AllP.nil (by kernel_rfl) ?_
 refine exd [] [(34,.lf (.q ((nth st (st.length-1)).type)))] [(4,.slot (.int (st.length:Int))),(5,.slot (.int ((st.length-1:Nat):Int))),(6,.row (rMk (nth st (st.length-1))))] (a2 (lnl st rMk) (a2 (wIo ((st.length:Int)-1) ((st.length-1:Nat):Int)) (ixn rMk st (st.length-1)))) ?_
 obtain⟨b1,st1,pls1,hT1,hF1⟩:=do_x sh ks m f np hC st pls hI B26 0 0 (by omega) (by first|decide|assumption) out ho
 rcases bft b1 with g1|g1
 ·have g1p:=g1
  obtain⟨⟨hJ1,hO1⟩,cc1,cc1k⟩:=hT1 g1
  refine exd [12] [(36,.lf (.ptr 18 0)),(37,.cell 18 [.m 2 st1 rMk,.m 2 pls1 rMk]),(38,.lf (.ap waN 0 67 3 ((out++[(⟨B26,((0:Nat):Int),((0:Nat):Int)⟩:Ins)]).map rIns))),(40,.bool true)] [(7,.cu none (.tup [.agg [.m 2 st1 rMk,.m 2 pls1 rMk],.lf (.ap waN 0 67 3 ((out++[(⟨B26,((0:Nat):Int),((0:Nat):Int)⟩:Ins)]).map rIns)),.lf (.y true)]) waN none [])] (cl3 tx48 cc1) ?_
  refine a7 (exn [40] [(90,.bool true)] ?_)
  refine ecT rfl ?_
  refine exn [2,4,6,22,23,24,25,34,36,37,38,90] [(29,.cell 14 [.m 2 st1 rMk,.m 2 pls1 rMk]),(30,.lf (.ap waN 0 67 3 ((out++[(⟨B26,((0:Nat):Int),((0:Nat):Int)⟩:Ins)]).map rIns))),(32,.bool true)] ?_
  exact rtU waN rfl nokp (⟨_,_,_,_,_,by omega,hJ1,hO1,rfl,rfl⟩)
 ·have g1p:=g1
  have cc1:=(hF1 g1).2
  refine exd [] [(36,.lf (.ptr 18 0)),(37,.cell 18 [.m 2 st rMk,.m 2 pls rMk]),(40,.bool false)] [(7,.ret (.tup [.agg [.m 2 st rMk,.m 2 pls rMk],.lf (.hole),.lf (.y false)]))] (cl tx48 cc1) ?_
  refine a7 (exn [40] [(90,.bool false)] ?_)
  refine ecF rfl ?_
  refine a5 (exd [34,90] [(44,.int ((kR ((nth st (st.length-1)).type):Nat):Int))] [(1,.ret (.tup [.lf (.z ((kM ((nth st (st.length-1)).type):Nat):Int)),.lf (.z ((kR ((nth st (st.length-1)).type):Nat):Int)),.lf (.y (isKind ((nth st (st.length-1)).type)))]))] (cl tx63 (A7 ((nth st (st.length-1)).type))) ?_)
  refine a7 ?_
  obtain⟨_,_,⟨x1,hx1,rfl,rfl⟩,cc2⟩:=e7 b q 2 hb (by omega) (by omega)
  refine exd [] [(1,rdr b (q+1)),(112,.bool (decide ((x1:Int)=0)))] [(1,.mth (rdl b (q+1)) [] (.int (x1:Int)))] (cl2 tx19 cc2) ?_
  refine ecp (fun h3=> ?_) fun h3=> ?_
  ·obtain⟨b2,st2,pls2,hT2,hF2⟩:=do_x sh ks m f np hC st pls hI B18 0 0 (by omega) (by first|decide|assumption) out ho
   rcases bft b2 with g2|g2
   ·have g2p:=g2
    obtain⟨⟨hJ2,hO2⟩,cc3,cc3k⟩:=hT2 g2
    refine exd [112] [(37,.cell 18 [.m 2 st2 rMk,.m 2 pls2 rMk]),(38,.lf (.ap 600001 0 67 3 ((out++[(⟨B18,((0:Nat):Int),((0:Nat):Int)⟩:Ins)]).map rIns))),(40,.bool true)] [(7,.cu none (.tup [.agg [.m 2 st2 rMk,.m 2 pls2 rMk],.lf (.ap 600001 0 67 3 ((out++[(⟨B18,((0:Nat):Int),((0:Nat):Int)⟩:Ins)]).map rIns)),.lf (.y true)]) 600001 (some 5) [6])] (a2 (a1 (show(.lf (.ap waN 0 67 3 (out.map rIns)):Slot)= .lf (.ap waN 0 67 3 (out.map rIns))from rfl)) (cl3 tx48 cc3k)) ?_
    refine a7 (exn [] [(138,.bool true)] ?_)
    refine ecT rfl ?_
    obtain⟨b3,st3,pls3,hT3,hF3⟩:=do_x sh ks m f np hC st2 pls2 hJ2 B11 (kR ((nth st (st.length-1)).type)) 0 (by omega) (by first|decide|assumption) (out++[(⟨B18,((0:Nat):Int),((0:Nat):Int)⟩:Ins)]) hO2
    rcases bft b3 with g3|g3
    ·have g3p:=g3
     obtain⟨⟨hJ3,hO3⟩,cc4,cc4k⟩:=hT3 g3
     refine exed [12,138] [(37,.cell 18 [.m 2 st3 rMk,.m 2 pls3 rMk]),(38,.lf (.ap 600001 0 67 3 (((out++[(⟨B18,((0:Nat):Int),((0:Nat):Int)⟩:Ins)])++[(⟨B11,((kR ((nth st (st.length-1)).type):Nat):Int),((0:Nat):Int)⟩:Ins)]).map rIns)))] [(8,.cu none (.tup [.agg [.m 2 st3 rMk,.m 2 pls3 rMk],.lf (.ap 600001 0 67 3 (((out++[(⟨B18,((0:Nat):Int),((0:Nat):Int)⟩:Ins)])++[(⟨B11,((kR ((nth st (st.length-1)).type):Nat):Int),((0:Nat):Int)⟩:Ins)]).map rIns)),.lf (.y true)]) 600001 none [])] (cl3 tx48 cc4) ?_
     refine exn [40] [(166,.bool true)] ?_
     refine ecT rfl ?_
     refine exn [2,4,6,22,23,24,25,36,37,38,44,166] [(29,.cell 14 [.m 2 st3 rMk,.m 2 pls3 rMk]),(30,.lf (.ap 600001 0 67 3 (((out++[(⟨B18,((0:Nat):Int),((0:Nat):Int)⟩:Ins)])++[(⟨B11,((kR ((nth st (st.length-1)).type):Nat):Int),((0:Nat):Int)⟩:Ins)]).map rIns))),(32,.bool true)] ?_
     exact rtU 600001 rfl nokp (⟨_,_,_,_,_,by omega,hJ3,hO3,rfl,rfl⟩)
    ·have g3p:=g3
     have cc4:=(hF3 g3).2
     refine exed [38,138] [(40,.bool false)] [(8,.ret (.tup [.agg [.m 2 st2 rMk,.m 2 pls2 rMk],.lf (.hole),.lf (.y false)]))] (cl tx48 cc4) ?_
     refine exn [40] [(166,.bool false)] ?_
     refine ecF rfl ?_
     refine a5 ?_
     obtain⟨b4,st4,pls4,hT4,hF4⟩:=do_x sh ks m f np hC st pls hI B22 (kR ((nth st (st.length-1)).type)) 0 (by omega) (by first|decide|assumption) out ho
     rcases bft b4 with g4|g4
     ·have g4p:=g4
      obtain⟨⟨hJ4,hO4⟩,cc5,cc5k⟩:=hT4 g4
      refine exd [2,4,6,12,22,23,24,25,36,37,44,166] [(29,.cell 14 [.m 2 st4 rMk,.m 2 pls4 rMk]),(30,.lf (.ap waN 0 67 3 ((out++[(⟨B22,((kR ((nth st (st.length-1)).type):Nat):Int),((0:Nat):Int)⟩:Ins)]).map rIns))),(32,.bool true)] [(8,.cu none (.tup [.agg [.m 2 st4 rMk,.m 2 pls4 rMk],.lf (.ap waN 0 67 3 ((out++[(⟨B22,((kR ((nth st (st.length-1)).type):Nat):Int),((0:Nat):Int)⟩:Ins)]).map rIns)),.lf (.y true)]) waN none [])] (cl3 tx48 cc5) ?_
      exact rtU waN rfl nokp (⟨_,_,_,_,_,by omega,hJ4,hO4,rfl,rfl⟩)
     ·have g4p:=g4
      have cc5:=(hF4 g4).1
      refine exd [2,4,6,12,22,23,24,25,36,37,44,166] [(29,.cell 14 [.m 2 st rMk,.m 2 pls rMk]),(30,.lf (.ap waN 0 67 3 (out.map rIns))),(32,.bool false)] [(8,.cu none (.tup [.agg [.m 2 st rMk,.m 2 pls rMk],.lf (.ap waN 0 67 3 (out.map rIns)),.lf (.y false)]) waN none [])] (cl3 tx48 cc5) ?_
      exact rtU waN rfl nokp (⟨_,_,_,_,_,by omega,hI,ho,rfl,rfl⟩)
   ·have g2p:=g2
    have cc3:=(hF2 g2).2
    refine exd [112] [(40,.bool false)] [(7,.ret (.tup [.agg [.m 2 st rMk,.m 2 pls rMk],.lf (.hole),.lf (.y false)]))] (cl tx48 cc3) ?_
    refine a7 (exn [] [(138,.bool false)] ?_)
    refine ecF rfl ?_
    refine a5 (exn [40,138] [(166,.bool false)] ?_)
    refine ecF rfl ?_
    refine a5 ?_
    obtain⟨b5,st5,pls5,hT5,hF5⟩:=do_x sh ks m f np hC st pls hI B22 (kR ((nth st (st.length-1)).type)) 0 (by omega) (by first|decide|assumption) out ho
    rcases bft b5 with g5|g5
    ·have g5p:=g5
     obtain⟨⟨hJ5,hO5⟩,cc6,cc6k⟩:=hT5 g5
     refine exd [2,4,6,12,22,23,24,25,36,37,44,166] [(29,.cell 14 [.m 2 st5 rMk,.m 2 pls5 rMk]),(30,.lf (.ap waN 0 67 3 ((out++[(⟨B22,((kR ((nth st (st.length-1)).type):Nat):Int),((0:Nat):Int)⟩:Ins)]).map rIns))),(32,.bool true)] [(8,.cu none (.tup [.agg [.m 2 st5 rMk,.m 2 pls5 rMk],.lf (.ap waN 0 67 3 ((out++[(⟨B22,((kR ((nth st (st.length-1)).type):Nat):Int),((0:Nat):Int)⟩:Ins)]).map rIns)),.lf (.y true)]) waN none [])] (cl3 tx48 cc6) ?_
     exact rtU waN rfl nokp (⟨_,_,_,_,_,by omega,hJ5,hO5,rfl,rfl⟩)
    ·have g5p:=g5
     have cc6:=(hF5 g5).1
     refine exd [2,4,6,12,22,23,24,25,36,37,44,166] [(29,.cell 14 [.m 2 st rMk,.m 2 pls rMk]),(30,.lf (.ap waN 0 67 3 (out.map rIns))),(32,.bool false)] [(8,.cu none (.tup [.agg [.m 2 st rMk,.m 2 pls rMk],.lf (.ap waN 0 67 3 (out.map rIns)),.lf (.y false)]) waN none [])] (cl3 tx48 cc6) ?_
     exact rtU waN rfl nokp (⟨_,_,_,_,_,by omega,hI,ho,rfl,rfl⟩)
  ·refine a5 ?_
   obtain⟨b6,st6,pls6,hT6,hF6⟩:=do_x sh ks m f np hC st pls hI B22 (kR ((nth st (st.length-1)).type)) 0 (by omega) (by first|decide|assumption) out ho
   rcases bft b6 with g6|g6
   ·have g6p:=g6
    obtain⟨⟨hJ6,hO6⟩,cc7,cc7k⟩:=hT6 g6
    refine exd [2,4,6,12,22,23,24,25,36,37,44,112] [(29,.cell 14 [.m 2 st6 rMk,.m 2 pls6 rMk]),(30,.lf (.ap waN 0 67 3 ((out++[(⟨B22,((kR ((nth st (st.length-1)).type):Nat):Int),((0:Nat):Int)⟩:Ins)]).map rIns))),(32,.bool true)] [(8,.cu none (.tup [.agg [.m 2 st6 rMk,.m 2 pls6 rMk],.lf (.ap waN 0 67 3 ((out++[(⟨B22,((kR ((nth st (st.length-1)).type):Nat):Int),((0:Nat):Int)⟩:Ins)]).map rIns)),.lf (.y true)]) waN none [])] (cl3 tx48 cc7) ?_
    exact rtU waN rfl nokp (⟨_,_,_,_,_,by omega,hJ6,hO6,rfl,rfl⟩)
   ·have g6p:=g6
    have cc7:=(hF6 g6).1
    refine exd [2,4,6,12,22,23,24,25,36,37,44,112] [(29,.cell 14 [.m 2 st rMk,.m 2 pls rMk]),(30,.lf (.ap waN 0 67 3 (out.map rIns))),(32,.bool false)] [(8,.cu none (.tup [.agg [.m 2 st rMk,.m 2 pls rMk],.lf (.ap waN 0 67 3 (out.map rIns)),.lf (.y false)]) waN none [])] (cl3 tx48 cc7) ?_
    exact rtU waN rfl nokp (⟨_,_,_,_,_,by omega,hI,ho,rfl,rfl⟩)
theorem a4K (sh:List Mod)(ks:Kinds)(m:Nat)(f:Fn)(np:Nat)(hC:C7 sh ks m f np)(hK:Own7 ks m):
 ∀(N:Nat) (t:ByteArray) (hr:rk m t≤N) (hv:Valid ks t) (st pls:List Mk) (hI:J7 ks np st pls) (out:List Ins) (ho:OutOk out),∃o s,(fun o s=>o=Slot.hole∧∃st' pls' out' b',J7 ks np st' pls'∧OutOk out'∧s= .tup [.agg [.im true (.sl 2 (st'.map rMk)),.im true (.sl 2 (pls'.map rMk))],.lf (.ap rsN 0 67 3 (out'.map rIns)),.lf (.im true (.bool b'))]) o s∧CallUX Try.prog 49 [.lf (.im false (.sl 3 (sh.map rMod))),.lf (.im true (.sl 1 (ks.map rRecs))),.lf (.im true (.int .i64 ((m:Nat):Int))),.agg [.im true (.int .i64 f.seen),.im true (.sl 1 (f.args.map rS)),.im true (.sl 1 (f.rets.map rS)),.im true (.sl 1 (f.locals.map rS)),.im true (.sl 1 (f.takes.map rI)),.im true (.sl 3 (f.code.map rIns))],.agg [.im true (.sl 2 (st.map rMk)),.im true (.sl 2 (pls.map rMk))],.lf (.ap waN 0 67 3 (out.map rIns)),.lf (.im true (.str t))] (Slot.hole) o s none:=by
 intro N
 induction N using Nat.strongRecOn with
 |ind N ih=>
 intro t hr hv st pls hI out ho
 refine CallUE (fn:=Try.f49) false TTok mixed Try.func49 rfl rfl rfl rfl nokq ?_
 have hkt:=kR_lt t
 have hpl:=hI.n
 have hsm:=hC.sml
 have hnp:=hC.hnp
 simp only at hpl
 have hm:=hC.hm
 refine ex [(0,.lf (.l 3 sh rMod)),(2,.lf (.m 1 ks rRecs)),(4,.int (m:Int)),(10,.lf (.ap waN 0 67 3 (out.map rIns))),(12,.lf (.q t)),(20,.lf (.ptr 10 0)),(21,.cell 10 [.z f.seen,.m 1 f.args rS,.m 1 f.rets rS,.m 1 f.locals rS,.m 1 f.takes rI,.m 3 f.code rIns]),(22,.lf (.ptr 11 0)),(23,.cell 11 [.m 2 st rMk,.m 2 pls rMk]),(28,.lf (.ptr 14 0)),(29,.cell 14 [.nil,.nil])] [] AllP.nil (by kernel_rfl) ?_
 refine a7 (exn [] [(34,.int 0)] ?_)
 refine a9 (eld (fun l0 n L=>∃(i1:Nat),L=upG [] [(34,.int (i1:Int))] l0∧n=pls.length-i1∧(i1≤pls.length)) _ ⟨0,rfl,rfl,by omega⟩ ?_)
 rintro n L ⟨i1,rfl,rfl,hP1⟩
 refine a7 (exd [] [(58,.bool (decide ((i1:Int)<(pls.length:Int))))] [(3,.slot (.int (pls.length:Int)))] (lnl pls rMk) ?_)
 refine ecp (fun h1=> ?_) fun h1=> ?_
 ·refine a5 (a7 (a9 (exd [58] [(78,.bool (((nth pls i1).type).toList==t.toList))] [(3,.row (rMk (nth pls i1)))] (ixn rMk pls i1 (by first|omega|exact hkr|exact hC.hm)) ?_)))
  refine ecd (fun h2=> ?_) fun h2=> ?_
  ·obtain⟨b1,st1,pls1,hT1,hF1⟩:=do_x sh ks m f np hC st pls hI B23 i1 0 (by omega) (by first|decide|assumption) out ho
   rcases bft b1 with g1|g1
   ·have g1p:=g1
    obtain⟨⟨hJ1,hO1⟩,cc1,cc1k⟩:=hT1 g1
    refine exd [10,78] [(36,.lf (.ptr 18 0)),(37,.cell 18 [.m 2 st1 rMk,.m 2 pls1 rMk]),(38,.lf (.ap waN 0 67 3 ((out++[(⟨B23,(i1:Int),((0:Nat):Int)⟩:Ins)]).map rIns))),(40,.bool true)] [(8,.cu none (.tup [.agg [.m 2 st1 rMk,.m 2 pls1 rMk],.lf (.ap waN 0 67 3 ((out++[(⟨B23,(i1:Int),((0:Nat):Int)⟩:Ins)]).map rIns)),.lf (.y true)]) waN none [])] (cl3 tx48 cc1) ?_
    refine exn [40] [(106,.bool true)] ?_
    refine ecT rfl ?_
    refine exn [0,2,4,12,20,21,22,23,34,36,37,38,106] [(29,.cell 14 [.m 2 st1 rMk,.m 2 pls1 rMk]),(30,.lf (.ap waN 0 67 3 ((out++[(⟨B23,(i1:Int),((0:Nat):Int)⟩:Ins)]).map rIns))),(32,.bool true)] ?_
    exact rtU waN rfl nokp (⟨rfl,_,_,_,_,hJ1,hO1,rfl⟩)
   ·have g1p:=g1
    have cc1:=(hF1 g1).2
    refine exd [78] [(36,.lf (.ptr 18 0)),(37,.cell 18 [.m 2 st rMk,.m 2 pls rMk]),(40,.bool false)] [(8,.ret (.tup [.agg [.m 2 st rMk,.m 2 pls rMk],.lf (.hole),.lf (.y false)]))] (cl tx48 cc1) ?_
    refine exn [40] [(106,.bool false)] ?_
    refine ecF rfl ?_
    exact a5 (exed [36,37,106] [(34,.int (↑(i1+1):Int))] [(1,.slot (.int (↑(i1+1):Int)))] (wI1 i1) (⟨_,by omega,(i1+1),rfl,rfl,by omega⟩))
  ·exact a5 (exed [78] [(34,.int (↑(i1+1):Int))] [(1,.slot (.int (↑(i1+1):Int)))] (wI1 i1) (⟨_,by omega,(i1+1),rfl,rfl,by omega⟩))
 ·refine d9 (a7 (exn [34,58] [(114,.bool (t.toList==B0.toList))] ?_))
  refine ecd (fun h5=> ?_) fun h5=> ?_
  ·obtain⟨b2,st2,pls2,hT2,hF2⟩:=do_x sh ks m f np hC st pls hI B1 3 0 (by omega) (by first|decide|assumption) out ho
   rcases bft b2 with g2|g2
   ·have g2p:=g2
    obtain⟨⟨hJ2,hO2⟩,cc2,cc2k⟩:=hT2 g2
    refine exd [0,2,4,10,12,20,21,22,23,114] [(29,.cell 14 [.m 2 st2 rMk,.m 2 pls2 rMk]),(30,.lf (.ap waN 0 67 3 ((out++[(⟨B1,((3:Nat):Int),((0:Nat):Int)⟩:Ins)]).map rIns))),(32,.bool true)] [(7,.cu none (.tup [.agg [.m 2 st2 rMk,.m 2 pls2 rMk],.lf (.ap waN 0 67 3 ((out++[(⟨B1,((3:Nat):Int),((0:Nat):Int)⟩:Ins)]).map rIns)),.lf (.y true)]) waN none [])] (cl3 tx48 cc2) ?_
    exact rtU waN rfl nokp (⟨rfl,_,_,_,_,hJ2,hO2,rfl⟩)
   ·have g2p:=g2
    have cc2:=(hF2 g2).1
    refine exd [0,2,4,10,12,20,21,22,23,114] [(29,.cell 14 [.m 2 st rMk,.m 2 pls rMk]),(30,.lf (.ap waN 0 67 3 (out.map rIns))),(32,.bool false)] [(7,.cu none (.tup [.agg [.m 2 st rMk,.m 2 pls rMk],.lf (.ap waN 0 67 3 (out.map rIns)),.lf (.y false)]) waN none [])] (cl3 tx48 cc2) ?_
    exact rtU waN rfl nokp (⟨rfl,_,_,_,_,hI,ho,rfl⟩)
  ·refine a5 (a7 (exn [114] [(140,.bool (t.toList==B3.toList))] ?_))
   refine ecd (fun h6=> ?_) fun h6=> ?_
   ·obtain⟨b3,st3,pls3,hT3,hF3⟩:=do_x sh ks m f np hC st pls hI B27 0 0 (by omega) (by first|decide|assumption) out ho
    rcases bft b3 with g3|g3
    ·have g3p:=g3
     obtain⟨⟨hJ3,hO3⟩,cc3,cc3k⟩:=hT3 g3
     refine exd [0,2,4,10,12,20,21,22,23,140] [(29,.cell 14 [.m 2 st3 rMk,.m 2 pls3 rMk]),(30,.lf (.ap waN 0 67 3 ((out++[(⟨B27,((0:Nat):Int),((0:Nat):Int)⟩:Ins)]).map rIns))),(32,.bool true)] [(7,.cu none (.tup [.agg [.m 2 st3 rMk,.m 2 pls3 rMk],.lf (.ap waN 0 67 3 ((out++[(⟨B27,((0:Nat):Int),((0:Nat):Int)⟩:Ins)]).map rIns)),.lf (.y true)]) waN none [])] (cl3 tx48 cc3) ?_
     exact rtU waN rfl nokp (⟨rfl,_,_,_,_,hJ3,hO3,rfl⟩)
    ·have g3p:=g3
     have cc3:=(hF3 g3).1
     refine exd [0,2,4,10,12,20,21,22,23,140] [(29,.cell 14 [.m 2 st rMk,.m 2 pls rMk]),(30,.lf (.ap waN 0 67 3 (out.map rIns))),(32,.bool false)] [(7,.cu none (.tup [.agg [.m 2 st rMk,.m 2 pls rMk],.lf (.ap waN 0 67 3 (out.map rIns)),.lf (.y false)]) waN none [])] (cl3 tx48 cc3) ?_
     exact rtU waN rfl nokp (⟨rfl,_,_,_,_,hI,ho,rfl⟩)
   ·refine a5 (a7 (exn [140] [(166,.bool (t.toList==B9.toList))] ?_))
    refine ecd (fun h7=> ?_) fun h7=> ?_
    ·obtain⟨b4,st4,pls4,hT4,hF4⟩:=do_x sh ks m f np hC st pls hI B18 0 0 (by omega) (by first|decide|assumption) out ho
     rcases bft b4 with g4|g4
     ·have g4p:=g4
      obtain⟨⟨hJ4,hO4⟩,cc4,cc4k⟩:=hT4 g4
      refine exd [0,2,4,10,12,20,21,22,23,166] [(29,.cell 14 [.m 2 st4 rMk,.m 2 pls4 rMk]),(30,.lf (.ap waN 0 67 3 ((out++[(⟨B18,((0:Nat):Int),((0:Nat):Int)⟩:Ins)]).map rIns))),(32,.bool true)] [(7,.cu none (.tup [.agg [.m 2 st4 rMk,.m 2 pls4 rMk],.lf (.ap waN 0 67 3 ((out++[(⟨B18,((0:Nat):Int),((0:Nat):Int)⟩:Ins)]).map rIns)),.lf (.y true)]) waN none [])] (cl3 tx48 cc4) ?_
      exact rtU waN rfl nokp (⟨rfl,_,_,_,_,hJ4,hO4,rfl⟩)
     ·have g4p:=g4
      have cc4:=(hF4 g4).1
      refine exd [0,2,4,10,12,20,21,22,23,166] [(29,.cell 14 [.m 2 st rMk,.m 2 pls rMk]),(30,.lf (.ap waN 0 67 3 (out.map rIns))),(32,.bool false)] [(7,.cu none (.tup [.agg [.m 2 st rMk,.m 2 pls rMk],.lf (.ap waN 0 67 3 (out.map rIns)),.lf (.y false)]) waN none [])] (cl3 tx48 cc4) ?_
      exact rtU waN rfl nokp (⟨rfl,_,_,_,_,hI,ho,rfl⟩)
    ·refine a5 (exd [12,166] [(42,.int (↑(kM t):Int)),(44,.int (↑(kR t):Int)),(46,.bool (isKind t))] [(1,.ret (.tup [.lf (.z (↑(kM t):Int)),.lf (.z (↑(kR t):Int)),.lf (.y (isKind t))]))] (cl tx63 (A7 t)) ?_)
     refine a7 ?_
     rcases bft (!(isKind t))with g5|g5
     ·have g5p:=o4 g5
      refine exd [42] [(214,.bool true)] [(1,.slot (.bool true))] (kB g5) ?_
      refine ecT rfl ?_
      refine exn [0,2,4,10,20,21,22,23,44,46,214] [(29,.cell 14 [.m 2 st rMk,.m 2 pls rMk]),(30,.lf (.ap waN 0 67 3 (out.map rIns))),(32,.bool false)] ?_
      exact rtU waN rfl nokp (⟨rfl,_,_,_,_,hI,ho,rfl⟩)
     ·have g5p:=o3 g5
      refine exd [42] [(214,.bool (decide (((↑(kM t):Int):Int)≠(m:Int))))] [(1,.slot (.bool false))] (kB g5) ?_
      refine ecp (fun h9=> ?_) fun h9=> ?_
      ·refine exn [0,2,4,10,20,21,22,23,44,46,214] [(29,.cell 14 [.m 2 st rMk,.m 2 pls rMk]),(30,.lf (.ap waN 0 67 3 (out.map rIns))),(32,.bool false)] ?_
       exact rtU waN rfl nokp (⟨rfl,_,_,_,_,hI,ho,rfl⟩)
      ·refine a5 ?_
       refine a7 ?_
       have hkt2:isKind t=true∧kM t=m:=⟨by first|assumption|simp_all,by omega⟩
       have hkr:kR t<(nth ks m).length:=by have h7:=hv.able (of_decide_eq_true hkt2.1);have h8:=(u5.1 h7).2.2;rw[hkt2.2]at h8;exact h8
       have hrt:rk m t=kR t+1:=by unfold rk;rw[if_pos hkt2]
       have hfl3:=(hC.fld (kR t) hkr).1
       have hfd:∀i,i<(nth (nth ks m) (kR t)).fields.length→(plainOk ks (nth (nth (nth ks m) (kR t)).fields i)=true∧rk m (nth (nth (nth ks m) (kR t)).fields i)<rk m t):=fun i hi=>by have h8:=hK (kR t) hkr i hi;exact⟨h8.1,by rw[hrt];omega⟩
       refine exn [214] [(48,.int 0)] ?_
       refine a9 (eld (fun l0 n L=>∃(i2:Nat) (bw9:Bool) (sw9:List Mk) (pw9:List Mk) (ow9:List Ins),L=upG [] [(10,.lf (.ap waN 0 67 3 (ow9.map rIns))),(23,.cell 11 [.m 2 sw9 rMk,.m 2 pw9 rMk]),(46,.bool bw9),(48,.int (i2:Int))] l0∧n=(nth (nth ks m) (kR t)).fields.length-i2∧(i2≤(nth (nth ks m) (kR t)).fields.length∧J7 ks np sw9 pw9∧OutOk ow9)) _ ⟨0,isKind t,st,pls,out,rfl,rfl,⟨by omega,hI,ho⟩⟩ ?_)
       rintro n L ⟨i2,bw9,sw9,pw9,ow9,rfl,rfl,hP2⟩
       have hi2:=hP2.1
       have hIw9:=hP2.2.1
       have how9:=hP2.2.2
       refine a7 ?_
       rcases bft (decide ((((i2:Nat):Int):Int)<((((nth (nth ks m) (kR t)).fields).length:Nat):Int)))with g6|g6
       ·have g6p:=d5 g6
        refine exd [] [(246,.bool bw9)] [(3,.row (rRecs (nth ks m))),(6,.row (rRec (nth (nth ks m) (kR t)))),(9,.slot (.int ((((nth (nth ks m) (kR t)).fields).length:Nat):Int))),(10,.slot (.bool true))] (a2 (ixn rRecs ks m (by first|omega|exact hkr|exact hC.hm)) (a2 (ixn rRec (nth ks m) (kR t) (by first|omega|exact hkr|exact hC.hm)) (a2 (lnl ((nth (nth ks m) (kR t)).fields) rS) (kB g6)))) ?_
        refine ecd (fun h10=> ?_) fun h10=> ?_
        ·refine a5 ?_
         refine a7 ?_
         refine a9 ?_
         obtain⟨_,_,⟨rfl,st5,pls5,out1,b5,hJ5,hO5,rfl⟩,cc5⟩:=ih (rk m (nth ((nth (nth ks m) (kR t)).fields) i2)) (by have:=hfd i2 (by omega);omega) (nth ((nth (nth ks m) (kR t)).fields) i2) (Nat.le_refl _) (m7 (hfd i2 (by omega)).1) sw9 pw9 hIw9 ow9 how9
         refine exed [246] [(10,.lf (.ap waN 0 67 3 (out1.map rIns))),(23,.cell 11 [.m 2 st5 rMk,.m 2 pls5 rMk]),(46,.bool b5)] [(8,.row (rRecs (nth ks m))),(11,.row (rRec (nth (nth ks m) (kR t)))),(15,.row (rS (nth ((nth (nth ks m) (kR t)).fields) i2))),(17,.cu none (.tup [.agg [.m 2 st5 rMk,.m 2 pls5 rMk],.lf (.ap waN 0 67 3 (out1.map rIns)),.lf (.y b5)]) waN none [])] (a2 (ixn rRecs ks m (by first|omega|exact hkr|exact hC.hm)) (a2 (ixn rRec (nth ks m) (kR t) (by first|omega|exact hkr|exact hC.hm)) (a2 (ixn rS ((nth (nth ks m) (kR t)).fields) i2 (by first|omega|exact hkr|exact hC.hm)) (cl3 tx49 cc5)))) ?_
         exact exed [] [(48,.int (↑(i2+1):Int))] [(1,.slot (.int (↑(i2+1):Int)))] (wI1 i2) (⟨_,by omega,(i2+1),b5,st5,pls5,out1,rfl,rfl,⟨by omega,hJ5,hO5⟩⟩)
        ·refine d9 (a7 (exn [46,48,246] [(298,.bool (!bw9))] ?_))
         refine ecd (fun h11=> ?_) fun h11=> ?_
         ·have h11:bw9=false:=o4 h11
          refine exn [0,2,4,10,20,21,22,23,44,298] [(29,.cell 14 [.m 2 sw9 rMk,.m 2 pw9 rMk]),(30,.lf (.ap waN 0 67 3 (ow9.map rIns))),(32,.bool false)] ?_
          exact rtU waN rfl nokp (⟨rfl,_,_,_,_,hIw9,how9,rfl⟩)
         ·have h11:bw9=true:=o3 h11
          refine a5 ?_
          obtain⟨b6,st6,pls6,hT5,hF5⟩:=do_x sh ks m f np hC sw9 pw9 hIw9 B24 (kR t) 0 (by omega) (by first|decide|assumption) ow9 how9
          rcases bft b6 with g7|g7
          ·have g7p:=g7
           obtain⟨⟨hJ6,hO6⟩,cc6,cc6k⟩:=hT5 g7
           refine exd [0,2,4,10,20,21,22,23,44,298] [(29,.cell 14 [.m 2 st6 rMk,.m 2 pls6 rMk]),(30,.lf (.ap waN 0 67 3 ((ow9++[(⟨B24,(↑(kR t):Int),((0:Nat):Int)⟩:Ins)]).map rIns))),(32,.bool true)] [(8,.cu none (.tup [.agg [.m 2 st6 rMk,.m 2 pls6 rMk],.lf (.ap waN 0 67 3 ((ow9++[(⟨B24,(↑(kR t):Int),((0:Nat):Int)⟩:Ins)]).map rIns)),.lf (.y true)]) waN none [])] (cl3 tx48 cc6) ?_
           exact rtU waN rfl nokp (⟨rfl,_,_,_,_,hJ6,hO6,rfl⟩)
          ·have g7p:=g7
           have cc6:=(hF5 g7).1
           refine exd [0,2,4,10,20,21,22,23,44,298] [(29,.cell 14 [.m 2 sw9 rMk,.m 2 pw9 rMk]),(30,.lf (.ap waN 0 67 3 (ow9.map rIns))),(32,.bool false)] [(8,.cu none (.tup [.agg [.m 2 sw9 rMk,.m 2 pw9 rMk],.lf (.ap waN 0 67 3 (ow9.map rIns)),.lf (.y false)]) waN none [])] (cl3 tx48 cc6) ?_
           exact rtU waN rfl nokp (⟨rfl,_,_,_,_,hIw9,how9,rfl⟩)
       ·have g6p:=i5 g6
        refine exd [] [(246,.bool false)] [(3,.row (rRecs (nth ks m))),(6,.row (rRec (nth (nth ks m) (kR t)))),(9,.slot (.int ((((nth (nth ks m) (kR t)).fields).length:Nat):Int))),(10,.slot (.bool false))] (a2 (ixn rRecs ks m (by first|omega|exact hkr|exact hC.hm)) (a2 (ixn rRec (nth ks m) (kR t) (by first|omega|exact hkr|exact hC.hm)) (a2 (lnl ((nth (nth ks m) (kR t)).fields) rS) (kB g6)))) ?_
        refine ecF rfl ?_
        refine d9 (a7 (exn [46,48,246] [(298,.bool (!bw9))] ?_))
        refine ecd (fun h13=> ?_) fun h13=> ?_
        ·have h13:bw9=false:=o4 h13
         refine exn [0,2,4,10,20,21,22,23,44,298] [(29,.cell 14 [.m 2 sw9 rMk,.m 2 pw9 rMk]),(30,.lf (.ap waN 0 67 3 (ow9.map rIns))),(32,.bool false)] ?_
         exact rtU waN rfl nokp (⟨rfl,_,_,_,_,hIw9,how9,rfl⟩)
        ·have h13:bw9=true:=o3 h13
         refine a5 ?_
         obtain⟨b7,st7,pls7,hT6,hF6⟩:=do_x sh ks m f np hC sw9 pw9 hIw9 B24 (kR t) 0 (by omega) (by first|decide|assumption) ow9 how9
         rcases bft b7 with g8|g8
         ·have g8p:=g8
          obtain⟨⟨hJ7,hO7⟩,cc7,cc7k⟩:=hT6 g8
          refine exd [0,2,4,10,20,21,22,23,44,298] [(29,.cell 14 [.m 2 st7 rMk,.m 2 pls7 rMk]),(30,.lf (.ap waN 0 67 3 ((ow9++[(⟨B24,(↑(kR t):Int),((0:Nat):Int)⟩:Ins)]).map rIns))),(32,.bool true)] [(8,.cu none (.tup [.agg [.m 2 st7 rMk,.m 2 pls7 rMk],.lf (.ap waN 0 67 3 ((ow9++[(⟨B24,(↑(kR t):Int),((0:Nat):Int)⟩:Ins)]).map rIns)),.lf (.y true)]) waN none [])] (cl3 tx48 cc7) ?_
          exact rtU waN rfl nokp (⟨rfl,_,_,_,_,hJ7,hO7,rfl⟩)
         ·have g8p:=g8
          have cc7:=(hF6 g8).1
          refine exd [0,2,4,10,20,21,22,23,44,298] [(29,.cell 14 [.m 2 sw9 rMk,.m 2 pw9 rMk]),(30,.lf (.ap waN 0 67 3 (ow9.map rIns))),(32,.bool false)] [(8,.cu none (.tup [.agg [.m 2 sw9 rMk,.m 2 pw9 rMk],.lf (.ap waN 0 67 3 (ow9.map rIns)),.lf (.y false)]) waN none [])] (cl3 tx48 cc7) ?_
          exact rtU waN rfl nokp (⟨rfl,_,_,_,_,hIw9,how9,rfl⟩)
theorem end_x (sh:List Mod)(ks:Kinds)(m:Nat)(f:Fn)(np:Nat)(hC:C7 sh ks m f np)(hK:Own7 ks m)(hR:∀u∈f.rets,Valid ks u)(b:List UInt8)(q:Nat)(hb:b.length≤2000)(hq:q≤700000000000)(st pls:List Mk)(hI:J7 ks np st pls)(out:List Ins)(ho:OutOk out):
 ∃o s,(fun o s=>∃q' out',q'≤q+40∧ListOk out'∧o= .cell obN [.im true (.sl 1 (b.map rB)),.im true (.int .i64 ((q':Nat):Int))]∧s= .lf (.ap rsN 0 67 3 (out'.map rIns))) o s∧CallUX Try.prog 36 [.lf (.ptr obN 0),.lf (.im false (.sl 3 (sh.map rMod))),.lf (.im true (.sl 1 (ks.map rRecs))),.lf (.im true (.int .i64 ((m:Nat):Int))),.agg [.im true (.int .i64 f.seen),.im true (.sl 1 (f.args.map rS)),.im true (.sl 1 (f.rets.map rS)),.im true (.sl 1 (f.locals.map rS)),.im true (.sl 1 (f.takes.map rI)),.im true (.sl 3 (f.code.map rIns))],.agg [.im true (.sl 2 (st.map rMk)),.im true (.sl 2 (pls.map rMk))],.lf (.ap waN 0 67 3 (out.map rIns))] (.cell obN [.im true (.sl 1 (b.map rB)),.im true (.int .i64 ((q:Nat):Int))]) o s none:=by
 refine CallUE (fn:=Try.f36) true TTok mixed Try.func36 rfl rfl rfl rfl nokq ?_
 have hsm:=hC.sml
 have hnpc:=hC.hnp
 have hm:=hC.hm
 refine ex [(0,.lf (.ptr obN 0)),(1,rdr b q),(2,.lf (.l 3 sh rMod)),(4,.lf (.m 1 ks rRecs)),(6,.int (m:Int)),(12,.lf (.ap waN 0 67 3 (out.map rIns))),(22,.lf (.ptr 11 0)),(23,.cell 11 [.z f.seen,.m 1 f.args rS,.m 1 f.rets rS,.m 1 f.locals rS,.m 1 f.takes rI,.m 3 f.code rIns]),(24,.lf (.ptr 12 0)),(25,.cell 12 [.m 2 st rMk,.m 2 pls rMk])] [] AllP.nil (by kernel_rfl) ?_
 refine exn [] [(30,.bool true)] ?_
 refine a7 (exn [] [(32,.int 0)] ?_)
 refine a9 (eld (fun l0 n L=>∃(nw1:Nat) (bw1:Bool) (sw1:List Mk) (pw1:List Mk) (ow1:List Ins) (qw1:Nat),L=upG [] [(1,rdr b qw1),(12,.lf (.ap waN 0 67 3 (ow1.map rIns))),(25,.cell 12 [.m 2 sw1 rMk,.m 2 pw1 rMk]),(30,.bool bw1),(32,.int (nw1:Int))] l0∧n=30-nw1∧(nw1≤30∧J7 ks np sw1 pw1∧OutOk ow1∧qw1≤q+nw1)) _ ⟨0,true,st,pls,out,q,rfl,rfl,⟨by omega,hI,ho,by omega⟩⟩ ?_)
 rintro n L ⟨nw1,bw1,sw1,pw1,ow1,qw1,rfl,rfl,hP1⟩
 have hnw1:=hP1.1
 have hIw1:=hP1.2.1
 have how1:=hP1.2.2.1
 have hqw1:=hP1.2.2.2
 have hnpw1:=hIw1.np
 refine a7 ?_
 rcases bft bw1 with g1|g1
 ·have g1p:=g1
  refine exd [] [(48,.bool (decide ((nw1:Int)<30)))] [(0,.slot (.bool true))] (kB g1) ?_
  refine ecp (fun h1=> ?_) fun h1=> ?_
  ·refine a5 (a7 (a9 (a7 (exd [48] [(60,.bool (decide ((sw1.length:Int)>0)))] [(2,.slot (.int (sw1.length:Int)))] (lnl sw1 rMk) ?_))))
   refine ecp (fun h2=> ?_) fun h2=> ?_
   ·obtain⟨_,_,⟨q1,st1,pls1,out1,b1,hq1,hJ1,hO1,rfl,rfl⟩,cc1⟩:=off_x sh ks m f np hC b qw1 hb (by omega) sw1 pw1 hIw1 ow1 how1 (by omega)
    refine exd [60] [(1,rdr b q1),(12,.lf (.ap waN 0 67 3 (out1.map rIns))),(25,.cell 12 [.m 2 st1 rMk,.m 2 pls1 rMk]),(30,.bool b1)] [(7,.cu (some (rdr b q1)) (.tup [.agg [.m 2 st1 rMk,.m 2 pls1 rMk],.lf (.ap waN 0 67 3 (out1.map rIns)),.lf (.y b1)]) waN none [])] (cl3 tx45 cc1) ?_
    exact d9 (exed [] [(32,.int (↑(nw1+1):Int))] [(1,.slot (.int (↑(nw1+1):Int)))] (wI1 nw1) (⟨_,by omega,(nw1+1),b1,st1,pls1,out1,q1,rfl,rfl,⟨by omega,hJ1,hO1,by omega⟩⟩))
   ·refine a5 (exn [60] [(34,.int (-1))] ?_)
    refine a7 (exn [] [(36,.int 0)] ?_)
    refine a9 (eld (fun l0 n L=>∃(p2:Nat) (av:Nat),L=upG [] [(34,.int ((av:Int)-1)),(36,.int (p2:Int))] l0∧n=pw1.length-p2∧(p2≤pw1.length∧av≤pw1.length)) _ ⟨0,0,rfl,rfl,⟨by omega,by omega⟩⟩ ?_)
    rintro n L ⟨p2,av,rfl,rfl,hP2⟩
    have hp2:=hP2.1
    have hav:=hP2.2
    refine a7 (exd [] [(94,.bool (decide ((p2:Int)<(pw1.length:Int))))] [(3,.slot (.int (pw1.length:Int)))] (lnl pw1 rMk) ?_)
    refine ecp (fun h3=> ?_) fun h3=> ?_
    ·refine a5 ?_
     refine a7 ?_
     refine a9 ?_
     rcases bft (!(((nth pw1 p2).type).toList==B4.toList))with g2|g2
     ·have g2p:=o4 g2
      have habg2:=hIw1.able (i:=p2) (by omega) (a5V.1 g2)
      refine exd [94] [(136,.bool (!(canB (ableOf ks ((nth pw1 p2).type)) 2)))] [(3,.row (rMk (nth pw1 p2))),(6,.slot (.bool true)),(12,.row (rMk (nth pw1 p2))),(15,.ret (.int (ableOf ks ((nth pw1 p2).type)))),(16,.ret (.bool (canB (ableOf ks ((nth pw1 p2).type)) 2)))] (a2 (ixn rMk pw1 p2) (a2 (kB g2) (a2 (ixn rMk pw1 p2) (a2 (cl tx47 (I0 ks ((nth pw1 p2).type) (by assumption))) (cl tx46 (j5 (ableOf ks ((nth pw1 p2).type)) 2 (by decide))))))) ?_
      refine ecd (fun h4=> ?_) fun h4=> ?_
      ·have h4:(canB (ableOf ks ((nth pw1 p2).type)) 2)=false:=o4 h4
       refine exed [136] [(34,.int ((↑(p2+1):Int)-1))] [(1,.slot (.int ((↑(p2+1):Int)-1)))] (a1 (show(Slot.int (p2:Int):Slot)= .int ((↑(p2+1):Int)-1)by rw[show(p2:Int)=(↑(p2+1):Int)-1 from by omega])) ?_
       exact exed [] [(36,.int (↑(p2+1):Int))] [(1,.slot (.int (↑(p2+1):Int)))] (wI1 p2) (⟨_,by omega,(p2+1),(p2+1),rfl,rfl,⟨by omega,by omega⟩⟩)
      ·have h4:(canB (ableOf ks ((nth pw1 p2).type)) 2)=true:=o3 h4
       exact a5 (exed [136] [(36,.int (↑(p2+1):Int))] [(1,.slot (.int (↑(p2+1):Int)))] (wI1 p2) (⟨_,by omega,(p2+1),av,rfl,rfl,⟨by omega,by omega⟩⟩))
     ·have g2p:=o3 g2
      refine exd [94] [(136,.bool false)] [(3,.row (rMk (nth pw1 p2))),(6,.slot (.bool false))] (a2 (ixn rMk pw1 p2) (kB g2)) ?_
      refine ecF rfl ?_
      exact a5 (exed [136] [(36,.int (↑(p2+1):Int))] [(1,.slot (.int (↑(p2+1):Int)))] (wI1 p2) (⟨_,by omega,(p2+1),av,rfl,rfl,⟨by omega,by omega⟩⟩))
    ·refine d9 (a7 (exn [36,94] [(142,.bool (decide (((av:Int)-1:Int)<0)))] ?_))
     refine ecp (fun h6=> ?_) fun h6=> ?_
     ·refine d9 (a7 (exn [32,34,142] [(38,.int 0)] ?_))
      refine a9 (eld (fun l0 n L=>∃(kw3:Nat) (bw3:Bool) (sw3:List Mk) (pw3:List Mk) (ow3:List Ins),L=upG [] [(12,.lf (.ap waN 0 67 3 (ow3.map rIns))),(25,.cell 12 [.m 2 sw3 rMk,.m 2 pw3 rMk]),(30,.bool bw3),(38,.int (kw3:Int))] l0∧n=f.rets.length-kw3∧(kw3≤f.rets.length∧J7 ks np sw3 pw3∧OutOk ow3)) _ ⟨0,bw1,sw1,pw1,ow1,rfl,rfl,⟨by omega,hIw1,how1⟩⟩ ?_)
      rintro n L ⟨kw3,bw3,sw3,pw3,ow3,rfl,rfl,hP3⟩
      have hkw3:=hP3.1
      have hIw3:=hP3.2.1
      have how3:=hP3.2.2
      refine a7 ?_
      rcases bft (decide ((((kw3:Nat):Int):Int)<((f.rets.length:Nat):Int)))with g3|g3
      ·have g3p:=d5 g3
       refine exd [] [(184,.bool bw3)] [(3,.slot (.int (f.rets.length:Int))),(4,.slot (.bool true))] (a2 (lnl f.rets rS) (kB g3)) ?_
       refine ecd (fun h7=> ?_) fun h7=> ?_
       ·refine a5 ?_
        refine a7 ?_
        refine a9 ?_
        obtain⟨_,_,⟨rfl,st2,pls2,out2,b2,hJ2,hO2,rfl⟩,cc2⟩:=a4K sh ks m f np hC hK _ (nth f.rets kw3) (Nat.le_refl _) (hR _ (c6 (by omega))) sw3 pw3 hIw3 ow3 how3
        refine exed [184] [(12,.lf (.ap waN 0 67 3 (out2.map rIns))),(25,.cell 12 [.m 2 st2 rMk,.m 2 pls2 rMk]),(30,.bool b2)] [(9,.row (rS (nth f.rets kw3))),(11,.cu none (.tup [.agg [.m 2 st2 rMk,.m 2 pls2 rMk],.lf (.ap waN 0 67 3 (out2.map rIns)),.lf (.y b2)]) waN none [])] (a2 (ixn rS f.rets kw3) (cl3 tx49 cc2)) ?_
        exact exed [] [(38,.int (↑(kw3+1):Int))] [(1,.slot (.int (↑(kw3+1):Int)))] (wI1 kw3) (⟨_,by omega,(kw3+1),b2,st2,pls2,out2,rfl,rfl,⟨by omega,hJ2,hO2⟩⟩)
       ·have h7r:=h7
        refine d9 (a7 (exn [38,184] [(222,.bool bw3)] ?_))
        refine ecF h7r ?_
        refine a5 (a7 (exn [2,4,6,22,23,24,25,30,222] [(250,.bool (!bw3))] ?_))
        refine ecd (fun h8=> ?_) fun h8=> ?_
        ·have h8:bw3=false:=o4 h8
         refine exed [250] [(12,.lf (.ap waN 0 67 3 ((ow3++[(⟨B1,9,0⟩:Ins),(⟨B2,0,0⟩:Ins)]).map rIns)))] [(3,.im),(4,.apw waN ((ow3++[(⟨B1,9,0⟩:Ins),(⟨B2,0,0⟩:Ins)]).map rIns) [])] (a2 (a1 (show(ow3.map rIns:List (List SV))++[[.str B1,.int .i64 9,.int .i64 0],[.str B2,.int .i64 0,.int .i64 0]]=(ow3++[(⟨B1,9,0⟩:Ins),(⟨B2,0,0⟩:Ins)]).map rIns by exact(List.map_append (f:=rIns) (l₁:=ow3) (l₂:=[(⟨B1,9,0⟩:Ins),(⟨B2,0,0⟩:Ins)])).symm)) (a2 (a1 (show([[.str B1,.int .i64 9,.int .i64 0],[.str B2,.int .i64 0,.int .i64 0]]:List (List SV))≠[]by simp)) (ap (a:=(ow3.map rIns).length+([[.str B1,.int .i64 9,.int .i64 0],[.str B2,.int .i64 0,.int .i64 0]]:List (List SV)).length) (b:=32) (by simp only[List.length_map,List.length_cons,List.length_nil,maxLen];first|(have h40:=(show OutOk _ by assumption).len;omega)|omega) (by simp only[List.length_map,List.length_cons,List.length_nil,maxLen];first|(have h40:=(show OutOk _ by assumption).len;omega)|omega)))) ?_
         refine exn [12] [(28,.lf (.ap waN 0 67 3 ((ow3++[(⟨B1,9,0⟩:Ins),(⟨B2,0,0⟩:Ins)]).map rIns)))] ?_
         exact rtU waN rfl nokp (⟨_,_,by omega,how3.app2 ⟨by decide,by decide,by decide⟩ ⟨by decide,by decide,by decide⟩,rfl,rfl⟩)
        ·have h8:bw3=true:=o3 h8
         refine a5 (exn [12,250] [(28,.lf (.ap waN 0 67 3 (ow3.map rIns)))] ?_)
         exact rtU waN rfl nokp (⟨_,_,by omega,how3.code,rfl,rfl⟩)
      ·have g3p:=i5 g3
       refine exd [] [(184,.bool false)] [(3,.slot (.int (f.rets.length:Int))),(4,.slot (.bool false))] (a2 (lnl f.rets rS) (kB g3)) ?_
       refine ecF rfl ?_
       refine d9 (a7 (exn [38,184] [(222,.bool bw3)] ?_))
       refine ecd (fun h10=> ?_) fun h10=> ?_
       ·obtain⟨b3,st3,pls3,hT1,hF1⟩:=do_x sh ks m f np hC sw3 pw3 hIw3 B14 0 0 (by omega) (by first|decide|assumption) ow3 how3
        rcases bft b3 with g4|g4
        ·have g4p:=g4
         obtain⟨⟨hJ3,hO3⟩,cc3,cc3k⟩:=hT1 g4
         refine exed [2,4,6,22,23,24,25,222] [(12,.lf (.ap waN 0 67 3 ((ow3++[(⟨B14,((0:Nat):Int),((0:Nat):Int)⟩:Ins)]).map rIns))),(30,.bool true)] [(7,.cu none (.tup [.agg [.m 2 st3 rMk,.m 2 pls3 rMk],.lf (.ap waN 0 67 3 ((ow3++[(⟨B14,((0:Nat):Int),((0:Nat):Int)⟩:Ins)]).map rIns)),.lf (.y true)]) waN none [])] (cl3 tx48 cc3) ?_
         refine a7 (exn [30] [(250,.bool false)] ?_)
         refine ecF rfl ?_
         refine a5 (exn [12,250] [(28,.lf (.ap waN 0 67 3 ((ow3++[(⟨B14,((0:Nat):Int),((0:Nat):Int)⟩:Ins)]).map rIns)))] ?_)
         exact rtU waN rfl nokp (⟨_,_,by omega,hO3.code,rfl,rfl⟩)
        ·have g4p:=g4
         have cc3:=(hF1 g4).1
         refine exed [2,4,6,22,23,24,25,222] [(30,.bool false)] [(7,.cu none (.tup [.agg [.m 2 sw3 rMk,.m 2 pw3 rMk],.lf (.ap waN 0 67 3 (ow3.map rIns)),.lf (.y false)]) waN none [])] (cl3 tx48 cc3) ?_
         refine a7 (exn [30] [(250,.bool true)] ?_)
         refine ecT rfl ?_
         refine exed [250] [(12,.lf (.ap waN 0 67 3 ((ow3++[(⟨B1,9,0⟩:Ins),(⟨B2,0,0⟩:Ins)]).map rIns)))] [(3,.im),(4,.apw waN ((ow3++[(⟨B1,9,0⟩:Ins),(⟨B2,0,0⟩:Ins)]).map rIns) [])] (a2 (a1 (show(ow3.map rIns:List (List SV))++[[.str B1,.int .i64 9,.int .i64 0],[.str B2,.int .i64 0,.int .i64 0]]=(ow3++[(⟨B1,9,0⟩:Ins),(⟨B2,0,0⟩:Ins)]).map rIns by exact(List.map_append (f:=rIns) (l₁:=ow3) (l₂:=[(⟨B1,9,0⟩:Ins),(⟨B2,0,0⟩:Ins)])).symm)) (a2 (a1 (show([[.str B1,.int .i64 9,.int .i64 0],[.str B2,.int .i64 0,.int .i64 0]]:List (List SV))≠[]by simp)) (ap (a:=(ow3.map rIns).length+([[.str B1,.int .i64 9,.int .i64 0],[.str B2,.int .i64 0,.int .i64 0]]:List (List SV)).length) (b:=32) (by simp only[List.length_map,List.length_cons,List.length_nil,maxLen];first|(have h40:=(show OutOk _ by assumption).len;omega)|omega) (by simp only[List.length_map,List.length_cons,List.length_nil,maxLen];first|(have h40:=(show OutOk _ by assumption).len;omega)|omega)))) ?_
         refine exn [12] [(28,.lf (.ap waN 0 67 3 ((ow3++[(⟨B1,9,0⟩:Ins),(⟨B2,0,0⟩:Ins)]).map rIns)))] ?_
         exact rtU waN rfl nokp (⟨_,_,by omega,how3.app2 ⟨by decide,by decide,by decide⟩ ⟨by decide,by decide,by decide⟩,rfl,rfl⟩)
       ·refine a5 (a7 (exn [2,4,6,22,23,24,25,30,222] [(250,.bool (!bw3))] ?_))
        refine ecd (fun h13=> ?_) fun h13=> ?_
        ·have h13:bw3=false:=o4 h13
         refine exed [250] [(12,.lf (.ap waN 0 67 3 ((ow3++[(⟨B1,9,0⟩:Ins),(⟨B2,0,0⟩:Ins)]).map rIns)))] [(3,.im),(4,.apw waN ((ow3++[(⟨B1,9,0⟩:Ins),(⟨B2,0,0⟩:Ins)]).map rIns) [])] (a2 (a1 (show(ow3.map rIns:List (List SV))++[[.str B1,.int .i64 9,.int .i64 0],[.str B2,.int .i64 0,.int .i64 0]]=(ow3++[(⟨B1,9,0⟩:Ins),(⟨B2,0,0⟩:Ins)]).map rIns by exact(List.map_append (f:=rIns) (l₁:=ow3) (l₂:=[(⟨B1,9,0⟩:Ins),(⟨B2,0,0⟩:Ins)])).symm)) (a2 (a1 (show([[.str B1,.int .i64 9,.int .i64 0],[.str B2,.int .i64 0,.int .i64 0]]:List (List SV))≠[]by simp)) (ap (a:=(ow3.map rIns).length+([[.str B1,.int .i64 9,.int .i64 0],[.str B2,.int .i64 0,.int .i64 0]]:List (List SV)).length) (b:=32) (by simp only[List.length_map,List.length_cons,List.length_nil,maxLen];first|(have h40:=(show OutOk _ by assumption).len;omega)|omega) (by simp only[List.length_map,List.length_cons,List.length_nil,maxLen];first|(have h40:=(show OutOk _ by assumption).len;omega)|omega)))) ?_
         refine exn [12] [(28,.lf (.ap waN 0 67 3 ((ow3++[(⟨B1,9,0⟩:Ins),(⟨B2,0,0⟩:Ins)]).map rIns)))] ?_
         exact rtU waN rfl nokp (⟨_,_,by omega,how3.app2 ⟨by decide,by decide,by decide⟩ ⟨by decide,by decide,by decide⟩,rfl,rfl⟩)
        ·have h13:bw3=true:=o3 h13
         refine a5 (exn [12,250] [(28,.lf (.ap waN 0 67 3 (ow3.map rIns)))] ?_)
         exact rtU waN rfl nokp (⟨_,_,by omega,how3.code,rfl,rfl⟩)
     ·refine a5 ?_
      obtain⟨b4,st4,pls4,hT2,hF2⟩:=do_x sh ks m f np hC sw1 pw1 hIw1 B23 (av-1) 0 (by omega) (by first|decide|assumption) ow1 how1
      rcases bft b4 with g5|g5
      ·have g5p:=g5
       obtain⟨⟨hJ4,hO4⟩,cc4,cc4k⟩:=hT2 g5
       refine exed [34,142] [(12,.lf (.ap waN 0 67 3 ((ow1++[(⟨B23,((av-1:Nat):Int),((0:Nat):Int)⟩:Ins)]).map rIns))),(25,.cell 12 [.m 2 st4 rMk,.m 2 pls4 rMk]),(30,.bool true)] [(6,.slot (.int ((av-1:Nat):Int))),(8,.cu none (.tup [.agg [.m 2 st4 rMk,.m 2 pls4 rMk],.lf (.ap waN 0 67 3 ((ow1++[(⟨B23,((av-1:Nat):Int),((0:Nat):Int)⟩:Ins)]).map rIns)),.lf (.y true)]) waN none [])] (a2 (a1 (show(Slot.int ((av:Int)-1):Slot)= .int ((av-1:Nat):Int)by rw[show(av:Int)-1=((av-1:Nat):Int)from by omega])) (cl3 tx48 cc4)) ?_
       exact exed [] [(32,.int (↑(nw1+1):Int))] [(1,.slot (.int (↑(nw1+1):Int)))] (wI1 nw1) (⟨_,by omega,(nw1+1),true,st4,pls4,(ow1++[(⟨B23,((av-1:Nat):Int),((0:Nat):Int)⟩:Ins)]),qw1,rfl,rfl,⟨by omega,hJ4,hO4,by omega⟩⟩)
      ·have g5p:=g5
       have cc4:=(hF2 g5).1
       refine exed [34,142] [(30,.bool false)] [(6,.slot (.int ((av-1:Nat):Int))),(8,.cu none (.tup [.agg [.m 2 sw1 rMk,.m 2 pw1 rMk],.lf (.ap waN 0 67 3 (ow1.map rIns)),.lf (.y false)]) waN none [])] (a2 (a1 (show(Slot.int ((av:Int)-1):Slot)= .int ((av-1:Nat):Int)by rw[show(av:Int)-1=((av-1:Nat):Int)from by omega])) (cl3 tx48 cc4)) ?_
       exact exed [] [(32,.int (↑(nw1+1):Int))] [(1,.slot (.int (↑(nw1+1):Int)))] (wI1 nw1) (⟨_,by omega,(nw1+1),false,sw1,pw1,ow1,qw1,rfl,rfl,⟨by omega,hIw1,how1,by omega⟩⟩)
  ·refine d9 (a7 (exn [32,48] [(38,.int 0)] ?_))
   refine a9 (eld (fun l0 n L=>∃(kw4:Nat) (bw4:Bool) (sw4:List Mk) (pw4:List Mk) (ow4:List Ins),L=upG [] [(12,.lf (.ap waN 0 67 3 (ow4.map rIns))),(25,.cell 12 [.m 2 sw4 rMk,.m 2 pw4 rMk]),(30,.bool bw4),(38,.int (kw4:Int))] l0∧n=f.rets.length-kw4∧(kw4≤f.rets.length∧J7 ks np sw4 pw4∧OutOk ow4)) _ ⟨0,bw1,sw1,pw1,ow1,rfl,rfl,⟨by omega,hIw1,how1⟩⟩ ?_)
   rintro n L ⟨kw4,bw4,sw4,pw4,ow4,rfl,rfl,hP4⟩
   have hkw4:=hP4.1
   have hIw4:=hP4.2.1
   have how4:=hP4.2.2
   refine a7 ?_
   rcases bft (decide ((((kw4:Nat):Int):Int)<((f.rets.length:Nat):Int)))with g6|g6
   ·have g6p:=d5 g6
    refine exd [] [(184,.bool bw4)] [(3,.slot (.int (f.rets.length:Int))),(4,.slot (.bool true))] (a2 (lnl f.rets rS) (kB g6)) ?_
    refine ecd (fun h14=> ?_) fun h14=> ?_
    ·refine a5 ?_
     refine a7 ?_
     refine a9 ?_
     obtain⟨_,_,⟨rfl,st5,pls5,out3,b5,hJ5,hO5,rfl⟩,cc5⟩:=a4K sh ks m f np hC hK _ (nth f.rets kw4) (Nat.le_refl _) (hR _ (c6 (by omega))) sw4 pw4 hIw4 ow4 how4
     refine exed [184] [(12,.lf (.ap waN 0 67 3 (out3.map rIns))),(25,.cell 12 [.m 2 st5 rMk,.m 2 pls5 rMk]),(30,.bool b5)] [(9,.row (rS (nth f.rets kw4))),(11,.cu none (.tup [.agg [.m 2 st5 rMk,.m 2 pls5 rMk],.lf (.ap waN 0 67 3 (out3.map rIns)),.lf (.y b5)]) waN none [])] (a2 (ixn rS f.rets kw4) (cl3 tx49 cc5)) ?_
     exact exed [] [(38,.int (↑(kw4+1):Int))] [(1,.slot (.int (↑(kw4+1):Int)))] (wI1 kw4) (⟨_,by omega,(kw4+1),b5,st5,pls5,out3,rfl,rfl,⟨by omega,hJ5,hO5⟩⟩)
    ·have h14r:=h14
     refine d9 (a7 (exn [38,184] [(222,.bool bw4)] ?_))
     refine ecF h14r ?_
     refine a5 (a7 (exn [2,4,6,22,23,24,25,30,222] [(250,.bool (!bw4))] ?_))
     refine ecd (fun h15=> ?_) fun h15=> ?_
     ·have h15:bw4=false:=o4 h15
      refine exed [250] [(12,.lf (.ap waN 0 67 3 ((ow4++[(⟨B1,9,0⟩:Ins),(⟨B2,0,0⟩:Ins)]).map rIns)))] [(3,.im),(4,.apw waN ((ow4++[(⟨B1,9,0⟩:Ins),(⟨B2,0,0⟩:Ins)]).map rIns) [])] (a2 (a1 (show(ow4.map rIns:List (List SV))++[[.str B1,.int .i64 9,.int .i64 0],[.str B2,.int .i64 0,.int .i64 0]]=(ow4++[(⟨B1,9,0⟩:Ins),(⟨B2,0,0⟩:Ins)]).map rIns by exact(List.map_append (f:=rIns) (l₁:=ow4) (l₂:=[(⟨B1,9,0⟩:Ins),(⟨B2,0,0⟩:Ins)])).symm)) (a2 (a1 (show([[.str B1,.int .i64 9,.int .i64 0],[.str B2,.int .i64 0,.int .i64 0]]:List (List SV))≠[]by simp)) (ap (a:=(ow4.map rIns).length+([[.str B1,.int .i64 9,.int .i64 0],[.str B2,.int .i64 0,.int .i64 0]]:List (List SV)).length) (b:=32) (by simp only[List.length_map,List.length_cons,List.length_nil,maxLen];first|(have h40:=(show OutOk _ by assumption).len;omega)|omega) (by simp only[List.length_map,List.length_cons,List.length_nil,maxLen];first|(have h40:=(show OutOk _ by assumption).len;omega)|omega)))) ?_
      refine exn [12] [(28,.lf (.ap waN 0 67 3 ((ow4++[(⟨B1,9,0⟩:Ins),(⟨B2,0,0⟩:Ins)]).map rIns)))] ?_
      exact rtU waN rfl nokp (⟨_,_,by omega,how4.app2 ⟨by decide,by decide,by decide⟩ ⟨by decide,by decide,by decide⟩,rfl,rfl⟩)
     ·have h15:bw4=true:=o3 h15
      refine a5 (exn [12,250] [(28,.lf (.ap waN 0 67 3 (ow4.map rIns)))] ?_)
      exact rtU waN rfl nokp (⟨_,_,by omega,how4.code,rfl,rfl⟩)
   ·have g6p:=i5 g6
    refine exd [] [(184,.bool false)] [(3,.slot (.int (f.rets.length:Int))),(4,.slot (.bool false))] (a2 (lnl f.rets rS) (kB g6)) ?_
    refine ecF rfl ?_
    refine d9 (a7 (exn [38,184] [(222,.bool bw4)] ?_))
    refine ecd (fun h17=> ?_) fun h17=> ?_
    ·obtain⟨b6,st6,pls6,hT3,hF3⟩:=do_x sh ks m f np hC sw4 pw4 hIw4 B14 0 0 (by omega) (by first|decide|assumption) ow4 how4
     rcases bft b6 with g7|g7
     ·have g7p:=g7
      obtain⟨⟨hJ6,hO6⟩,cc6,cc6k⟩:=hT3 g7
      refine exed [2,4,6,22,23,24,25,222] [(12,.lf (.ap waN 0 67 3 ((ow4++[(⟨B14,((0:Nat):Int),((0:Nat):Int)⟩:Ins)]).map rIns))),(30,.bool true)] [(7,.cu none (.tup [.agg [.m 2 st6 rMk,.m 2 pls6 rMk],.lf (.ap waN 0 67 3 ((ow4++[(⟨B14,((0:Nat):Int),((0:Nat):Int)⟩:Ins)]).map rIns)),.lf (.y true)]) waN none [])] (cl3 tx48 cc6) ?_
      refine a7 (exn [30] [(250,.bool false)] ?_)
      refine ecF rfl ?_
      refine a5 (exn [12,250] [(28,.lf (.ap waN 0 67 3 ((ow4++[(⟨B14,((0:Nat):Int),((0:Nat):Int)⟩:Ins)]).map rIns)))] ?_)
      exact rtU waN rfl nokp (⟨_,_,by omega,hO6.code,rfl,rfl⟩)
     ·have g7p:=g7
      have cc6:=(hF3 g7).1
      refine exed [2,4,6,22,23,24,25,222] [(30,.bool false)] [(7,.cu none (.tup [.agg [.m 2 sw4 rMk,.m 2 pw4 rMk],.lf (.ap waN 0 67 3 (ow4.map rIns)),.lf (.y false)]) waN none [])] (cl3 tx48 cc6) ?_
      refine a7 (exn [30] [(250,.bool true)] ?_)
      refine ecT rfl ?_
      refine exed [250] [(12,.lf (.ap waN 0 67 3 ((ow4++[(⟨B1,9,0⟩:Ins),(⟨B2,0,0⟩:Ins)]).map rIns)))] [(3,.im),(4,.apw waN ((ow4++[(⟨B1,9,0⟩:Ins),(⟨B2,0,0⟩:Ins)]).map rIns) [])] (a2 (a1 (show(ow4.map rIns:List (List SV))++[[.str B1,.int .i64 9,.int .i64 0],[.str B2,.int .i64 0,.int .i64 0]]=(ow4++[(⟨B1,9,0⟩:Ins),(⟨B2,0,0⟩:Ins)]).map rIns by exact(List.map_append (f:=rIns) (l₁:=ow4) (l₂:=[(⟨B1,9,0⟩:Ins),(⟨B2,0,0⟩:Ins)])).symm)) (a2 (a1 (show([[.str B1,.int .i64 9,.int .i64 0],[.str B2,.int .i64 0,.int .i64 0]]:List (List SV))≠[]by simp)) (ap (a:=(ow4.map rIns).length+([[.str B1,.int .i64 9,.int .i64 0],[.str B2,.int .i64 0,.int .i64 0]]:List (List SV)).length) (b:=32) (by simp only[List.length_map,List.length_cons,List.length_nil,maxLen];first|(have h40:=(show OutOk _ by assumption).len;omega)|omega) (by simp only[List.length_map,List.length_cons,List.length_nil,maxLen];first|(have h40:=(show OutOk _ by assumption).len;omega)|omega)))) ?_
      refine exn [12] [(28,.lf (.ap waN 0 67 3 ((ow4++[(⟨B1,9,0⟩:Ins),(⟨B2,0,0⟩:Ins)]).map rIns)))] ?_
      exact rtU waN rfl nokp (⟨_,_,by omega,how4.app2 ⟨by decide,by decide,by decide⟩ ⟨by decide,by decide,by decide⟩,rfl,rfl⟩)
    ·refine a5 (a7 (exn [2,4,6,22,23,24,25,30,222] [(250,.bool (!bw4))] ?_))
     refine ecd (fun h20=> ?_) fun h20=> ?_
     ·have h20:bw4=false:=o4 h20
      refine exed [250] [(12,.lf (.ap waN 0 67 3 ((ow4++[(⟨B1,9,0⟩:Ins),(⟨B2,0,0⟩:Ins)]).map rIns)))] [(3,.im),(4,.apw waN ((ow4++[(⟨B1,9,0⟩:Ins),(⟨B2,0,0⟩:Ins)]).map rIns) [])] (a2 (a1 (show(ow4.map rIns:List (List SV))++[[.str B1,.int .i64 9,.int .i64 0],[.str B2,.int .i64 0,.int .i64 0]]=(ow4++[(⟨B1,9,0⟩:Ins),(⟨B2,0,0⟩:Ins)]).map rIns by exact(List.map_append (f:=rIns) (l₁:=ow4) (l₂:=[(⟨B1,9,0⟩:Ins),(⟨B2,0,0⟩:Ins)])).symm)) (a2 (a1 (show([[.str B1,.int .i64 9,.int .i64 0],[.str B2,.int .i64 0,.int .i64 0]]:List (List SV))≠[]by simp)) (ap (a:=(ow4.map rIns).length+([[.str B1,.int .i64 9,.int .i64 0],[.str B2,.int .i64 0,.int .i64 0]]:List (List SV)).length) (b:=32) (by simp only[List.length_map,List.length_cons,List.length_nil,maxLen];first|(have h40:=(show OutOk _ by assumption).len;omega)|omega) (by simp only[List.length_map,List.length_cons,List.length_nil,maxLen];first|(have h40:=(show OutOk _ by assumption).len;omega)|omega)))) ?_
      refine exn [12] [(28,.lf (.ap waN 0 67 3 ((ow4++[(⟨B1,9,0⟩:Ins),(⟨B2,0,0⟩:Ins)]).map rIns)))] ?_
      exact rtU waN rfl nokp (⟨_,_,by omega,how4.app2 ⟨by decide,by decide,by decide⟩ ⟨by decide,by decide,by decide⟩,rfl,rfl⟩)
     ·have h20:bw4=true:=o3 h20
      refine a5 (exn [12,250] [(28,.lf (.ap waN 0 67 3 (ow4.map rIns)))] ?_)
      exact rtU waN rfl nokp (⟨_,_,by omega,how4.code,rfl,rfl⟩)
 ·have g1p:=g1
  refine exd [] [(48,.bool false)] [(0,.slot (.bool false))] (kB g1) ?_
  refine ecF rfl ?_
  refine d9 (a7 (exn [32,48] [(38,.int 0)] ?_))
  refine a9 (eld (fun l0 n L=>∃(kw5:Nat) (bw5:Bool) (sw5:List Mk) (pw5:List Mk) (ow5:List Ins),L=upG [] [(12,.lf (.ap waN 0 67 3 (ow5.map rIns))),(25,.cell 12 [.m 2 sw5 rMk,.m 2 pw5 rMk]),(30,.bool bw5),(38,.int (kw5:Int))] l0∧n=f.rets.length-kw5∧(kw5≤f.rets.length∧J7 ks np sw5 pw5∧OutOk ow5)) _ ⟨0,bw1,sw1,pw1,ow1,rfl,rfl,⟨by omega,hIw1,how1⟩⟩ ?_)
  rintro n L ⟨kw5,bw5,sw5,pw5,ow5,rfl,rfl,hP5⟩
  have hkw5:=hP5.1
  have hIw5:=hP5.2.1
  have how5:=hP5.2.2
  refine a7 ?_
  rcases bft (decide ((((kw5:Nat):Int):Int)<((f.rets.length:Nat):Int)))with g8|g8
  ·have g8p:=d5 g8
   refine exd [] [(184,.bool bw5)] [(3,.slot (.int (f.rets.length:Int))),(4,.slot (.bool true))] (a2 (lnl f.rets rS) (kB g8)) ?_
   refine ecd (fun h22=> ?_) fun h22=> ?_
   ·refine a5 ?_
    refine a7 ?_
    refine a9 ?_
    obtain⟨_,_,⟨rfl,st7,pls7,out4,b7,hJ7,hO7,rfl⟩,cc7⟩:=a4K sh ks m f np hC hK _ (nth f.rets kw5) (Nat.le_refl _) (hR _ (c6 (by omega))) sw5 pw5 hIw5 ow5 how5
    refine exed [184] [(12,.lf (.ap waN 0 67 3 (out4.map rIns))),(25,.cell 12 [.m 2 st7 rMk,.m 2 pls7 rMk]),(30,.bool b7)] [(9,.row (rS (nth f.rets kw5))),(11,.cu none (.tup [.agg [.m 2 st7 rMk,.m 2 pls7 rMk],.lf (.ap waN 0 67 3 (out4.map rIns)),.lf (.y b7)]) waN none [])] (a2 (ixn rS f.rets kw5) (cl3 tx49 cc7)) ?_
    exact exed [] [(38,.int (↑(kw5+1):Int))] [(1,.slot (.int (↑(kw5+1):Int)))] (wI1 kw5) (⟨_,by omega,(kw5+1),b7,st7,pls7,out4,rfl,rfl,⟨by omega,hJ7,hO7⟩⟩)
   ·have h22r:=h22
    refine d9 (a7 (exn [38,184] [(222,.bool bw5)] ?_))
    refine ecF h22r ?_
    refine a5 (a7 (exn [2,4,6,22,23,24,25,30,222] [(250,.bool (!bw5))] ?_))
    refine ecd (fun h23=> ?_) fun h23=> ?_
    ·have h23:bw5=false:=o4 h23
     refine exed [250] [(12,.lf (.ap waN 0 67 3 ((ow5++[(⟨B1,9,0⟩:Ins),(⟨B2,0,0⟩:Ins)]).map rIns)))] [(3,.im),(4,.apw waN ((ow5++[(⟨B1,9,0⟩:Ins),(⟨B2,0,0⟩:Ins)]).map rIns) [])] (a2 (a1 (show(ow5.map rIns:List (List SV))++[[.str B1,.int .i64 9,.int .i64 0],[.str B2,.int .i64 0,.int .i64 0]]=(ow5++[(⟨B1,9,0⟩:Ins),(⟨B2,0,0⟩:Ins)]).map rIns by exact(List.map_append (f:=rIns) (l₁:=ow5) (l₂:=[(⟨B1,9,0⟩:Ins),(⟨B2,0,0⟩:Ins)])).symm)) (a2 (a1 (show([[.str B1,.int .i64 9,.int .i64 0],[.str B2,.int .i64 0,.int .i64 0]]:List (List SV))≠[]by simp)) (ap (a:=(ow5.map rIns).length+([[.str B1,.int .i64 9,.int .i64 0],[.str B2,.int .i64 0,.int .i64 0]]:List (List SV)).length) (b:=32) (by simp only[List.length_map,List.length_cons,List.length_nil,maxLen];first|(have h40:=(show OutOk _ by assumption).len;omega)|omega) (by simp only[List.length_map,List.length_cons,List.length_nil,maxLen];first|(have h40:=(show OutOk _ by assumption).len;omega)|omega)))) ?_
     refine exn [12] [(28,.lf (.ap waN 0 67 3 ((ow5++[(⟨B1,9,0⟩:Ins),(⟨B2,0,0⟩:Ins)]).map rIns)))] ?_
     exact rtU waN rfl nokp (⟨_,_,by omega,how5.app2 ⟨by decide,by decide,by decide⟩ ⟨by decide,by decide,by decide⟩,rfl,rfl⟩)
    ·have h23:bw5=true:=o3 h23
     refine a5 (exn [12,250] [(28,.lf (.ap waN 0 67 3 (ow5.map rIns)))] ?_)
     exact rtU waN rfl nokp (⟨_,_,by omega,how5.code,rfl,rfl⟩)
  ·have g8p:=i5 g8
   refine exd [] [(184,.bool false)] [(3,.slot (.int (f.rets.length:Int))),(4,.slot (.bool false))] (a2 (lnl f.rets rS) (kB g8)) ?_
   refine ecF rfl ?_
   refine d9 (a7 (exn [38,184] [(222,.bool bw5)] ?_))
   refine ecd (fun h25=> ?_) fun h25=> ?_
   ·obtain⟨b8,st8,pls8,hT4,hF4⟩:=do_x sh ks m f np hC sw5 pw5 hIw5 B14 0 0 (by omega) (by first|decide|assumption) ow5 how5
    rcases bft b8 with g9|g9
    ·have g9p:=g9
     obtain⟨⟨hJ8,hO8⟩,cc8,cc8k⟩:=hT4 g9
     refine exed [2,4,6,22,23,24,25,222] [(12,.lf (.ap waN 0 67 3 ((ow5++[(⟨B14,((0:Nat):Int),((0:Nat):Int)⟩:Ins)]).map rIns))),(30,.bool true)] [(7,.cu none (.tup [.agg [.m 2 st8 rMk,.m 2 pls8 rMk],.lf (.ap waN 0 67 3 ((ow5++[(⟨B14,((0:Nat):Int),((0:Nat):Int)⟩:Ins)]).map rIns)),.lf (.y true)]) waN none [])] (cl3 tx48 cc8) ?_
     refine a7 (exn [30] [(250,.bool false)] ?_)
     refine ecF rfl ?_
     refine a5 (exn [12,250] [(28,.lf (.ap waN 0 67 3 ((ow5++[(⟨B14,((0:Nat):Int),((0:Nat):Int)⟩:Ins)]).map rIns)))] ?_)
     exact rtU waN rfl nokp (⟨_,_,by omega,hO8.code,rfl,rfl⟩)
    ·have g9p:=g9
     have cc8:=(hF4 g9).1
     refine exed [2,4,6,22,23,24,25,222] [(30,.bool false)] [(7,.cu none (.tup [.agg [.m 2 sw5 rMk,.m 2 pw5 rMk],.lf (.ap waN 0 67 3 (ow5.map rIns)),.lf (.y false)]) waN none [])] (cl3 tx48 cc8) ?_
     refine a7 (exn [30] [(250,.bool true)] ?_)
     refine ecT rfl ?_
     refine exed [250] [(12,.lf (.ap waN 0 67 3 ((ow5++[(⟨B1,9,0⟩:Ins),(⟨B2,0,0⟩:Ins)]).map rIns)))] [(3,.im),(4,.apw waN ((ow5++[(⟨B1,9,0⟩:Ins),(⟨B2,0,0⟩:Ins)]).map rIns) [])] (a2 (a1 (show(ow5.map rIns:List (List SV))++[[.str B1,.int .i64 9,.int .i64 0],[.str B2,.int .i64 0,.int .i64 0]]=(ow5++[(⟨B1,9,0⟩:Ins),(⟨B2,0,0⟩:Ins)]).map rIns by exact(List.map_append (f:=rIns) (l₁:=ow5) (l₂:=[(⟨B1,9,0⟩:Ins),(⟨B2,0,0⟩:Ins)])).symm)) (a2 (a1 (show([[.str B1,.int .i64 9,.int .i64 0],[.str B2,.int .i64 0,.int .i64 0]]:List (List SV))≠[]by simp)) (ap (a:=(ow5.map rIns).length+([[.str B1,.int .i64 9,.int .i64 0],[.str B2,.int .i64 0,.int .i64 0]]:List (List SV)).length) (b:=32) (by simp only[List.length_map,List.length_cons,List.length_nil,maxLen];first|(have h40:=(show OutOk _ by assumption).len;omega)|omega) (by simp only[List.length_map,List.length_cons,List.length_nil,maxLen];first|(have h40:=(show OutOk _ by assumption).len;omega)|omega)))) ?_
     refine exn [12] [(28,.lf (.ap waN 0 67 3 ((ow5++[(⟨B1,9,0⟩:Ins),(⟨B2,0,0⟩:Ins)]).map rIns)))] ?_
     exact rtU waN rfl nokp (⟨_,_,by omega,how5.app2 ⟨by decide,by decide,by decide⟩ ⟨by decide,by decide,by decide⟩,rfl,rfl⟩)
   ·refine a5 (a7 (exn [2,4,6,22,23,24,25,30,222] [(250,.bool (!bw5))] ?_))
    refine ecd (fun h28=> ?_) fun h28=> ?_
    ·have h28:bw5=false:=o4 h28
     refine exed [250] [(12,.lf (.ap waN 0 67 3 ((ow5++[(⟨B1,9,0⟩:Ins),(⟨B2,0,0⟩:Ins)]).map rIns)))] [(3,.im),(4,.apw waN ((ow5++[(⟨B1,9,0⟩:Ins),(⟨B2,0,0⟩:Ins)]).map rIns) [])] (a2 (a1 (show(ow5.map rIns:List (List SV))++[[.str B1,.int .i64 9,.int .i64 0],[.str B2,.int .i64 0,.int .i64 0]]=(ow5++[(⟨B1,9,0⟩:Ins),(⟨B2,0,0⟩:Ins)]).map rIns by exact(List.map_append (f:=rIns) (l₁:=ow5) (l₂:=[(⟨B1,9,0⟩:Ins),(⟨B2,0,0⟩:Ins)])).symm)) (a2 (a1 (show([[.str B1,.int .i64 9,.int .i64 0],[.str B2,.int .i64 0,.int .i64 0]]:List (List SV))≠[]by simp)) (ap (a:=(ow5.map rIns).length+([[.str B1,.int .i64 9,.int .i64 0],[.str B2,.int .i64 0,.int .i64 0]]:List (List SV)).length) (b:=32) (by simp only[List.length_map,List.length_cons,List.length_nil,maxLen];first|(have h40:=(show OutOk _ by assumption).len;omega)|omega) (by simp only[List.length_map,List.length_cons,List.length_nil,maxLen];first|(have h40:=(show OutOk _ by assumption).len;omega)|omega)))) ?_
     refine exn [12] [(28,.lf (.ap waN 0 67 3 ((ow5++[(⟨B1,9,0⟩:Ins),(⟨B2,0,0⟩:Ins)]).map rIns)))] ?_
     exact rtU waN rfl nokp (⟨_,_,by omega,how5.app2 ⟨by decide,by decide,by decide⟩ ⟨by decide,by decide,by decide⟩,rfl,rfl⟩)
    ·have h28:bw5=true:=o3 h28
     refine a5 (exn [12,250] [(28,.lf (.ap waN 0 67 3 (ow5.map rIns)))] ?_)
     exact rtU waN rfl nokp (⟨_,_,by omega,how5.code,rfl,rfl⟩)
theorem a5B (b:List UInt8)(q:Nat)(hb:b.length≤2000)(hq:q≤600000000000)(sh:List Mod)(ks:Kinds)(m:Nat)(f:Fn)(np:Nat)(hC:C7 sh ks m f np)(hK:Own7 ks m)(hks:ks=kindsOf sh)(hS:smallS sh)(hR:∀u∈f.rets,Valid ks u)(hA:∀u∈f.args,Valid ks u∧u.size≤4):
 ∃o r,(fun o s=>∃q' l,q'≤q+1000∧ListOk l∧o= .cell obN [.im true (.sl 1 (b.map rB)),.im true (.int .i64 ((q':Nat):Int))]∧s= .lf (.im true (.sl 3 (l.map rIns)))) o r∧CallM Try.prog 24 [.lf (.im false (.sl 3 (sh.map rMod))),.lf (.im true (.int .i64 ((m:Nat):Int))),.agg [.im true (.int .i64 f.seen),.im true (.sl 1 (f.args.map rS)),.im true (.sl 1 (f.rets.map rS)),.im true (.sl 1 (f.locals.map rS)),.im true (.sl 1 (f.takes.map rI)),.im true (.sl 3 (f.code.map rIns))]] (.cell obN [.im true (.sl 1 (b.map rB)),.im true (.int .i64 ((q:Nat):Int))]) o r:=by
 refine CallME (fn:=Try.f24) TTok mixed Try.func24 rfl rfl rfl rfl rfl ?_
 have hsm:=hC.sml
 have hnpc:=hC.hnp
 have hm:=hC.hm
 refine ex [(0,.lf (.ptr obN 0)),(1,rdr b q),(2,.lf (.l 3 sh rMod)),(4,.int (m:Int)),(14,.lf (.ptr 7 0)),(15,.cell 7 [.z f.seen,.m 1 f.args rS,.m 1 f.rets rS,.m 1 f.locals rS,.m 1 f.takes rI,.m 3 f.code rIns])] [] AllP.nil (by kernel_rfl) ?_
 refine exd [] [(18,.lf (.m 1 (kindsOf sh) rRecs))] [(1,.ret (.lf (.m 1 (kindsOf sh) rRecs)))] (cl tx22 (A4 sh (by assumption))) ?_
 rw[←hks]
 obtain⟨_,⟨pm1,hp1,hp2,rfl⟩,cc1⟩:=a6U ks f hsm.1 hsm.2.2.1 hA
 have hJ1:J7 ks np [] pm1:=J7.first hp2 (by omega)
 refine exd [] [(18,.lf (.m 1 ks rRecs)),(20,.lf (.ptr 10 0)),(21,.cell 10 [.m 2 ([]:List Mk) rMk,.m 2 pm1 rMk])] [(1,.ret (.agg [.m 2 ([]:List Mk) rMk,.m 2 pm1 rMk]))] (cl tx33 cc1) ?_
 refine exn [] [(22,.lf (.u 21 0 67 3 []))] ?_
 refine a7 (etd [] [(22,.lf (.ap 21 0 67 3 (([]:List Ins).map rIns)))] (fun E=>a7f 11 rfl) ?_)
 obtain⟨_,_,⟨x1,hx1,rfl,rfl⟩,cc2⟩:=e7 b q 50 hb (by omega) (by omega)
 refine exd [] [(1,rdr b (q+1)),(24,.int ((6+x1:Nat):Int))] [(1,.mth (rdl b (q+1)) [] (.int (x1:Int))),(2,.slot (.int ((6+x1:Nat):Int)))] (a2 (cl2 tx19 cc2) (wI (a:=6+(x1:Int)) (b:=((6+x1:Nat):Int)) (by first|omega|(simp only[List.length_append,List.length_cons,List.length_nil];omega)) (by first|omega|(simp only[List.length_append,List.length_cons,List.length_nil];omega)) (by first|omega|(simp only[List.length_append,List.length_cons,List.length_nil];omega)))) ?_
 refine a9 (eld (fun l0 n L=>∃(tw1:Nat) (sw1:List Mk) (pw1:List Mk) (ow1:List Ins) (qw1:Nat),L=upG [] [(1,rdr b qw1),(21,.cell 10 [.m 2 sw1 rMk,.m 2 pw1 rMk]),(22,.lf (.ap 21 0 67 3 (ow1.map rIns))),(24,.int (tw1:Int))] l0∧n=tw1+1∧(tw1≤60∧J7 ks np sw1 pw1∧OutOk ow1∧qw1+10*tw1≤q+601∧ow1.length≤24)) _ ⟨6+x1,([]:List Mk),pm1,([]:List Ins),q+1,rfl,rfl,⟨by omega,hJ1,OutOk.nil,by omega,by simp⟩⟩ ?_)
 rintro n L ⟨tw1,sw1,pw1,ow1,qw1,rfl,rfl,hP1⟩
 have htw1:=hP1.1
 have hIw1:=hP1.2.1
 have how1:=hP1.2.2.1
 have hqw1:=hP1.2.2.2.1
 have how1l:=hP1.2.2.2.2
 have hnpw1:=hIw1.np
 refine a7 ?_
 rcases bft (decide ((((tw1:Nat):Int):Int)>0))with g1|g1
 ·have g1p:=d5 g1
  refine exd [] [(62,.bool (decide ((ow1.length:Int)<20)))] [(1,.slot (.bool true)),(4,.slot (.int (ow1.length:Int)))] (a2 (kB g1) (lnl ow1 rIns)) ?_
  refine ecp (fun h1=> ?_) fun h1=> ?_
  ·refine a5 ?_
   refine a7 ?_
   refine a9 ?_
   obtain⟨_,_,⟨q1,op1,ia1,ib1,hq1,hos1,hia1,hib1,rfl,rfl⟩,cc3⟩:=a6C b qw1 hb (by omega)
   refine exd [62] [(1,rdr b q1),(26,.lf (.ptr 13 0)),(27,.cell 13 [.q op1,.z (ia1:Int),.z (ib1:Int)])] [(1,.mth (rdl b q1) [] (.agg [.q op1,.z (ia1:Int),.z (ib1:Int)]))] (cl2 tx34 cc3) ?_
   refine a7 ?_
   rcases bft (op1.toList==B41.toList)with g2|g2
   ·have g2p:=g2
    refine exd [] [(106,.bool true)] [(2,.slot (.bool true))] (kB g2) ?_
    refine ecT rfl ?_
    exact d9 (exed [26,27,106] [(24,.int ((tw1-1:Nat):Int))] [(1,.slot (.int ((tw1-1:Nat):Int)))] (wIo ((tw1:Int)-1) ((tw1-1:Nat):Int)) (⟨_,by omega,(tw1-1),sw1,pw1,ow1,q1,rfl,rfl,⟨by omega,hIw1,how1,by omega,by first|omega|(simp only[List.length_append,List.length_cons,List.length_nil]at*;omega)⟩⟩))
   ·have g2p:=g2
    rcases bft (op1.toList==B12.toList)with g3|g3
    ·have g3p:=g3
     refine exd [] [(106,.bool true)] [(2,.slot (.bool false)),(6,.slot (.bool true))] (a2 (kB g2) (kB g3)) ?_
     refine ecT rfl ?_
     exact d9 (exed [26,27,106] [(24,.int ((tw1-1:Nat):Int))] [(1,.slot (.int ((tw1-1:Nat):Int)))] (wIo ((tw1:Int)-1) ((tw1-1:Nat):Int)) (⟨_,by omega,(tw1-1),sw1,pw1,ow1,q1,rfl,rfl,⟨by omega,hIw1,how1,by omega,by first|omega|(simp only[List.length_append,List.length_cons,List.length_nil]at*;omega)⟩⟩))
    ·have g3p:=g3
     rcases bft (op1.toList==B14.toList)with g4|g4
     ·have g4p:=g4
      refine exd [] [(106,.bool true)] [(2,.slot (.bool false)),(6,.slot (.bool false)),(11,.slot (.bool true))] (a2 (kB g2) (a2 (kB g3) (kB g4))) ?_
      refine ecT rfl ?_
      exact d9 (exed [26,27,106] [(24,.int ((tw1-1:Nat):Int))] [(1,.slot (.int ((tw1-1:Nat):Int)))] (wIo ((tw1:Int)-1) ((tw1-1:Nat):Int)) (⟨_,by omega,(tw1-1),sw1,pw1,ow1,q1,rfl,rfl,⟨by omega,hIw1,how1,by omega,by first|omega|(simp only[List.length_append,List.length_cons,List.length_nil]at*;omega)⟩⟩))
     ·have g4p:=g4
      refine exd [] [(106,.bool (op1.toList==B2.toList))] [(2,.slot (.bool false)),(6,.slot (.bool false)),(11,.slot (.bool false))] (a2 (kB g2) (a2 (kB g3) (kB g4))) ?_
      refine ecd (fun h5=> ?_) fun h5=> ?_
      ·exact d9 (exed [26,27,106] [(24,.int ((tw1-1:Nat):Int))] [(1,.slot (.int ((tw1-1:Nat):Int)))] (wIo ((tw1:Int)-1) ((tw1-1:Nat):Int)) (⟨_,by omega,(tw1-1),sw1,pw1,ow1,q1,rfl,rfl,⟨by omega,hIw1,how1,by omega,by first|omega|(simp only[List.length_append,List.length_cons,List.length_nil]at*;omega)⟩⟩))
      ·refine a5 ?_
       obtain⟨_,⟨s1,hs1,rfl⟩,cc4⟩:=a4U sh ks m f np 100 sw1 pw1 hIw1 op1 ia1 ib1 (by omega) hC (by omega)
       refine exd [106] [(28,.lf (.ptr 14 0)),(29,.cell 14 [.m 2 s1.st rMk,.m 2 s1.pls rMk]),(30,.int s1.code)] [(6,.ret (.tup [.agg [.m 2 s1.st rMk,.m 2 s1.pls rMk],.lf (.z s1.code)]))] (cl tx35 cc4) ?_
       refine a7 (exn [30] [(130,.bool (decide ((s1.code:Int)=0)))] ?_)
       refine ecp (fun h6=> ?_) fun h6=> ?_
       ·refine exd [26,27,130] [(22,.lf (.ap 21 0 67 3 ((ow1++[(⟨op1,(ia1:Int),(ib1:Int)⟩:Ins)]).map rIns)))] [(2,.im),(3,.apw 21 ((ow1++[(⟨op1,(ia1:Int),(ib1:Int)⟩:Ins)]).map rIns) [])] (a2 (a1 (show(ow1.map rIns:List (List SV))++[[.str op1,.int .i64 (ia1:Int),.int .i64 (ib1:Int)]]=(ow1++[(⟨op1,(ia1:Int),(ib1:Int)⟩:Ins)]).map rIns by exact(List.map_append (f:=rIns) (l₁:=ow1) (l₂:=[(⟨op1,(ia1:Int),(ib1:Int)⟩:Ins)])).symm)) (a2 (a1 (show([[.str op1,.int .i64 (ia1:Int),.int .i64 (ib1:Int)]]:List (List SV))≠[]by simp)) (ap (a:=(ow1.map rIns).length+([[.str op1,.int .i64 (ia1:Int),.int .i64 (ib1:Int)]]:List (List SV)).length) (b:=32) (by simp only[List.length_map,List.length_append,List.length_cons,List.length_nil,maxLen]at*;omega) (by simp only[List.length_map,List.length_append,List.length_cons,List.length_nil,maxLen]at*;omega)))) ?_
        refine exed [28,29] [(21,.cell 10 [.m 2 s1.st rMk,.m 2 s1.pls rMk])] [] AllP.nil ?_
        refine exd [] [(32,.int (s1.st.length:Int))] [(2,.slot (.int (s1.st.length:Int)))] (lnl s1.st rMk) ?_
        rcases bft (decide ((((s1.st.length:Nat):Int):Int)>0))with g5|g5
        ·have g5p:=d5 g5
         rcases bft (((nth s1.st (s1.st.length-1)).type).toList==B3.toList)with g6|g6
         ·have g6p:=g6
          obtain⟨_,_,⟨x2,hx2,rfl,rfl⟩,cc5⟩:=e7 b q1 4 hb (by omega) (by omega)
          rcases bft (decide ((((x2:Nat):Int):Int)=0))with g7|g7
          ·have g7p:=d5 g7
           refine exd [] [(1,rdr b (q1+1)),(190,.bool (decide (((((ow1++[(⟨op1,(ia1:Int),(ib1:Int)⟩:Ins)]).length:Nat):Int):Int)<17)))] [(1,.slot (.bool true)),(6,.slot (.int ((s1.st.length-1:Nat):Int))),(7,.row (rMk (nth s1.st (s1.st.length-1)))),(10,.slot (.bool true)),(14,.mth (rdl b (q1+1)) [] (.int (x2:Int))),(15,.slot (.bool true)),(19,.slot (.int (((ow1++[(⟨op1,(ia1:Int),(ib1:Int)⟩:Ins)]).length:Nat):Int)))] (a2 (kB g5) (a2 (wIo ((s1.st.length:Int)-1) ((s1.st.length-1:Nat):Int)) (a2 (ixn rMk s1.st (s1.st.length-1)) (a2 (kB g6) (a2 (cl2 tx19 cc5) (a2 (kB g7) (lnl (ow1++[(⟨op1,(ia1:Int),(ib1:Int)⟩:Ins)]) rIns))))))) ?_
           refine ecp (fun h7=> ?_) fun h7=> ?_
           ·obtain⟨_,_,⟨x3,hx3,rfl,rfl⟩,cc6⟩:=e7 b (q1+1) 5 hb (by omega) (by omega)
            refine exd [190] [(1,rdr b (q1+1+1)),(22,.lf (.ap 21 0 67 3 (((ow1++[(⟨op1,(ia1:Int),(ib1:Int)⟩:Ins)])++[(⟨B12,((((ow1++[(⟨op1,(ia1:Int),(ib1:Int)⟩:Ins)]).length)+3:Nat):Int),0⟩:Ins),(⟨B1,(x3:Int),0⟩:Ins),(⟨B2,0,0⟩:Ins)]).map rIns)))] [(2,.slot (.int (((ow1++[(⟨op1,(ia1:Int),(ib1:Int)⟩:Ins)]).length:Nat):Int))),(3,.slot (.int ((((ow1++[(⟨op1,(ia1:Int),(ib1:Int)⟩:Ins)]).length)+3:Nat):Int))),(6,.mth (rdl b (q1+1+1)) [] (.int (x3:Int))),(9,.im),(10,.apw 21 (((ow1++[(⟨op1,(ia1:Int),(ib1:Int)⟩:Ins)])++[(⟨B12,((((ow1++[(⟨op1,(ia1:Int),(ib1:Int)⟩:Ins)]).length)+3:Nat):Int),0⟩:Ins),(⟨B1,(x3:Int),0⟩:Ins),(⟨B2,0,0⟩:Ins)]).map rIns) [])] (a2 (lnl (ow1++[(⟨op1,(ia1:Int),(ib1:Int)⟩:Ins)]) rIns) (a2 (wI (a:=(((ow1++[(⟨op1,(ia1:Int),(ib1:Int)⟩:Ins)]).length:Nat):Int)+3) (b:=((((ow1++[(⟨op1,(ia1:Int),(ib1:Int)⟩:Ins)]).length)+3:Nat):Int)) (by first|omega|(simp only[List.length_append,List.length_cons,List.length_nil];omega)) (by first|omega|(simp only[List.length_append,List.length_cons,List.length_nil];omega)) (by first|omega|(simp only[List.length_append,List.length_cons,List.length_nil];omega))) (a2 (cl2 tx19 cc6) (a2 (a1 (show((ow1++[(⟨op1,(ia1:Int),(ib1:Int)⟩:Ins)]).map rIns:List (List SV))++[[.str B12,.int .i64 ((((ow1++[(⟨op1,(ia1:Int),(ib1:Int)⟩:Ins)]).length)+3:Nat):Int),.int .i64 0],[.str B1,.int .i64 (x3:Int),.int .i64 0],[.str B2,.int .i64 0,.int .i64 0]]=((ow1++[(⟨op1,(ia1:Int),(ib1:Int)⟩:Ins)])++[(⟨B12,((((ow1++[(⟨op1,(ia1:Int),(ib1:Int)⟩:Ins)]).length)+3:Nat):Int),0⟩:Ins),(⟨B1,(x3:Int),0⟩:Ins),(⟨B2,0,0⟩:Ins)]).map rIns by exact(List.map_append (f:=rIns) (l₁:=(ow1++[(⟨op1,(ia1:Int),(ib1:Int)⟩:Ins)])) (l₂:=[(⟨B12,((((ow1++[(⟨op1,(ia1:Int),(ib1:Int)⟩:Ins)]).length)+3:Nat):Int),0⟩:Ins),(⟨B1,(x3:Int),0⟩:Ins),(⟨B2,0,0⟩:Ins)])).symm)) (a2 (a1 (show([[.str B12,.int .i64 ((((ow1++[(⟨op1,(ia1:Int),(ib1:Int)⟩:Ins)]).length)+3:Nat):Int),.int .i64 0],[.str B1,.int .i64 (x3:Int),.int .i64 0],[.str B2,.int .i64 0,.int .i64 0]]:List (List SV))≠[]by simp)) (ap (a:=((ow1++[(⟨op1,(ia1:Int),(ib1:Int)⟩:Ins)]).map rIns:List (List SV)).length+([[.str B12,.int .i64 ((((ow1++[(⟨op1,(ia1:Int),(ib1:Int)⟩:Ins)]).length)+3:Nat):Int),.int .i64 0],[.str B1,.int .i64 (x3:Int),.int .i64 0],[.str B2,.int .i64 0,.int .i64 0]]:List (List SV)).length) (b:=32) (by simp only[List.length_map,List.length_append,List.length_cons,List.length_nil,maxLen]at*;omega) (by simp only[List.length_map,List.length_append,List.length_cons,List.length_nil,maxLen]at*;omega))))))) ?_
            refine exed [32] [(21,.cell 10 [.m 2 (s1.st.take (s1.st.length-1)) rMk,.m 2 s1.pls rMk])] [(3,.slot (.int ((s1.st.length-1:Nat):Int))),(4,.cut 0 (s1.st.length-1) (.lf (.m 2 (s1.st.take (s1.st.length-1)) rMk)))] (a2 (wIo ((s1.st.length:Int)-1) ((s1.st.length-1:Nat):Int)) (cutTo (f:=rMk) (l:=s1.st) (sz:=2) (h:=s1.st.length-1) (hi:=((s1.st.length-1:Nat):Int)) rfl (by omega))) ?_
            exact exed [] [(24,.int ((tw1-1:Nat):Int))] [(1,.slot (.int ((tw1-1:Nat):Int)))] (wIo ((tw1:Int)-1) ((tw1-1:Nat):Int)) (⟨_,by omega,(tw1-1),(s1.st.take (s1.st.length-1)),s1.pls,((ow1++[(⟨op1,(ia1:Int),(ib1:Int)⟩:Ins)])++[(⟨B12,((((ow1++[(⟨op1,(ia1:Int),(ib1:Int)⟩:Ins)]).length)+3:Nat):Int),0⟩:Ins),(⟨B1,(x3:Int),0⟩:Ins),(⟨B2,0,0⟩:Ins)]),(q1+1+1),rfl,rfl,⟨by omega,(J7.pop (J7.of hs1 (by assumption)) (s1.st.length-1)),(OutOk.app3 (OutOk.app1 how1 (by omega) (by assumption) (by omega)) (by first|omega|(simp only[List.length_append,List.length_cons,List.length_nil]at*;omega)) ⟨show B12.size≤8 by decide,by simp only[List.length_append,List.length_cons,List.length_nil];omega,by simp only;omega⟩ ⟨show B1.size≤8 by decide,by simp only;omega,by simp only;omega⟩ ⟨by decide,by decide,by decide⟩),by omega,by first|omega|(simp only[List.length_append,List.length_cons,List.length_nil]at*;omega)⟩⟩)
           ·exact a5 (exed [32,190] [(24,.int ((tw1-1:Nat):Int))] [(1,.slot (.int ((tw1-1:Nat):Int)))] (wIo ((tw1:Int)-1) ((tw1-1:Nat):Int)) (⟨_,by omega,(tw1-1),s1.st,s1.pls,(ow1++[(⟨op1,(ia1:Int),(ib1:Int)⟩:Ins)]),(q1+1),rfl,rfl,⟨by omega,(J7.of hs1 (by assumption)),(OutOk.app1 how1 (by omega) (by assumption) (by omega)),by omega,by first|omega|(simp only[List.length_append,List.length_cons,List.length_nil]at*;omega)⟩⟩))
          ·have g7p:=i5 g7
           refine exd [] [(1,rdr b (q1+1)),(190,.bool false)] [(1,.slot (.bool true)),(6,.slot (.int ((s1.st.length-1:Nat):Int))),(7,.row (rMk (nth s1.st (s1.st.length-1)))),(10,.slot (.bool true)),(14,.mth (rdl b (q1+1)) [] (.int (x2:Int))),(15,.slot (.bool false))] (a2 (kB g5) (a2 (wIo ((s1.st.length:Int)-1) ((s1.st.length-1:Nat):Int)) (a2 (ixn rMk s1.st (s1.st.length-1)) (a2 (kB g6) (a2 (cl2 tx19 cc5) (kB g7)))))) ?_
           refine ecF rfl ?_
           exact a5 (exed [32,190] [(24,.int ((tw1-1:Nat):Int))] [(1,.slot (.int ((tw1-1:Nat):Int)))] (wIo ((tw1:Int)-1) ((tw1-1:Nat):Int)) (⟨_,by omega,(tw1-1),s1.st,s1.pls,(ow1++[(⟨op1,(ia1:Int),(ib1:Int)⟩:Ins)]),(q1+1),rfl,rfl,⟨by omega,(J7.of hs1 (by assumption)),(OutOk.app1 how1 (by omega) (by assumption) (by omega)),by omega,by first|omega|(simp only[List.length_append,List.length_cons,List.length_nil]at*;omega)⟩⟩))
         ·have g6p:=g6
          refine exd [] [(190,.bool false)] [(1,.slot (.bool true)),(6,.slot (.int ((s1.st.length-1:Nat):Int))),(7,.row (rMk (nth s1.st (s1.st.length-1)))),(10,.slot (.bool false))] (a2 (kB g5) (a2 (wIo ((s1.st.length:Int)-1) ((s1.st.length-1:Nat):Int)) (a2 (ixn rMk s1.st (s1.st.length-1)) (kB g6)))) ?_
          refine ecF rfl ?_
          exact a5 (exed [32,190] [(24,.int ((tw1-1:Nat):Int))] [(1,.slot (.int ((tw1-1:Nat):Int)))] (wIo ((tw1:Int)-1) ((tw1-1:Nat):Int)) (⟨_,by omega,(tw1-1),s1.st,s1.pls,(ow1++[(⟨op1,(ia1:Int),(ib1:Int)⟩:Ins)]),q1,rfl,rfl,⟨by omega,(J7.of hs1 (by assumption)),(OutOk.app1 how1 (by omega) (by assumption) (by omega)),by omega,by first|omega|(simp only[List.length_append,List.length_cons,List.length_nil]at*;omega)⟩⟩))
        ·have g5p:=i5 g5
         refine exd [] [(190,.bool false)] [(1,.slot (.bool false))] (kB g5) ?_
         refine ecF rfl ?_
         exact a5 (exed [32,190] [(24,.int ((tw1-1:Nat):Int))] [(1,.slot (.int ((tw1-1:Nat):Int)))] (wIo ((tw1:Int)-1) ((tw1-1:Nat):Int)) (⟨_,by omega,(tw1-1),s1.st,s1.pls,(ow1++[(⟨op1,(ia1:Int),(ib1:Int)⟩:Ins)]),q1,rfl,rfl,⟨by omega,(J7.of hs1 (by assumption)),(OutOk.app1 how1 (by omega) (by assumption) (by omega)),by omega,by first|omega|(simp only[List.length_append,List.length_cons,List.length_nil]at*;omega)⟩⟩))
       ·refine a5 (exd [26,27,28,29,130] [(32,.int (sw1.length:Int))] [(2,.slot (.int (sw1.length:Int)))] (lnl sw1 rMk) ?_)
        rcases bft (decide ((((sw1.length:Nat):Int):Int)>0))with g8|g8
        ·have g8p:=d5 g8
         rcases bft (((nth sw1 (sw1.length-1)).type).toList==B3.toList)with g9|g9
         ·have g9p:=g9
          obtain⟨_,_,⟨x4,hx4,rfl,rfl⟩,cc7⟩:=e7 b q1 4 hb (by omega) (by omega)
          rcases bft (decide ((((x4:Nat):Int):Int)=0))with g10|g10
          ·have g10p:=d5 g10
           refine exd [] [(1,rdr b (q1+1)),(190,.bool (decide ((ow1.length:Int)<17)))] [(1,.slot (.bool true)),(6,.slot (.int ((sw1.length-1:Nat):Int))),(7,.row (rMk (nth sw1 (sw1.length-1)))),(10,.slot (.bool true)),(14,.mth (rdl b (q1+1)) [] (.int (x4:Int))),(15,.slot (.bool true)),(19,.slot (.int (ow1.length:Int)))] (a2 (kB g8) (a2 (wIo ((sw1.length:Int)-1) ((sw1.length-1:Nat):Int)) (a2 (ixn rMk sw1 (sw1.length-1)) (a2 (kB g9) (a2 (cl2 tx19 cc7) (a2 (kB g10) (lnl ow1 rIns))))))) ?_
           refine ecp (fun h11=> ?_) fun h11=> ?_
           ·obtain⟨_,_,⟨x5,hx5,rfl,rfl⟩,cc8⟩:=e7 b (q1+1) 5 hb (by omega) (by omega)
            refine exd [190] [(1,rdr b (q1+1+1)),(22,.lf (.ap 21 0 67 3 ((ow1++[(⟨B12,(↑(ow1.length+3):Int),0⟩:Ins),(⟨B1,(x5:Int),0⟩:Ins),(⟨B2,0,0⟩:Ins)]).map rIns)))] [(2,.slot (.int (ow1.length:Int))),(3,.slot (.int (↑(ow1.length+3):Int))),(6,.mth (rdl b (q1+1+1)) [] (.int (x5:Int))),(9,.im),(10,.apw 21 ((ow1++[(⟨B12,(↑(ow1.length+3):Int),0⟩:Ins),(⟨B1,(x5:Int),0⟩:Ins),(⟨B2,0,0⟩:Ins)]).map rIns) [])] (a2 (lnl ow1 rIns) (a2 (wI (a:=(ow1.length:Int)+3) (b:=(↑(ow1.length+3):Int)) (by first|omega|(simp only[List.length_append,List.length_cons,List.length_nil];omega)) (by first|omega|(simp only[List.length_append,List.length_cons,List.length_nil];omega)) (by first|omega|(simp only[List.length_append,List.length_cons,List.length_nil];omega))) (a2 (cl2 tx19 cc8) (a2 (a1 (show(ow1.map rIns:List (List SV))++[[.str B12,.int .i64 (↑(ow1.length+3):Int),.int .i64 0],[.str B1,.int .i64 (x5:Int),.int .i64 0],[.str B2,.int .i64 0,.int .i64 0]]=(ow1++[(⟨B12,(↑(ow1.length+3):Int),0⟩:Ins),(⟨B1,(x5:Int),0⟩:Ins),(⟨B2,0,0⟩:Ins)]).map rIns by exact(List.map_append (f:=rIns) (l₁:=ow1) (l₂:=[(⟨B12,(↑(ow1.length+3):Int),0⟩:Ins),(⟨B1,(x5:Int),0⟩:Ins),(⟨B2,0,0⟩:Ins)])).symm)) (a2 (a1 (show([[.str B12,.int .i64 (↑(ow1.length+3):Int),.int .i64 0],[.str B1,.int .i64 (x5:Int),.int .i64 0],[.str B2,.int .i64 0,.int .i64 0]]:List (List SV))≠[]by simp)) (ap (a:=(ow1.map rIns).length+([[.str B12,.int .i64 (↑(ow1.length+3):Int),.int .i64 0],[.str B1,.int .i64 (x5:Int),.int .i64 0],[.str B2,.int .i64 0,.int .i64 0]]:List (List SV)).length) (b:=32) (by simp only[List.length_map,List.length_append,List.length_cons,List.length_nil,maxLen]at*;omega) (by simp only[List.length_map,List.length_append,List.length_cons,List.length_nil,maxLen]at*;omega))))))) ?_
            refine exed [32] [(21,.cell 10 [.m 2 (sw1.take (sw1.length-1)) rMk,.m 2 pw1 rMk])] [(3,.slot (.int ((sw1.length-1:Nat):Int))),(4,.cut 0 (sw1.length-1) (.lf (.m 2 (sw1.take (sw1.length-1)) rMk)))] (a2 (wIo ((sw1.length:Int)-1) ((sw1.length-1:Nat):Int)) (cutTo (f:=rMk) (l:=sw1) (sz:=2) (h:=sw1.length-1) (hi:=((sw1.length-1:Nat):Int)) rfl (by omega))) ?_
            exact exed [] [(24,.int ((tw1-1:Nat):Int))] [(1,.slot (.int ((tw1-1:Nat):Int)))] (wIo ((tw1:Int)-1) ((tw1-1:Nat):Int)) (⟨_,by omega,(tw1-1),(sw1.take (sw1.length-1)),pw1,(ow1++[(⟨B12,(↑(ow1.length+3):Int),0⟩:Ins),(⟨B1,(x5:Int),0⟩:Ins),(⟨B2,0,0⟩:Ins)]),(q1+1+1),rfl,rfl,⟨by omega,(J7.pop hIw1 (sw1.length-1)),(OutOk.app3 how1 (by first|omega|(simp only[List.length_append,List.length_cons,List.length_nil]at*;omega)) ⟨show B12.size≤8 by decide,by simp only[List.length_append,List.length_cons,List.length_nil];omega,by simp only;omega⟩ ⟨show B1.size≤8 by decide,by simp only;omega,by simp only;omega⟩ ⟨by decide,by decide,by decide⟩),by omega,by first|omega|(simp only[List.length_append,List.length_cons,List.length_nil]at*;omega)⟩⟩)
           ·exact a5 (exed [32,190] [(24,.int ((tw1-1:Nat):Int))] [(1,.slot (.int ((tw1-1:Nat):Int)))] (wIo ((tw1:Int)-1) ((tw1-1:Nat):Int)) (⟨_,by omega,(tw1-1),sw1,pw1,ow1,(q1+1),rfl,rfl,⟨by omega,hIw1,how1,by omega,by first|omega|(simp only[List.length_append,List.length_cons,List.length_nil]at*;omega)⟩⟩))
          ·have g10p:=i5 g10
           refine exd [] [(1,rdr b (q1+1)),(190,.bool false)] [(1,.slot (.bool true)),(6,.slot (.int ((sw1.length-1:Nat):Int))),(7,.row (rMk (nth sw1 (sw1.length-1)))),(10,.slot (.bool true)),(14,.mth (rdl b (q1+1)) [] (.int (x4:Int))),(15,.slot (.bool false))] (a2 (kB g8) (a2 (wIo ((sw1.length:Int)-1) ((sw1.length-1:Nat):Int)) (a2 (ixn rMk sw1 (sw1.length-1)) (a2 (kB g9) (a2 (cl2 tx19 cc7) (kB g10)))))) ?_
           refine ecF rfl ?_
           exact a5 (exed [32,190] [(24,.int ((tw1-1:Nat):Int))] [(1,.slot (.int ((tw1-1:Nat):Int)))] (wIo ((tw1:Int)-1) ((tw1-1:Nat):Int)) (⟨_,by omega,(tw1-1),sw1,pw1,ow1,(q1+1),rfl,rfl,⟨by omega,hIw1,how1,by omega,by first|omega|(simp only[List.length_append,List.length_cons,List.length_nil]at*;omega)⟩⟩))
         ·have g9p:=g9
          refine exd [] [(190,.bool false)] [(1,.slot (.bool true)),(6,.slot (.int ((sw1.length-1:Nat):Int))),(7,.row (rMk (nth sw1 (sw1.length-1)))),(10,.slot (.bool false))] (a2 (kB g8) (a2 (wIo ((sw1.length:Int)-1) ((sw1.length-1:Nat):Int)) (a2 (ixn rMk sw1 (sw1.length-1)) (kB g9)))) ?_
          refine ecF rfl ?_
          exact a5 (exed [32,190] [(24,.int ((tw1-1:Nat):Int))] [(1,.slot (.int ((tw1-1:Nat):Int)))] (wIo ((tw1:Int)-1) ((tw1-1:Nat):Int)) (⟨_,by omega,(tw1-1),sw1,pw1,ow1,q1,rfl,rfl,⟨by omega,hIw1,how1,by omega,by first|omega|(simp only[List.length_append,List.length_cons,List.length_nil]at*;omega)⟩⟩))
        ·have g8p:=i5 g8
         refine exd [] [(190,.bool false)] [(1,.slot (.bool false))] (kB g8) ?_
         refine ecF rfl ?_
         exact a5 (exed [32,190] [(24,.int ((tw1-1:Nat):Int))] [(1,.slot (.int ((tw1-1:Nat):Int)))] (wIo ((tw1:Int)-1) ((tw1-1:Nat):Int)) (⟨_,by omega,(tw1-1),sw1,pw1,ow1,q1,rfl,rfl,⟨by omega,hIw1,how1,by omega,by first|omega|(simp only[List.length_append,List.length_cons,List.length_nil]at*;omega)⟩⟩))
  ·refine d9 ?_
   obtain⟨_,_,⟨q2,out1,hq2,hL1,rfl,rfl⟩,cc9⟩:=end_x sh ks m f np hC hK hR b qw1 hb (by omega) sw1 pw1 hIw1 ow1 how1
   refine exd [2,4,14,15,18,20,21,22,24,62] [(1,rdr b q2),(16,.lf (.ap 21 0 67 3 (out1.map rIns)))] [(7,.cu (some (rdr b q2)) (.lf (.ap 21 0 67 3 (out1.map rIns))) 21 none [])] (cl3 tx36 cc9) ?_
   refine etd [] [(16,.lf (.m 3 out1 rIns))] (fun E=>a5m 8 rfl) ?_
   exact rtM rfl (⟨_,_,by omega,hL1,rfl,rfl⟩)
 ·have g1p:=i5 g1
  refine exd [] [(62,.bool false)] [(1,.slot (.bool false))] (kB g1) ?_
  refine ecF rfl ?_
  refine d9 ?_
  obtain⟨_,_,⟨q3,out2,hq3,hL2,rfl,rfl⟩,cc10⟩:=end_x sh ks m f np hC hK hR b qw1 hb (by omega) sw1 pw1 hIw1 ow1 how1
  refine exd [2,4,14,15,18,20,21,22,24,62] [(1,rdr b q3),(16,.lf (.ap 21 0 67 3 (out2.map rIns)))] [(7,.cu (some (rdr b q3)) (.lf (.ap 21 0 67 3 (out2.map rIns))) 21 none [])] (cl3 tx36 cc10) ?_
  refine etd [] [(16,.lf (.m 3 out2 rIns))] (fun E=>a5m 8 rfl) ?_
  exact rtM rfl (⟨_,_,by omega,hL2,rfl,rfl⟩)
theorem a4N (a:List Mod)(hs:smallS a):
 ∃s,((·= .lf (.u 8 0 23 1 ((kindsOf a).map rRecs)))) s∧CallV Try.prog 22 [.lf (.im false (.sl 3 (a.map rMod)))] (fun s'=>∃v:Nm,s'=renS v s):=by
 refine CallEN (fn:=Try.f22) TTok mixed Try.func22 rfl rfl rfl rfl rfl ?_
 have ha:=hs.1
 have hkl:=D1 a
 refine ex [(0,.lf (.l 3 a rMod))] [] AllP.nil (by kernel_rfl) ?_
 refine exn [] [(6,.lf (.u 8 0 23 1 []))] ?_
 refine a7 (exn [] [(8,.int 0)] ?_)
 refine a9 (eld (fun l0 n L=>∃(i:Nat),L=upG [] [(6,.lf (.u 8 0 23 1 (((kindsOf a).take i).map rRecs))),(8,.int (i:Int))] l0∧n=a.length-i∧(i≤a.length)) _ ⟨0,rfl,rfl,by omega⟩ ?_)
 rintro n L ⟨i,rfl,rfl,hP1⟩
 refine a7 (exd [] [(24,.bool (decide ((i:Int)<(a.length:Int))))] [(2,.slot (.int (a.length:Int)))] (lnl a rMod) ?_)
 refine ecp (fun h1=> ?_) fun h1=> ?_
 ·obtain⟨x1,hx1⟩:=u3 (l:=a) (i:=i) (by omega)
  have hm:=hs.2 _ (List.mem_of_getElem? hx1)
  have hm1:=hm.1.1
  refine a5 (a7 (a9 (exn [24] [(10,.lf (.u 15 0 41 2 []))] ?_)))
  refine a7 (exn [] [(12,.int 0)] ?_)
  refine a9 (eld (fun l0 n L=>∃(k:Nat),L=upG [] [(10,.lf (.u 15 0 41 2 ((x1.records.take k).map rRec))),(12,.int (k:Int))] l0∧n=x1.records.length-k∧(k≤x1.records.length)) _ ⟨0,rfl,rfl,by omega⟩ ?_)
  rintro n L ⟨k,rfl,rfl,hP2⟩
  refine a7 (exd [] [(46,.bool (decide ((k:Int)<(x1.records.length:Int))))] [(3,.row (rMod x1)),(6,.slot (.int (x1.records.length:Int)))] (a2 (ixh rMod hx1) (lnl x1.records rRec)) ?_)
  refine ecp (fun h2=> ?_) fun h2=> ?_
  ·obtain⟨x2,hx2⟩:=u3 (l:=x1.records) (i:=k) (by omega)
   have hx2s:x2.fields.length≤1048576:=hm.1.2 _ (List.mem_of_getElem? hx2)
   refine a5 (a7 (a9 (exd [46] [(14,.lf (.ptr 7 0)),(15,.cell 7 [.z x2.able,.l 1 x2.fields rS])] [(2,.row (rMod x1)),(6,.row (rRec x2))] (a2 (ixh rMod hx1) (ixh rRec hx2)) ?_)))
   refine exed [14,15] [(10,.lf (.u 15 0 41 2 ((x1.records.take (k+1)).map rRec)))] [(6,.im),(8,.im),(9,.slot (.lf (.u 15 0 41 2 ((x1.records.take (k+1)).map rRec))))] (a2 (a1 (a4D x2.fields)) (a2 (ap (a:=([]:List (List SV)).length+((x2.fields.map rS):List (List SV)).length) (b:=16) (by simp;omega) (by unfold maxLen;simp;omega)) (a2 (a1 (show(((x1.records.take k).map rRec)++[[.int .i64 x2.able,.sl 1 (x2.fields.map rS)]]:List (List SV))=(x1.records.take (k+1)).map rRec by exact F6 (f:=rRec) (l:=x1.records) hx2)) (a2 (hl (((x1.records.take k).map rRec).length)) (ap (a:=((x1.records.take k).map rRec).length+([[.int .i64 x2.able,.sl 1 (x2.fields.map rS)]]:List (List SV)).length) (b:=32) (by simp;omega) (by unfold maxLen;simp;omega)))))) ?_
   exact exed [] [(12,.int (↑(k+1):Int))] [(1,.slot (.int (↑(k+1):Int)))] (wI1 k) (⟨_,by omega,(k+1),rfl,rfl,by omega⟩)
  ·refine d9 (efd 5 [] [(10,.lf (.m 2 (x1.records.take k) rRec))] ?_)
   refine exed [10,12,46] [(6,.lf (.u 8 0 23 1 (((kindsOf a).take (i+1)).map rRecs)))] [(2,.im),(3,.slot (.lf (.u 8 0 23 1 (((kindsOf a).take (i+1)).map rRecs))))] (a2 (a1 (show((((kindsOf a).take i).map rRecs)++[[.sl 2 ((x1.records.take k).map rRec)]]:List (List SV))=((kindsOf a).take (i+1)).map rRecs by rw[List.take_of_length_le (l:=x1.records) (by omega)];exact F6 (f:=rRecs) (l:=kindsOf a) (a3r hx1))) (a2 (hl ((((kindsOf a).take i).map rRecs).length)) (ap (a:=(((kindsOf a).take i).map rRecs:List (List SV)).length+([[.sl 2 ((x1.records.take k).map rRec)]]:List (List SV)).length) (b:=24) (by simp;omega) (by unfold maxLen;simp;omega)))) ?_
   exact exed [] [(8,.int (↑(i+1):Int))] [(1,.slot (.int (↑(i+1):Int)))] (wI1 i) (⟨_,by omega,(i+1),rfl,rfl,by omega⟩)
 ·refine d9 (exd [0,6,8,24] [(4,.lf (.u 8 0 23 1 (((kindsOf a).take i).map rRecs)))] [] (hl ((((kindsOf a).take i).map rRecs).length)) ?_)
  exact a1h ⟨.inl rfl,_,_,_,_,_,rfl,by rw[List.take_of_length_le (by omega)]⟩
theorem I3 (b:List UInt8)(q:Nat)(hb:b.length≤2000)(hq:q≤500000000000)(sh:List Mod)(hsh:ShG sh)(hsl:sh.length≤2):
 ∃o r,(fun o s=>∃(q':Nat) (x:Mod),q'≤q+4000∧ModG (kindsOf sh++[x.records]) sh.length x∧o= .cell obN [.im true (.sl 1 (b.map rB)),.im true (.int .i64 ((q':Nat):Int))]∧s= .agg [.im true (.sl 2 (x.records.map rRec)),.im true (.sl 6 (x.funcs.map rFn)),.im true (.sl 1 (x.friends.map rI))]) o r∧CallM Try.prog 18 [.lf (.im false (.sl 3 (sh.map rMod)))] (.cell obN [.im true (.sl 1 (b.map rB)),.im true (.int .i64 ((q:Nat):Int))]) o r:=by
 refine CallME (fn:=Try.f18) TTok mixed Try.func18 rfl rfl rfl rfl rfl ?_
 have hkl:=D1 sh
 have hfk:=hsh.few
 have hkl3:(kindsOf sh).length≤3:=by omega
 refine ex [(0,.lf (.ptr obN 0)),(1,rdr b q),(2,.lf (.l 3 sh rMod)),(8,.lf (.ptr 4 0)),(9,.cell 4 [.nil,.nil,.nil])] [] AllP.nil (by kernel_rfl) ?_
 refine exn [] [(10,.lf (.ptr 5 0)),(11,.cell 5 [.nil,.nil,.nil])] ?_
 refine etd [] [(11,.cell 5 [.m 2 ([]:List Rec) rRec,.nil,.nil])] (fun E=>j4 5 0 2 rfl rfl) ?_
 refine etd [] [(11,.cell 5 [.m 2 ([]:List Rec) rRec,.nil,.m 1 ([]:List Int) rI])] (fun E=>j4 5 2 1 rfl rfl) ?_
 obtain⟨_,rfl,cc1⟩:=a4N sh hsh.small
 refine exd [] [(12,.lf (.u 700001 0 23 1 ((kindsOf sh).map rRecs)))] [(1,.retN (.lf (.u 700001 0 23 1 ((kindsOf sh).map rRecs))) [700001])] (cl tx22 (CallV.nm1 (b:=700001) cc1)) ?_
 refine a7 ?_
 obtain⟨_,_,⟨x1,hx1,rfl,rfl⟩,cc2⟩:=e7 b q 4 hb (by omega) (by omega)
 refine exd [] [(1,rdr b (q+1)),(14,.int (x1:Int))] [(1,.mth (rdl b (q+1)) [] (.int (x1:Int)))] (cl2 tx19 cc2) ?_
 refine a9 (eld (fun l0 n L=>∃(kw:Nat) (rw1:List Rec) (qw:Nat),L=upG [] [(1,rdr b qw),(11,.cell 5 [.m 2 rw1 rRec,.nil,.m 1 ([]:List Int) rI]),(14,.int (kw:Int))] l0∧n=kw+1∧(kw≤3∧RecG (kindsOf sh++[rw1]) sh.length rw1∧qw+60*kw≤q+190)) _ ⟨x1,([]:List Rec),q+1,rfl,rfl,⟨by omega,RecG.nil,by omega⟩⟩ ?_)
 rintro n L ⟨kw,rw1,qw,rfl,rfl,hP1⟩
 have hkw:=hP1.1
 have hrw:=hP1.2.1
 have hqw:=hP1.2.2
 have hrl:=hrw.len
 have hfw:=a6t (rs:=rw1) hfk hkl3 (by omega)
 refine a7 (exn [] [(38,.bool (decide ((kw:Int)>0)))] ?_)
 refine ecp (fun h1=> ?_) fun h1=> ?_
 ·refine a5 ?_
  refine a7 ?_
  refine a9 ?_
  obtain⟨_,_,⟨q1,x2,hq1,hl1,hs1,rfl,rfl⟩,cc3⟩:=a23 b qw hb (by omega) (kindsOf sh++[rw1]) hfw
  refine exd [38] [(1,rdr b q1),(16,.lf (.ptr 8 0)),(17,.cell 8 [.z x2.able,.m 1 x2.fields rS])] [(3,.slot (.lf (.u 23 0 23 1 ((kindsOf sh).map rRecs)))),(6,.im),(7,.slot (.lf (.m 1 (kindsOf sh++[rw1]) rRecs))),(8,.mth (rdl b q1) [] (.agg [.z x2.able,.m 1 x2.fields rS]))] (a2 (a1 (show([]:List (List SV))++((kindsOf sh).map rRecs)=(kindsOf sh).map rRecs by rfl)) (a2 (hl (((kindsOf sh).map rRecs).length)) (a2 (ap (a:=([]:List (List SV)).length+((kindsOf sh).map rRecs).length) (b:=24) (by simp;omega) (by unfold maxLen;simp;omega)) (a2 (a1 (show(((kindsOf sh).map rRecs)++[[.sl 2 (rw1.map rRec)]]:List (List SV))=((kindsOf sh++[rw1]).map rRecs)by exact(List.map_append (f:=rRecs) (l₁:=kindsOf sh) (l₂:=[rw1])).symm)) (a2 (ap (a:=((kindsOf sh).map rRecs).length+([[.sl 2 (rw1.map rRec)]]:List (List SV)).length) (b:=24) (by simp;omega) (by unfold maxLen;simp;omega)) (cl2 tx29 cc3)))))) ?_
  refine exd [16,17] [(18,.lf (.u 31 0 41 2 ((rw1++[x2]).map rRec)))] [(3,.slot (.lf (.u 31 0 41 2 (rw1.map rRec)))),(5,.im),(6,.slot (.lf (.u 31 0 41 2 ((rw1++[x2]).map rRec))))] (a2 (a1 (show([]++(rw1.map rRec):List (List SV))=rw1.map rRec by rfl)) (a2 (ap (a:=([]:List (List SV)).length+((rw1.map rRec):List (List SV)).length) (b:=32) (by simp;omega) (by unfold maxLen;simp;omega)) (a2 (a1 (show((rw1.map rRec)++[[.int .i64 x2.able,.sl 1 (x2.fields.map rS)]]:List (List SV))=(rw1++[x2]).map rRec by exact(List.map_append (f:=rRec) (l₁:=rw1) (l₂:=[x2])).symm)) (ap (a:=(rw1.map rRec).length+([[.int .i64 x2.able,.sl 1 (x2.fields.map rS)]]:List (List SV)).length) (b:=32) (by simp;omega) (by unfold maxLen;simp;omega))))) ?_
  refine efd 9 [] [(18,.lf (.m 2 (rw1++[x2]) rRec))] ?_
  refine exd [] [(88,.bool (B (KOk (kindsOf sh++[rw1++[x2]]))))] [(2,.slot (.lf (.u 38 0 23 1 ((kindsOf sh).map rRecs)))),(4,.im),(5,.slot (.lf (.m 1 (kindsOf sh++[rw1++[x2]]) rRecs))),(6,.ret (.bool (B (KOk (kindsOf sh++[rw1++[x2]])))))] (a2 (a1 (show([]:List (List SV))++((kindsOf sh).map rRecs)=(kindsOf sh).map rRecs by rfl)) (a2 (hl (((kindsOf sh).map rRecs).length)) (a2 (ap (a:=([]:List (List SV)).length+((kindsOf sh).map rRecs).length) (b:=24) (by simp;omega) (by unfold maxLen;simp;omega)) (a2 (a1 (show(((kindsOf sh).map rRecs)++[[.sl 2 ((rw1++[x2]).map rRec)]]:List (List SV))=((kindsOf sh++[rw1++[x2]]).map rRecs)by exact(List.map_append (f:=rRecs) (l₁:=kindsOf sh) (l₂:=[rw1++[x2]])).symm)) (a2 (ap (a:=((kindsOf sh).map rRecs).length+([[.sl 2 ((rw1++[x2]).map rRec)]]:List (List SV)).length) (b:=24) (by simp;omega) (by unfold maxLen;simp;omega)) (cl tx30 (a0A (kindsOf sh++[rw1++[x2]])))))))) ?_
  refine ecd (fun h2=> ?_) fun h2=> ?_
  ·refine exed [18,88] [(11,.cell 5 [.m 2 (rw1++[x2]) rRec,.nil,.m 1 ([]:List Int) rI])] [] AllP.nil ?_
   exact exed [] [(14,.int ((kw-1:Nat):Int))] [(1,.slot (.int ((kw-1:Nat):Int)))] (wIo ((kw:Int)-1) ((kw-1:Nat):Int)) (⟨_,by omega,(kw-1),(rw1++[x2]),q1,rfl,rfl,⟨by omega,(by have h0:=RecG.of (a4v.1 (by assumption));rw[D1]at h0;exact h0),by omega⟩⟩)
  ·exact a5 (exed [18,88] [(14,.int ((kw-1:Nat):Int))] [(1,.slot (.int ((kw-1:Nat):Int)))] (wIo ((kw:Int)-1) ((kw-1:Nat):Int)) (⟨_,by omega,(kw-1),rw1,q1,rfl,rfl,⟨by omega,hrw,by omega⟩⟩))
 ·refine d9 (exd [14,38] [(12,.lf (.u 700001 0 23 1 ((kindsOf sh++[rw1]).map rRecs)))] [(3,.im),(4,.slot (.lf (.u 700001 0 23 1 ((kindsOf sh++[rw1]).map rRecs))))] (a2 (a1 (show(((kindsOf sh).map rRecs)++[[.sl 2 (rw1.map rRec)]]:List (List SV))=(kindsOf sh++[rw1]).map rRecs by exact(List.map_append (f:=rRecs) (l₁:=kindsOf sh) (l₂:=[rw1])).symm)) (a2 (hl (((kindsOf sh).map rRecs).length)) (ap (a:=((kindsOf sh).map rRecs).length+([[.sl 2 (rw1.map rRec)]]:List (List SV)).length) (b:=24) (by simp;omega) (by unfold maxLen;simp;omega)))) ?_)
  refine a7 (efd 6 [] [(12,.lf (.m 1 (kindsOf sh++[rw1]) rRecs))] ?_)
  refine etd [] [(11,.own 5 [.m 2 rw1 rRec,.nil,.m 1 ([]:List Int) rI] [.no])] (fun E=>I9 5 1 rfl) ?_
  refine T5 5 1 0 700002 45 6 [(0,.lf (.ptr obN 0)),(1,rdr b qw),(2,.lf (.l 3 sh rMod)),(8,.lf (.ptr 4 0)),(9,.cell 4 [.nil,.nil,.nil]),(10,.lf (.ptr 5 0)),(11,.own 5 [.m 2 rw1 rRec,.hd 700002 0 0,.m 1 ([]:List Int) rI] [.mk 700002 0 45 6 []]),(12,.lf (.m 1 (kindsOf sh++[rw1]) rRecs))] rfl rfl rfl (by kernel_rfl) (by kernel_rfl) (by kernel_rfl) ?_
  obtain⟨_,_,⟨x3,hx2,rfl,rfl⟩,cc4⟩:=e7 b qw 3 hb (by omega) (by omega)
  refine exd [] [(1,rdr b (qw+1)),(11,.own 5 [.m 2 rw1 rRec,.hd 700002 ((([]:List Fn).map rFn:List (List SV)).length) 0,.m 1 ([]:List Int) rI] [.mk 700002 0 45 6 (([]:List Fn).map rFn)]),(20,.int ((1+x3:Nat):Int))] [(1,.mth (rdl b (qw+1)) [] (.int (x3:Int))),(2,.slot (.int ((1+x3:Nat):Int)))] (a2 (cl2 tx19 cc4) (wIo (1+(x3:Int)) ((1+x3:Nat):Int))) ?_
  refine a9 (eld (fun l0 n L=>∃(kf:Nat) (fw:List Fn) (qf:Nat),L=upG [] [(1,rdr b qf),(11,.own 5 [.m 2 rw1 rRec,.hd 700002 ((fw.map rFn).length) 0,.m 1 ([]:List Int) rI] [.mk 700002 0 45 6 (fw.map rFn)]),(20,.int (kf:Int))] l0∧n=kf+1∧(kf+fw.length≤3∧1≤kf+fw.length∧(∀g∈(fw),FnG (kindsOf sh++[rw1]) 10 g)∧qf+200*kf≤q+900)) _ ⟨1+x3,([]:List Fn),qw+1,rfl,rfl,⟨by first|omega|(simp;done)|(simp;omega),by first|omega|(simp;done)|(simp;omega),by simp,by omega⟩⟩ ?_)
  rintro n L ⟨kf,fw,qf,rfl,rfl,hP2⟩
  have hkf:=hP2.1
  have hkf1:=hP2.2.1
  have hfw2:=hP2.2.2.1
  have hqf:=hP2.2.2.2
  refine a7 (exn [] [(112,.bool (decide ((kf:Int)>0)))] ?_)
  refine ecp (fun h3=> ?_) fun h3=> ?_
  ·refine a5 ?_
   refine a7 ?_
   refine a9 ?_
   obtain⟨_,_,⟨q2,f1,hq2,hh1,hcd1,rfl,rfl⟩,cc5⟩:=O5 b qf hb (by omega) (kindsOf sh++[rw1]) rw1.length hfw (by omega)
   refine exed [112] [(1,rdr b q2),(11,.own 5 [.m 2 rw1 rRec,.hd 700002 (((fw++[f1]).map rFn).length) 0,.m 1 ([]:List Int) rI] [.mk 700002 0 45 6 ((fw++[f1]).map rFn)])] [(6,.slot (.int (rw1.length:Int))),(7,.mth (rdl b q2) [] (.agg [.z f1.seen,.m 1 f1.args rS,.m 1 f1.rets rS,.m 1 f1.locals rS,.m 1 f1.takes rI,.m 3 f1.code rIns])),(8,.im),(9,.lnt ((fw++[f1]).map rFn)),(11,.inn 0)] (a2 (lnl rw1 rRec) (a2 (cl2 tx21 cc5) (a2 (a1 (show(fw.map rFn:List (List SV))++[[.int .i64 f1.seen,.sl 1 (f1.args.map rS),.sl 1 (f1.rets.map rS),.sl 1 (f1.locals.map rS),.sl 1 (f1.takes.map rI),.sl 3 (f1.code.map rIns)]]=(fw++[f1]).map rFn by exact(List.map_append (f:=rFn) (l₁:=fw) (l₂:=[f1])).symm)) (a2 (hl ((fw.map rFn).length)) (a2 (ap (a:=(fw.map rFn).length+([[.int .i64 f1.seen,.sl 1 (f1.args.map rS),.sl 1 (f1.rets.map rS),.sl 1 (f1.locals.map rS),.sl 1 (f1.takes.map rI),.sl 3 (f1.code.map rIns)]]:List (List SV)).length) (b:=128) (by simp;omega) (by unfold maxLen;simp;omega)) (a1 (show([[.int .i64 f1.seen,.sl 1 (f1.args.map rS),.sl 1 (f1.rets.map rS),.sl 1 (f1.locals.map rS),.sl 1 (f1.takes.map rI),.sl 3 (f1.code.map rIns)]]:List (List SV))≠[]by simp))))))) ?_
   exact exed [] [(20,.int ((kf-1:Nat):Int))] [(1,.slot (.int ((kf-1:Nat):Int)))] (wIo ((kf:Int)-1) ((kf-1:Nat):Int)) (⟨_,by omega,(kf-1),(fw++[f1]),q2,rfl,rfl,⟨by first|omega|(simp;done)|(simp;omega),by first|omega|(simp;done)|(simp;omega),fun g hg=>(List.mem_append.1 hg).elim (hfw2 g) fun hg=>by simp at hg;subst hg;exact⟨hh1.nr (by omega),(by rw[hcd1];exact a5W)⟩,by omega⟩⟩)
  ·refine d9 (exd [12,20,112] [(22,.lf (.nst 3 ((sh++[(⟨rw1,[],([]:List Int)⟩:Mod)]).map rMod) sh.length 1 700002 ((fw.map rFn).length) 0))] [(2,.lnt (sh.map rMod)),(4,.nsw [] 0 (.sl 6 [])),(5,.nsw ((sh++[(⟨rw1,[],([]:List Int)⟩:Mod)]).map rMod) (sh.length) (.int .i64 0))] (a2 (a1 (show([]:List (List SV))++(sh.map rMod)=sh.map rMod by rfl)) (a2 (ap (a:=([]:List (List SV)).length+((sh.map rMod):List (List SV)).length) (b:=72) (by simp;omega) (by unfold maxLen;simp;omega)) (a2 (a1 (show((fw.map rFn).length:Nat)≠0 by simp only[List.length_map];omega)) (a2 (a1 (show(sh.map rMod:List (List SV))++[rMod (⟨rw1,[],([]:List Int)⟩:Mod)]=(sh++[(⟨rw1,[],([]:List Int)⟩:Mod)]).map rMod by rw[List.map_append];rfl)) (a2 (a1 (show(sh.map rMod).length+0=sh.length by simp)) (ap (a:=(sh.map rMod).length+([rMod (⟨rw1,[],([]:List Int)⟩:Mod)]:List (List SV)).length) (b:=72) (by simp;omega) (by unfold maxLen;simp;omega))))))) ?_)
   refine a7 (exn [] [(24,.int 0)] ?_)
   refine a9 (eld (fun l0 n L=>∃(iw:Nat) (gw:List Fn) (qg:Nat),L=upG [] [(1,rdr b qg),(11,.own 5 [.m 2 rw1 rRec,.hd 700002 ((fw.map rFn).length) 0,.m 1 ([]:List Int) rI] [.mk 700002 0 45 6 (gw.map rFn)]),(24,.int (iw:Int))] l0∧n=gw.length-iw∧(iw≤gw.length∧gw.length=fw.length∧(∀g∈(gw),FnG (kindsOf sh++[rw1]) 10 g)∧qg≤q+900+1000*iw)) _ ⟨0,fw,qf,rfl,rfl,⟨by omega,rfl,hfw2,by omega⟩⟩ ?_)
   rintro n L ⟨iw,gw,qg,rfl,rfl,hP3⟩
   have hiw:=hP3.1
   have hgl:=hP3.2.1
   have hgw:=hP3.2.2.1
   have hqg:=hP3.2.2.2
   refine a7 (exd [] [(160,.bool (decide ((iw:Int)<(gw.length:Int))))] [(3,.slot (.int (gw.length:Int)))] (a1 (show(Slot.int (((fw.map rFn).length:Nat):Int))= .int (gw.length:Int)by rw[show(fw.map rFn).length=gw.length by simp;omega])) ?_)
   refine ecp (fun h4=> ?_) fun h4=> ?_
   ·refine a5 ?_
    refine a7 ?_
    refine a9 ?_
    have hG1:ShG (sh++[(⟨rw1,gw,[]⟩:Mod)]):=ShG.snoc hsh hsl ⟨hrw,by simp;omega,hgw,by simp⟩
    have hG1k:kindsOf (sh++[(⟨rw1,gw,[]⟩:Mod)])=(kindsOf sh++[rw1]):=a0L _ _
    have hG1f:=hgw _ (c6 (l:=gw) (i:=iw) (by omega))
    obtain⟨_,_,⟨q3,l1,hq3,hl2,rfl,rfl⟩,cc6⟩:=a5B b qg hb (by omega) (sh++[(⟨rw1,gw,[]⟩:Mod)]) (kindsOf (sh++[(⟨rw1,gw,[]⟩:Mod)])) sh.length (nth gw iw) _ (hG1.c7 (by simp) (by rw[hG1k];exact hG1f.hd)) (hG1.own (by simp)) rfl hG1.small (by rw[hG1k];exact fun u hu=>(hG1f.hd.rets.2 u hu).1) (by rw[hG1k];exact hG1f.hd.args.2)
    have hc1:=CallM.nst (rows:=putHd ((sh++[(⟨rw1,[],([]:List Int)⟩:Mod)]).map rMod) sh.length 1 (.sl 6 (gw.map rFn))) (a43 _ _ _) cc6
    refine exed [160] [(1,rdr b q3),(11,.own 5 [.m 2 rw1 rRec,.hd 700002 ((fw.map rFn).length) 0,.m 1 ([]:List Int) rI] [.mk 700002 0 45 6 ((gw.set iw ({(nth gw iw)with code:=l1})).map rFn)])] [(6,.slot (.int (sh.length:Int))),(11,.elem iw 0 (rFn (nth gw iw)) none),(12,.mth (rdl b q3) [] (.lf (.m 3 l1 rIns))),(15,.elem iw 5 (rFn (nth gw iw)) (some ((gw.set iw ({(nth gw iw)with code:=l1})).map rFn)))] (a2 (lnl sh rMod) (a2 (ixu (i:=iw) (n:=(fw.map rFn).length) (by simp;omega)) (a2 (elT (f:=rFn) (l:=gw) (i:=iw) (j:=0) (n:=6) (sz:=6) (off:=(iw:Int).toNat*6) (j6 (l:=gw) (i:=iw) (by omega)) (by omega) (by omega)) (a2 (a1 (show((fw.map rFn).length:Nat)=(gw.map rFn).length by simp;omega)) (a2 (cl2 tx24 hc1) (a2 (ixu (i:=iw) (n:=(fw.map rFn).length) (by simp;omega)) (stT (f:=rFn) (l:=gw) (i:=iw) (j:=5) (n:=1) (sz:=6) (off:=(iw:Int).toNat*6+5) (y:={(nth gw iw)with code:=l1}) (new:=[.sl 3 (l1.map rIns)]) (j6 (l:=gw) (i:=iw) (by omega)) (by omega) (by omega) rfl (rfl)))))))) ?_
    exact exed [] [(24,.int (↑(iw+1):Int))] [(1,.slot (.int (↑(iw+1):Int)))] (wI1 iw) (⟨_,by simp;omega,(iw+1),(gw.set iw ({(nth gw iw)with code:=l1})),q3,rfl,rfl,⟨by simp;omega,by simp;omega,a65 hgw (fun hg=>⟨hg.hd.code _,hl2⟩) (by omega),by omega⟩⟩)
   ·refine d9 (etd [] [(11,.own 5 [.m 2 rw1 rRec,.m 6 gw rFn,.m 1 ([]:List Int) rI] [.no])] (fun E=>A8 5 1 0 rfl rfl rfl (by simp;omega)) ?_)
    refine etd [] [(11,.cell 5 [.m 2 rw1 rRec,.m 6 gw rFn,.m 1 ([]:List Int) rI])] (fun E=>d6 5 rfl) ?_
    refine exn [2,10,11,22,24,160] [(9,.cell 4 [.m 2 rw1 rRec,.m 6 gw rFn,.m 1 ([]:List Int) rI])] ?_
    exact rtM rfl (⟨_,⟨rw1,gw,[]⟩,by omega,⟨hrw,by show gw.length≤10;omega,hgw,by simp⟩,rfl,rfl⟩)
def decB (n:Int):ByteArray:=⟨(Lib.itoa n).toArray⟩
def joinB (ws:List ByteArray)(sep:ByteArray):ByteArray:=⟨(Lib.join (ws.map (·.data.toList)) sep.data.toList).toArray⟩
def sp1 :ByteArray:=⟨#[32]⟩
def nl1 :ByteArray:=⟨#[10]⟩
variable {α:Type}
theorem z1 {f:α→List SV}{l:List α}{sz h:Nat}{lo:Int}(e:lo=((h:Nat):Int))(hh:h≤l.length):
 AllP [AllP [lo=((h:Nat):Int)],AllP [(l.map f).length=l.length],h≤l.length,l.length≤(l.map f).length,(.lf (.im true (.sl sz (((l.map f).take l.length).drop h))):Slot)= .lf (.im true (.sl sz ((l.drop h).map f)))]:=
 ⟨a1 e,a1 (by simp),hh,by simp,by rw[List.take_of_length_le (by simp),List.map_drop],trivial⟩
def wdT (s:ByteArray):Nat→List ByteArray
 |0=>[⟨#[]⟩]
 |i+1=>if(bt s i).toNat=32 then wdT s i++[⟨#[]⟩]else(wdT s i).set ((wdT s i).length-1) (nth (wdT s i) ((wdT s i).length-1)++s.extract i (i+1))
variable {s:ByteArray} {i:Nat}
theorem a7z (h:(((bt s i).toNat:Nat):Int)=32):wdT s i++[⟨#[]⟩]=wdT s (i+1):=by
 simp only[wdT];rw[if_pos (by omega)]
theorem wdT_no (h:¬(((bt s i).toNat:Nat):Int)=32):(wdT s i).set ((wdT s i).length-1) (nth (wdT s i) ((wdT s i).length-1)++s.extract i (i+1))=wdT s (i+1):=by
 simp only[wdT];rw[if_neg (by omega)]
theorem K4 (s:ByteArray):∀i,1≤(wdT s i).length∧(wdT s i).length≤i+1
 |0=>by simp[wdT]
 |i+1=>by
  have:=K4 s i
  simp only[wdT]
  split
  ·simp;omega
  ·rw[List.length_set];omega
theorem P9 (s:ByteArray)(i:Nat):(s.extract i (i+1)).size≤1:=by rw[ByteArray.size_extract];omega
theorem a3p (s:ByteArray):∀i,∀u∈wdT s i,u.size≤i
 |0=>by intro u hu;simp[wdT]at hu;subst hu;exact Nat.le_refl _
 |i+1=>by
  have ih:=a3p s i
  have hl:=(K4 s i).1
  intro u hu
  simp only[wdT]at hu
  split at hu
  ·rcases List.mem_append.1 hu with h|h
   ·have:=ih u h;omega
   ·simp at h;subst h;exact Nat.zero_le _
  ·rcases List.mem_or_eq_of_mem_set hu with h|h
   ·have:=ih u h;omega
   ·subst h
    have h1:=ih _ (c6 (l:=wdT s i) (i:=(wdT s i).length-1) (by omega))
    have h2:=P9 s i
    rw[ByteArray.size_append];omega
def words (s:ByteArray):List ByteArray:=wdT s s.size
def lnT (s:ByteArray):Nat→List ByteArray×ByteArray
 |0=>([],⟨#[]⟩)
 |i+1=>if(bt s i).toNat=10 then((lnT s i).1++[(lnT s i).2],⟨#[]⟩)else((lnT s i).1,(lnT s i).2++s.extract i (i+1))
theorem a4C (h:(((bt s i).toNat:Nat):Int)=10):(lnT s i).1++[(lnT s i).2]=(lnT s (i+1)).1∧(⟨#[]⟩:ByteArray)=(lnT s (i+1)).2:=by
 simp only[lnT];rw[if_pos (by omega)];exact⟨rfl,rfl⟩
theorem a6G (h:¬(((bt s i).toNat:Nat):Int)=10):(lnT s i).1=(lnT s (i+1)).1∧(lnT s i).2++s.extract i (i+1)=(lnT s (i+1)).2:=by
 simp only[lnT];rw[if_neg (by omega)];exact⟨rfl,rfl⟩
theorem a1O (s:ByteArray):∀i,(lnT s i).1.length≤i∧(lnT s i).2.size≤i
 |0=>⟨Nat.le_refl _,Nat.le_refl _⟩
 |i+1=>by
  have:=a1O s i
  have h2:=P9 s i
  simp only[lnT]
  split
  ·refine⟨by simp;omega,?_⟩
   show(0:Nat)≤i+1;omega
  ·simp only[ByteArray.size_append];omega
theorem a4A (s:ByteArray):∀i,∀u∈(lnT s i).1,u.size≤i
 |0=>by simp[lnT]
 |i+1=>by
  have ih:=a4A s i
  have hl:=(a1O s i).2
  intro u hu
  simp only[lnT]at hu
  split at hu
  ·rcases List.mem_append.1 hu with h|h
   ·have:=ih u h;omega
   ·simp at h;subst h;omega
  ·have:=ih u hu;omega
def nsT (s:ByteArray):Nat→Nat
 |0=>0
 |i+1=>nsT s i*10+((bt s i).toNat-48)
def num (s:ByteArray):Nat:=nsT s s.size
structure NumOk (s:ByteArray):Prop where
 low:1≤s.size
 high:s.size≤8
 lead:¬(1<s.size∧(bt s 0).toNat=48)
 dig:∀j,j<s.size→48≤(bt s j).toNat∧(bt s j).toNat≤57
def numB (s:ByteArray):Bool:=decide (1≤s.size)&&decide (s.size≤8)&& !(decide (1<s.size)&&decide ((bt s 0).toNat=48))&&(List.range s.size).all fun j=>decide (48≤(bt s j).toNat)&&decide ((bt s j).toNat≤57)
theorem a1b :numB s=true↔NumOk s:=by
 unfold numB
 simp only[Bool.and_eq_true,decide_eq_true_iff,Bool.not_eq_true',List.all_eq_true,List.mem_range,Bool.and_eq_false_iff,decide_eq_false_iff_not]
 constructor
 ·rintro⟨⟨⟨h1,h2⟩,h3⟩,h4⟩
  exact⟨h1,h2,by omega,h4⟩
 ·rintro⟨h1,h2,h3,h4⟩
  exact⟨⟨⟨h1,h2⟩,by omega⟩,h4⟩
def l3n (s:ByteArray):Int:=if numB s=true then((num s:Nat):Int)else-1
def l4s (s:ByteArray):Int:=if s.size>2 then-1 else l3n s
theorem a6K (h:∀j,j<i→48≤(bt s j).toNat∧(bt s j).toNat≤57):nsT s i+1≤10^i:=by
 induction i with
 |zero=>simp[nsT]
 |succ i ih=>
  have ih:=ih fun j hj=>h j (by omega)
  have:=h i (by omega)
  simp only[nsT,Nat.pow_succ];omega
theorem pow_8 (h:i≤8):10^i≤100000000:=Nat.pow_le_pow_right (by omega) h
theorem pow_2 (h:i≤2):10^i≤100:=Nat.pow_le_pow_right (by omega) h
theorem nsT_8 (h:∀j,j<i→48≤(bt s j).toNat∧(bt s j).toNat≤57)(hi:i≤8):nsT s i<100000000:=by
 have h1:=a6K h;have h2:=pow_8 hi;omega
theorem a6R (h:¬NumOk s): -1=l3n s:=by unfold l3n;rw[if_neg fun e=>h (a1b.1 e)]
theorem a7u (h:NumOk s):((num s:Nat):Int)=l3n s:=by unfold l3n;rw[if_pos (a1b.2 h)]
theorem a5h (s:ByteArray): -1≤l4s s∧l4s s<100:=by
 unfold l4s
 split
 ·omega
 ·rename_i hs
  unfold l3n
  split
  ·rename_i h
   have:=a1b.1 h
   have h1:num s+1≤10^s.size:=a6K this.dig
   have h2:=pow_2 (i:=s.size) (by omega)
   omega
  ·omega
def rnL (l:List ByteArray):List Int:=(l.takeWhile fun x=>decide (0≤l4s x)).map l4s
def rnB (l:List ByteArray):Bool:=(l.all fun x=>decide (0≤l4s x))&&decide (l.length≤9)
theorem tw_bad {p:α→Bool}{l:List α}{x:α}(h:l[i]? =some x)(hp:∀j y,j<i→l[j]? =some y→p y=true)(hx:p x=false):l.takeWhile p=l.take i∧l.all p=false:=by
 induction l generalizing i with
 |nil=>cases h
 |cons a l ih=>
  cases i with
  |zero=>
   simp at h;subst h
   exact⟨by rw[List.takeWhile_cons,hx];rfl,by rw[List.all_cons,hx];rfl⟩
  |succ i=>
   have ha:=hp 0 a (by omega) rfl
   obtain⟨h1,h2⟩:=ih (i:=i) (by simpa using h) fun j y hj hy=>hp (j+1) y (by omega) (by simpa using hy)
   exact⟨by rw[List.takeWhile_cons,ha,List.take_succ_cons];simp only[if_true];rw[h1],by rw[List.all_cons,h2];simp⟩
theorem a5p {α:Type}{p:α→Bool}:∀{l:List α},l.all p=true→l.takeWhile p=l
 |[],_=>rfl
 |a::l,h=>by
  rw[List.all_cons,Bool.and_eq_true]at h
  rw[List.takeWhile_cons,h.1];simp only[if_true];rw[a5p h.2]
theorem tw_all {p:α→Bool}{l:List α}(hp:∀j y,j<l.length→l[j]? =some y→p y=true):l.takeWhile p=l∧l.all p=true:=by
 have h:l.all p=true:=List.all_eq_true.2 fun x hx=>by obtain⟨j,hj⟩:=List.mem_iff_getElem?.1 hx;exact hp j x (List.getElem?_eq_some_iff.1 hj).1 hj
 exact⟨a5p h,h⟩
variable {l:List ByteArray}
theorem rn_bad {x:ByteArray}(h:l[i]? =some x)(hp:∀j,j<i→0≤l4s (nth l j))(hx:l4s x<0):(l.take i).map l4s=rnL l∧false=rnB l:=by
 obtain⟨h1,h2⟩:=tw_bad (p:=fun x=>decide (0≤l4s x)) h (fun j y hj hy=>by
  have:=hp j hj
  rw[J3 hy]at this
  exact decide_eq_true this) (decide_eq_false (by omega))
 exact⟨by unfold rnL;rw[h1],by unfold rnB;rw[h2];rfl⟩
theorem rn_all (hp:∀j,j<l.length→0≤l4s (nth l j)):l.map l4s=rnL l∧decide (l.length≤9)=rnB l:=by
 obtain⟨h1,h2⟩:=tw_all (p:=fun x=>decide (0≤l4s x)) (l:=l) (fun j y hj hy=>by
  have:=hp j hj
  rw[J3 hy]at this
  exact decide_eq_true this)
 exact⟨by unfold rnL;rw[h1],by unfold rnB;rw[h2];rfl⟩
theorem rn_app (hi:i<l.length):((l.take i).map l4s).map rI++[l4s (nth l i)].map rI=((l.take (i+1)).map l4s).map rI:=by
 rw[List.take_add_one,j6 hi];simp
theorem retRn {a b:List Int}{c d:Bool}(h:a=b∧c=d):slotOf [.lf (.im true (.sl 1 (a.map rI))),.lf (.im true (.bool c))]= .tup [.lf (.im true (.sl 1 (b.map rI))),.lf (.im true (.bool d))]:=by rw[h.1,h.2];rfl
theorem a7a (l:List ByteArray):(rnL l).length≤l.length:=by
 unfold rnL;rw[List.length_map];exact(List.takeWhile_sublist _).length_le
theorem a61 :∀n∈rnL l,-1≤n∧n<100:=fun n hn=>by
 obtain⟨x,_,rfl⟩:=List.mem_map.1 hn
 exact a5h x
def formOk (t:ByteArray):Bool:=isKind (pl t)||isBase (pl t)
def fmB (l:List ByteArray):Bool:=l.all formOk&&decide (l.length≤9)
theorem fm_bad (hi:i<l.length)(hx:formOk (nth l i)=false):false=fmB l:=by
 have:l.all formOk=false:=by
  rw[List.all_eq_false]
  exact⟨_,c6 hi,by rw[hx];simp⟩
 unfold fmB;rw[this];rfl
theorem fm_all (hp:∀j,j<l.length→formOk (nth l j)=true):decide (l.length≤9)=fmB l:=by
 have:l.all formOk=true:=List.all_eq_true.2 fun x hx=>by
  obtain⟨j,hj⟩:=List.mem_iff_getElem?.1 hx
  have:=hp j (List.getElem?_eq_some_iff.1 hj).1
  rwa[J3 hj]at this
 unfold fmB;rw[this];rfl
def spT (l:List ByteArray):Nat→List (List ByteArray)
 |0=>[[]]
 |i+1=>if nth l i=⟨#[58]⟩then spT l i++[[]]else(spT l i).dropLast++[(spT l i).getLastD []++[nth l i]]
def rSS (x:List ByteArray):List SV:=[.sl 1 (x.map rS)]
variable {pre:List (List ByteArray)} {last:List ByteArray}
theorem a5C (h:spT l i=pre++[last])(hc:((nth l i).toList==(⟨#[58]⟩:ByteArray).toList)=true):spT l (i+1)=(pre++[last])++[[]]:=by
 simp only[spT];rw[if_pos (y0.1 hc),h]
theorem a6O (h:spT l i=pre++[last])(hc:((nth l i).toList==(⟨#[58]⟩:ByteArray).toList)=false):spT l (i+1)=pre++[last++[nth l i]]:=by
 simp only[spT];rw[if_neg (fun e=>by rw[y0.2 e]at hc;cases hc),h];simp
theorem a29 (l:List ByteArray):∀i,(spT l i).length≤i+1∧∀x∈spT l i,x.length≤i
 |0=>by simp[spT]
 |i+1=>by
  obtain⟨h1,h2⟩:=a29 l i
  simp only[spT]
  split
  ·refine⟨by simp;omega,fun x hx=> ?_⟩
   rcases List.mem_append.1 hx with h|h
   ·have:=h2 x h;omega
   ·simp at h;subst h;simp
  ·refine⟨by simp;omega,fun x hx=> ?_⟩
   rcases List.mem_append.1 hx with h|h
   ·have:=h2 x (List.dropLast_subset _ h);omega
   ·simp only[List.mem_singleton]at h
    subst h
    rw[List.length_append]
    have:(spT l i).getLastD []=[]∨(spT l i).getLastD []∈spT l i:=by
     cases hs:spT l i with
     |nil=>left;rfl
     |cons a b=>right;rw[List.getLastD_cons];cases b with
      |nil=>simp
      |cons c d=>simp[List.getLastD_eq_getLast?,List.getLast?_eq_some_getLast]
    rcases this with h|h
    ·rw[h];simp
    ·have:=h2 _ h;rw[List.length_singleton];omega
theorem a5q (h:spT l i=pre++[last]):pre.length≤i∧last.length≤i:=by
 have h1:=a29 l i
 rw[h]at h1
 have h2:=h1.1
 rw[List.length_append,List.length_singleton]at h2
 exact⟨by omega,h1.2 last (by simp)⟩
theorem V9 (pre:List (List ByteArray))(last:List ByteArray)(x:SV):putHd (pre.map rSS++[[x]]) pre.length 0 (.sl 1 (last.map rS))=(pre++[last]).map rSS:=by
 unfold putHd
 rw[List.modify_eq_take_cons_drop (by simp)]
 simp[rSS]
end Go.Proofs.Ytjfjdgjhihgdkaa
namespace Go.Proofs.Ytjfjdgjhihgdkaa
open Go V
theorem bl_ex :∃f:List UInt8→ByteArray,∀l,f l=⟨l.toArray⟩:=⟨_,fun _=>rfl⟩
noncomputable def bl:List UInt8→ByteArray:=Classical.choose bl_ex
theorem a69 (l:List UInt8):bl l=⟨l.toArray⟩:=Classical.choose_spec bl_ex l
theorem a6T (l:List UInt8):(bl l).size=l.length:=by rw[a69];simp[ByteArray.size]
theorem p9 (l:List UInt8):(bl l).data.toList=l:=by rw[a69]
theorem bb {x y:ByteArray}(h:x.data.toList=y.data.toList):x=y:=ByteArray.ext (Array.ext' h)
theorem dapp (x y:ByteArray):(x++y).data.toList=x.data.toList++y.data.toList:=by rw[ByteArray.data_append,Array.toList_append]
variable {a b:ByteArray}
theorem strb (h:a.size+b.size≤1000000000):((a.size+b.size:Nat):Int)≤IntKind.i64.max:=by
 show((a.size+b.size:Nat):Int)≤9223372036854775807;omega
theorem retS (h:a=b):slotOf [.lf (.im true (.str a))]= .lf (.im true (.str b)):=by rw[h];rfl
def inR (n:Int):Prop:= -9223372036854775808≤n∧n≤9223372036854775807
theorem o5 (n:Int):(decB n).data.toList=Lib.itoa n:=rfl
theorem S5 :∀(k u:Nat),u<10^(k+1)→(Lib.decDigits u).length≤k+1
 |0,u,h=>by rw[Lib.decDigits.eq_1,dif_pos (by omega)];simp
 |k+1,u,h=>by
  rw[Lib.decDigits.eq_1]
  split
  ·simp
  ·rw[List.length_append]
   have:=S5 k (u/10) (by rw[Nat.pow_succ]at h;omega)
   simp;omega
variable {n:Int}
theorem L7 (h:inR n):(Lib.itoa n).length≤20:=by
 obtain⟨h0,h1⟩:=h
 unfold Lib.itoa
 split
 ·rw[List.length_cons];have:=S5 18 n.natAbs (by omega);omega
 ·have:=S5 18 n.toNat (by omega);omega
theorem z3 (h:inR n):(decB n).size≤20:=by
 have:=L7 h
 have e:(decB n).size=(Lib.itoa n).length:=by unfold decB;simp[ByteArray.size]
 omega
def dg (k:Int):ByteArray:=⟨#[UInt8.ofNat (48+k.toNat)]⟩
theorem a7p (k:Int):(dg k).size=1:=rfl
theorem a41 {k:Int}(h0:0≤k)(h1:k<10):([[.int .u8 (48+k)]]:List (List SV))=bytesR (dg k):=by
 have e:((UInt8.ofNat (48+k.toNat)).toNat:Int)=48+k:=by
  rw[UInt8.toNat_ofNat'];omega
 show _=[[SV.int .u8 ((UInt8.ofNat (48+k.toNat)).toNat:Int)]]
 rw[e]
theorem a7g (h:n< -9223372036854775807)(h0:inR n):(⟨#[45,57,50,50,51,51,55,50,48,51,54,56,53,52,55,55,53,56,48,56]⟩:ByteArray)=decB n:=by
 obtain rfl:n= -9223372036854775808:=by have:=h0.1;omega
 refine bb ?_
 rw[o5]
 simp[Lib.itoa,Lib.decDigits.eq_1]
theorem a6X (h:n<0):(⟨#[45]⟩:ByteArray)++decB (-n)=decB n:=by
 refine bb ?_
 rw[dapp,o5,o5]
 unfold Lib.itoa
 rw[if_neg (by omega),if_pos h,show(-n).toNat=n.natAbs by omega]
 rfl
theorem dec_lt (h0:¬n<0)(h:n<10):dg n=decB n:=by
 refine bb ?_
 rw[o5]
 unfold Lib.itoa
 rw[if_neg h0,Lib.decDigits.eq_1,dif_pos (by omega)]
 rfl
theorem dec_ge (h:¬n<10):decB (n/10)++dg (n%10)=decB n:=by
 refine bb ?_
 rw[dapp,o5,o5]
 unfold Lib.itoa
 rw[if_neg (by omega),if_neg (by omega),Lib.decDigits.eq_1 n.toNat,dif_neg (by omega),show(n/10).toNat=n.toNat/10 by omega]
 show _++[UInt8.ofNat (48+(n%10).toNat)]=_
 rw[show(n%10).toNat=n.toNat%10 by omega]
def dm (n:Int):Nat:=2*n.natAbs+if n<0 then 1 else 0
def thL (ws:List ByteArray):List UInt8:=ws.flatMap fun w=>32::w.data.toList
theorem a1F :thL []=[]:=rfl
theorem H6 (w:ByteArray)(ws:List ByteArray):thL (w::ws)=32::w.data.toList++thL ws:=rfl
theorem a1w (a b:List ByteArray):thL (a++b)=thL a++thL b:=List.flatMap_append
variable {α β:Type} {i:Nat}
theorem R0 {f:α→List β}{l:List α}{x:α}(h:l[i]? =some x):(l.take i).flatMap f++f x=(l.take (i+1)).flatMap f:=by
 rw[List.take_add_one,h,List.flatMap_append];simp
theorem Q4 {f:α→List β}{l:List α}(h:l.length≤i):(l.take i).flatMap f=l.flatMap f:=by rw[List.take_of_length_le h]
theorem C5 (f:α→List β)(l:List α)(i:Nat):((l.take i).flatMap f).length≤(l.flatMap f).length:=by
 conv=>rhs;rw[←List.take_append_drop i l,List.flatMap_append,List.length_append]
 omega
theorem a1H {f:α→List UInt8}{w:α→Nat}{l:List α}{C:Nat}(h:∀x∈l,(f x).length≤C*(1+w x)):(l.flatMap f).length≤C*(l.length+(l.map w).sum):=by
 induction l with
 |nil=>simp
 |cons x xs ih=>
  have h1:=h x (by simp)
  have h2:=ih fun y hy=>h y (by simp[hy])
  simp only[List.flatMap_cons,List.length_append,List.length_cons,List.map_cons,List.sum_cons]
  have e:C*(xs.length+1+(w x+(xs.map w).sum))=C*(1+w x)+C*(xs.length+(xs.map w).sum):=by rw[←Nat.mul_add];congr 1;omega
  omega
theorem G3 (ws:List ByteArray):(thL ws).length=wS ws:=by
 induction ws with
 |nil=>rfl
 |cons w ws ih=>
  rw[H6]
  unfold wS at ih⊢
  simp only[List.length_append,List.length_cons,List.map_cons,List.sum_cons,ih,Array.length_toList]
  show w.size+1+_=_
  omega
variable {l:List Int}
theorem T1 (h:∀n∈l,inR n):(thL (l.map decB)).length≤21*l.length:=by
 induction l with
 |nil=>simp[thL]
 |cons n l ih=>
  have h1:=L7 (h n (by simp))
  have h2:=ih fun m hm=>h m (by simp[hm])
  rw[List.map_cons,H6,o5]
  simp only[List.length_append,List.length_cons]
  omega
theorem M1 (w:ByteArray)(ws:List ByteArray):(joinB (w::ws) sp1).data.toList=w.data.toList++thL ws:=by
 show Lib.join _ _=_
 unfold Lib.join
 rw[show sp1.data.toList=[32]from rfl]
 induction ws generalizing w with
 |nil=>simp[thL,List.intercalate]
 |cons v vs ih=>
  have:=ih v
  rw[List.map_cons,List.map_cons,List.intercalate,List.intersperse_cons_cons,List.flatten_cons,List.flatten_cons]
  rw[List.map_cons,List.intercalate]at this
  rw[this,H6]
  simp
def insL (i:Ins):List UInt8:=i.op.data.toList++((if 0<(formV i.op).a then 32::Lib.itoa i.a else [])++(if 0<(formV i.op).b then 32::Lib.itoa i.b else []))
def insE (i:Ins):List UInt8:=insL i++[10]
def codeT (l:List Ins):List UInt8:=l.flatMap insE
def recT (r:Rec):List UInt8:=[114,101,99,111,114,100,32]++(Lib.itoa r.able++(thL r.fields++[10]))
def frT (l:List Int):List UInt8:=if 0<l.length then [102,114,105,101,110,100]++(thL (l.map decB)++[10])else []
def fnH (f:Fn):List UInt8:=[102,117,110,99,32]++(Lib.itoa f.seen++(thL f.args++([32,58]++(thL f.rets++([32,58]++(thL f.locals++([32,58]++(thL (f.takes.map decB)++[10]))))))))
def fnT (f:Fn):List UInt8:=fnH f++codeT f.code
def headT (m:Mod):List UInt8:=m.records.flatMap recT++frT m.friends
def modT (m:Mod):List UInt8:=headT m++m.funcs.flatMap fnT
def Rec.rng (r:Rec):Prop:=inR r.able
def Ins.rng (i:Ins):Prop:=inR i.a∧inR i.b
def Fn.rng (f:Fn):Prop:=inR f.seen∧(∀n∈f.takes,inR n)∧∀i∈f.code,i.rng
def Mod.rng (m:Mod):Prop:=(∀r∈m.records,r.rng)∧(∀f∈m.funcs,f.rng)∧∀n∈m.friends,inR n
def many (f:Ins):Int:=if f.a=0 then 0 else if f.b=0 then 1 else 2
theorem a1L {i:Ins}(h:i.rng):(insE i).length≤43*(1+wIns i):=by
 have h1:=L7 h.1
 have h2:=L7 h.2
 have e:i.op.data.toList.length=i.op.size:=Array.length_toList
 unfold insE insL wIns
 simp only[List.length_append,e]
 split<;>split<;>simp only[List.length_cons,List.length_nil]<;>omega
theorem a55 {r:Rec}(h:r.rng):(recT r).length≤43*(1+wRec r):=by
 have h1:=L7 h
 unfold recT wRec
 simp only[List.length_append,G3,List.length_cons,List.length_nil]
 omega
theorem a7b (h:∀n∈l,inR n):(frT l).length≤7+21*l.length:=by
 have:=T1 h
 unfold frT
 split
 ·simp only[List.length_append,List.length_cons,List.length_nil];omega
 ·simp
theorem a0b {l:List Ins}(h:∀i∈l,i.rng):(codeT l).length≤43*wInss l:=a1H fun i hi=>a1L (h i hi)
variable {f:Fn}
theorem a3e (h:f.rng):(fnH f).length≤32+(wS f.args+wS f.rets+wS f.locals+21*f.takes.length):=by
 have h1:=L7 h.1
 have h2:=T1 h.2.1
 rw[G3]at h2
 unfold fnH
 simp only[List.length_append,G3,List.length_cons,List.length_nil]
 omega
theorem a64 (h:f.rng):(fnT f).length≤43*(1+wFn f):=by
 have h1:=a3e h
 have h2:=a0b h.2.2
 unfold fnT wFn
 rw[List.length_append]
 omega
theorem a6m {m:Mod}(h:m.rng)(hw:wMod m≤1048576):(m.records.flatMap recT).length≤43*wRecs m.records∧(frT m.friends).length≤7+21*m.friends.length∧(m.funcs.flatMap fnT).length≤43*wFns m.funcs∧
 wRecs m.records+wFns m.funcs+m.friends.length≤1048576:=
 ⟨a1H fun r hr=>a55 (h.1 r hr),a7b h.2.2,a1H fun f hf=>a64 (h.2.1 f hf),hw⟩
theorem rec_w {l:List Rec}(hi:i<l.length):wRec (nth l i)≤wRecs l:=by
 have:=a3E (f:=wRec) (List.mem_of_getElem? (j6 hi));unfold wRecs;omega
theorem fn_w {l:List Fn}(hi:i<l.length):wFn (nth l i)≤wFns l:=by
 have:=a3E (f:=wFn) (List.mem_of_getElem? (j6 hi));unfold wFns;omega
theorem ins_w {l:List Ins}(hi:i<l.length):wIns (nth l i)≤wInss l:=by
 have:=a3E (f:=wIns) (List.mem_of_getElem? (j6 hi));unfold wInss;omega
end Go.Proofs.Ytjfjdgjhihgdkaa
