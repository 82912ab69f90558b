/- Part 7 of the proof of FnModuleGoesOn. -/
import Derived.Test.YtjfjdgjhihgdkaaA6
import Derived.KernelRfl
set_option linter.unusedVariables false
set_option linter.unusedSimpArgs false
set_option maxRecDepth 100000
namespace Go.Proofs.Ytjfjdgjhihgdkaa
open Go Go.RowKit V
def ob7L (sh:List Mod)(ks:Kinds)(m:Nat)(f:Fn)(st pls:List Mk)(code:Int):List Leaf:=[.im false (.sl 3 (sh.map rMod)),.im true (.sl 1 (ks.map rRecs)),.im true (.int .i64 ((m:Nat):Int)),.im true (.int .i64 f.seen),.im true (.sl 1 (f.args.map rS)),.im true (.sl 1 (f.rets.map rS)),.im true (.sl 1 (f.locals.map rS)),.im true (.sl 1 (f.takes.map rI)),.im true (.sl 3 (f.code.map rIns)),.hd (obN+1) ((st.map rMk:List (List SV)).length) 0,.hd (obN+2) ((pls.map rMk:List (List SV)).length) 0,.im true (.int .i64 code)]
def ob7B (st pls:List Mk):List Blk:=[.mk (obN+1) 0 76 2 (st.map rMk),.mk (obN+2) 0 76 2 (pls.map rMk)]
def ob7 (sh:List Mod)(ks:Kinds)(m:Nat)(f:Fn)(st pls:List Mk)(code:Int):Slot:= .own obN (ob7L sh ks m f st pls code) (ob7B st pls)
@[reducible] def o7 (sh:List Mod) (ks:Kinds) (m:Nat) (f:Fn) (s:S7):Slot:=ob7 sh ks m f s.st s.pls s.code
@[reducible] def w7 (sh:List Mod) (ks:Kinds) (m:Nat) (f:Fn) (s:S7) (r:Slot):Wit:= .mth (ob7L sh ks m f s.st s.pls s.code) (ob7B s.st s.pls) r
theorem a2L (sh:List Mod)(ks:Kinds)(m:Nat)(f:Fn)(st pls:List Mk)(i:Nat)(x:Mk)(code:Int): .own obN [.im false (.sl 3 (sh.map rMod)),.im true (.sl 1 (ks.map rRecs)),.im true (.int .i64 ((m:Nat):Int)),.im true (.int .i64 f.seen),.im true (.sl 1 (f.args.map rS)),.im true (.sl 1 (f.rets.map rS)),.im true (.sl 1 (f.locals.map rS)),.im true (.sl 1 (f.takes.map rI)),.im true (.sl 3 (f.code.map rIns)),.hd (obN+1) ((st.map rMk:List (List SV)).length) 0,.hd (obN+2) ((pls.map rMk:List (List SV)).length) 0,.im true (.int .i64 code)] [.mk (obN+1) 0 76 2 (st.map rMk),.mk (obN+2) 0 76 2 ((pls.set i x).map rMk)]=ob7 sh ks m f st (pls.set i x) code:=by unfold ob7 ob7L ob7B;simp only[List.length_map,List.length_set]
theorem M8 (sh:List Mod)(ks:Kinds)(m:Nat)(f:Fn)(np Lb:Nat)(s:S7)(hI:I7 ks np Lb s)(c:Int):
 ∃o r,(fun o r=>∃k,(k=0→s.code=0∧c=0)∧o=ob7 sh ks m f s.st s.pls k∧r=(.tup [])) o r∧CallM Try.prog 84 [.lf (.im true (.int .i64 c))] (ob7 sh ks m f s.st s.pls s.code) o r:=by
 refine CallME (fn:=Try.f84) TTok mixed Try.func84 rfl rfl rfl rfl rfl ?_
 refine ex [(0,.lf (.ptr obN 0)),(1,o7 sh ks m f s),(2,.int c),(16,.bool (decide ((s.code:Int)=0)))] [] AllP.nil (by kernel_rfl) ?_
 refine ecp (fun h1=> ?_) fun h1=> ?_
 ·refine exed [2,16] [(1,ob7 sh ks m f s.st s.pls c)] [] AllP.nil ?_
  exact⟨.inr rfl,[],by kernel_rfl,rfl,by kernel_rfl,⟨_,by omega,rfl,rfl⟩⟩
 ·refine a5 ?_
  exact⟨.inr rfl,[],by kernel_rfl,rfl,by kernel_rfl,⟨_,by omega,rfl,rfl⟩⟩
theorem n6 (sh:List Mod)(ks:Kinds)(m:Nat)(f:Fn)(np Lb:Nat)(s:S7)(hI:I7 ks np Lb s)(ok:Bool)(c:Int)(hc:c≠0):
 ∃o r,(fun o r=>∃k,(k=0→s.code=0∧ok=true)∧o=ob7 sh ks m f s.st s.pls k∧r=(.tup [])) o r∧CallM Try.prog 60 [.lf (.im true (.bool ok)),.lf (.im true (.int .i64 c))] (ob7 sh ks m f s.st s.pls s.code) o r:=by
 refine CallME (fn:=Try.f60) TTok mixed Try.func60 rfl rfl rfl rfl rfl ?_
 refine ex [(0,.lf (.ptr obN 0)),(1,o7 sh ks m f s),(4,.int c),(14,.bool (!ok))] [] AllP.nil (by kernel_rfl) ?_
 refine ecd (fun h1=> ?_) fun h1=> ?_
 ·have h1:ok=false:=o4 h1
  obtain⟨_,_,⟨k1,hk1,rfl,rfl⟩,cc1⟩:=M8 sh ks m f np Lb ⟨s.st,s.pls,s.code⟩ hI c
  have hk1:k1=0→s.code=0∧(c:Int)=0:=hk1
  refine exed [4,14] [(1,ob7 sh ks m f s.st s.pls k1)] [(2,.mth (ob7L sh ks m f s.st s.pls k1) (ob7B s.st s.pls) (.tup []))] (cl2 tx84 cc1) ?_
  exact⟨.inr rfl,[],by kernel_rfl,rfl,by kernel_rfl,⟨_,fun h=>by have:=hk1 h;omega,rfl,rfl⟩⟩
 ·have h1:ok=true:=o3 h1
  refine a5 ?_
  exact⟨.inr rfl,[],by kernel_rfl,rfl,by kernel_rfl,⟨_,fun h=>⟨h,by simpa using h1⟩,rfl,rfl⟩⟩
theorem R2 (sh:List Mod)(ks:Kinds)(m:Nat)(f:Fn)(np Lb:Nat)(s:S7)(hI:I7 ks np Lb s)(t:ByteArray)(one:Int)(ht:IsKind t→kindIn ks t=true)(h1:one≠0):
 ∃o r,(fun o r=>o=ob7 sh ks m f s.st s.pls s.code∧r= .bool (canB (ableOf ks t) one)) o r∧CallM Try.prog 77 [.lf (.im true (.str t)),.lf (.im true (.int .i64 one))] (ob7 sh ks m f s.st s.pls s.code) o r:=by
 refine CallME (fn:=Try.f77) TTok mixed Try.func77 rfl rfl rfl rfl rfl ?_
 refine ex [(0,.lf (.ptr obN 0)),(1,o7 sh ks m f s),(2,.lf (.q t)),(4,.int one)] [] AllP.nil (by kernel_rfl) ?_
 refine exd [2,4] [(12,.bool (canB (ableOf ks t) one))] [(5,.ret (.int (ableOf ks t))),(7,.ret (.bool (canB (ableOf ks t) one)))] (a2 (cl tx47 (I0 ks t (by assumption))) (cl tx46 (j5 (ableOf ks t) one (by exact h1)))) ?_
 exact rtM rfl (⟨rfl,rfl⟩)
theorem o2 (sh:List Mod)(ks:Kinds)(m:Nat)(f:Fn)(np Lb:Nat)(s:S7)(hI:I7 ks np Lb s)(t:ByteArray)(org:List Int)(hok:s.code=0→MkOk ks ⟨t,org⟩)(hL:Lb≤1000000)(ho:org.length≤10):
 ∃o r,(fun o r=>∃s',(I7 ks np (Lb+1) s')∧(s'.code=s.code)∧(s'.pls=s.pls)∧o=ob7 sh ks m f s'.st s'.pls s'.code∧r=(.tup [])) o r∧CallM Try.prog 75 [.lf (.im true (.str t)),.lf (.im true (.sl 1 (org.map rI)))] (ob7 sh ks m f s.st s.pls s.code) o r:=by
 refine CallME (fn:=Try.f75) TTok mixed Try.func75 rfl rfl rfl rfl rfl ?_
 have hLs:=hI.l
 refine ex [(0,.lf (.ptr obN 0)),(1,o7 sh ks m f s),(2,.lf (.q t)),(4,.lf (.m 1 org rI)),(20,.bool (decide ((s.code:Int)=0)))] [] AllP.nil (by kernel_rfl) ?_
 refine ecp (fun h1=> ?_) fun h1=> ?_
 ·refine exed [2,4,20] [(1,ob7 sh ks m f (s.st++[(⟨t,org⟩:Mk)]) s.pls s.code)] [(5,.out 0),(9,.im),(11,.im),(12,.slot (.lf (.u (obN+1) 0 76 2 ((s.st++[(⟨t,org⟩:Mk)]).map rMk)))),(16,.inn 0)] (a2 (hl ((s.st.map rMk).length)) (a2 (ap (a:=([]:List (List SV)).length+((org.map rI):List (List SV)).length) (b:=8) (by have:=hI.l;simp;omega) (by unfold maxLen;have:=hI.l;simp;omega)) (a2 (a1 (show((s.st.map rMk)++[[.str t,.sl 1 (org.map rI)]]:List (List SV))=(s.st++[(⟨t,org⟩:Mk)]).map rMk by rw[List.map_append];rfl)) (ap (a:=(s.st.map rMk).length+([[.str t,.sl 1 (org.map rI)]]:List (List SV)).length) (b:=40) (by have:=hI.l;simp;omega) (by unfold maxLen;have:=hI.l;simp;omega))))) ?_
  exact⟨.inr rfl,[],by kernel_rfl,rfl,by kernel_rfl,⟨⟨s.st++[(⟨t,org⟩:Mk)],s.pls,s.code⟩,⟨fun x hx=>by rcases List.mem_append.1 hx with hx|hx;exact hI.st x hx;simp at hx;subst hx;exact hok h1,hI.pl,hI.n,by simp;omega⟩,rfl,rfl,rfl,rfl⟩⟩
 ·refine a5 ?_
  exact⟨.inr rfl,[],by kernel_rfl,rfl,by kernel_rfl,⟨s,hI.mono (by omega),rfl,rfl,rfl,rfl⟩⟩
theorem a3d (sh:List Mod)(ks:Kinds)(m:Nat)(f:Fn)(np Lb:Nat)(s:S7)(hI:I7 ks np Lb s)(n:Nat):
 ∃o r,(fun o r=>∃k b,(b=true→n<s.pls.length∧(nth s.pls n).type≠⟨#[]⟩∧k=s.code)∧(b=false→k≠0)∧(k=0→s.code=0)∧o=ob7 sh ks m f s.st s.pls k∧r= .bool b) o r∧CallM Try.prog 78 [.lf (.im true (.int .i64 ((n:Nat):Int)))] (ob7 sh ks m f s.st s.pls s.code) o r:=by
 refine CallME (fn:=Try.f78) TTok mixed Try.func78 rfl rfl rfl rfl rfl ?_
 refine ex [(0,.lf (.ptr obN 0)),(1,o7 sh ks m f s),(2,.int (n:Int))] [] AllP.nil (by kernel_rfl) ?_
 refine a7 ?_
 rcases bft (decide ((((n:Nat):Int):Int)≥((s.pls.length:Nat):Int)))with g1|g1
 ·have g1p:=d5 g1
  refine exd [2] [(48,.bool true)] [(6,.slot (.int (s.pls.length:Int))),(7,.slot (.bool true))] (a2 (lnl s.pls rMk) (kB g1)) ?_
  refine ecT rfl ?_
  obtain⟨_,_,⟨k1,hk1,rfl,rfl⟩,cc1⟩:=M8 sh ks m f np Lb ⟨s.st,s.pls,s.code⟩ hI 2
  have hk1:k1=0→s.code=0∧(2:Int)=0:=hk1
  refine exd [48] [(1,ob7 sh ks m f s.st s.pls k1)] [(1,.mth (ob7L sh ks m f s.st s.pls k1) (ob7B s.st s.pls) (.tup []))] (cl2 tx84 cc1) ?_
  refine exn [] [(8,.bool false)] ?_
  exact rtM rfl (⟨_,false,fun h=>(by cases h),fun _ h=>by have:=hk1 h;omega,fun h=>(hk1 h).1,rfl,rfl⟩)
 ·have g1p:=i5 g1
  refine exd [2] [(48,.bool (((nth s.pls n).type).toList==B4.toList))] [(6,.slot (.int (s.pls.length:Int))),(7,.slot (.bool false)),(17,.elem n 0 (rMk (nth s.pls n)) none)] (a2 (lnl s.pls rMk) (a2 (kB g1) (a2 (ixu (i:=n) (n:=(s.pls.map rMk).length) (by simp;omega)) (elT (f:=rMk) (l:=s.pls) (i:=n) (j:=0) (n:=1) (sz:=2) (off:=(n:Int).toNat*2+0) (j6 (l:=s.pls) (i:=n) (by omega)) (by omega) (by omega))))) ?_
  refine ecd (fun h2=> ?_) fun h2=> ?_
  ·obtain⟨_,_,⟨k2,hk2,rfl,rfl⟩,cc2⟩:=M8 sh ks m f np Lb ⟨s.st,s.pls,s.code⟩ hI 2
   have hk2:k2=0→s.code=0∧(2:Int)=0:=hk2
   refine exd [48] [(1,ob7 sh ks m f s.st s.pls k2)] [(1,.mth (ob7L sh ks m f s.st s.pls k2) (ob7B s.st s.pls) (.tup []))] (cl2 tx84 cc2) ?_
   refine exn [] [(8,.bool false)] ?_
   exact rtM rfl (⟨_,false,fun h=>(by cases h),fun _ h=>by have:=hk2 h;omega,fun h=>(hk2 h).1,rfl,rfl⟩)
  ·refine a5 (exn [48] [(8,.bool true)] ?_)
   exact rtM rfl (⟨_,true,fun _=>⟨by simp at*;omega,bytes_ne'.1 (by assumption),rfl⟩,fun h=>(by cases h),fun h=>h,rfl,rfl⟩)
theorem a6u (sh:List Mod)(ks:Kinds)(m:Nat)(f:Fn)(np Lb:Nat)(s:S7)(hI:I7 ks np Lb s)(q:Nat)(hm:m<ks.length)(hk3:ks.length≤10)(hr3:(nth ks m).length≤10):
 ∃o r,(fun o r=>∃k t,(t≠⟨#[]⟩→q<(nth ks m).length∧t=kn m q∧k=s.code)∧(t=⟨#[]⟩→k≠0)∧(k=0→s.code=0)∧(t.size≤3)∧o=ob7 sh ks m f s.st s.pls k∧r= .lf (.im true (.str t))) o r∧CallM Try.prog 83 [.lf (.im true (.int .i64 ((q:Nat):Int)))] (ob7 sh ks m f s.st s.pls s.code) o r:=by
 refine CallME (fn:=Try.f83) TTok mixed Try.func83 rfl rfl rfl rfl rfl ?_
 refine ex [(0,.lf (.ptr obN 0)),(1,o7 sh ks m f s),(2,.int (q:Int))] [] AllP.nil (by kernel_rfl) ?_
 refine a7 (exd [] [(34,.bool (decide ((q:Int)≥(((nth ks m).length:Nat):Int))))] [(9,.row (rRecs (nth ks m))),(11,.slot (.int (((nth ks m).length:Nat):Int)))] (a2 (ixn rRecs ks m) (lnl (nth ks m) rRec)) ?_)
 refine ecp (fun h1=> ?_) fun h1=> ?_
 ·obtain⟨_,_,⟨k1,hk1,rfl,rfl⟩,cc1⟩:=M8 sh ks m f np Lb ⟨s.st,s.pls,s.code⟩ hI 5
  have hk1:k1=0→s.code=0∧(5:Int)=0:=hk1
  refine exd [2,34] [(1,ob7 sh ks m f s.st s.pls k1)] [(1,.mth (ob7L sh ks m f s.st s.pls k1) (ob7B s.st s.pls) (.tup []))] (cl2 tx84 cc1) ?_
  refine exn [] [(8,.lf (.q B4))] ?_
  exact rtM rfl (⟨_,⟨#[]⟩,fun h=>absurd rfl h,fun _ h=>by have:=hk1 h;omega,fun h=>(hk1 h).1,by decide,rfl,rfl⟩)
 ·refine a5 (exd [2,34] [(8,.lf (.q ((B10++(dgt (m:Int)))++(dgt (q:Int)))))] [(4,.ret (.lf (.q (dgt (m:Int))))),(7,.ret (.lf (.q (dgt (q:Int)))))] (a2 (cl tx53 (F8 m (by omega))) (a2 (a1 (StrFit.mk (a:=B10) (b:=(dgt (m:Int))) (by exact strf (by simp only[ByteArray.size_append,F9];have q1:B10.size=1:=rfl;omega)))) (a2 (cl tx53 (F8 q (by omega))) (a1 (StrFit.mk (a:=(B10++(dgt (m:Int)))) (b:=(dgt (q:Int))) (by exact strf (by simp only[ByteArray.size_append,F9];have q1:B10.size=1:=rfl;omega))))))) ?_)
  exact rtM rfl (⟨_,kn m q,fun _=>⟨by omega,rfl,rfl⟩,fun h=>absurd (congrArg ByteArray.size h) (by rw[(a4T m (by omega) q (by omega)).2.2.2];decide),fun h=>h,by rw[(a4T m (by omega) q (by omega)).2.2.2];exact Nat.le_refl _,rfl,rfl⟩)
theorem y5 (sh:List Mod)(ks:Kinds)(m:Nat)(f:Fn)(np Lb:Nat)(s:S7)(hI:I7 ks np Lb s)(ty:List ByteArray)(ht:ty.length≤1000000)(hL:Lb≤1000000):
 ∃o r,(fun o r=>∃s' x,(I7 ks np Lb s')∧(s'.code=0→s.code=0∧MkOk ks x∧(ty=[]∨x.type∈ty))∧(s'.pls=s.pls)∧(x.type.size≤4∧x.org.length≤10)∧o=ob7 sh ks m f s'.st s'.pls s'.code∧r= .agg [.im true (.str x.type),.im true (.sl 1 (x.org.map rI))]) o r∧CallM Try.prog 76 [.lf (.im true (.sl 1 (ty.map rS)))] (ob7 sh ks m f s.st s.pls s.code) o r:=by
 refine CallME (fn:=Try.f76) TTok mixed Try.func76 rfl rfl rfl rfl rfl ?_
 have hLs:=hI.l
 refine ex [(0,.lf (.ptr obN 0)),(1,o7 sh ks m f s),(2,.lf (.m 1 ty rS)),(8,.lf (.ptr 4 0)),(9,.cell 4 [.q ⟨#[]⟩,.nil])] [] AllP.nil (by kernel_rfl) ?_
 refine exd [] [(10,.int (s.st.length:Int))] [(5,.slot (.int (s.st.length:Int)))] (lnl s.st rMk) ?_
 refine a7 (exn [] [(38,.bool (decide ((s.code:Int)≠0)))] ?_)
 refine ecp (fun h1=> ?_) fun h1=> ?_
 ·refine exn [2,10,38] [] ?_
  refine etd [] [(9,.cell 4 [.q ⟨#[]⟩,.m 1 noMk.org rI])] (fun E=>j4 4 1 1 rfl rfl) ?_
  exact rtM rfl (⟨⟨s.st,s.pls,s.code⟩,noMk,hI.code _,fun h=>absurd h (by omega),rfl,⟨by decide,by decide⟩,rfl,rfl⟩)
 ·refine a5 (a7 (exn [38] [(44,.bool (decide ((s.st.length:Int)=0)))] ?_))
  refine ecp (fun h2=> ?_) fun h2=> ?_
  ·obtain⟨_,_,⟨k1,hk1,rfl,rfl⟩,cc1⟩:=M8 sh ks m f np Lb ⟨s.st,s.pls,s.code⟩ hI 1
   have hk1:k1=0→s.code=0∧(1:Int)=0:=hk1
   refine exd [2,10,44] [(1,ob7 sh ks m f s.st s.pls k1)] [(1,.mth (ob7L sh ks m f s.st s.pls k1) (ob7B s.st s.pls) (.tup []))] (cl2 tx84 cc1) ?_
   refine exn [] [] ?_
   refine etd [] [(9,.cell 4 [.q ⟨#[]⟩,.m 1 noMk.org rI])] (fun E=>j4 4 1 1 rfl rfl) ?_
   exact rtM rfl (⟨⟨s.st,s.pls,k1⟩,noMk,hI.code _,fun h=>absurd h (by intro h;have:=hk1 h;omega),rfl,⟨by decide,by decide⟩,rfl,rfl⟩)
  ·have hmk:MkOk ks (nth s.st (s.st.length-1)):=hI.st _ (c6 (by omega))
   refine a5 (exd [44] [(12,.lf (.ptr 6 0)),(13,.cell 6 [.q ((nth s.st (s.st.length-1)).type),.m 1 ((nth s.st (s.st.length-1)).org) rI])] [(6,.slot (.int ((s.st.length-1:Nat):Int))),(8,.elem (s.st.length-1) 0 (rMk (nth s.st (s.st.length-1))) none)] (a2 (wIo ((s.st.length:Int)-1) ((s.st.length-1:Nat):Int)) (a2 (ixu (i:=s.st.length-1) (n:=(s.st.map rMk).length) (by simp;omega)) (elT (f:=rMk) (l:=s.st) (i:=s.st.length-1) (j:=0) (n:=2) (sz:=2) (off:=((s.st.length-1:Nat):Int).toNat*2) (j6 (l:=s.st) (i:=s.st.length-1) (by omega)) (by omega) (by omega)))) ?_)
   refine exd [] [(14,.bool (decide ((ty.length:Int)=0)))] [(1,.slot (.int (ty.length:Int)))] (lnl ty rS) ?_
   refine a7 (exn [] [(16,.int 0)] ?_)
   refine a9 (eld (fun l0 n L=>∃(i:Nat) (b:Bool),L=upG [] [(14,.bool b),(16,.int (i:Int))] l0∧n=ty.length-i∧(i≤ty.length∧(b=true→ty=[]∨(nth s.st (s.st.length-1)).type∈ty))) _ ⟨0,decide ((ty.length:Int)=0),rfl,rfl,⟨by omega,fun h=> .inl (by have:=d5 h;exact List.length_eq_zero_iff.1 (by omega))⟩⟩ ?_)
   rintro n L ⟨i,b,rfl,rfl,hP1⟩
   refine a7 (exd [] [(82,.bool (decide ((i:Int)<(ty.length:Int))))] [(2,.slot (.int (ty.length:Int)))] (lnl ty rS) ?_)
   refine ecp (fun h3=> ?_) fun h3=> ?_
   ·refine a5 ?_
    refine a7 ?_
    refine a9 ?_
    rcases bft b with g1|g1
    ·have g1p:=g1
     refine exed [82] [(14,.bool true)] [(0,.slot (.bool true))] (kB g1) ?_
     exact exed [] [(16,.int (↑(i+1):Int))] [(1,.slot (.int (↑(i+1):Int)))] (wI1 i) (⟨_,by omega,(i+1),true,rfl,rfl,⟨by omega,fun h=>by first|exact hP1.2 (by assumption)|exact .inr (by have hx:=y0.1 h;rw[hx];exact c6 (by omega))⟩⟩)
    ·have g1p:=g1
     refine exed [82] [(14,.bool (((nth s.st (s.st.length-1)).type).toList==(nth ty i).toList))] [(0,.slot (.bool false)),(6,.row (rS (nth ty i)))] (a2 (kB g1) (ixn rS ty i)) ?_
     exact exed [] [(16,.int (↑(i+1):Int))] [(1,.slot (.int (↑(i+1):Int)))] (wI1 i) (⟨_,by omega,(i+1),(((nth s.st (s.st.length-1)).type).toList==(nth ty i).toList),rfl,rfl,⟨by omega,fun h=>by first|exact hP1.2 (by assumption)|exact .inr (by have hx:=y0.1 h;rw[hx];exact c6 (by omega))⟩⟩)
   ·refine d9 (a7 (exn [2,14,16,82] [(110,.bool (!b))] ?_))
    refine ecd (fun h4=> ?_) fun h4=> ?_
    ·have h4:b=false:=o4 h4
     obtain⟨_,_,⟨k2,hk2,rfl,rfl⟩,cc2⟩:=M8 sh ks m f np Lb ⟨s.st,s.pls,s.code⟩ hI 1
     have hk2:k2=0→s.code=0∧(1:Int)=0:=hk2
     refine exd [10,12,13,110] [(1,ob7 sh ks m f s.st s.pls k2)] [(1,.mth (ob7L sh ks m f s.st s.pls k2) (ob7B s.st s.pls) (.tup []))] (cl2 tx84 cc2) ?_
     refine exn [] [] ?_
     refine etd [] [(9,.cell 4 [.q ⟨#[]⟩,.m 1 noMk.org rI])] (fun E=>j4 4 1 1 rfl rfl) ?_
     exact rtM rfl (⟨⟨s.st,s.pls,k2⟩,noMk,hI.code _,fun h=>absurd h (by intro h;have:=hk2 h;omega),rfl,⟨by decide,by decide⟩,rfl,rfl⟩)
    ·have h4:b=true:=o3 h4
     have hty:=hP1.2 h4
     refine a5 (exd [10,110] [(1,ob7 sh ks m f (s.st.take (s.st.length-1)) s.pls s.code)] [(5,.out 0),(7,.slot (.int ((s.st.length-1:Nat):Int))),(8,.cut 0 (s.st.length-1) (.lf (.u (obN+1) 0 76 2 ((s.st.take (s.st.length-1)).map rMk)))),(12,.inn 0)] (a2 (hl ((s.st.map rMk).length)) (a2 (wIo ((s.st.length:Int)-1) ((s.st.length-1:Nat):Int)) (cutU (f:=rMk) (l:=s.st) (h:=s.st.length-1) (i:=((s.st.length-1:Nat):Int)) rfl (by omega) (show(.lf (.u (obN+1) 0 76 2 ((s.st.map rMk).take (s.st.length-1))):Slot)= .lf (.u (obN+1) 0 76 2 ((s.st.take (s.st.length-1)).map rMk))by rw[List.map_take])))) ?_)
     refine exn [12,13] [(9,.cell 4 [.q ((nth s.st (s.st.length-1)).type),.m 1 ((nth s.st (s.st.length-1)).org) rI])] ?_
     exact rtM rfl (⟨⟨s.st.take (s.st.length-1),s.pls,s.code⟩,(nth s.st (s.st.length-1)),⟨fun x hx=>hI.st x (List.mem_of_mem_take hx),hI.pl,hI.n,by simp;omega⟩,fun h=>⟨h,hmk,hty⟩,rfl,⟨by have:=hmk.ty.size;omega,hmk.len⟩,rfl,rfl⟩)
theorem in_x (l:List Int)(hl:l.length≤1000000)(fr:Int):
 ∃s,(fun s=>∃b,s= .bool b) s∧CallV Try.prog 15 [.lf (.im true (.sl 1 (l.map rI))),.lf (.im true (.int .i64 fr))] (·=s):=by
 refine CallE (fn:=Try.f15) TTok mixed Try.func15 rfl rfl rfl rfl rfl ?_
 refine ex [(0,.lf (.m 1 l rI)),(2,.int fr)] [] AllP.nil (by kernel_rfl) ?_
 refine a7 (exn [] [(10,.int 0)] ?_)
 refine a9 (eld (fun l0 n L=>∃(i:Nat),L=upG [] [(10,.int (i:Int))] l0∧n=l.length-i∧(i≤l.length)) _ ⟨0,rfl,rfl,by omega⟩ ?_)
 rintro n L ⟨i,rfl,rfl,hP1⟩
 refine a7 (exd [] [(18,.bool (decide ((i:Int)<(l.length:Int))))] [(2,.slot (.int (l.length:Int)))] (lnl l rI) ?_)
 refine ecp (fun h1=> ?_) fun h1=> ?_
 ·refine a5 (a7 (a9 (exd [18] [(34,.bool (decide (((nth l i):Int)=fr)))] [(2,.row (rI (nth l i)))] (ixn rI l i) ?_)))
  refine ecp (fun h2=> ?_) fun h2=> ?_
  ·refine exn [0,2,10,34] [(8,.bool true)] ?_
   exact rtE rfl (⟨_,rfl⟩)
  ·exact a5 (exed [34] [(10,.int (↑(i+1):Int))] [(1,.slot (.int (↑(i+1):Int)))] (wI1 i) (⟨_,by omega,(i+1),rfl,rfl,by omega⟩))
 ·refine d9 (exn [0,2,10,18] [(8,.bool false)] ?_)
  exact rtE rfl (⟨_,rfl⟩)
theorem in_xL (l:List Int)(hl:l.length≤1000000)(fr:Int):
 ∃s,(fun s=>∃b,s= .bool b) s∧CallV Try.prog 15 [.lf (.im false (.sl 1 (l.map rI))),.lf (.im true (.int .i64 fr))] (·=s):=by
 refine CallE (fn:=Try.f15) TTok mixed Try.func15 rfl rfl rfl rfl rfl ?_
 refine ex [(0,.lf (.l 1 l rI)),(2,.int fr)] [] AllP.nil (by kernel_rfl) ?_
 refine a7 (exn [] [(10,.int 0)] ?_)
 refine a9 (eld (fun l0 n L=>∃(i:Nat),L=upG [] [(10,.int (i:Int))] l0∧n=l.length-i∧(i≤l.length)) _ ⟨0,rfl,rfl,by omega⟩ ?_)
 rintro n L ⟨i,rfl,rfl,hP1⟩
 refine a7 (exd [] [(18,.bool (decide ((i:Int)<(l.length:Int))))] [(2,.slot (.int (l.length:Int)))] (lnl l rI) ?_)
 refine ecp (fun h1=> ?_) fun h1=> ?_
 ·refine a5 (a7 (a9 (exd [18] [(34,.bool (decide (((nth l i):Int)=fr)))] [(2,.row (rI (nth l i)))] (ixn rI l i) ?_)))
  refine ecp (fun h2=> ?_) fun h2=> ?_
  ·refine exn [0,2,10,34] [(8,.bool true)] ?_
   exact rtE rfl (⟨_,rfl⟩)
  ·exact a5 (exed [34] [(10,.int (↑(i+1):Int))] [(1,.slot (.int (↑(i+1):Int)))] (wI1 i) (⟨_,by omega,(i+1),rfl,rfl,by omega⟩))
 ·refine d9 (exn [0,2,10,18] [(8,.bool false)] ?_)
  exact rtE rfl (⟨_,rfl⟩)
theorem a1T (l:List Mk)(hl:l.length≤1000000)(hl9:∀x∈l,x.org.length≤10)(fr:Int)(w:Bool):
 ∃s,(fun s=>∃b,s= .bool b) s∧CallV Try.prog 95 [.lf (.im false (.sl 2 (l.map rMk))),.lf (.im true (.int .i64 fr)),.lf (.im true (.bool w))] (·=s):=by
 refine CallE (fn:=Try.f95) TTok mixed Try.func95 rfl rfl rfl rfl rfl ?_
 refine ex [(0,.lf (.l 2 l rMk)),(2,.int fr),(4,.bool w)] [] AllP.nil (by kernel_rfl) ?_
 refine a7 (exn [] [(14,.int 0)] ?_)
 refine a9 (eld (fun l0 n L=>∃(i:Nat),L=upG [] [(14,.int (i:Int))] l0∧n=l.length-i∧(i≤l.length)) _ ⟨0,rfl,rfl,by omega⟩ ?_)
 rintro n L ⟨i,rfl,rfl,hP1⟩
 refine a7 (exd [] [(22,.bool (decide ((i:Int)<(l.length:Int))))] [(2,.slot (.int (l.length:Int)))] (lnl l rMk) ?_)
 refine ecp (fun h1=> ?_) fun h1=> ?_
 ·refine a5 ?_
  refine a7 ?_
  refine a9 ?_
  rcases bft (isRef ((nth l i).type))with g1|g1
  ·have g1p:=g1
   obtain⟨_,⟨b1,rfl⟩,cc1⟩:=in_xL ((nth l i).org) (by have hx9:=hl9 _ (c6 (l:=l) (i:=i) (by omega));omega) fr
   rcases bft b1 with g2|g2
   ·have g2p:=g2
    rcases bft (!w)with g3|g3
    ·have g3p:=o4 g3
     refine exd [22] [(82,.bool true)] [(2,.row (rMk (nth l i))),(5,.ret (.bool (isRef ((nth l i).type)))),(6,.slot (.bool true)),(9,.row (rMk (nth l i))),(13,.ret (.bool b1)),(14,.slot (.bool true)),(17,.slot (.bool true))] (a2 (ixn rMk l i) (a2 (cl tx41 (i9 ((nth l i).type))) (a2 (kB g1) (a2 (ixn rMk l i) (a2 (cl tx15 cc1) (a2 (kB g2) (kB g3))))))) ?_
     refine ecT rfl ?_
     refine exn [0,2,4,14,82] [(12,.bool true)] ?_
     exact rtE rfl (⟨_,rfl⟩)
    ·have g3p:=o3 g3
     refine exd [22] [(82,.bool (decide (((((bt ((nth l i).type) 0).toNat:Nat):Int):Int)=33)))] [(2,.row (rMk (nth l i))),(5,.ret (.bool (isRef ((nth l i).type)))),(6,.slot (.bool true)),(9,.row (rMk (nth l i))),(13,.ret (.bool b1)),(14,.slot (.bool true)),(17,.slot (.bool false)),(21,.row (rMk (nth l i))),(24,.byte (bt ((nth l i).type) 0))] (a2 (ixn rMk l i) (a2 (cl tx41 (i9 ((nth l i).type))) (a2 (kB g1) (a2 (ixn rMk l i) (a2 (cl tx15 cc1) (a2 (kB g2) (a2 (kB g3) (a2 (ixn rMk l i) (z8 (t:=(nth l i).type) (i:=0) (by exact(A2.1 (by assumption)).1)))))))))) ?_
     refine ecp (fun h3=> ?_) fun h3=> ?_
     ·refine exn [0,2,4,14,82] [(12,.bool true)] ?_
      exact rtE rfl (⟨_,rfl⟩)
     ·exact a5 (exed [82] [(14,.int (↑(i+1):Int))] [(1,.slot (.int (↑(i+1):Int)))] (wI1 i) (⟨_,by omega,(i+1),rfl,rfl,by omega⟩))
   ·have g2p:=g2
    refine exd [22] [(82,.bool false)] [(2,.row (rMk (nth l i))),(5,.ret (.bool (isRef ((nth l i).type)))),(6,.slot (.bool true)),(9,.row (rMk (nth l i))),(13,.ret (.bool b1)),(14,.slot (.bool false))] (a2 (ixn rMk l i) (a2 (cl tx41 (i9 ((nth l i).type))) (a2 (kB g1) (a2 (ixn rMk l i) (a2 (cl tx15 cc1) (kB g2)))))) ?_
    refine ecF rfl ?_
    exact a5 (exed [82] [(14,.int (↑(i+1):Int))] [(1,.slot (.int (↑(i+1):Int)))] (wI1 i) (⟨_,by omega,(i+1),rfl,rfl,by omega⟩))
  ·have g1p:=g1
   refine exd [22] [(82,.bool false)] [(2,.row (rMk (nth l i))),(5,.ret (.bool (isRef ((nth l i).type)))),(6,.slot (.bool false))] (a2 (ixn rMk l i) (a2 (cl tx41 (i9 ((nth l i).type))) (kB g1))) ?_
   refine ecF rfl ?_
   exact a5 (exed [82] [(14,.int (↑(i+1):Int))] [(1,.slot (.int (↑(i+1):Int)))] (wI1 i) (⟨_,by omega,(i+1),rfl,rfl,by omega⟩))
 ·refine d9 (exn [0,2,4,14,22] [(12,.bool false)] ?_)
  exact rtE rfl (⟨_,rfl⟩)
theorem Y9 (a b:List Mk)(ha:a.length≤1000000)(ha9:∀x∈a,x.org.length≤10)(hb:b.length≤1000000)(hb9:∀x∈b,x.org.length≤10)(fr:Int):
 ∃s,(fun s=>∃b,s= .bool b) s∧CallV Try.prog 80 [.agg [.im false (.sl 2 (a.map rMk)),.im false (.sl 2 (b.map rMk))],.lf (.im true (.int .i64 fr))] (·=s):=by
 refine CallE (fn:=Try.f80) TTok mixed Try.func80 rfl rfl rfl rfl rfl ?_
 refine ex [(2,.int fr),(4,.lf (.ptr 2 0)),(5,.cell 2 [.l 2 a rMk,.l 2 b rMk])] [] AllP.nil (by kernel_rfl) ?_
 obtain⟨_,⟨b1,rfl⟩,cc1⟩:=a1T a (by assumption) (by assumption) fr false
 rcases bft b1 with g1|g1
 ·have g1p:=g1
  refine exd [2,4,5] [(8,.bool true)] [(3,.ret (.bool b1)),(4,.slot (.bool true))] (a2 (cl tx95 cc1) (kB g1)) ?_
  exact rtE rfl (⟨_,rfl⟩)
 ·have g1p:=g1
  obtain⟨_,⟨b2,rfl⟩,cc2⟩:=a1T b (by assumption) (by assumption) fr false
  refine exd [2,4,5] [(8,.bool b2)] [(3,.ret (.bool b1)),(4,.slot (.bool false)),(8,.ret (.bool b2))] (a2 (cl tx95 cc1) (a2 (kB g1) (cl tx95 cc2))) ?_
  exact rtE rfl (⟨_,rfl⟩)
theorem a4V (a b:List Mk)(ha:a.length≤1000000)(ha9:∀x∈a,x.org.length≤10)(hb:b.length≤1000000)(hb9:∀x∈b,x.org.length≤10)(fr:Int):
 ∃s,(fun s=>∃b,s= .bool b) s∧CallV Try.prog 79 [.agg [.im false (.sl 2 (a.map rMk)),.im false (.sl 2 (b.map rMk))],.lf (.im true (.int .i64 fr))] (·=s):=by
 refine CallE (fn:=Try.f79) TTok mixed Try.func79 rfl rfl rfl rfl rfl ?_
 refine ex [(2,.int fr),(4,.lf (.ptr 2 0)),(5,.cell 2 [.l 2 a rMk,.l 2 b rMk])] [] AllP.nil (by kernel_rfl) ?_
 obtain⟨_,⟨b1,rfl⟩,cc1⟩:=a1T a (by assumption) (by assumption) fr true
 rcases bft b1 with g1|g1
 ·have g1p:=g1
  refine exd [2,4,5] [(8,.bool true)] [(3,.ret (.bool b1)),(4,.slot (.bool true))] (a2 (cl tx95 cc1) (kB g1)) ?_
  exact rtE rfl (⟨_,rfl⟩)
 ·have g1p:=g1
  obtain⟨_,⟨b2,rfl⟩,cc2⟩:=a1T b (by assumption) (by assumption) fr true
  refine exd [2,4,5] [(8,.bool b2)] [(3,.ret (.bool b1)),(4,.slot (.bool false)),(8,.ret (.bool b2))] (a2 (cl tx95 cc1) (a2 (kB g1) (cl tx95 cc2))) ?_
  exact rtE rfl (⟨_,rfl⟩)
theorem a6W (a b:List Int)(ha:a.length≤1000000)(hb:b.length≤1000000):
 ∃s,(fun s=>∃l:List Int,l.length≤10∧s= .lf (.im true (.sl 1 (l.map rI)))) s∧CallV Try.prog 87 [.lf (.im true (.sl 1 (a.map rI))),.lf (.im true (.sl 1 (b.map rI)))] (·=s):=by
 refine CallE (fn:=Try.f87) TTok mixed Try.func87 rfl rfl rfl rfl rfl ?_
 refine ex [(0,.lf (.m 1 a rI)),(2,.lf (.m 1 b rI))] [] AllP.nil (by kernel_rfl) ?_
 refine exn [] [(10,.lf (.u 7 0 3 1 []))] ?_
 refine a7 (exn [] [(12,.int 0)] ?_)
 refine a9 (eld (fun l0 n L=>∃(i:Nat) (out:List Int),L=upG [] [(10,.lf (.u 7 0 3 1 (out.map rI))),(12,.int (i:Int))] l0∧n=10-i∧(i≤10∧out.length≤i)) _ ⟨0,[],rfl,rfl,⟨by omega,by simp⟩⟩ ?_)
 rintro n L ⟨i,out,rfl,rfl,hP1⟩
 refine a7 (exn [] [(18,.bool (decide ((i:Int)≤9)))] ?_)
 refine ecp (fun h1=> ?_) fun h1=> ?_
 ·refine a5 ?_
  refine a7 ?_
  refine a9 ?_
  obtain⟨_,⟨b1,rfl⟩,cc1⟩:=in_x a (by assumption) (i:Int)
  rcases bft b1 with g1|g1
  ·have g1p:=g1
   refine exd [18] [(38,.bool true)] [(2,.ret (.bool b1)),(3,.slot (.bool true))] (a2 (cl tx15 cc1) (kB g1)) ?_
   refine ecT rfl ?_
   refine exed [38] [(10,.lf (.u 7 0 3 1 ((out++[(i:Int)]).map rI)))] [(2,.slot (.lf (.m 1 [(i:Int)] rI))),(3,.slot (.lf (.u 7 0 3 1 ((out++[(i:Int)]).map rI))))] (a2 (a1 (show([[.int .i64 (i:Int)]]:List (List SV))=([(i:Int)].map rI)from rfl)) (a2 (a1 (show((out.map rI)++([(i:Int)].map rI):List (List SV))=(out++[(i:Int)]).map rI by rw[List.map_append]<;>rfl)) (a2 (hl ((out.map rI).length)) (ap (a:=(out.map rI).length+(([(i:Int)].map rI):List (List SV)).length) (b:=8) (by have:=hP1.2;first|omega|(simp only[List.length_map,List.length_cons,List.length_nil];omega)) (by unfold maxLen;have:=hP1.2;first|omega|(simp only[List.length_map,List.length_cons,List.length_nil];omega)))))) ?_
   exact exed [] [(12,.int (↑(i+1):Int))] [(1,.slot (.int (↑(i+1):Int)))] (wI1 i) (⟨_,by omega,(i+1),(out++[(i:Int)]),rfl,rfl,⟨by omega,by have:=hP1.2;first|omega|(simp only[List.length_append,List.length_cons,List.length_nil];omega)⟩⟩)
  ·have g1p:=g1
   obtain⟨_,⟨b2,rfl⟩,cc2⟩:=in_x b (by assumption) (i:Int)
   refine exd [18] [(38,.bool b2)] [(2,.ret (.bool b1)),(3,.slot (.bool false)),(6,.ret (.bool b2))] (a2 (cl tx15 cc1) (a2 (kB g1) (cl tx15 cc2))) ?_
   refine ecd (fun h3=> ?_) fun h3=> ?_
   ·refine exed [38] [(10,.lf (.u 7 0 3 1 ((out++[(i:Int)]).map rI)))] [(2,.slot (.lf (.m 1 [(i:Int)] rI))),(3,.slot (.lf (.u 7 0 3 1 ((out++[(i:Int)]).map rI))))] (a2 (a1 (show([[.int .i64 (i:Int)]]:List (List SV))=([(i:Int)].map rI)from rfl)) (a2 (a1 (show((out.map rI)++([(i:Int)].map rI):List (List SV))=(out++[(i:Int)]).map rI by rw[List.map_append]<;>rfl)) (a2 (hl ((out.map rI).length)) (ap (a:=(out.map rI).length+(([(i:Int)].map rI):List (List SV)).length) (b:=8) (by have:=hP1.2;first|omega|(simp only[List.length_map,List.length_cons,List.length_nil];omega)) (by unfold maxLen;have:=hP1.2;first|omega|(simp only[List.length_map,List.length_cons,List.length_nil];omega)))))) ?_
    exact exed [] [(12,.int (↑(i+1):Int))] [(1,.slot (.int (↑(i+1):Int)))] (wI1 i) (⟨_,by omega,(i+1),(out++[(i:Int)]),rfl,rfl,⟨by omega,by have:=hP1.2;first|omega|(simp only[List.length_append,List.length_cons,List.length_nil];omega)⟩⟩)
   ·exact a5 (exed [38] [(12,.int (↑(i+1):Int))] [(1,.slot (.int (↑(i+1):Int)))] (wI1 i) (⟨_,by omega,(i+1),out,rfl,rfl,⟨by omega,by have:=hP1.2;first|omega|(simp only[List.length_append,List.length_cons,List.length_nil];omega)⟩⟩))
 ·refine d9 (efd 5 [] [(10,.lf (.m 1 out rI))] ?_)
  refine exn [0,2,10,12,18] [(8,.lf (.m 1 out rI))] ?_
  exact rtE rfl (⟨_,by omega,rfl⟩)
theorem plc_x (f:Fn)(pn:Nat)(hn:pn<f.args.length+f.locals.length)(hs:f.args.length≤1000000)(hs2:f.locals.length≤1000000):
 ∃s,(fun s=>∃t,s= .lf (.im true (.str t))) s∧CallV Try.prog 96 [.agg [.im true (.int .i64 f.seen),.im true (.sl 1 (f.args.map rS)),.im true (.sl 1 (f.rets.map rS)),.im true (.sl 1 (f.locals.map rS)),.im true (.sl 1 (f.takes.map rI)),.im true (.sl 3 (f.code.map rIns))],.lf (.im true (.int .i64 ((pn:Nat):Int)))] (·=s):=by
 refine CallE (fn:=Try.f96) TTok mixed Try.func96 rfl rfl rfl rfl rfl ?_
 refine ex [(2,.int (pn:Int)),(4,.lf (.ptr 2 0)),(5,.cell 2 [.z f.seen,.m 1 f.args rS,.m 1 f.rets rS,.m 1 f.locals rS,.m 1 f.takes rI,.m 3 f.code rIns])] [] AllP.nil (by kernel_rfl) ?_
 refine a7 (exd [] [(18,.bool (decide ((pn:Int)<(f.args.length:Int))))] [(3,.slot (.int (f.args.length:Int)))] (lnl f.args rS) ?_)
 refine ecp (fun h1=> ?_) fun h1=> ?_
 ·refine exd [2,4,5,18] [(8,.lf (.q (nth f.args pn)))] [(3,.row (rS (nth f.args pn)))] (ixn rS f.args pn) ?_
  exact rtE rfl (⟨_,rfl⟩)
 ·refine a5 (exd [2,4,5,18] [(8,.lf (.q (nth f.locals (pn-f.args.length))))] [(5,.slot (.int (f.args.length:Int))),(6,.slot (.int ((pn-f.args.length:Nat):Int))),(7,.row (rS (nth f.locals (pn-f.args.length))))] (a2 (lnl f.args rS) (a2 (wIo ((pn:Int)-(f.args.length:Int)) ((pn-f.args.length:Nat):Int)) (ixn rS f.locals (pn-f.args.length)))) ?_)
  exact rtE rfl (⟨_,rfl⟩)
theorem has_x (a:List Mod)(m q:Nat)(ha:a.length≤1000000)(hf:∀j,j<a.length→(nth a j).funcs.length≤1000000∧(nth a j).friends.length≤1000000):
 ∃s,(fun s=>∃b,(b=true→m<a.length∧q<(nth a m).funcs.length)∧s= .bool b) s∧CallV Try.prog 97 [.lf (.im false (.sl 3 (a.map rMod))),.lf (.im true (.int .i64 ((m:Nat):Int))),.lf (.im true (.int .i64 ((q:Nat):Int)))] (·=s):=by
 refine CallE (fn:=Try.f97) TTok mixed Try.func97 rfl rfl rfl rfl rfl ?_
 refine ex [(0,.lf (.l 3 a rMod)),(2,.int (m:Int)),(4,.int (q:Int))] [] AllP.nil (by kernel_rfl) ?_
 rcases bft (inI m 0 (((a.length:Nat):Int)-1))with g1|g1
 ·have g1p:=g1
  refine exd [0,2,4] [(12,.bool (inI q 0 (((((nth a m).funcs).length:Nat):Int)-1)))] [(2,.slot (.int (a.length:Int))),(3,.slot (.int ((a.length:Int)-1))),(4,.ret (.bool (inI m 0 ((a.length:Int)-1)))),(5,.slot (.bool true)),(9,.row (rMod (nth a m))),(12,.slot (.int ((((nth a m).funcs).length:Nat):Int))),(13,.slot (.int (((((nth a m).funcs).length:Nat):Int)-1))),(14,.ret (.bool (inI q 0 (((((nth a m).funcs).length:Nat):Int)-1))))] (a2 (lnl a rMod) (a2 (wI (a:=(a.length:Int)-1) (b:=(a.length:Int)-1) (by first|omega|(have:=(hf m (by unfold inI at*;simp at*;omega)).1;omega)) (by first|omega|(have:=(hf m (by unfold inI at*;simp at*;omega)).1;omega)) (by first|omega|(have:=(hf m (by unfold inI at*;simp at*;omega)).1;omega))) (a2 (cl tx10 (y1 m 0 ((a.length:Int)-1))) (a2 (kB g1) (a2 (ixn rMod a m (by unfold inI at*;simp at*;omega)) (a2 (lnl ((nth a m).funcs) rFn) (a2 (wI (a:=((((nth a m).funcs).length:Nat):Int)-1) (b:=((((nth a m).funcs).length:Nat):Int)-1) (by first|omega|(have:=(hf m (by unfold inI at*;simp at*;omega)).1;omega)) (by first|omega|(have:=(hf m (by unfold inI at*;simp at*;omega)).1;omega)) (by first|omega|(have:=(hf m (by unfold inI at*;simp at*;omega)).1;omega))) (cl tx10 (y1 q 0 (((((nth a m).funcs).length:Nat):Int)-1)))))))))) ?_
  exact rtE rfl (⟨_,fun h=>(by first|(simp[inI]at*;done)|(simp[inI]at*;omega)),rfl⟩)
 ·have g1p:=g1
  refine exd [0,2,4] [(12,.bool false)] [(2,.slot (.int (a.length:Int))),(3,.slot (.int ((a.length:Int)-1))),(4,.ret (.bool (inI m 0 ((a.length:Int)-1)))),(5,.slot (.bool false))] (a2 (lnl a rMod) (a2 (wI (a:=(a.length:Int)-1) (b:=(a.length:Int)-1) (by first|omega|(have:=(hf m (by unfold inI at*;simp at*;omega)).1;omega)) (by first|omega|(have:=(hf m (by unfold inI at*;simp at*;omega)).1;omega)) (by first|omega|(have:=(hf m (by unfold inI at*;simp at*;omega)).1;omega))) (a2 (cl tx10 (y1 m 0 ((a.length:Int)-1))) (kB g1)))) ?_
  exact rtE rfl (⟨_,fun h=>(by first|(simp[inI]at*;done)|(simp[inI]at*;omega)),rfl⟩)
theorem seen_x (a:List Mod)(w m q:Nat)(ha:a.length≤1000000)(hf:∀j,j<a.length→(nth a j).funcs.length≤1000000∧(nth a j).friends.length≤1000000):
 ∃s,(fun s=>∃b,(b=true→(m<a.length∧q<(nth a m).funcs.length)∧m≤w)∧s= .bool b) s∧CallV Try.prog 86 [.lf (.im false (.sl 3 (a.map rMod))),.lf (.im true (.int .i64 ((w:Nat):Int))),.lf (.im true (.int .i64 ((m:Nat):Int))),.lf (.im true (.int .i64 ((q:Nat):Int)))] (·=s):=by
 refine CallE (fn:=Try.f86) TTok mixed Try.func86 rfl rfl rfl rfl rfl ?_
 refine ex [(0,.lf (.l 3 a rMod)),(2,.int (w:Int)),(4,.int (m:Int)),(6,.int (q:Int))] [] AllP.nil (by kernel_rfl) ?_
 refine a7 ?_
 obtain⟨_,⟨b1,hh1,rfl⟩,cc1⟩:=has_x a m q (by assumption) (by assumption)
 rcases bft (!b1)with g1|g1
 ·have g1p:=o4 g1
  refine exd [] [(54,.bool true)] [(3,.ret (.bool b1)),(4,.slot (.bool true))] (a2 (cl tx97 cc1) (kB g1)) ?_
  refine ecT rfl ?_
  refine exn [0,2,4,6,54] [(16,.bool false)] ?_
  exact rtE rfl (⟨_,fun h=>(by first|exact hq|cases h),rfl⟩)
 ·have g1p:=o3 g1
  rcases bft (!(inI w 0 (((a.length:Nat):Int)-1)))with g2|g2
  ·have g2p:=o4 g2
   refine exd [] [(54,.bool true)] [(3,.ret (.bool b1)),(4,.slot (.bool false)),(8,.slot (.int (a.length:Int))),(9,.slot (.int ((a.length:Int)-1))),(10,.ret (.bool (inI w 0 ((a.length:Int)-1)))),(11,.slot (.bool true))] (a2 (cl tx97 cc1) (a2 (kB g1) (a2 (lnl a rMod) (a2 (wIo ((a.length:Int)-1) ((a.length:Int)-1)) (a2 (cl tx10 (y1 w 0 ((a.length:Int)-1))) (kB g2)))))) ?_
   refine ecT rfl ?_
   refine exn [0,2,4,6,54] [(16,.bool false)] ?_
   exact rtE rfl (⟨_,fun h=>(by first|exact hq|cases h),rfl⟩)
  ·have g2p:=o3 g2
   refine exd [] [(54,.bool (decide ((m:Int)>(w:Int))))] [(3,.ret (.bool b1)),(4,.slot (.bool false)),(8,.slot (.int (a.length:Int))),(9,.slot (.int ((a.length:Int)-1))),(10,.ret (.bool (inI w 0 ((a.length:Int)-1)))),(11,.slot (.bool false))] (a2 (cl tx97 cc1) (a2 (kB g1) (a2 (lnl a rMod) (a2 (wIo ((a.length:Int)-1) ((a.length:Int)-1)) (a2 (cl tx10 (y1 w 0 ((a.length:Int)-1))) (kB g2)))))) ?_
   refine ecp (fun h3=> ?_) fun h3=> ?_
   ·refine exn [0,2,4,6,54] [(16,.bool false)] ?_
    exact rtE rfl (⟨_,fun h=>(by first|exact hq|cases h),rfl⟩)
   ·refine a5 ?_
    have hq:(m<a.length∧q<(nth a m).funcs.length)∧m≤w:=⟨hh1 (by assumption),by omega⟩
    refine exd [6,54] [(18,.int ((nth ((nth a m).funcs) q).seen))] [(2,.row (rMod (nth a m))),(6,.row (rFn (nth ((nth a m).funcs) q)))] (a2 (ixn rMod a m) (ixn rFn ((nth a m).funcs) q)) ?_
    rcases bft (decide ((((m:Nat):Int):Int)=((w:Nat):Int)))with g3|g3
    ·have g3p:=d5 g3
     refine exd [0,2,4,18] [(16,.bool true)] [(2,.slot (.bool true))] (kB g3) ?_
     exact rtE rfl (⟨_,fun h=>(by first|exact hq|cases h),rfl⟩)
    ·have g3p:=i5 g3
     rcases bft (decide (((nth ((nth a m).funcs) q).seen:Int)=2))with g4|g4
     ·have g4p:=d5 g4
      refine exd [0,2,4,18] [(16,.bool true)] [(2,.slot (.bool false)),(5,.slot (.bool true))] (a2 (kB g3) (kB g4)) ?_
      exact rtE rfl (⟨_,fun h=>(by first|exact hq|cases h),rfl⟩)
     ·have g4p:=i5 g4
      rcases bft (decide (((nth ((nth a m).funcs) q).seen:Int)=1))with g5|g5
      ·have g5p:=d5 g5
       obtain⟨_,⟨b2,rfl⟩,cc2⟩:=in_xL ((nth a m).friends) (by have:=(hf m (by omega)).2;omega) (w:Int)
       refine exd [0,2,4,18] [(16,.bool b2)] [(2,.slot (.bool false)),(5,.slot (.bool false)),(9,.slot (.bool true)),(13,.row (rMod (nth a m))),(17,.ret (.bool b2))] (a2 (kB g3) (a2 (kB g4) (a2 (kB g5) (a2 (ixn rMod a m) (cl tx15 cc2))))) ?_
       exact rtE rfl (⟨_,fun h=>(by first|exact hq|cases h),rfl⟩)
      ·have g5p:=i5 g5
       refine exd [0,2,4,18] [(16,.bool false)] [(2,.slot (.bool false)),(5,.slot (.bool false)),(9,.slot (.bool false))] (a2 (kB g3) (a2 (kB g4) (kB g5))) ?_
       exact rtE rfl (⟨_,fun h=>(by first|exact hq|cases h),rfl⟩)
end Go.Proofs.Ytjfjdgjhihgdkaa
