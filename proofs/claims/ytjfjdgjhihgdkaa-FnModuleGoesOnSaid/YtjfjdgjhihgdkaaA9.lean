/- Part 9 of the proof of FnModuleGoesOn. -/
import Derived.Test.YtjfjdgjhihgdkaaA8
import Derived.KernelRfl
set_option linter.unusedVariables false
set_option linter.unusedSimpArgs false
set_option maxRecDepth 100000
namespace Go.Proofs.Ytjfjdgjhihgdkaa
open Go Go.RowKit V
namespace N5
theorem a5x :FieldOne Try.prog 76 1 1:=FieldOne.of TTok Try.underlying76 rfl rfl rfl rfl rfl
end N5
open N5
theorem call_x (sh:List Mod)(ks:Kinds)(m:Nat)(f:Fn)(np Lb:Nat)(s:S7)(hI:I7 ks np Lb s)(op:ByteArray)(ia ib:Nat)(hi9:ia≤1000000∧ib≤1000000)(hC:C7 sh ks m f np)(hL:Lb≤900000):
 ∃o r,(fun o r=>∃s',(I7 ks np (Lb+4) s')∧(s'.code=0→s.code=0)∧o=ob7 sh ks m f s'.st s'.pls s'.code∧r=(.tup [])) o r∧CallM Try.prog 61 [.agg [.im true (.str op),.im true (.int .i64 ((ia:Nat):Int)),.im true (.int .i64 ((ib:Nat):Int))]] (ob7 sh ks m f s.st s.pls s.code) o r:=by
 refine CallME (fn:=Try.f61) TTok mixed Try.func61 rfl rfl rfl rfl rfl ?_
 have hm:=hC.hm
 have hk3:=hC.hk3
 have hr3:=hC.hr3
 have hLs:=hI.l
 have hnp:=hI.n
 have hnp2:=hC.hnp
 have hsml:=hC.sml
 refine ex [(0,.lf (.ptr obN 0)),(1,o7 sh ks m f s),(6,.lf (.ptr 3 0)),(7,.cell 3 [.q op,.z (ia:Int),.z (ib:Int)])] [] AllP.nil (by kernel_rfl) ?_
 refine a7 ?_
 obtain⟨_,⟨b1,hh1,rfl⟩,cc1⟩:=seen_x sh m ia ib hC.shl hC.fnl
 refine exd [] [(48,.bool (!b1))] [(12,.ret (.bool b1))] (cl tx86 cc1) ?_
 refine ecd (fun h1=> ?_) fun h1=> ?_
 ·have h1:b1=false:=o4 h1
  obtain⟨_,_,⟨k1,hk1,rfl,rfl⟩,cc2⟩:=M8 sh ks m f np Lb ⟨s.st,s.pls,s.code⟩ hI 6
  have hk1:k1=0→s.code=0∧(6:Int)=0:=hk1
  refine exd [6,7,48] [(1,ob7 sh ks m f s.st s.pls k1)] [(1,.mth (ob7L sh ks m f s.st s.pls k1) (ob7B s.st s.pls) (.tup []))] (cl2 tx84 cc2) ?_
  exact rtM rfl (⟨⟨s.st,s.pls,k1⟩,((hI.code k1)).mono (by omega),fun q=>(hk1 q).1,rfl,rfl⟩)
 ·have h1:b1=true:=o3 h1
  have hG:=hC.fns ia (hh1 h1).2 _ (c6 (hh1 h1).1.2)
  have hG1:=hG.1
  have hG2:=hG.2.2.1
  have hG3:=hG.2.2.2.1
  refine a5 (exd [48] [(8,.lf (.ptr 4 0)),(9,.cell 4 [.z ((nth ((nth sh ia).funcs) ib).seen),.l 1 ((nth ((nth sh ia).funcs) ib).args) rS,.l 1 ((nth ((nth sh ia).funcs) ib).rets) rS,.l 1 ((nth ((nth sh ia).funcs) ib).locals) rS,.l 1 ((nth ((nth sh ia).funcs) ib).takes) rI,.l 3 ((nth ((nth sh ia).funcs) ib).code) rIns])] [(6,.row (rMod (nth sh ia))),(11,.row (rFn (nth ((nth sh ia).funcs) ib)))] (a2 (ixn rMod sh ia (by first|omega|exact(hh1 (by assumption)).1.1|exact(hh1 (by assumption)).1.2)) (ixn rFn ((nth sh ia).funcs) ib (by first|omega|exact(hh1 (by assumption)).1.1|exact(hh1 (by assumption)).1.2))) ?_)
  refine a7 (exn [] [(10,.int 0)] ?_)
  refine a9 (eld (fun l0 n L=>∃(i:Nat) (tt1:S7),L=upG [] [(1,o7 sh ks m f tt1),(10,.int (i:Int))] l0∧n=(nth (nth sh ia).funcs ib).takes.length-i∧((i≤(nth (nth sh ia).funcs ib).takes.length)∧I7 ks np Lb tt1∧(tt1.code=0→s.code=0))) _ ⟨0,⟨s.st,s.pls,s.code⟩,rfl,rfl,⟨by omega,hI,fun h=>h⟩⟩ ?_)
  rintro n L ⟨i,tt1,rfl,rfl,hP1⟩
  have hv1:=hP1.1
  have hIt1:=hP1.2.1
  have hct1:=hP1.2.2
  refine a7 ?_
  obtain⟨zc,hz⟩:∃c,c=(decide ((i:Int)<(((nth (nth sh ia).funcs ib).takes.length:Nat):Int))&&decide ((ia:Int)=(m:Int))):=⟨_,rfl⟩
  refine ejd [] [(106,.bool zc)] (by
   rcases bft (decide ((((i:Nat):Int):Int)<((((nth ((nth sh ia).funcs) ib).takes).length:Nat):Int)))with g1|g1
   ·have g1p:=d5 g1
    exact runJ [(3,.slot (.int ((((nth ((nth sh ia).funcs) ib).takes).length:Nat):Int))),(4,.slot (.bool true)),(13,.slot (.bool zc))] (a2 (lnl ((nth ((nth sh ia).funcs) ib).takes) rI) (a2 (kB g1) (kBs (decide ((ia:Int)=(m:Int))) zc)))
   ·have g1p:=i5 g1
    exact runJ [(3,.slot (.int ((((nth ((nth sh ia).funcs) ib).takes).length:Nat):Int))),(4,.slot (.bool false)),(13,.slot (.bool zc))] (a2 (lnl ((nth ((nth sh ia).funcs) ib).takes) rI) (a2 (kB g1) (kBs false zc)))) ?_
  subst hz
  refine ecd (fun h2=> ?_) fun h2=> ?_
  ·have hi1:=d5 (Bool.and_eq_true_iff.1 h2).1
   have hi2:=d5 (Bool.and_eq_true_iff.1 h2).2
   refine a5 ?_
   refine a7 ?_
   refine a9 ?_
   obtain⟨_,⟨b2,rfl⟩,cc3⟩:=in_x f.takes (by omega) (nth ((nth ((nth sh ia).funcs) ib).takes) i)
   obtain⟨_,_,⟨k2,hk2,rfl,rfl⟩,cc4⟩:=n6 sh ks m f np Lb ⟨tt1.st,tt1.pls,tt1.code⟩ hIt1 b2 6 (by decide)
   have hk2:k2=0→tt1.code=0∧b2=true:=hk2
   refine exed [106] [(1,ob7 sh ks m f tt1.st tt1.pls k2)] [(9,.row (rI (nth ((nth ((nth sh ia).funcs) ib).takes) i))),(11,.ret (.bool b2)),(12,.mth (ob7L sh ks m f tt1.st tt1.pls k2) (ob7B tt1.st tt1.pls) (.tup []))] (a2 (ixn rI ((nth ((nth sh ia).funcs) ib).takes) i (by first|omega|exact(hh1 (by assumption)).1.1|exact(hh1 (by assumption)).1.2)) (a2 (cl tx15 cc3) (cl2 tx60 cc4))) ?_
   exact exed [] [(1,ob7 sh ks m f ((⟨tt1.st,tt1.pls,k2⟩:S7).st) ((⟨tt1.st,tt1.pls,k2⟩:S7).pls) ((⟨tt1.st,tt1.pls,k2⟩:S7).code)),(10,.int (↑(i+1):Int))] [(1,.slot (.int (↑(i+1):Int)))] (wI (a:=(i:Int)+1) (b:=(↑(i+1):Int)) (by first|omega|(have:=hG.2.2.2.2 _ (c6 (l:=(nth (nth sh ia).funcs ib).takes) (i:=iw) (by omega));omega)) (by first|omega|(have:=hG.2.2.2.2 _ (c6 (l:=(nth (nth sh ia).funcs ib).takes) (i:=iw) (by omega));omega)) (by first|omega|(have:=hG.2.2.2.2 _ (c6 (l:=(nth (nth sh ia).funcs ib).takes) (i:=iw) (by omega));omega))) (⟨_,by omega,(i+1),⟨tt1.st,tt1.pls,k2⟩,rfl,rfl,⟨by omega,(hIt1.code k2),fun q=>hct1 (hk2 q).1⟩⟩)
  ·refine d9 (exn [10,106] [(12,.bool false)] ?_)
   refine a7 (exn [] [(14,.int 0)] ?_)
   refine a9 (eld (fun l0 n L=>∃(iw:Nat) (b:Bool),L=upG [] [(12,.bool b),(14,.int (iw:Int))] l0∧n=(nth (nth sh ia).funcs ib).takes.length-iw∧(iw≤(nth (nth sh ia).funcs ib).takes.length)) _ ⟨0,false,rfl,rfl,by omega⟩ ?_)
   rintro n L ⟨iw,b,rfl,rfl,hP2⟩
   refine a7 ?_
   obtain⟨zc,hz⟩:∃c,c=(decide ((iw:Int)<(((nth (nth sh ia).funcs ib).takes.length:Nat):Int))&&decide ((ia:Int)=(m:Int))):=⟨_,rfl⟩
   refine ejd [] [(164,.bool zc)] (by
    rcases bft (decide ((((iw:Nat):Int):Int)<((((nth ((nth sh ia).funcs) ib).takes).length:Nat):Int)))with g2|g2
    ·have g2p:=d5 g2
     exact runJ [(3,.slot (.int ((((nth ((nth sh ia).funcs) ib).takes).length:Nat):Int))),(4,.slot (.bool true)),(13,.slot (.bool zc))] (a2 (lnl ((nth ((nth sh ia).funcs) ib).takes) rI) (a2 (kB g2) (kBs (decide ((ia:Int)=(m:Int))) zc)))
    ·have g2p:=i5 g2
     exact runJ [(3,.slot (.int ((((nth ((nth sh ia).funcs) ib).takes).length:Nat):Int))),(4,.slot (.bool false)),(13,.slot (.bool zc))] (a2 (lnl ((nth ((nth sh ia).funcs) ib).takes) rI) (a2 (kB g2) (kBs false zc)))) ?_
   subst hz
   refine ecd (fun h3=> ?_) fun h3=> ?_
   ·have hi1:=d5 (Bool.and_eq_true_iff.1 h3).1
    have hi2:=d5 (Bool.and_eq_true_iff.1 h3).2
    refine a5 ?_
    refine a7 ?_
    refine a9 ?_
    rcases bft b with g3|g3
    ·have g3p:=g3
     refine exed [164] [(12,.bool true)] [(0,.slot (.bool true))] (kB g3) ?_
     exact exed [] [(14,.int (↑(iw+1):Int))] [(1,.slot (.int (↑(iw+1):Int)))] (wI (a:=(iw:Int)+1) (b:=(↑(iw+1):Int)) (by first|omega|(have:=hG.2.2.2.2 _ (c6 (l:=(nth (nth sh ia).funcs ib).takes) (i:=iw) (by omega));omega)) (by first|omega|(have:=hG.2.2.2.2 _ (c6 (l:=(nth (nth sh ia).funcs ib).takes) (i:=iw) (by omega));omega)) (by first|omega|(have:=hG.2.2.2.2 _ (c6 (l:=(nth (nth sh ia).funcs ib).takes) (i:=iw) (by omega));omega))) (⟨_,by omega,(iw+1),true,rfl,rfl,by omega⟩)
    ·have g3p:=g3
     obtain⟨_,⟨b3,rfl⟩,cc5⟩:=Y9 tt1.st tt1.pls (by have:=(hIt1).l;(try simp only at this);omega) (fun x hx=>((hIt1).st x hx).len) (by have:=(hIt1).n;(try simp only at this);omega) (fun x hx=>((hIt1).pl x hx).len) (6+(nth ((nth ((nth sh ia).funcs) ib).takes) iw))
     refine exed [164] [(12,.bool b3)] [(0,.slot (.bool false)),(9,.row (rI (nth ((nth ((nth sh ia).funcs) ib).takes) iw))),(11,.slot (.int (6+(nth ((nth ((nth sh ia).funcs) ib).takes) iw)))),(12,.ret (.bool b3))] (a2 (kB g3) (a2 (ixn rI ((nth ((nth sh ia).funcs) ib).takes) iw (by first|omega|exact(hh1 (by assumption)).1.1|exact(hh1 (by assumption)).1.2)) (a2 (wI (a:=6+(nth ((nth ((nth sh ia).funcs) ib).takes) iw)) (b:=6+(nth ((nth ((nth sh ia).funcs) ib).takes) iw)) (by first|omega|(have:=hG.2.2.2.2 _ (c6 (l:=(nth (nth sh ia).funcs ib).takes) (i:=iw) (by omega));omega)) (by first|omega|(have:=hG.2.2.2.2 _ (c6 (l:=(nth (nth sh ia).funcs ib).takes) (i:=iw) (by omega));omega)) (by first|omega|(have:=hG.2.2.2.2 _ (c6 (l:=(nth (nth sh ia).funcs ib).takes) (i:=iw) (by omega));omega))) (a2 (hl ((tt1.st.map rMk).length)) (a2 (hl ((tt1.pls.map rMk).length)) (cl tx80 cc5)))))) ?_
     exact exed [] [(14,.int (↑(iw+1):Int))] [(1,.slot (.int (↑(iw+1):Int)))] (wI (a:=(iw:Int)+1) (b:=(↑(iw+1):Int)) (by first|omega|(have:=hG.2.2.2.2 _ (c6 (l:=(nth (nth sh ia).funcs ib).takes) (i:=iw) (by omega));omega)) (by first|omega|(have:=hG.2.2.2.2 _ (c6 (l:=(nth (nth sh ia).funcs ib).takes) (i:=iw) (by omega));omega)) (by first|omega|(have:=hG.2.2.2.2 _ (c6 (l:=(nth (nth sh ia).funcs ib).takes) (i:=iw) (by omega));omega))) (⟨_,by omega,(iw+1),b3,rfl,rfl,by omega⟩)
   ·refine d9 (exd [6,7,14,164] [(16,.lf (.m 1 ([]:List Int) rI))] [(0,.im)] AllP.nil ?_)
    refine a7 (exd [] [(18,.int (((((nth ((nth sh ia).funcs) ib).args).length:Nat):Int)-1))] [(2,.slot (.int ((((nth ((nth sh ia).funcs) ib).args).length:Nat):Int))),(3,.slot (.int (((((nth ((nth sh ia).funcs) ib).args).length:Nat):Int)-1)))] (a2 (lnl ((nth ((nth sh ia).funcs) ib).args) rS) (wI (a:=((((nth ((nth sh ia).funcs) ib).args).length:Nat):Int)-1) (b:=((((nth ((nth sh ia).funcs) ib).args).length:Nat):Int)-1) (by first|omega|(have:=hG.2.2.2.2 _ (c6 (l:=(nth (nth sh ia).funcs ib).takes) (i:=iw) (by omega));omega)) (by first|omega|(have:=hG.2.2.2.2 _ (c6 (l:=(nth (nth sh ia).funcs ib).takes) (i:=iw) (by omega));omega)) (by first|omega|(have:=hG.2.2.2.2 _ (c6 (l:=(nth (nth sh ia).funcs ib).takes) (i:=iw) (by omega));omega)))) ?_)
    refine a9 (eld (fun l0 n L=>∃(j:Nat) (u:List Int) (tt2:S7),L=upG [] [(1,o7 sh ks m f tt2),(16,.lf (.m 1 u rI)),(18,.int ((j:Int)-1))] l0∧n=j+1∧((j≤(nth (nth sh ia).funcs ib).args.length∧u.length≤10)∧I7 ks np Lb tt2∧(tt2.code=0→tt1.code=0))) _ ⟨(nth (nth sh ia).funcs ib).args.length,[],⟨tt1.st,tt1.pls,tt1.code⟩,rfl,rfl,⟨⟨Nat.le_refl _,by simp⟩,hIt1,fun h=>h⟩⟩ ?_)
    rintro n L ⟨j,u,tt2,rfl,rfl,hP3⟩
    have hv2:=hP3.1
    have hIt2:=hP3.2.1
    have hct2:=hP3.2.2
    have hu:=hv2.2
    have hj:=hv2.1
    refine a7 (exn [] [(210,.bool (decide (((j:Int)-1:Int)≥0)))] ?_)
    refine ecp (fun h4=> ?_) fun h4=> ?_
    ·refine a5 ?_
     refine a7 ?_
     refine a9 ?_
     obtain⟨_,_,⟨s1,mk1,hI1,hp1,hp2,hp3,rfl,rfl⟩,cc6⟩:=y5 sh ks m f np Lb ⟨tt2.st,tt2.pls,tt2.code⟩ hIt2 [(nth ((nth ((nth sh ia).funcs) ib).args) (j-1))] (by simp) (by omega)
     have hp1:s1.code=0→tt2.code=0∧MkOk ks mk1∧([(nth ((nth ((nth sh ia).funcs) ib).args) (j-1))]=[]∨mk1.type∈[(nth ((nth ((nth sh ia).funcs) ib).args) (j-1))]):=hp1
     have hp2:s1.pls=tt2.pls:=hp2
     have hp2l:s1.pls.length=tt2.pls.length:=congrArg List.length hp2
     have hp3z:mk1.type.size≤4∧mk1.org.length≤10:=hp3
     obtain⟨_,⟨u1,hu1,rfl⟩,cc7⟩:=a6W u mk1.org (by omega) (by omega)
     refine exed [210] [(1,o7 sh ks m f s1),(16,.lf (.m 1 u1 rI))] [(4,.slot (.int ((j-1:Nat):Int))),(5,.row (rS (nth ((nth ((nth sh ia).funcs) ib).args) (j-1)))),(7,.slot (.lf (.m 1 [(nth ((nth ((nth sh ia).funcs) ib).args) (j-1))] rS))),(8,w7 sh ks m f s1 (.agg [.q mk1.type,.m 1 mk1.org rI])),(9,.cut 1 0 .hole),(10,.ret (.lf (.m 1 u1 rI)))] (a2 (a1 (show(Slot.int ((j:Int)-1):Slot)= .int ((j-1:Nat):Int)by rw[show((j:Int)-1:Int)=((j-1:Nat):Int)by omega])) (a2 (ixn rS ((nth ((nth sh ia).funcs) ib).args) (j-1) (by first|omega|exact(hh1 (by assumption)).1.1|exact(hh1 (by assumption)).1.2)) (a2 (a1 (show([[.str (nth ((nth ((nth sh ia).funcs) ib).args) (j-1))]]:List (List SV))=([(nth ((nth ((nth sh ia).funcs) ib).args) (j-1))].map rS)from rfl)) (a2 (cl2 tx76 cc6) (a2 (a1 a5x) (cl tx87 cc7)))))) ?_
     exact exed [] [(1,ob7 sh ks m f ((⟨s1.st,s1.pls,s1.code⟩:S7).st) ((⟨s1.st,s1.pls,s1.code⟩:S7).pls) ((⟨s1.st,s1.pls,s1.code⟩:S7).code)),(18,.int (((j-1:Nat):Int)-1))] [(1,.slot (.int (((j-1:Nat):Int)-1)))] (wIo (((j:Int)-1)-1) (((j-1:Nat):Int)-1)) (⟨_,by omega,(j-1),u1,⟨s1.st,s1.pls,s1.code⟩,rfl,rfl,⟨⟨by omega,by omega⟩,hI1,fun q=>hct2 (hp1 q).1⟩⟩)
    ·refine d9 ?_
     obtain⟨_,_,⟨k3,hk3,rfl,rfl⟩,cc8⟩:=n6 sh ks m f np Lb ⟨tt2.st,tt2.pls,tt2.code⟩ hIt2 (!b) 4 (by decide)
     have hk3:k3=0→tt2.code=0∧(!b)=true:=hk3
     refine exd [12,18,210] [(1,ob7 sh ks m f tt2.st tt2.pls k3)] [(3,.mth (ob7L sh ks m f tt2.st tt2.pls k3) (ob7B tt2.st tt2.pls) (.tup []))] (cl2 tx60 cc8) ?_
     refine exn [] [(20,.int 0)] ?_
     refine a9 (eld (fun l0 n L=>∃(i:Nat) (tt3:S7),L=upG [] [(1,o7 sh ks m f tt3),(20,.int (i:Int))] l0∧n=(nth (nth sh ia).funcs ib).rets.length-i∧((i≤(nth (nth sh ia).funcs ib).rets.length)∧I7 ks np (Lb+i) tt3∧(tt3.code=0→k3=0))) _ ⟨0,⟨tt2.st,tt2.pls,k3⟩,rfl,rfl,⟨by omega,(hIt2.code k3),fun h=>h⟩⟩ ?_)
     rintro n L ⟨i,tt3,rfl,rfl,hP4⟩
     have hv3:=hP4.1
     have hIt3:=hP4.2.1
     have hct3:=hP4.2.2
     refine a7 (exd [] [(254,.bool (decide ((i:Int)<((((nth ((nth sh ia).funcs) ib).rets).length:Nat):Int))))] [(3,.slot (.int ((((nth ((nth sh ia).funcs) ib).rets).length:Nat):Int)))] (lnl ((nth ((nth sh ia).funcs) ib).rets) rS) ?_)
     refine ecp (fun h5=> ?_) fun h5=> ?_
     ·refine a5 (a7 (a9 (exd [254] [(270,.bool (isRef (nth ((nth ((nth sh ia).funcs) ib).rets) i)))] [(3,.row (rS (nth ((nth ((nth sh ia).funcs) ib).rets) i))),(5,.ret (.bool (isRef (nth ((nth ((nth sh ia).funcs) ib).rets) i))))] (a2 (ixn rS ((nth ((nth sh ia).funcs) ib).rets) i (by first|omega|exact(hh1 (by assumption)).1.1|exact(hh1 (by assumption)).1.2)) (cl tx41 (i9 (nth ((nth ((nth sh ia).funcs) ib).rets) i)))) ?_)))
      refine ecd (fun h6=> ?_) fun h6=> ?_
      ·obtain⟨_,_,⟨s2,hI2,hs1,hs2,rfl,rfl⟩,cc9⟩:=o2 sh ks m f np (Lb+i) ⟨tt3.st,tt3.pls,tt3.code⟩ hIt3 (nth ((nth ((nth sh ia).funcs) ib).rets) i) u (fun _=>J6 (hG.2.1 _ (c6 (by omega))) (by first|(simp;done)|exact hu)) (by omega) (by first|(simp;done)|exact hu|omega)
       have hs1:s2.code=tt3.code:=hs1
       refine exed [270] [(1,o7 sh ks m f s2)] [(4,.row (rS (nth ((nth ((nth sh ia).funcs) ib).rets) i))),(7,w7 sh ks m f s2 (.tup []))] (a2 (ixn rS ((nth ((nth sh ia).funcs) ib).rets) i (by first|omega|exact(hh1 (by assumption)).1.1|exact(hh1 (by assumption)).1.2)) (cl2 tx75 cc9)) ?_
       exact exed [] [(1,ob7 sh ks m f ((⟨s2.st,s2.pls,s2.code⟩:S7).st) ((⟨s2.st,s2.pls,s2.code⟩:S7).pls) ((⟨s2.st,s2.pls,s2.code⟩:S7).code)),(20,.int (↑(i+1):Int))] [(1,.slot (.int (↑(i+1):Int)))] (wI (a:=(i:Int)+1) (b:=(↑(i+1):Int)) (by first|omega|(have:=hG.2.2.2.2 _ (c6 (l:=(nth (nth sh ia).funcs ib).takes) (i:=iw) (by omega));omega)) (by first|omega|(have:=hG.2.2.2.2 _ (c6 (l:=(nth (nth sh ia).funcs ib).takes) (i:=iw) (by omega));omega)) (by first|omega|(have:=hG.2.2.2.2 _ (c6 (l:=(nth (nth sh ia).funcs ib).takes) (i:=iw) (by omega));omega))) (⟨_,by omega,(i+1),⟨s2.st,s2.pls,s2.code⟩,rfl,rfl,⟨by omega,hI2,fun q=>hct3 (hs1.symm.trans q)⟩⟩)
      ·obtain⟨_,_,⟨s3,hI3,hs3,hs4,rfl,rfl⟩,cc10⟩:=o2 sh ks m f np (Lb+i) ⟨tt3.st,tt3.pls,tt3.code⟩ hIt3 (nth ((nth ((nth sh ia).funcs) ib).rets) i) [] (fun _=>J6 (hG.2.1 _ (c6 (by omega))) (by first|(simp;done)|exact hu)) (by omega) (by first|(simp;done)|exact hu|omega)
       have hs3:s3.code=tt3.code:=hs3
       refine exed [270] [(1,o7 sh ks m f s3)] [(4,.row (rS (nth ((nth ((nth sh ia).funcs) ib).rets) i))),(6,w7 sh ks m f s3 (.tup []))] (a2 (ixn rS ((nth ((nth sh ia).funcs) ib).rets) i (by first|omega|exact(hh1 (by assumption)).1.1|exact(hh1 (by assumption)).1.2)) (cl2 tx75 (CallM.nil (a:=[.lf (.q (nth ((nth ((nth sh ia).funcs) ib).rets) i))]) (b:=[]) (sz:=1) cc10))) ?_
       exact exed [] [(1,ob7 sh ks m f ((⟨s3.st,s3.pls,s3.code⟩:S7).st) ((⟨s3.st,s3.pls,s3.code⟩:S7).pls) ((⟨s3.st,s3.pls,s3.code⟩:S7).code)),(20,.int (↑(i+1):Int))] [(1,.slot (.int (↑(i+1):Int)))] (wI (a:=(i:Int)+1) (b:=(↑(i+1):Int)) (by first|omega|(have:=hG.2.2.2.2 _ (c6 (l:=(nth (nth sh ia).funcs ib).takes) (i:=iw) (by omega));omega)) (by first|omega|(have:=hG.2.2.2.2 _ (c6 (l:=(nth (nth sh ia).funcs ib).takes) (i:=iw) (by omega));omega)) (by first|omega|(have:=hG.2.2.2.2 _ (c6 (l:=(nth (nth sh ia).funcs ib).takes) (i:=iw) (by omega));omega))) (⟨_,by omega,(i+1),⟨s3.st,s3.pls,s3.code⟩,rfl,rfl,⟨by omega,hI3,fun q=>hct3 (hs3.symm.trans q)⟩⟩)
     ·refine d9 ?_
      exact⟨.inr rfl,[],by kernel_rfl,rfl,by kernel_rfl,⟨⟨tt3.st,tt3.pls,tt3.code⟩,(hIt3).mono (by omega),fun q=>(hct1 (hct2 (hk3 (hct3 q)).1)),rfl,rfl⟩⟩
theorem ret_x (sh:List Mod)(ks:Kinds)(m:Nat)(f:Fn)(np Lb:Nat)(s:S7)(hI:I7 ks np Lb s)(hC:C7 sh ks m f np)(hL:Lb≤900000):
 ∃o r,(fun o r=>∃s',(I7 ks np Lb s')∧(s'.code=0→s.code=0)∧o=ob7 sh ks m f s'.st s'.pls s'.code∧r=(.tup [])) o r∧CallM Try.prog 62 [] (ob7 sh ks m f s.st s.pls s.code) o r:=by
 refine CallME (fn:=Try.f62) TTok mixed Try.func62 rfl rfl rfl rfl rfl ?_
 have hm:=hC.hm
 have hk3:=hC.hk3
 have hr3:=hC.hr3
 have hLs:=hI.l
 have hnp:=hI.n
 have hnp2:=hC.hnp
 have hsml:=hC.sml
 obtain⟨_,_,⟨k1,hk1,rfl,rfl⟩,cc1⟩:=n6 sh ks m f np Lb ⟨s.st,s.pls,s.code⟩ hI (decide ((s.st.length:Int)=(f.rets.length:Int))) 1 (by decide)
 have hk1:k1=0→s.code=0∧(decide ((((s.st.length:Nat):Int):Int)=((f.rets.length:Nat):Int)))=true:=hk1
 refine ex [(0,.lf (.ptr obN 0)),(1,ob7 sh ks m f s.st s.pls k1)] [(6,.slot (.int (s.st.length:Int))),(12,.slot (.int (f.rets.length:Int))),(14,.mth (ob7L sh ks m f s.st s.pls k1) (ob7B s.st s.pls) (.tup []))] (a2 (a1 (show(Slot.int (((s.st.map rMk).length:Nat):Int))= .int (s.st.length:Int)by rw[show(s.st.map rMk).length=s.st.length by simp])) (a2 (ln (l:=f.rets) (f:=rS)) (a2 (cl2 tx60 cc1) AllP.nil))) (by kernel_rfl) ?_
 refine exn [] [(4,.bool false)] ?_
 refine a7 (exd [] [(6,.int ((f.rets.length:Int)-1))] [(5,.slot (.int (f.rets.length:Int))),(6,.slot (.int ((f.rets.length:Int)-1)))] (a2 (lnl f.rets rS) (wIo ((f.rets.length:Int)-1) ((f.rets.length:Int)-1))) ?_)
 refine a9 (eld (fun l0 n L=>∃(j:Nat) (b:Bool) (tt4:S7),L=upG [] [(1,o7 sh ks m f tt4),(4,.bool b),(6,.int ((j:Int)-1))] l0∧n=j+1∧((j≤f.rets.length)∧I7 ks np Lb tt4∧(tt4.code=0→k1=0))) _ ⟨f.rets.length,false,⟨s.st,s.pls,k1⟩,rfl,rfl,⟨Nat.le_refl _,(hI.code k1),fun h=>h⟩⟩ ?_)
 rintro n L ⟨j,b,tt4,rfl,rfl,hP1⟩
 have hv4:=hP1.1
 have hIt4:=hP1.2.1
 have hct4:=hP1.2.2
 have hj:=hv4
 refine a7 (exn [] [(60,.bool (decide (((j:Int)-1:Int)≥0)))] ?_)
 refine ecp (fun h1=> ?_) fun h1=> ?_
 ·refine a5 ?_
  refine a7 ?_
  refine a9 ?_
  obtain⟨_,_,⟨s1,mk1,hI1,hp1,hp2,hp3,rfl,rfl⟩,cc2⟩:=y5 sh ks m f np Lb ⟨tt4.st,tt4.pls,tt4.code⟩ hIt4 [(nth f.rets (j-1))] (by simp) (by omega)
  have hp1:s1.code=0→tt4.code=0∧MkOk ks mk1∧([(nth f.rets (j-1))]=[]∨mk1.type∈[(nth f.rets (j-1))]):=hp1
  have hp2:s1.pls=tt4.pls:=hp2
  have hp2l:s1.pls.length=tt4.pls.length:=congrArg List.length hp2
  have hp3z:mk1.type.size≤4∧mk1.org.length≤10:=hp3
  refine exd [60] [(1,o7 sh ks m f s1),(8,.lf (.ptr 4 0)),(9,.cell 4 [.q mk1.type,.m 1 mk1.org rI])] [(6,.slot (.int ((j-1:Nat):Int))),(7,.row (rS (nth f.rets (j-1)))),(9,.slot (.lf (.m 1 [(nth f.rets (j-1))] rS))),(10,w7 sh ks m f s1 (.agg [.q mk1.type,.m 1 mk1.org rI]))] (a2 (a1 (show(Slot.int ((j:Int)-1):Slot)= .int ((j-1:Nat):Int)by rw[show((j:Int)-1:Int)=((j-1:Nat):Int)by omega])) (a2 (ixn rS f.rets (j-1)) (a2 (a1 (show([[.str (nth f.rets (j-1))]]:List (List SV))=([(nth f.rets (j-1))].map rS)from rfl)) (cl2 tx76 cc2)))) ?_
  refine exn [] [(10,.int 0)] ?_
  refine a9 (eld (fun l0 n L=>∃(q:Nat) (b:Bool),L=upG [] [(4,.bool b),(10,.int (q:Int))] l0∧n=mk1.org.length-q∧(q≤mk1.org.length)) _ ⟨0,b,rfl,rfl,by omega⟩ ?_)
  rintro n L ⟨q,b,rfl,rfl,hP2⟩
  refine a7 (exd [] [(96,.bool (decide ((q:Int)<(mk1.org.length:Int))))] [(3,.slot (.int (mk1.org.length:Int)))] (lnl mk1.org rI) ?_)
  refine ecp (fun h2=> ?_) fun h2=> ?_
  ·refine a5 ?_
   refine a7 ?_
   refine a9 ?_
   rcases bft b with g1|g1
   ·have g1p:=g1
    refine exed [96] [(4,.bool true)] [(0,.slot (.bool true))] (kB g1) ?_
    exact exed [] [(10,.int (↑(q+1):Int))] [(1,.slot (.int (↑(q+1):Int)))] (wI1 q) (⟨_,by omega,(q+1),true,rfl,rfl,by omega⟩)
   ·have g1p:=g1
    refine exed [96] [(4,.bool (decide (((nth mk1.org q):Int)≠9)))] [(0,.slot (.bool false)),(5,.row (rI (nth mk1.org q)))] (a2 (kB g1) (ixn rI mk1.org q)) ?_
    exact exed [] [(10,.int (↑(q+1):Int))] [(1,.slot (.int (↑(q+1):Int)))] (wI1 q) (⟨_,by omega,(q+1),(decide (((nth mk1.org q):Int)≠9)),rfl,rfl,by omega⟩)
  ·exact d9 (exed [8,9,10,96] [(1,ob7 sh ks m f ((⟨s1.st,s1.pls,s1.code⟩:S7).st) ((⟨s1.st,s1.pls,s1.code⟩:S7).pls) ((⟨s1.st,s1.pls,s1.code⟩:S7).code)),(6,.int (((j-1:Nat):Int)-1))] [(1,.slot (.int (((j-1:Nat):Int)-1)))] (wIo (((j:Int)-1)-1) (((j-1:Nat):Int)-1)) (⟨_,by omega,(j-1),b,⟨s1.st,s1.pls,s1.code⟩,rfl,rfl,⟨by omega,hI1,fun q=>hct4 (hp1 q).1⟩⟩))
 ·refine d9 (a7 (exn [6,60] [(12,.int 0)] ?_))
  refine a9 (eld (fun l0 n L=>∃(i:Nat) (tt5:S7),L=upG [] [(1,o7 sh ks m f tt5),(12,.int (i:Int))] l0∧n=np-i∧((i≤np)∧I7 ks np Lb tt5∧(tt5.code=0→tt4.code=0))) _ ⟨0,⟨tt4.st,tt4.pls,tt4.code⟩,rfl,rfl,⟨by omega,hIt4,fun h=>h⟩⟩ ?_)
  rintro n L ⟨i,tt5,rfl,rfl,hP3⟩
  have hv5:=hP3.1
  have hIt5:=hP3.2.1
  have hct5:=hP3.2.2
  have hnt:=hIt5.n
  refine a7 ?_
  rcases bft (decide ((((i:Nat):Int):Int)<((tt5.pls.length:Nat):Int)))with g2|g2
  ·have g2p:=d5 g2
   refine exd [] [(148,.bool (decide ((tt5.code:Int)=0)))] [(6,.slot (.int (tt5.pls.length:Int))),(7,.slot (.bool true))] (a2 (lnl tt5.pls rMk) (kB g2)) ?_
   refine ecp (fun h3=> ?_) fun h3=> ?_
   ·refine a5 ?_
    refine a7 ?_
    refine a9 ?_
    obtain⟨_,_,⟨k2,hk2,rfl,rfl⟩,cc3⟩:=n6 sh ks m f np Lb ⟨tt5.st,tt5.pls,tt5.code⟩ hIt5 (((nth tt5.pls i).type.toList==B4.toList)||canB (ableOf ks (nth tt5.pls i).type) 2) 3 (by decide)
    have hk2:k2=0→tt5.code=0∧(((nth tt5.pls i).type.toList==B4.toList)||canB (ableOf ks (nth tt5.pls i).type) 2)=true:=hk2
    refine ejed [148] [(1,ob7 sh ks m f tt5.st tt5.pls k2)] (by
     rcases bft (((nth tt5.pls i).type).toList==B4.toList)with g3|g3
     ·exact runJ [(9,.elem i 0 (rMk (nth tt5.pls i)) none),(10,.slot (.bool true)),(23,.slot (.bool (((nth tt5.pls i).type.toList==B4.toList)||canB (ableOf ks (nth tt5.pls i).type) 2))),(24,.mth (ob7L sh ks m f tt5.st tt5.pls k2) (ob7B tt5.st tt5.pls) (.tup []))] (a2 (ixu (i:=i) (n:=(tt5.pls.map rMk).length) (by simp;omega)) (a2 (elT (f:=rMk) (l:=tt5.pls) (i:=i) (j:=0) (n:=1) (sz:=2) (off:=(i:Int).toNat*2+0) (j6 (l:=tt5.pls) (i:=i) (by omega)) (by omega) (by omega)) (a2 (kB g3) (a2 (kBs true (((nth tt5.pls i).type.toList==B4.toList)||canB (ableOf ks (nth tt5.pls i).type) 2)) (cl2 tx60 cc3)))))
     ·obtain⟨_,_,⟨rfl,rfl⟩,ca1⟩:=R2 sh ks m f np Lb ⟨tt5.st,tt5.pls,tt5.code⟩ hIt5 ((nth tt5.pls i).type) 2 (by exact((hIt5).pl _ (c6 (by omega))).ty (bytes_ne'.1 (by assumption))|>.able) (by decide)
      exact runJ [(9,.elem i 0 (rMk (nth tt5.pls i)) none),(10,.slot (.bool false)),(21,.elem i 0 (rMk (nth tt5.pls i)) none),(22,w7 sh ks m f tt5 (.bool (canB (ableOf ks ((nth tt5.pls i).type)) 2))),(23,.slot (.bool (((nth tt5.pls i).type.toList==B4.toList)||canB (ableOf ks (nth tt5.pls i).type) 2))),(24,.mth (ob7L sh ks m f tt5.st tt5.pls k2) (ob7B tt5.st tt5.pls) (.tup []))] (a2 (ixu (i:=i) (n:=(tt5.pls.map rMk).length) (by simp;omega)) (a2 (elT (f:=rMk) (l:=tt5.pls) (i:=i) (j:=0) (n:=1) (sz:=2) (off:=(i:Int).toNat*2+0) (j6 (l:=tt5.pls) (i:=i) (by omega)) (by omega) (by omega)) (a2 (kB g3) (a2 (ixu (i:=i) (n:=(tt5.pls.map rMk).length) (by simp;omega)) (a2 (elT (f:=rMk) (l:=tt5.pls) (i:=i) (j:=0) (n:=1) (sz:=2) (off:=(i:Int).toNat*2+0) (j6 (l:=tt5.pls) (i:=i) (by omega)) (by omega) (by omega)) (a2 (cl2 tx77 ca1) (a2 (kBs (canB (ableOf ks ((nth tt5.pls i).type)) 2) (((nth tt5.pls i).type.toList==B4.toList)||canB (ableOf ks (nth tt5.pls i).type) 2)) (cl2 tx60 cc3))))))))) ?_
    exact exed [] [(1,ob7 sh ks m f ((⟨tt5.st,tt5.pls,k2⟩:S7).st) ((⟨tt5.st,tt5.pls,k2⟩:S7).pls) ((⟨tt5.st,tt5.pls,k2⟩:S7).code)),(12,.int (↑(i+1):Int))] [(1,.slot (.int (↑(i+1):Int)))] (wI1 i) (⟨_,by omega,(i+1),⟨tt5.st,tt5.pls,k2⟩,rfl,rfl,⟨by omega,(hIt5.code k2),fun q=>hct5 (hk2 q).1⟩⟩)
   ·refine d9 ?_
    obtain⟨_,_,⟨k3,hk3,rfl,rfl⟩,cc4⟩:=n6 sh ks m f np Lb ⟨tt5.st,tt5.pls,tt5.code⟩ hIt5 (!b) 7 (by decide)
    have hk3:k3=0→tt5.code=0∧(!b)=true:=hk3
    refine exed [4,12,148] [(1,ob7 sh ks m f tt5.st tt5.pls k3)] [(3,.mth (ob7L sh ks m f tt5.st tt5.pls k3) (ob7B tt5.st tt5.pls) (.tup []))] (cl2 tx60 cc4) ?_
    exact⟨.inr rfl,[],by kernel_rfl,rfl,by kernel_rfl,⟨⟨tt5.st,tt5.pls,k3⟩,((hIt5.code k3)).mono (by omega),fun q=>(hk1 (hct4 (hct5 (hk3 q).1))).1,rfl,rfl⟩⟩
  ·have g2p:=i5 g2
   refine exd [] [(148,.bool false)] [(6,.slot (.int (tt5.pls.length:Int))),(7,.slot (.bool false))] (a2 (lnl tt5.pls rMk) (kB g2)) ?_
   refine ecF rfl ?_
   refine d9 ?_
   obtain⟨_,_,⟨k4,hk4,rfl,rfl⟩,cc5⟩:=n6 sh ks m f np Lb ⟨tt5.st,tt5.pls,tt5.code⟩ hIt5 (!b) 7 (by decide)
   have hk4:k4=0→tt5.code=0∧(!b)=true:=hk4
   refine exed [4,12,148] [(1,ob7 sh ks m f tt5.st tt5.pls k4)] [(3,.mth (ob7L sh ks m f tt5.st tt5.pls k4) (ob7B tt5.st tt5.pls) (.tup []))] (cl2 tx60 cc5) ?_
   exact⟨.inr rfl,[],by kernel_rfl,rfl,by kernel_rfl,⟨⟨tt5.st,tt5.pls,k4⟩,((hIt5.code k4)).mono (by omega),fun q=>(hk1 (hct4 (hct5 (hk4 q).1))).1,rfl,rfl⟩⟩
theorem step_x (sh:List Mod)(ks:Kinds)(m:Nat)(f:Fn)(np Lb:Nat)(s:S7)(hI:I7 ks np Lb s)(op:ByteArray)(ia ib:Nat)(hi9:ia≤1000000∧ib≤1000000)(hC:C7 sh ks m f np)(hL:Lb≤800000):
 ∃o r,(fun o r=>∃s',(I7 ks np (Lb+20) s')∧(s'.code=0→s.code=0∧s'.st.length≤max 12 Lb)∧o=ob7 sh ks m f s'.st s'.pls s'.code∧r=(.tup [])) o r∧CallM Try.prog 44 [.agg [.im true (.str op),.im true (.int .i64 ((ia:Nat):Int)),.im true (.int .i64 ((ib:Nat):Int))]] (ob7 sh ks m f s.st s.pls s.code) o r:=by
 refine CallME (fn:=Try.f44) TTok mixed Try.func44 rfl rfl rfl rfl rfl ?_
 have hm:=hC.hm
 have hk3:=hC.hk3
 have hr3:=hC.hr3
 have hLs:=hI.l
 have hnp:=hI.n
 have hnp2:=hC.hnp
 have hsml:=hC.sml
 refine ex [(0,.lf (.ptr obN 0)),(1,o7 sh ks m f s),(6,.lf (.ptr 3 0)),(7,.cell 3 [.q op,.z (ia:Int),.z (ib:Int)])] [] AllP.nil (by kernel_rfl) ?_
 refine a7 ?_
 obtain⟨_,_,⟨s1,b1,hI1,hs1,hf1,rfl,rfl⟩,cc1⟩:=a7m sh ks m f np Lb ⟨s.st,s.pls,s.code⟩ hI op ia ib hi9 hC (by omega)
 have hs1:s1.code=0→s.code=0:=hs1
 rcases bft b1 with g1|g1
 ·have g1p:=g1
  refine exd [] [(1,o7 sh ks m f s1),(42,.bool true)] [(2,w7 sh ks m f s1 (.bool b1)),(3,.slot (.bool true))] (a2 (cl2 tx56 cc1) (kB g1)) ?_
  refine ecT rfl ?_
  obtain⟨_,_,⟨k1,hk1,rfl,rfl⟩,cc5⟩:=n6 sh ks m f np (Lb+4) ⟨s1.st,s1.pls,s1.code⟩ hI1 (decide ((s1.st.length:Int)≤12)) 1 (by decide)
  have hk1:k1=0→s1.code=0∧(decide ((((s1.st.length:Nat):Int):Int)≤12))=true:=hk1
  refine exd [6,7,42] [(1,ob7 sh ks m f s1.st s1.pls k1)] [(6,.slot (.int (s1.st.length:Int))),(8,.mth (ob7L sh ks m f s1.st s1.pls k1) (ob7B s1.st s1.pls) (.tup []))] (a2 (lnl s1.st rMk) (cl2 tx60 cc5)) ?_
  exact rtM rfl (⟨⟨s1.st,s1.pls,k1⟩,((hI1.code k1)).mono (by omega),fun q=>⟨(hs1 (hk1 q).1),(by have:=d5 (hk1 q).2;show s1.st.length≤max 12 Lb;omega)⟩,rfl,rfl⟩)
 ·have g1p:=g1
  obtain⟨_,_,⟨s2,b2,hI2,hs2,hf2,rfl,rfl⟩,cc2⟩:=a5Z sh ks m f np Lb ⟨s1.st,s1.pls,s1.code⟩ (hf1 g1) op ia ib hi9 hC (by omega)
  have hs2:s2.code=0→s1.code=0:=hs2
  rcases bft b2 with g2|g2
  ·have g2p:=g2
   refine exd [] [(1,o7 sh ks m f s2),(42,.bool true)] [(2,w7 sh ks m f s1 (.bool b1)),(3,.slot (.bool false)),(6,w7 sh ks m f s2 (.bool b2)),(7,.slot (.bool true))] (a2 (cl2 tx56 cc1) (a2 (kB g1) (a2 (cl2 tx57 cc2) (kB g2)))) ?_
   refine ecT rfl ?_
   obtain⟨_,_,⟨k2,hk2,rfl,rfl⟩,cc6⟩:=n6 sh ks m f np (Lb+4) ⟨s2.st,s2.pls,s2.code⟩ hI2 (decide ((s2.st.length:Int)≤12)) 1 (by decide)
   have hk2:k2=0→s2.code=0∧(decide ((((s2.st.length:Nat):Int):Int)≤12))=true:=hk2
   refine exd [6,7,42] [(1,ob7 sh ks m f s2.st s2.pls k2)] [(6,.slot (.int (s2.st.length:Int))),(8,.mth (ob7L sh ks m f s2.st s2.pls k2) (ob7B s2.st s2.pls) (.tup []))] (a2 (lnl s2.st rMk) (cl2 tx60 cc6)) ?_
   exact rtM rfl (⟨⟨s2.st,s2.pls,k2⟩,((hI2.code k2)).mono (by omega),fun q=>⟨(hs1 (hs2 (hk2 q).1)),(by have:=d5 (hk2 q).2;show s2.st.length≤max 12 Lb;omega)⟩,rfl,rfl⟩)
  ·have g2p:=g2
   obtain⟨_,_,⟨s3,b3,hI3,hs3,hf3,rfl,rfl⟩,cc3⟩:=a5z sh ks m f np Lb ⟨s2.st,s2.pls,s2.code⟩ (hf2 g2) op ia ib hi9 hC (by omega)
   have hs3:s3.code=0→s2.code=0:=hs3
   rcases bft b3 with g3|g3
   ·have g3p:=g3
    refine exd [] [(1,o7 sh ks m f s3),(42,.bool true)] [(2,w7 sh ks m f s1 (.bool b1)),(3,.slot (.bool false)),(6,w7 sh ks m f s2 (.bool b2)),(7,.slot (.bool false)),(11,w7 sh ks m f s3 (.bool b3)),(12,.slot (.bool true))] (a2 (cl2 tx56 cc1) (a2 (kB g1) (a2 (cl2 tx57 cc2) (a2 (kB g2) (a2 (cl2 tx58 cc3) (kB g3)))))) ?_
    refine ecT rfl ?_
    obtain⟨_,_,⟨k3,hk3,rfl,rfl⟩,cc7⟩:=n6 sh ks m f np (Lb+4) ⟨s3.st,s3.pls,s3.code⟩ hI3 (decide ((s3.st.length:Int)≤12)) 1 (by decide)
    have hk3:k3=0→s3.code=0∧(decide ((((s3.st.length:Nat):Int):Int)≤12))=true:=hk3
    refine exd [6,7,42] [(1,ob7 sh ks m f s3.st s3.pls k3)] [(6,.slot (.int (s3.st.length:Int))),(8,.mth (ob7L sh ks m f s3.st s3.pls k3) (ob7B s3.st s3.pls) (.tup []))] (a2 (lnl s3.st rMk) (cl2 tx60 cc7)) ?_
    exact rtM rfl (⟨⟨s3.st,s3.pls,k3⟩,((hI3.code k3)).mono (by omega),fun q=>⟨(hs1 (hs2 (hs3 (hk3 q).1))),(by have:=d5 (hk3 q).2;show s3.st.length≤max 12 Lb;omega)⟩,rfl,rfl⟩)
   ·have g3p:=g3
    obtain⟨_,_,⟨s4,b4,hI4,hs4,hf4,rfl,rfl⟩,cc4⟩:=a6E sh ks m f np Lb ⟨s3.st,s3.pls,s3.code⟩ (hf3 g3) op ia ib hi9 hC (by omega)
    have hs4:s4.code=0→s3.code=0:=hs4
    refine exd [] [(1,o7 sh ks m f s4),(42,.bool b4)] [(2,w7 sh ks m f s1 (.bool b1)),(3,.slot (.bool false)),(6,w7 sh ks m f s2 (.bool b2)),(7,.slot (.bool false)),(11,w7 sh ks m f s3 (.bool b3)),(12,.slot (.bool false)),(16,w7 sh ks m f s4 (.bool b4))] (a2 (cl2 tx56 cc1) (a2 (kB g1) (a2 (cl2 tx57 cc2) (a2 (kB g2) (a2 (cl2 tx58 cc3) (a2 (kB g3) (cl2 tx59 cc4))))))) ?_
    refine ecd (fun h4=> ?_) fun h4=> ?_
    ·obtain⟨_,_,⟨k4,hk4,rfl,rfl⟩,cc8⟩:=n6 sh ks m f np (Lb+4) ⟨s4.st,s4.pls,s4.code⟩ hI4 (decide ((s4.st.length:Int)≤12)) 1 (by decide)
     have hk4:k4=0→s4.code=0∧(decide ((((s4.st.length:Nat):Int):Int)≤12))=true:=hk4
     refine exd [6,7,42] [(1,ob7 sh ks m f s4.st s4.pls k4)] [(6,.slot (.int (s4.st.length:Int))),(8,.mth (ob7L sh ks m f s4.st s4.pls k4) (ob7B s4.st s4.pls) (.tup []))] (a2 (lnl s4.st rMk) (cl2 tx60 cc8)) ?_
     exact rtM rfl (⟨⟨s4.st,s4.pls,k4⟩,((hI4.code k4)).mono (by omega),fun q=>⟨(hs1 (hs2 (hs3 (hs4 (hk4 q).1)))),(by have:=d5 (hk4 q).2;show s4.st.length≤max 12 Lb;omega)⟩,rfl,rfl⟩)
    ·have h4r:=h4
     refine a5 (a7 (exn [42] [(66,.bool (op.toList==B55.toList))] ?_))
     refine ecd (fun h5=> ?_) fun h5=> ?_
     ·obtain⟨_,_,⟨s5,hI5,hs5,rfl,rfl⟩,cc9⟩:=call_x sh ks m f np Lb ⟨s4.st,s4.pls,s4.code⟩ (hf4 h4r) op ia ib hi9 hC (by omega)
      have hs5:s5.code=0→s4.code=0:=hs5
      refine exd [6,7,66] [(1,o7 sh ks m f s5)] [(2,w7 sh ks m f s5 (.tup []))] (cl2 tx61 cc9) ?_
      obtain⟨_,_,⟨k5,hk5,rfl,rfl⟩,cc10⟩:=n6 sh ks m f np (Lb+4) ⟨s5.st,s5.pls,s5.code⟩ hI5 (decide ((s5.st.length:Int)≤12)) 1 (by decide)
      have hk5:k5=0→s5.code=0∧(decide ((((s5.st.length:Nat):Int):Int)≤12))=true:=hk5
      refine exd [] [(1,ob7 sh ks m f s5.st s5.pls k5)] [(6,.slot (.int (s5.st.length:Int))),(8,.mth (ob7L sh ks m f s5.st s5.pls k5) (ob7B s5.st s5.pls) (.tup []))] (a2 (lnl s5.st rMk) (cl2 tx60 cc10)) ?_
      exact rtM rfl (⟨⟨s5.st,s5.pls,k5⟩,((hI5.code k5)).mono (by omega),fun q=>⟨(hs1 (hs2 (hs3 (hs4 (hs5 (hk5 q).1))))),(by have:=d5 (hk5 q).2;show s5.st.length≤max 12 Lb;omega)⟩,rfl,rfl⟩)
     ·refine a5 ?_
      obtain⟨_,_,⟨s6,hI6,hs6,rfl,rfl⟩,cc11⟩:=ret_x sh ks m f np Lb ⟨s4.st,s4.pls,s4.code⟩ (hf4 h4r) hC (by omega)
      have hs6:s6.code=0→s4.code=0:=hs6
      refine exed [6,7,66] [(1,o7 sh ks m f s6)] [(1,w7 sh ks m f s6 (.tup []))] (cl2 tx62 cc11) ?_
      exact⟨.inr rfl,[],by kernel_rfl,rfl,by kernel_rfl,⟨⟨s6.st,s6.pls,s6.code⟩,(hI6).mono (by omega),fun q=>⟨(hs1 (hs2 (hs3 (hs4 (hs6 q))))),(by have:=(hI6).l;(try simp only at this);show s6.st.length≤max 12 Lb;omega)⟩,rfl,rfl⟩⟩
open Go Go.RowKit V
theorem copy_x (x:Mk)(hx:x.org.length≤10):
 ∃s,((·= .agg [.im true (.str x.type),.im true (.sl 1 (x.org.map rI))])) s∧CallV Try.prog 74 [.agg [.im true (.str x.type),.im true (.sl 1 (x.org.map rI))]] (·=s):=by
 refine CallE (fn:=Try.f74) TTok mixed Try.func74 rfl rfl rfl rfl rfl ?_
 refine ex [(2,.lf (.ptr 1 0)),(3,.cell 1 [.q x.type,.m 1 x.org rI]),(4,.lf (.ptr 2 0)),(5,.cell 2 [.q ⟨#[]⟩,.nil])] [] AllP.nil (by kernel_rfl) ?_
 refine exd [2,3] [(5,.cell 2 [.q x.type,.hd 5 ((x.org.map rI).length) 0]),(16,.lf (.u 5 0 3 1 (x.org.map rI)))] [(5,.slot (.lf (.u 5 0 3 1 (x.org.map rI))))] (a2 (a1 (show([]++(x.org.map rI):List (List SV))=x.org.map rI by simp)) (ap (a:=([]:List (List SV)).length+((x.org.map rI):List (List SV)).length) (b:=8) (by first|omega|(simp;omega)) (by unfold maxLen;first|omega|(simp;omega)))) ?_
 refine etd [] [(5,.own 2 [.q x.type,.hd 5 ((x.org.map rI).length) 0] [.no])] (fun E=>I9 2 1 rfl) ?_
 refine etd [] [(5,.own 2 [.q x.type,.hd 5 ((x.org.map rI).length) 0] [.mk 5 0 3 1 (x.org.map rI)]),(16,.lf (.hd 5 ((x.org.map rI).length) 0))] (fun E=>a5f 8 2 0 rfl rfl rfl) ?_
 refine etd [16] [(5,.own 2 [.q x.type,.m 1 x.org rI] [.no])] (fun E=>A8 2 1 0 rfl rfl rfl rfl) ?_
 refine etd [] [(5,.cell 2 [.q x.type,.m 1 x.org rI])] (fun E=>d6 2 rfl) ?_
 exact rtE rfl (rfl)
theorem a4Q (l:List Mk)(hl8:l.length≤1000000)(hl9:∀x∈l,x.org.length≤10):
 ∃s,((·= .lf (.u 5 0 76 2 (l.map rMk)))) s∧CallV Try.prog 55 [.lf (.im true (.sl 2 (l.map rMk)))] (fun s'=>∃v:Nm,s'=renS v s):=by
 refine CallEN (fn:=Try.f55) TTok mixed Try.func55 rfl rfl rfl rfl rfl ?_
 refine ex [(0,.lf (.m 2 l rMk))] [] AllP.nil (by kernel_rfl) ?_
 refine exn [] [(6,.lf (.u 5 0 76 2 []))] ?_
 refine a7 (exn [] [(8,.int 0)] ?_)
 refine a9 (eld (fun l0 n L=>∃(i:Nat),L=upG [] [(6,.lf (.u 5 0 76 2 ((l.take i).map rMk))),(8,.int (i:Int))] l0∧n=l.length-i∧(i≤l.length)) _ ⟨0,rfl,rfl,by omega⟩ ?_)
 rintro n L ⟨i,rfl,rfl,hP1⟩
 refine a7 (exd [] [(18,.bool (decide ((i:Int)<(l.length:Int))))] [(2,.slot (.int (l.length:Int)))] (lnl l rMk) ?_)
 refine ecp (fun h1=> ?_) fun h1=> ?_
 ·refine a5 ?_
  refine a7 ?_
  refine a9 ?_
  obtain⟨_,rfl,cc1⟩:=copy_x (nth l i) (by exact hl9 _ (c6 (by omega)))
  refine exed [18] [(6,.lf (.u 5 0 76 2 ((l.take (i+1)).map rMk)))] [(3,.row (rMk (nth l i))),(5,.ret (.agg [.q ((nth l i).type),.m 1 ((nth l i).org) rI])),(6,.im),(7,.slot (.lf (.u 5 0 76 2 ((l.take (i+1)).map rMk))))] (a2 (ixn rMk l i) (a2 (cl tx74 cc1) (a2 (a1 (show(((l.take i).map rMk)++[[.str ((nth l i).type),.sl 1 (((nth l i).org).map rI)]]:List (List SV))=(l.take (i+1)).map rMk by exact F6 (f:=rMk) (j6 (l:=l) (i:=i) (by omega)))) (a2 (hl (((l.take i).map rMk).length)) (ap (a:=((l.take i).map rMk).length+([[.str ((nth l i).type),.sl 1 (((nth l i).org).map rI)]]:List (List SV)).length) (b:=40) (by simp;omega) (by unfold maxLen;simp;omega)))))) ?_
  exact exed [] [(8,.int (↑(i+1):Int))] [(1,.slot (.int (↑(i+1):Int)))] (wI1 i) (⟨_,by omega,(i+1),rfl,rfl,by omega⟩)
 ·refine d9 (exd [0,6,8,18] [(4,.lf (.u 5 0 76 2 ((l.take i).map rMk)))] [] (hl (((l.take i).map rMk).length)) ?_)
  have e:i=l.length:=by omega
  subst e
  exact a1h ⟨.inl rfl,_,_,_,_,_,rfl,by rw[List.take_length]⟩
theorem a7o (st pls:List Mk)(hst:st.length≤1000000∧∀x∈st,x.org.length≤10)(hpl:pls.length≤1000000∧∀x∈pls,x.org.length≤10):
 ∃s,(fun s=>∃a b,s= .agg [.u a 0 76 2 (st.map rMk),.u b 0 76 2 (pls.map rMk)]) s∧CallV Try.prog 43 [.agg [.im true (.sl 2 (st.map rMk)),.im true (.sl 2 (pls.map rMk))]] (fun s'=>∃v:Nm,s'=renS v s):=by
 refine CallEO (fn:=Try.f43) TTok mixed Try.func43 rfl rfl rfl rfl rfl rfl rfl ?_
 refine ex [(2,.lf (.ptr 1 0)),(3,.cell 1 [.m 2 st rMk,.m 2 pls rMk]),(4,.lf (.ptr 2 0)),(5,.cell 2 [.nil,.nil])] [] AllP.nil (by kernel_rfl) ?_
 obtain⟨_,rfl,cc1⟩:=a4Q st (by first|exact hst.1|exact hpl.1) (by first|exact hst.2|exact hpl.2)
 obtain⟨_,rfl,cc2⟩:=a4Q pls (by first|exact hst.1|exact hpl.1) (by first|exact hst.2|exact hpl.2)
 refine exd [2,3] [(5,.cell 2 [.hd 2000008 ((st.map rMk).length) 0,.hd 2000009 ((pls.map rMk).length) 0]),(10,.lf (.u 2000008 0 76 2 (st.map rMk))),(16,.lf (.u 2000009 0 76 2 (pls.map rMk)))] [(2,.retN (.lf (.u 2000008 0 76 2 (st.map rMk))) [2000008]),(5,.retN (.lf (.u 2000009 0 76 2 (pls.map rMk))) [2000009])] (a2 (cl tx55 (CallV.nm1 (b:=2000008) cc1)) (cl tx55 (CallV.nm1 (b:=2000009) cc2))) ?_
 refine etd [] [(5,.own 2 [.hd 2000008 ((st.map rMk).length) 0,.hd 2000009 ((pls.map rMk).length) 0] [.no,.no])] (fun E=>I9 2 2 rfl) ?_
 refine etd [] [(5,.own 2 [.hd 2000008 ((st.map rMk).length) 0,.hd 2000009 ((pls.map rMk).length) 0] [.mk 2000008 0 76 2 (st.map rMk),.no]),(10,.lf (.hd 2000008 ((st.map rMk).length) 0))] (fun E=>a5f 5 2 0 rfl rfl rfl) ?_
 refine etd [] [(5,.own 2 [.hd 2000008 ((st.map rMk).length) 0,.hd 2000009 ((pls.map rMk).length) 0] [.mk 2000008 0 76 2 (st.map rMk),.mk 2000009 0 76 2 (pls.map rMk)]),(16,.lf (.hd 2000009 ((pls.map rMk).length) 0))] (fun E=>a5f 8 2 1 rfl rfl rfl) ?_
 exact a1h ⟨.inl rfl,_,_,_,rfl,rfl,rfl,⟨⟨_,_,rfl,rfl⟩,⟨_,_,rfl,rfl⟩,trivial⟩,⟨_,_,rfl⟩⟩
theorem a4U (sh:List Mod)(ks:Kinds)(m:Nat)(f:Fn)(np Lb:Nat)(st pls:List Mk)(hI:I7 ks np Lb ⟨st,pls,0⟩)(op:ByteArray)(ia ib:Nat)(hi9:ia≤1000000∧ib≤1000000)(hC:C7 sh ks m f np)(hL:Lb≤800000):
 ∃s,(fun s=>∃(s':S7),(s'.code=0→I7 ks np (Lb+20) s'∧s'.st.length≤max 12 Lb)∧s= .tup [.agg [.im true (.sl 2 (s'.st.map rMk)),.im true (.sl 2 (s'.pls.map rMk))],.lf (.im true (.int .i64 s'.code))]) s∧CallV Try.prog 35 [.lf (.im false (.sl 3 (sh.map rMod))),.lf (.im true (.sl 1 (ks.map rRecs))),.lf (.im true (.int .i64 ((m:Nat):Int))),.agg [.im true (.int .i64 f.seen),.im true (.sl 1 (f.args.map rS)),.im true (.sl 1 (f.rets.map rS)),.im true (.sl 1 (f.locals.map rS)),.im true (.sl 1 (f.takes.map rI)),.im true (.sl 3 (f.code.map rIns))],.agg [.im true (.sl 2 (st.map rMk)),.im true (.sl 2 (pls.map rMk))],.agg [.im true (.str op),.im true (.int .i64 ((ia:Nat):Int)),.im true (.int .i64 ((ib:Nat):Int))]] (·=s):=by
 refine CallE (fn:=Try.f35) TTok mixed Try.func35 rfl rfl rfl rfl rfl ?_
 refine ex [(0,.lf (.l 3 sh rMod)),(2,.lf (.m 1 ks rRecs)),(4,.int (m:Int)),(18,.lf (.ptr 9 0)),(19,.cell 9 [.z f.seen,.m 1 f.args rS,.m 1 f.rets rS,.m 1 f.locals rS,.m 1 f.takes rI,.m 3 f.code rIns]),(20,.lf (.ptr 10 0)),(21,.cell 10 [.m 2 st rMk,.m 2 pls rMk]),(22,.lf (.ptr 11 0)),(23,.cell 11 [.q op,.z (ia:Int),.z (ib:Int)]),(24,.lf (.ptr 12 0)),(25,.cell 12 [.nil,.nil])] [] AllP.nil (by kernel_rfl) ?_
 obtain⟨_,⟨_,_,rfl⟩,cc1⟩:=a7o st pls ⟨by have:=hI.l;simp only at this;omega,fun x hx=>(hI.st x hx).len⟩ ⟨by have:=hI.n;have:=hC.hnp;have:=hC.sml;simp only at*;omega,fun x hx=>(hI.pl x hx).len⟩
 refine exd [0,2,4,18,19,20,21] [(28,.lf (.ptr 22 0)),(40,.agg [.u 2000001 0 76 2 (st.map rMk),.u 2000002 0 76 2 (pls.map rMk)]),(45,.cell 22 [.l 3 sh rMod,.m 1 ks rRecs,.z (m:Int),.z f.seen,.m 1 f.args rS,.m 1 f.rets rS,.m 1 f.locals rS,.m 1 f.takes rI,.m 3 f.code rIns,.hd 2000001 ((st.map rMk).length) 0,.hd 2000002 ((pls.map rMk).length) 0,.z 0])] [(5,.retN (.agg [.u 2000001 0 76 2 (st.map rMk),.u 2000002 0 76 2 (pls.map rMk)]) [2000001,2000002])] (cl tx43 (CallV.nm2 (a':=2000001) (b':=2000002) rfl cc1)) ?_
 refine etd [] [(45,.own 22 [.l 3 sh rMod,.m 1 ks rRecs,.z (m:Int),.z f.seen,.m 1 f.args rS,.m 1 f.rets rS,.m 1 f.locals rS,.m 1 f.takes rI,.m 3 f.code rIns,.hd 2000001 ((st.map rMk).length) 0,.hd 2000002 ((pls.map rMk).length) 0,.z 0] [.no,.no])] (fun E=>I9 22 2 rfl) ?_
 refine etd [] [(40,.agg [.hd 2000001 ((st.map rMk).length) 0,.u 2000002 0 76 2 (pls.map rMk)]),(45,.own 22 [.l 3 sh rMod,.m 1 ks rRecs,.z (m:Int),.z f.seen,.m 1 f.args rS,.m 1 f.rets rS,.m 1 f.locals rS,.m 1 f.takes rI,.m 3 f.code rIns,.hd 2000001 ((st.map rMk).length) 0,.hd 2000002 ((pls.map rMk).length) 0,.z 0] [.mk 2000001 0 76 2 (st.map rMk),.no])] (fun E=>a5E 20 0 22 0 rfl rfl rfl rfl) ?_
 refine etd [] [(40,.agg [.hd 2000001 ((st.map rMk).length) 0,.hd 2000002 ((pls.map rMk).length) 0]),(45,.own 22 [.l 3 sh rMod,.m 1 ks rRecs,.z (m:Int),.z f.seen,.m 1 f.args rS,.m 1 f.rets rS,.m 1 f.locals rS,.m 1 f.takes rI,.m 3 f.code rIns,.hd 2000001 ((st.map rMk).length) 0,.hd 2000002 ((pls.map rMk).length) 0,.z 0] [.mk 2000001 0 76 2 (st.map rMk),.mk 2000002 0 76 2 (pls.map rMk)])] (fun E=>a5E 20 1 22 1 rfl rfl rfl rfl) ?_
 obtain⟨_,_,⟨s1,hI1,hs1,rfl,rfl⟩,cc2⟩:=step_x sh ks m f np Lb ⟨st,pls,0⟩ hI op ia ib hi9 hC hL
 refine exd [22,23,40] [(45,.own 22 [.l 3 sh rMod,.m 1 ks rRecs,.z (m:Int),.z f.seen,.m 1 f.args rS,.m 1 f.rets rS,.m 1 f.locals rS,.m 1 f.takes rI,.m 3 f.code rIns,.hd 2000001 ((s1.st.map rMk).length) 0,.hd 2000002 ((s1.pls.map rMk).length) 0,.z s1.code] [.mk 2000001 0 76 2 (s1.st.map rMk),.mk 2000002 0 76 2 (s1.pls.map rMk)])] [(2,w7 sh ks m f s1 (.tup []))] (cl2 tx44 cc2) ?_
 refine a7 (exn [] [(60,.bool (decide ((s1.code:Int)≠0)))] ?_)
 refine ecp (fun h1=> ?_) fun h1=> ?_
 ·refine exn [28,45,60] [(26,.int s1.code)] ?_
  refine etd [] [(25,.cell 12 [.m 2 ([]:List Mk) rMk,.nil])] (fun E=>j4 12 0 2 rfl rfl) ?_
  refine etd [] [(25,.cell 12 [.m 2 ([]:List Mk) rMk,.m 2 ([]:List Mk) rMk])] (fun E=>j4 12 1 2 rfl rfl) ?_
  exact rtE rfl (⟨⟨[],[],s1.code⟩,fun h=>absurd h h1,rfl⟩)
 ·refine a5 (etd [] [(45,.own 22 [.l 3 sh rMod,.m 1 ks rRecs,.z (m:Int),.z f.seen,.m 1 f.args rS,.m 1 f.rets rS,.m 1 f.locals rS,.m 1 f.takes rI,.m 3 f.code rIns,.m 2 s1.st rMk,.hd 2000002 ((s1.pls.map rMk).length) 0,.z s1.code] [.no,.mk 2000002 0 76 2 (s1.pls.map rMk)])] (fun E=>A8 22 9 0 rfl rfl rfl rfl) ?_)
  refine etd [] [(45,.own 22 [.l 3 sh rMod,.m 1 ks rRecs,.z (m:Int),.z f.seen,.m 1 f.args rS,.m 1 f.rets rS,.m 1 f.locals rS,.m 1 f.takes rI,.m 3 f.code rIns,.m 2 s1.st rMk,.m 2 s1.pls rMk,.z s1.code] [.no,.no])] (fun E=>A8 22 10 1 rfl rfl rfl rfl) ?_
  refine exn [28,45,60] [(25,.cell 12 [.m 2 s1.st rMk,.m 2 s1.pls rMk]),(26,.int 0)] ?_
  exact rtE rfl (⟨⟨s1.st,s1.pls,0⟩,fun _=>⟨hI1.code 0,(hs1 (by omega)).2⟩,rfl⟩)
theorem e7 (b:List UInt8)(q n:Nat)(hb:b.length≤2000)(hq:q≤1099511627776)(hn:n≤1099511627776):
 ∃o r,(fun o s=>∃x:Nat,x<max n 1∧o= .cell obN [.im true (.sl 1 (b.map rB)),.im true (.int .i64 ((q+1:Nat):Int))]∧s= .int x) o r∧CallM Try.prog 19 [.lf (.im true (.int .i64 ((n:Nat):Int)))] (.cell obN [.im true (.sl 1 (b.map rB)),.im true (.int .i64 ((q:Nat):Int))]) o r:=by
 refine CallME (fn:=Try.f19) TTok mixed Try.func19 rfl rfl rfl rfl rfl ?_
 have hdiv:=Nat.div_le_self q b.length
 refine ex [(0,.lf (.ptr obN 0)),(1,rdr b q),(2,.int (n:Int))] [] AllP.nil (by kernel_rfl) ?_
 refine exd [] [(1,rdr b (q+1))] [(5,.slot (.int (↑(q+1):Int)))] (wI1 q) ?_
 refine a7 ?_
 rcases bft (decide ((((n:Nat):Int):Int)<1))with g1|g1
 ·have g1p:=d5 g1
  refine exd [] [(48,.bool true)] [(1,.slot (.bool true))] (kB g1) ?_
  refine ecT rfl ?_
  refine exn [2,48] [(8,.int 0)] ?_
  exact rtM rfl (⟨0,by omega,rfl,rfl⟩)
 ·have g1p:=i5 g1
  refine exd [] [(48,.bool (decide ((b.length:Int)=0)))] [(1,.slot (.bool false)),(7,.slot (.int (b.length:Int)))] (a2 (kB g1) (lnl b rB)) ?_
  refine ecp (fun h2=> ?_) fun h2=> ?_
  ·refine exn [2,48] [(8,.int 0)] ?_
   exact rtM rfl (⟨0,by omega,rfl,rfl⟩)
  ·refine a5 (exd [48] [(10,.int (q:Int))] [(4,.slot (.int (q:Int)))] (wIo ((↑(q+1):Int)-1) (q:Int)) ?_)
   refine a7 (exd [] [(72,.bool (decide ((q:Int)<(b.length:Int))))] [(5,.slot (.int (b.length:Int)))] (lnl b rB) ?_)
   refine ecp (fun h3=> ?_) fun h3=> ?_
   ·obtain⟨x1,hx1⟩:=u3 (l:=b) (i:=q) (by first|assumption|omega|(apply Nat.mod_lt;omega))
    have bx1:=x1.toNat_lt
    refine exd [2,10,72] [(8,.int ((x1.toNat%n:Nat):Int))] [(5,.row (rB x1)),(7,.slot (.int (x1.toNat:Int))),(9,.slot (.int ((x1.toNat%n:Nat):Int)))] (a2 (ixh rB hx1) (a2 (a1 (show(Slot.im (.int .i64 (IntKind.wrap .i64 (x1.toNat:Int))):Slot)= .int (x1.toNat:Int)by rw[a4P])) (a2 (a1 (show(Slot.int (remI (x1.toNat:Int) (n:Int)))= .int ((x1.toNat%n:Nat):Int)by rw[V2])) (a1 (show(n:Int)≠0 by omega))))) ?_
    exact rtM rfl (⟨_,a5Q (Nat.mod_lt _ (by omega)),rfl,rfl⟩)
   ·refine a5 ?_
    obtain⟨x2,hx2⟩:=u3 (l:=b) (i:=q%b.length) (by first|assumption|omega|(apply Nat.mod_lt;omega))
    have bx2:=x2.toNat_lt
    obtain⟨x3,hx3⟩:=u3 (l:=b) (i:=((q*7)+3)%b.length) (by first|assumption|omega|(apply Nat.mod_lt;omega))
    have bx3:=x3.toNat_lt
    refine exd [10,72] [(12,.int (((((x2.toNat*131)+(x3.toNat*1117))+(q*29))+((q/b.length)*53):Nat):Int))] [(9,.slot (.int (b.length:Int))),(10,.slot (.int ((q%b.length:Nat):Int))),(11,.row (rB x2)),(13,.slot (.int (x2.toNat:Int))),(14,.slot (.int ((x2.toNat*131:Nat):Int))),(20,.slot (.int ((q*7:Nat):Int))),(21,.slot (.int (((q*7)+3:Nat):Int))),(26,.slot (.int (b.length:Int))),(27,.slot (.int ((((q*7)+3)%b.length:Nat):Int))),(28,.row (rB x3)),(30,.slot (.int (x3.toNat:Int))),(31,.slot (.int ((x3.toNat*1117:Nat):Int))),(32,.slot (.int (((x2.toNat*131)+(x3.toNat*1117):Nat):Int))),(34,.slot (.int ((q*29:Nat):Int))),(35,.slot (.int ((((x2.toNat*131)+(x3.toNat*1117))+(q*29):Nat):Int))),(41,.slot (.int (b.length:Int))),(42,.slot (.int ((q/b.length:Nat):Int))),(43,.slot (.int (((q/b.length)*53:Nat):Int))),(44,.slot (.int (((((x2.toNat*131)+(x3.toNat*1117))+(q*29))+((q/b.length)*53):Nat):Int)))] (a2 (lnl b rB) (a2 (a1 (show(Slot.int (remI (q:Int) (b.length:Int)))= .int ((q%b.length:Nat):Int)by rw[V2])) (a2 (a1 (show(b.length:Int)≠0 by omega)) (a2 (ixh rB hx2) (a2 (a1 (show(Slot.im (.int .i64 (IntKind.wrap .i64 (x2.toNat:Int))):Slot)= .int (x2.toNat:Int)by rw[a4P])) (a2 (wIo ((x2.toNat:Int)*131) ((x2.toNat*131:Nat):Int)) (a2 (wIo ((q:Int)*7) ((q*7:Nat):Int)) (a2 (wIo (((q*7:Nat):Int)+3) (((q*7)+3:Nat):Int)) (a2 (lnl b rB) (a2 (a1 (show(Slot.int (remI (((q*7)+3:Nat):Int) (b.length:Int)))= .int ((((q*7)+3)%b.length:Nat):Int)by rw[V2])) (a2 (a1 (show(b.length:Int)≠0 by omega)) (a2 (ixh rB hx3) (a2 (a1 (show(Slot.im (.int .i64 (IntKind.wrap .i64 (x3.toNat:Int))):Slot)= .int (x3.toNat:Int)by rw[a4P])) (a2 (wIo ((x3.toNat:Int)*1117) ((x3.toNat*1117:Nat):Int)) (a2 (wIo (((x2.toNat*131:Nat):Int)+((x3.toNat*1117:Nat):Int)) (((x2.toNat*131)+(x3.toNat*1117):Nat):Int)) (a2 (wIo ((q:Int)*29) ((q*29:Nat):Int)) (a2 (wIo ((((x2.toNat*131)+(x3.toNat*1117):Nat):Int)+((q*29:Nat):Int)) ((((x2.toNat*131)+(x3.toNat*1117))+(q*29):Nat):Int)) (a2 (lnl b rB) (a2 (a1 (show(Slot.int (quoI (q:Int) (b.length:Int)))= .int ((q/b.length:Nat):Int)by rw[show quoI (q:Int) (b.length:Int)=((q/b.length:Nat):Int)from a3O (by omega)])) (a2 (a1 (show(b.length:Int)≠0 by omega)) (a2 (wIo (((q/b.length:Nat):Int)*53) (((q/b.length)*53:Nat):Int)) (wIo (((((x2.toNat*131)+(x3.toNat*1117))+(q*29):Nat):Int)+(((q/b.length)*53:Nat):Int)) (((((x2.toNat*131)+(x3.toNat*1117))+(q*29))+((q/b.length)*53):Nat):Int))))))))))))))))))))))) ?_
    refine exd [] [(12,.int ((((((x2.toNat*131)+(x3.toNat*1117))+(q*29))+((q/b.length)*53))^^^(((((x2.toNat*131)+(x3.toNat*1117))+(q*29))+((q/b.length)*53))/64):Nat):Int))] [(2,.slot (.int ((((((x2.toNat*131)+(x3.toNat*1117))+(q*29))+((q/b.length)*53))/64:Nat):Int))),(3,.num ((((((x2.toNat*131)+(x3.toNat*1117))+(q*29))+((q/b.length)*53))^^^(((((x2.toNat*131)+(x3.toNat*1117))+(q*29))+((q/b.length)*53))/64):Nat):Int))] (a2 (a1 (show(Slot.int (quoI (((((x2.toNat*131)+(x3.toNat*1117))+(q*29))+((q/b.length)*53):Nat):Int) 64))= .int ((((((x2.toNat*131)+(x3.toNat*1117))+(q*29))+((q/b.length)*53))/64:Nat):Int)by rw[show quoI (((((x2.toNat*131)+(x3.toNat*1117))+(q*29))+((q/b.length)*53):Nat):Int) 64=((((((x2.toNat*131)+(x3.toNat*1117))+(q*29))+((q/b.length)*53))/64:Nat):Int)from a3O (by omega)])) (a2 (a1 (show(64:Int)≠0 by omega)) (xorN (a:=(((x2.toNat*131)+(x3.toNat*1117))+(q*29))+((q/b.length)*53)) (b:=((((x2.toNat*131)+(x3.toNat*1117))+(q*29))+((q/b.length)*53))/64) (by omega) (by omega)))) ?_
    refine exd [2,12] [(8,.int (((((((x2.toNat*131)+(x3.toNat*1117))+(q*29))+((q/b.length)*53))^^^(((((x2.toNat*131)+(x3.toNat*1117))+(q*29))+((q/b.length)*53))/64))%n:Nat):Int))] [(2,.slot (.int (((((((x2.toNat*131)+(x3.toNat*1117))+(q*29))+((q/b.length)*53))^^^(((((x2.toNat*131)+(x3.toNat*1117))+(q*29))+((q/b.length)*53))/64))%n:Nat):Int)))] (a2 (a1 (show(Slot.int (remI ((((((x2.toNat*131)+(x3.toNat*1117))+(q*29))+((q/b.length)*53))^^^(((((x2.toNat*131)+(x3.toNat*1117))+(q*29))+((q/b.length)*53))/64):Nat):Int) (n:Int)))= .int (((((((x2.toNat*131)+(x3.toNat*1117))+(q*29))+((q/b.length)*53))^^^(((((x2.toNat*131)+(x3.toNat*1117))+(q*29))+((q/b.length)*53))/64))%n:Nat):Int)by rw[V2])) (a1 (show(n:Int)≠0 by omega))) ?_
    exact rtM rfl (⟨_,a5Q (Nat.mod_lt _ (by omega)),rfl,rfl⟩)
theorem of_x (b:List UInt8)(q:Nat)(hb:b.length≤2000)(hq:q≤1000000000000)(l:List ByteArray)(hl:0<l.length)(hl2:l.length≤1000):
 ∃o r,(fun o s=>∃t,t∈l∧o= .cell obN [.im true (.sl 1 (b.map rB)),.im true (.int .i64 ((q+1:Nat):Int))]∧s= .lf (.im true (.str t))) o r∧CallM Try.prog 39 [.lf (.im true (.sl 1 (l.map rS)))] (.cell obN [.im true (.sl 1 (b.map rB)),.im true (.int .i64 ((q:Nat):Int))]) o r:=by
 refine CallME (fn:=Try.f39) TTok mixed Try.func39 rfl rfl rfl rfl rfl ?_
 refine ex [(0,.lf (.ptr obN 0)),(1,rdr b q),(2,.lf (.m 1 l rS))] [] AllP.nil (by kernel_rfl) ?_
 obtain⟨_,_,⟨x1,hx1,rfl,rfl⟩,cc1⟩:=e7 b q l.length hb (by omega) (by omega)
 refine exd [2] [(1,rdr b (q+1)),(8,.lf (.q (nth l x1)))] [(3,.slot (.int (l.length:Int))),(4,.mth (rdl b (q+1)) [] (.int (x1:Int))),(5,.row (rS (nth l x1)))] (a2 (lnl l rS) (a2 (cl2 tx19 cc1) (ixn rS l x1))) ?_
 exact rtM rfl (⟨_,c6 (by omega),rfl,rfl⟩)
theorem u0 (b:List UInt8)(q:Nat)(hb:b.length≤2000)(hq:q≤1000000000000)(l:List Int)(hl:0<l.length)(hl2:l.length≤1000):
 ∃o r,(fun o s=>∃t,t∈l∧o= .cell obN [.im true (.sl 1 (b.map rB)),.im true (.int .i64 ((q+1:Nat):Int))]∧s= .lf (.im true (.int .i64 t))) o r∧CallM Try.prog 23 [.lf (.im true (.sl 1 (l.map rI)))] (.cell obN [.im true (.sl 1 (b.map rB)),.im true (.int .i64 ((q:Nat):Int))]) o r:=by
 refine CallME (fn:=Try.f23) TTok mixed Try.func23 rfl rfl rfl rfl rfl ?_
 refine ex [(0,.lf (.ptr obN 0)),(1,rdr b q),(2,.lf (.m 1 l rI))] [] AllP.nil (by kernel_rfl) ?_
 obtain⟨_,_,⟨x1,hx1,rfl,rfl⟩,cc1⟩:=e7 b q l.length hb (by omega) (by omega)
 refine exd [2] [(1,rdr b (q+1)),(8,.int (nth l x1))] [(3,.slot (.int (l.length:Int))),(4,.mth (rdl b (q+1)) [] (.int (x1:Int))),(5,.row (rI (nth l x1)))] (a2 (lnl l rI) (a2 (cl2 tx19 cc1) (ixn rI l x1))) ?_
 exact rtM rfl (⟨_,c6 (by omega),rfl,rfl⟩)
theorem a2b (b:List UInt8)(q:Nat)(hb:b.length≤2000)(hq:q≤900000000000)(ks:Kinds)(w:Bool)(hf:Few ks):
 ∃o r,(fun o s=>∃q' t,(q'≤q+6)∧(Valid ks t)∧(w=false→plainOk ks t=true)∧(t.size≤4)∧o= .cell obN [.im true (.sl 1 (b.map rB)),.im true (.int .i64 ((q':Nat):Int))]∧s= .lf (.im true (.str t))) o r∧CallM Try.prog 38 [.lf (.im true (.sl 1 (ks.map rRecs))),.lf (.im true (.bool w))] (.cell obN [.im true (.sl 1 (b.map rB)),.im true (.int .i64 ((q:Nat):Int))]) o r:=by
 refine CallME (fn:=Try.f38) TTok mixed Try.func38 rfl rfl rfl rfl rfl ?_
 have hfl:=hf.len
 have q83:B10.size=1:=rfl
 refine ex [(0,.lf (.ptr obN 0)),(1,rdr b q),(2,.lf (.m 1 ks rRecs)),(4,.bool w)] [] AllP.nil (by kernel_rfl) ?_
 obtain⟨_,_,⟨t1,ht1,rfl,rfl⟩,cc1⟩:=of_x b q hb (by omega) [B0,B3,B9,B0] (by decide) (by decide)
 refine exd [] [(1,rdr b (q+1)),(14,.lf (.q t1))] [(1,.slot (.lf (.m 1 [B0,B3,B9,B0] rS))),(2,.mth (rdl b (q+1)) [] (.lf (.q t1)))] (a2 (a1 (show([[.str B0],[.str B3],[.str B9],[.str B0]]:List (List SV))=([B0,B3,B9,B0].map rS)from rfl)) (cl2 tx39 cc1)) ?_
 refine a7 ?_
 obtain⟨_,_,⟨x1,hx1,rfl,rfl⟩,cc2⟩:=e7 b (q+1) 2 hb (by omega) (by omega)
 rcases bft (decide ((((x1:Nat):Int):Int)=0))with g1|g1
 ·have g1p:=d5 g1
  refine exd [] [(1,rdr b (q+1+1)),(38,.bool (decide ((ks.length:Int)>0)))] [(1,.mth (rdl b (q+1+1)) [] (.int (x1:Int))),(2,.slot (.bool true)),(5,.slot (.int (ks.length:Int)))] (a2 (cl2 tx19 cc2) (a2 (kB g1) (lnl ks rRecs))) ?_
  refine ecp (fun h1=> ?_) fun h1=> ?_
  ·obtain⟨_,_,⟨x2,hx2,rfl,rfl⟩,cc3⟩:=e7 b (q+1+1) ks.length hb (by omega) (by omega)
   refine exd [38] [(1,rdr b (q+1+1+1)),(16,.int (x2:Int))] [(2,.slot (.int (ks.length:Int))),(3,.mth (rdl b (q+1+1+1)) [] (.int (x2:Int)))] (a2 (lnl ks rRecs) (cl2 tx19 cc3)) ?_
   refine exd [] [(58,.bool (decide (((((nth ks x2).length:Nat):Int):Int)>0)))] [(2,.row (rRecs (nth ks x2))),(4,.slot (.int (((nth ks x2).length:Nat):Int)))] (a2 (ixn rRecs ks x2) (lnl (nth ks x2) rRec)) ?_
   refine ecp (fun h2=> ?_) fun h2=> ?_
   ·have hfr:=hf.row x2 (by omega)
    obtain⟨_,_,⟨x3,hx3,rfl,rfl⟩,cc4⟩:=e7 b (q+1+1+1) ((nth ks x2).length) hb (by omega) (by omega)
    refine exed [2,16,58] [(1,rdr b (q+1+1+1+1)),(14,.lf (.q ((B10++(dgt (x2:Int)))++(dgt (x3:Int)))))] [(1,.ret (.lf (.q (dgt (x2:Int))))),(6,.row (rRecs (nth ks x2))),(8,.slot (.int (((nth ks x2).length:Nat):Int))),(9,.mth (rdl b (q+1+1+1+1)) [] (.int (x3:Int))),(10,.ret (.lf (.q (dgt (x3:Int)))))] (a2 (cl tx53 (F8 x2 (by omega))) (a2 (a1 (StrFit.mk (a:=B10) (b:=(dgt (x2:Int))) (by exact strf (by(try simp only[ByteArray.size_append,F9]);first|omega|(have hz8:=o0 (by assumption);have hz9:=j9 (ks:=ks) (d8 (by assumption));omega)|(have hz8:=o0 (by assumption);omega))))) (a2 (ixn rRecs ks x2) (a2 (lnl (nth ks x2) rRec) (a2 (cl2 tx19 cc4) (a2 (cl tx53 (F8 x3 (by omega))) (a1 (StrFit.mk (a:=(B10++(dgt (x2:Int)))) (b:=(dgt (x3:Int))) (by exact strf (by(try simp only[ByteArray.size_append,F9]);first|omega|(have hz8:=o0 (by assumption);have hz9:=j9 (ks:=ks) (d8 (by assumption));omega)|(have hz8:=o0 (by assumption);omega))))))))))) ?_
    refine a7 ?_
    rcases bft w with g2|g2
    ·have g2p:=g2
     obtain⟨_,_,⟨x4,hx4,rfl,rfl⟩,cc5⟩:=e7 b (q+1+1+1+1) 4 hb (by omega) (by omega)
     refine exd [4] [(1,rdr b (q+1+1+1+1+1)),(94,.bool (decide ((x4:Int)=0)))] [(0,.slot (.bool true)),(3,.mth (rdl b (q+1+1+1+1+1)) [] (.int (x4:Int)))] (a2 (kB g2) (cl2 tx19 cc5)) ?_
     refine ecp (fun h3=> ?_) fun h3=> ?_
     ·obtain⟨_,_,⟨t2,ht2,rfl,rfl⟩,cc6⟩:=of_x b (q+1+1+1+1+1) hb (by omega) [B8,B6] (by decide) (by decide)
      refine exed [94] [(1,rdr b (q+1+1+1+1+1+1)),(14,.lf (.q (t2++((B10++(dgt (x2:Int)))++(dgt (x3:Int))))))] [(1,.slot (.lf (.m 1 [B8,B6] rS))),(2,.mth (rdl b (q+1+1+1+1+1+1)) [] (.lf (.q t2)))] (a2 (a1 (show([[.str B8],[.str B6]]:List (List SV))=([B8,B6].map rS)from rfl)) (a2 (cl2 tx39 cc6) (a1 (StrFit.mk (a:=t2) (b:=((B10++(dgt (x2:Int)))++(dgt (x3:Int)))) (by exact strf (by(try simp only[ByteArray.size_append,F9]);first|omega|(have hz8:=o0 (by assumption);have hz9:=j9 (ks:=ks) (d8 (by assumption));omega)|(have hz8:=o0 (by assumption);omega))))))) ?_
      refine exn [14] [(12,.lf (.q (t2++((B10++(dgt (x2:Int)))++(dgt (x3:Int))))))] ?_
      exact rtM rfl (⟨_,_,by omega,L0 ht2 (F7 (m:=x2) (k:=x3) hf.len (by omega) (by omega) (hf.row _ (by omega))),fun hw=>by simp_all,by have h8:=o0 ht2;have h9:=j9 (ks:=ks) (F7 (m:=x2) (k:=x3) hf.len (by omega) (by omega) (hf.row _ (by omega)));rw[ByteArray.size_append];omega,rfl,rfl⟩)
     ·refine a5 (exn [14,94] [(12,.lf (.q ((B10++(dgt (x2:Int)))++(dgt (x3:Int)))))] ?_)
      exact rtM rfl (⟨_,_,by omega,m7 (F7 (m:=x2) (k:=x3) hf.len (by omega) (by omega) (hf.row _ (by omega))),fun _=>(F7 (m:=x2) (k:=x3) hf.len (by omega) (by omega) (hf.row _ (by omega))),by have h9:=j9 (ks:=ks) (F7 (m:=x2) (k:=x3) hf.len (by omega) (by omega) (hf.row _ (by omega)));omega,rfl,rfl⟩)
    ·have g2p:=g2
     refine exd [4] [(94,.bool false)] [(0,.slot (.bool false))] (kB g2) ?_
     refine ecF rfl ?_
     refine a5 (exn [14,94] [(12,.lf (.q ((B10++(dgt (x2:Int)))++(dgt (x3:Int)))))] ?_)
     exact rtM rfl (⟨_,_,by omega,m7 (F7 (m:=x2) (k:=x3) hf.len (by omega) (by omega) (hf.row _ (by omega))),fun _=>(F7 (m:=x2) (k:=x3) hf.len (by omega) (by omega) (hf.row _ (by omega))),by have h9:=j9 (ks:=ks) (F7 (m:=x2) (k:=x3) hf.len (by omega) (by omega) (hf.row _ (by omega)));omega,rfl,rfl⟩)
   ·have hfr:=hf.row x2 (by omega)
    refine a5 ?_
    refine a7 ?_
    rcases bft w with g3|g3
    ·have g3p:=g3
     obtain⟨_,_,⟨x5,hx5,rfl,rfl⟩,cc7⟩:=e7 b (q+1+1+1) 4 hb (by omega) (by omega)
     refine exd [2,4,16,58] [(1,rdr b (q+1+1+1+1)),(94,.bool (decide ((x5:Int)=0)))] [(0,.slot (.bool true)),(3,.mth (rdl b (q+1+1+1+1)) [] (.int (x5:Int)))] (a2 (kB g3) (cl2 tx19 cc7)) ?_
     refine ecp (fun h5=> ?_) fun h5=> ?_
     ·obtain⟨_,_,⟨t3,ht3,rfl,rfl⟩,cc8⟩:=of_x b (q+1+1+1+1) hb (by omega) [B8,B6] (by decide) (by decide)
      refine exed [94] [(1,rdr b (q+1+1+1+1+1)),(14,.lf (.q (t3++t1)))] [(1,.slot (.lf (.m 1 [B8,B6] rS))),(2,.mth (rdl b (q+1+1+1+1+1)) [] (.lf (.q t3)))] (a2 (a1 (show([[.str B8],[.str B6]]:List (List SV))=([B8,B6].map rS)from rfl)) (a2 (cl2 tx39 cc8) (a1 (StrFit.mk (a:=t3) (b:=t1) (by exact strf (by(try simp only[ByteArray.size_append,F9]);first|omega|(have hz8:=o0 (by assumption);have hz9:=j9 (ks:=ks) (d8 (by assumption));omega)|(have hz8:=o0 (by assumption);omega))))))) ?_
      refine exn [14] [(12,.lf (.q (t3++t1)))] ?_
      exact rtM rfl (⟨_,_,by omega,L0 ht3 (d8 ht1),fun hw=>by simp_all,by have h8:=o0 ht3;have h9:=j9 (ks:=ks) (d8 ht1);rw[ByteArray.size_append];omega,rfl,rfl⟩)
     ·refine a5 (exn [14,94] [(12,.lf (.q t1))] ?_)
      exact rtM rfl (⟨_,_,by omega,m7 (d8 ht1),fun _=>(d8 ht1),by have h9:=j9 (ks:=ks) (d8 ht1);omega,rfl,rfl⟩)
    ·have g3p:=g3
     refine exd [2,4,16,58] [(94,.bool false)] [(0,.slot (.bool false))] (kB g3) ?_
     refine ecF rfl ?_
     refine a5 (exn [14,94] [(12,.lf (.q t1))] ?_)
     exact rtM rfl (⟨_,_,by omega,m7 (d8 ht1),fun _=>(d8 ht1),by have h9:=j9 (ks:=ks) (d8 ht1);omega,rfl,rfl⟩)
  ·refine a5 ?_
   refine a7 ?_
   rcases bft w with g4|g4
   ·have g4p:=g4
    obtain⟨_,_,⟨x6,hx6,rfl,rfl⟩,cc9⟩:=e7 b (q+1+1) 4 hb (by omega) (by omega)
    refine exd [2,4,38] [(1,rdr b (q+1+1+1)),(94,.bool (decide ((x6:Int)=0)))] [(0,.slot (.bool true)),(3,.mth (rdl b (q+1+1+1)) [] (.int (x6:Int)))] (a2 (kB g4) (cl2 tx19 cc9)) ?_
    refine ecp (fun h7=> ?_) fun h7=> ?_
    ·obtain⟨_,_,⟨t4,ht4,rfl,rfl⟩,cc10⟩:=of_x b (q+1+1+1) hb (by omega) [B8,B6] (by decide) (by decide)
     refine exed [94] [(1,rdr b (q+1+1+1+1)),(14,.lf (.q (t4++t1)))] [(1,.slot (.lf (.m 1 [B8,B6] rS))),(2,.mth (rdl b (q+1+1+1+1)) [] (.lf (.q t4)))] (a2 (a1 (show([[.str B8],[.str B6]]:List (List SV))=([B8,B6].map rS)from rfl)) (a2 (cl2 tx39 cc10) (a1 (StrFit.mk (a:=t4) (b:=t1) (by exact strf (by(try simp only[ByteArray.size_append,F9]);first|omega|(have hz8:=o0 (by assumption);have hz9:=j9 (ks:=ks) (d8 (by assumption));omega)|(have hz8:=o0 (by assumption);omega))))))) ?_
     refine exn [14] [(12,.lf (.q (t4++t1)))] ?_
     exact rtM rfl (⟨_,_,by omega,L0 ht4 (d8 ht1),fun hw=>by simp_all,by have h8:=o0 ht4;have h9:=j9 (ks:=ks) (d8 ht1);rw[ByteArray.size_append];omega,rfl,rfl⟩)
    ·refine a5 (exn [14,94] [(12,.lf (.q t1))] ?_)
     exact rtM rfl (⟨_,_,by omega,m7 (d8 ht1),fun _=>(d8 ht1),by have h9:=j9 (ks:=ks) (d8 ht1);omega,rfl,rfl⟩)
   ·have g4p:=g4
    refine exd [2,4,38] [(94,.bool false)] [(0,.slot (.bool false))] (kB g4) ?_
    refine ecF rfl ?_
    refine a5 (exn [14,94] [(12,.lf (.q t1))] ?_)
    exact rtM rfl (⟨_,_,by omega,m7 (d8 ht1),fun _=>(d8 ht1),by have h9:=j9 (ks:=ks) (d8 ht1);omega,rfl,rfl⟩)
 ·have g1p:=i5 g1
  refine exd [] [(1,rdr b (q+1+1)),(38,.bool false)] [(1,.mth (rdl b (q+1+1)) [] (.int (x1:Int))),(2,.slot (.bool false))] (a2 (cl2 tx19 cc2) (kB g1)) ?_
  refine ecF rfl ?_
  refine a5 ?_
  refine a7 ?_
  rcases bft w with g5|g5
  ·have g5p:=g5
   obtain⟨_,_,⟨x7,hx7,rfl,rfl⟩,cc11⟩:=e7 b (q+1+1) 4 hb (by omega) (by omega)
   refine exd [2,4,38] [(1,rdr b (q+1+1+1)),(94,.bool (decide ((x7:Int)=0)))] [(0,.slot (.bool true)),(3,.mth (rdl b (q+1+1+1)) [] (.int (x7:Int)))] (a2 (kB g5) (cl2 tx19 cc11)) ?_
   refine ecp (fun h10=> ?_) fun h10=> ?_
   ·obtain⟨_,_,⟨t5,ht5,rfl,rfl⟩,cc12⟩:=of_x b (q+1+1+1) hb (by omega) [B8,B6] (by decide) (by decide)
    refine exed [94] [(1,rdr b (q+1+1+1+1)),(14,.lf (.q (t5++t1)))] [(1,.slot (.lf (.m 1 [B8,B6] rS))),(2,.mth (rdl b (q+1+1+1+1)) [] (.lf (.q t5)))] (a2 (a1 (show([[.str B8],[.str B6]]:List (List SV))=([B8,B6].map rS)from rfl)) (a2 (cl2 tx39 cc12) (a1 (StrFit.mk (a:=t5) (b:=t1) (by exact strf (by(try simp only[ByteArray.size_append,F9]);first|omega|(have hz8:=o0 (by assumption);have hz9:=j9 (ks:=ks) (d8 (by assumption));omega)|(have hz8:=o0 (by assumption);omega))))))) ?_
    refine exn [14] [(12,.lf (.q (t5++t1)))] ?_
    exact rtM rfl (⟨_,_,by omega,L0 ht5 (d8 ht1),fun hw=>by simp_all,by have h8:=o0 ht5;have h9:=j9 (ks:=ks) (d8 ht1);rw[ByteArray.size_append];omega,rfl,rfl⟩)
   ·refine a5 (exn [14,94] [(12,.lf (.q t1))] ?_)
    exact rtM rfl (⟨_,_,by omega,m7 (d8 ht1),fun _=>(d8 ht1),by have h9:=j9 (ks:=ks) (d8 ht1);omega,rfl,rfl⟩)
  ·have g5p:=g5
   refine exd [2,4,38] [(94,.bool false)] [(0,.slot (.bool false))] (kB g5) ?_
   refine ecF rfl ?_
   refine a5 (exn [14,94] [(12,.lf (.q t1))] ?_)
   exact rtM rfl (⟨_,_,by omega,m7 (d8 ht1),fun _=>(d8 ht1),by have h9:=j9 (ks:=ks) (d8 ht1);omega,rfl,rfl⟩)
theorem M7 :
 CallV Try.prog 42 [] (·= .lf (.im true (.sl 3 (FORMS.map rIns)))):=by
 refine CallX (fn:=Try.f42) TTok mixed Try.func42 rfl rfl rfl rfl rfl fun E c hMay=> ?_
 refine vx c [] [] AllP.nil (by kernel_rfl) ?_
 refine vxd c [] [(0,.lf (.im true (.sl 3 [[.str B1,.int .i64 1000001,.int .i64 0],[.str B27,.int .i64 0,.int .i64 0],[.str B43,.int .i64 0,.int .i64 0],[.str B18,.int .i64 0,.int .i64 0],[.str B36,.int .i64 0,.int .i64 0],[.str B37,.int .i64 0,.int .i64 0],[.str B38,.int .i64 0,.int .i64 0],[.str B39,.int .i64 0,.int .i64 0],[.str B44,.int .i64 0,.int .i64 0],[.str B45,.int .i64 0,.int .i64 0],[.str B48,.int .i64 0,.int .i64 0],[.str B40,.int .i64 0,.int .i64 0],[.str B46,.int .i64 0,.int .i64 0],[.str B47,.int .i64 0,.int .i64 0],[.str B49,.int .i64 6,.int .i64 0],[.str B23,.int .i64 6,.int .i64 0],[.str B50,.int .i64 6,.int .i64 0],[.str B26,.int .i64 0,.int .i64 0],[.str B24,.int .i64 3,.int .i64 0],[.str B22,.int .i64 3,.int .i64 0],[.str B32,.int .i64 6,.int .i64 0],[.str B51,.int .i64 6,.int .i64 0],[.str B52,.int .i64 3,.int .i64 3],[.str B42,.int .i64 0,.int .i64 0],[.str B28,.int .i64 0,.int .i64 0],[.str B53,.int .i64 0,.int .i64 0],[.str B54,.int .i64 0,.int .i64 0],[.str B11,.int .i64 3,.int .i64 0],[.str B17,.int .i64 3,.int .i64 0],[.str B16,.int .i64 3,.int .i64 0],[.str B20,.int .i64 3,.int .i64 0],[.str B21,.int .i64 3,.int .i64 0],[.str B41,.int .i64 40,.int .i64 0],[.str B12,.int .i64 40,.int .i64 0],[.str B55,.int .i64 3,.int .i64 4],[.str B14,.int .i64 0,.int .i64 0],[.str B2,.int .i64 0,.int .i64 0]])))] [(37,.im)] AllP.nil ?_
 exact rtV rfl (retL rfl)
theorem a23 (b:List UInt8)(q:Nat)(hb:b.length≤2000)(hq:q≤800000000000)(ks:Kinds)(hf:Few ks):
 ∃o r,(fun o s=>∃q' x,(q'≤q+60)∧(x.fields.length≤4)∧(∀u∈x.fields,u.size≤4)∧o= .cell obN [.im true (.sl 1 (b.map rB)),.im true (.int .i64 ((q':Nat):Int))]∧s= .agg [.im true (.int .i64 (x:Rec).able),.im true (.sl 1 (x.fields.map rS))]) o r∧CallM Try.prog 29 [.lf (.im true (.sl 1 (ks.map rRecs)))] (.cell obN [.im true (.sl 1 (b.map rB)),.im true (.int .i64 ((q:Nat):Int))]) o r:=by
 refine CallME (fn:=Try.f29) TTok mixed Try.func29 rfl rfl rfl rfl rfl ?_
 refine ex [(0,.lf (.ptr obN 0)),(1,rdr b q),(2,.lf (.m 1 ks rRecs)),(8,.lf (.ptr 4 0)),(9,.cell 4 [.z 0,.nil])] [] AllP.nil (by kernel_rfl) ?_
 obtain⟨_,_,⟨t1,ht1,rfl,rfl⟩,cc1⟩:=u0 b q hb (by omega) [0,4,8,12,12,7,15,3,6,2] (by decide) (by decide)
 refine exd [] [(1,rdr b (q+1)),(10,.lf (.ptr 5 0)),(11,.cell 5 [.z t1,.nil])] [(1,.slot (.lf (.m 1 [0,4,8,12,12,7,15,3,6,2] rI))),(2,.mth (rdl b (q+1)) [] (.int t1))] (a2 (a1 (show([[.int .i64 0],[.int .i64 4],[.int .i64 8],[.int .i64 12],[.int .i64 12],[.int .i64 7],[.int .i64 15],[.int .i64 3],[.int .i64 6],[.int .i64 2]]:List (List SV))=([0,4,8,12,12,7,15,3,6,2].map rI)from rfl)) (cl2 tx23 cc1)) ?_
 refine a7 (etd [] [(11,.own 5 [.z t1,.nil] [.no])] (fun E=>I9 5 1 rfl) ?_)
 refine T5 5 1 0 3000001 9 1 [(0,.lf (.ptr obN 0)),(1,rdr b (q+1)),(2,.lf (.m 1 ks rRecs)),(8,.lf (.ptr 4 0)),(9,.cell 4 [.z 0,.nil]),(10,.lf (.ptr 5 0)),(11,.own 5 [.z t1,.hd 3000001 0 0] [.mk 3000001 0 9 1 []])] rfl rfl rfl (by kernel_rfl) (by kernel_rfl) (by kernel_rfl) ?_
 obtain⟨_,_,⟨x1,hx1,rfl,rfl⟩,cc2⟩:=e7 b (q+1) 4 hb (by omega) (by omega)
 refine exd [] [(1,rdr b (q+1+1)),(11,.own 5 [.z t1,.hd 3000001 ((([]:List ByteArray).map rS:List (List SV)).length) 0] [.mk 3000001 0 9 1 (([]:List ByteArray).map rS)]),(12,.int (x1:Int))] [(1,.mth (rdl b (q+1+1)) [] (.int (x1:Int)))] (cl2 tx19 cc2) ?_
 refine a9 (eld (fun l0 n L=>∃(i:Nat) (fl:List ByteArray) (qq:Nat),L=upG [] [(1,rdr b qq),(11,.own 5 [.z t1,.hd 3000001 ((fl.map rS).length) 0] [.mk 3000001 0 9 1 (fl.map rS)]),(12,.int (i:Int))] l0∧n=i+1∧(fl.length+i≤3∧(∀u∈fl,u.size≤4)∧qq+6*i≤q+30)) _ ⟨x1,[],q+1+1,rfl,rfl,⟨by simp;omega,by simp,by omega⟩⟩ ?_)
 rintro n L ⟨i,fl,qq,rfl,rfl,hP1⟩
 have hle:=hP1.1
 have hqq:=hP1.2.2
 refine a7 (exn [] [(28,.bool (decide ((i:Int)>0)))] ?_)
 refine ecp (fun h1=> ?_) fun h1=> ?_
 ·refine a5 ?_
  refine a7 ?_
  refine a9 ?_
  obtain⟨_,_,⟨q1,t2,hq1,hv1,hp1,hz1,rfl,rfl⟩,cc3⟩:=a2b b qq hb (by omega) ks false hf
  refine exed [28] [(1,rdr b q1),(11,.own 5 [.z t1,.hd 3000001 (((fl++[t2]).map rS).length) 0] [.mk 3000001 0 9 1 ((fl++[t2]).map rS)])] [(1,.out 0),(4,.mth (rdl b q1) [] (.lf (.q t2))),(5,.slot (.lf (.m 1 [t2] rS))),(6,.slot (.lf (.u 3000001 0 9 1 ((fl++[t2]).map rS)))),(8,.inn 0)] (a2 (hl ((fl.map rS).length)) (a2 (cl2 tx38 cc3) (a2 (a1 (show([[.str t2]]:List (List SV))=([t2].map rS)from rfl)) (a2 (a1 (show((fl.map rS)++([t2].map rS):List (List SV))=(fl++[t2]).map rS by rw[List.map_append])) (ap (a:=(fl.map rS).length+(([t2].map rS):List (List SV)).length) (b:=16) (by simp;omega) (by unfold maxLen;simp;omega)))))) ?_
  exact exed [] [(12,.int ((i-1:Nat):Int))] [(1,.slot (.int ((i-1:Nat):Int)))] (wIo ((i:Int)-1) ((i-1:Nat):Int)) (⟨_,by omega,(i-1),(fl++[t2]),q1,rfl,rfl,⟨by simp;omega,fun u hu=>(List.mem_append.1 hu).elim (hP1.2.1 u) fun hu=>by simp at hu;subst hu;assumption,by omega⟩⟩)
 ·refine d9 ?_
  refine a7 ?_
  obtain⟨_,_,⟨x2,hx2,rfl,rfl⟩,cc4⟩:=e7 b qq 12 hb (by omega) (by omega)
  refine exd [2,12,28] [(1,rdr b (qq+1)),(54,.bool (decide ((x2:Int)=0)))] [(1,.mth (rdl b (qq+1)) [] (.int (x2:Int)))] (cl2 tx19 cc4) ?_
  refine ecp (fun h2=> ?_) fun h2=> ?_
  ·obtain⟨_,_,⟨t3,ht2,rfl,rfl⟩,cc5⟩:=u0 b (qq+1) hb (by omega) [(-1),16,1,5] (by decide) (by decide)
   refine exed [54] [(1,rdr b (qq+1+1)),(11,.own 5 [.z t3,.hd 3000001 ((fl.map rS).length) 0] [.mk 3000001 0 9 1 (fl.map rS)])] [(1,.slot (.lf (.m 1 [(-1),16,1,5] rI))),(2,.mth (rdl b (qq+1+1)) [] (.int t3))] (a2 (a1 (show([[.int .i64 (-1)],[.int .i64 16],[.int .i64 1],[.int .i64 5]]:List (List SV))=([(-1),16,1,5].map rI)from rfl)) (cl2 tx23 cc5)) ?_
   refine a7 ?_
   obtain⟨_,_,⟨x3,hx3,rfl,rfl⟩,cc6⟩:=e7 b (qq+1+1) 15 hb (by omega) (by omega)
   refine exd [] [(1,rdr b (qq+1+1+1)),(68,.bool (decide ((x3:Int)=0)))] [(1,.mth (rdl b (qq+1+1+1)) [] (.int (x3:Int)))] (cl2 tx19 cc6) ?_
   refine ecp (fun h3=> ?_) fun h3=> ?_
   ·obtain⟨_,_,⟨t4,ht3,rfl,rfl⟩,cc7⟩:=of_x b (qq+1+1+1) hb (by omega) [B29,B4,B30,B31,B10] (by decide) (by decide)
    refine exed [68] [(1,rdr b (qq+1+1+1+1)),(11,.own 5 [.z t3,.hd 3000001 (((fl++[t4]).map rS).length) 0] [.mk 3000001 0 9 1 ((fl++[t4]).map rS)])] [(1,.out 0),(3,.slot (.lf (.m 1 [B29,B4,B30,B31,B10] rS))),(4,.mth (rdl b (qq+1+1+1+1)) [] (.lf (.q t4))),(5,.slot (.lf (.m 1 [t4] rS))),(6,.slot (.lf (.u 3000001 0 9 1 ((fl++[t4]).map rS)))),(8,.inn 0)] (a2 (hl ((fl.map rS).length)) (a2 (a1 (show([[.str B29],[.str B4],[.str B30],[.str B31],[.str B10]]:List (List SV))=([B29,B4,B30,B31,B10].map rS)from rfl)) (a2 (cl2 tx39 cc7) (a2 (a1 (show([[.str t4]]:List (List SV))=([t4].map rS)from rfl)) (a2 (a1 (show((fl.map rS)++([t4].map rS):List (List SV))=(fl++[t4]).map rS by rw[List.map_append])) (ap (a:=(fl.map rS).length+(([t4].map rS):List (List SV)).length) (b:=16) (by simp;omega) (by unfold maxLen;simp;omega))))))) ?_
    refine etd [] [(11,.own 5 [.z t3,.m 1 (fl++[t4]) rS] [.no])] (fun E=>A8 5 1 0 rfl rfl rfl rfl) ?_
    refine etd [] [(11,.cell 5 [.z t3,.m 1 (fl++[t4]) rS])] (fun E=>d6 5 rfl) ?_
    refine exn [10,11] [(9,.cell 4 [.z t3,.m 1 (fl++[t4]) rS])] ?_
    exact rtM rfl (⟨_,⟨t3,(fl++[t4])⟩,by omega,by simp;omega,fun u hu=>(List.mem_append.1 hu).elim (hP1.2.1 u) fun hu=>by simp at hu;subst hu;exact a4O _ (by assumption),rfl,rfl⟩)
   ·refine a5 (etd [] [(11,.own 5 [.z t3,.m 1 fl rS] [.no])] (fun E=>A8 5 1 0 rfl rfl rfl rfl) ?_)
    refine etd [] [(11,.cell 5 [.z t3,.m 1 fl rS])] (fun E=>d6 5 rfl) ?_
    refine exn [10,11,68] [(9,.cell 4 [.z t3,.m 1 fl rS])] ?_
    exact rtM rfl (⟨_,⟨t3,fl⟩,by omega,by simp;omega,hP1.2.1,rfl,rfl⟩)
  ·refine a5 ?_
   refine a7 ?_
   obtain⟨_,_,⟨x4,hx4,rfl,rfl⟩,cc8⟩:=e7 b (qq+1) 15 hb (by omega) (by omega)
   refine exd [54] [(1,rdr b (qq+1+1)),(68,.bool (decide ((x4:Int)=0)))] [(1,.mth (rdl b (qq+1+1)) [] (.int (x4:Int)))] (cl2 tx19 cc8) ?_
   refine ecp (fun h4=> ?_) fun h4=> ?_
   ·obtain⟨_,_,⟨t5,ht4,rfl,rfl⟩,cc9⟩:=of_x b (qq+1+1) hb (by omega) [B29,B4,B30,B31,B10] (by decide) (by decide)
    refine exed [68] [(1,rdr b (qq+1+1+1)),(11,.own 5 [.z t1,.hd 3000001 (((fl++[t5]).map rS).length) 0] [.mk 3000001 0 9 1 ((fl++[t5]).map rS)])] [(1,.out 0),(3,.slot (.lf (.m 1 [B29,B4,B30,B31,B10] rS))),(4,.mth (rdl b (qq+1+1+1)) [] (.lf (.q t5))),(5,.slot (.lf (.m 1 [t5] rS))),(6,.slot (.lf (.u 3000001 0 9 1 ((fl++[t5]).map rS)))),(8,.inn 0)] (a2 (hl ((fl.map rS).length)) (a2 (a1 (show([[.str B29],[.str B4],[.str B30],[.str B31],[.str B10]]:List (List SV))=([B29,B4,B30,B31,B10].map rS)from rfl)) (a2 (cl2 tx39 cc9) (a2 (a1 (show([[.str t5]]:List (List SV))=([t5].map rS)from rfl)) (a2 (a1 (show((fl.map rS)++([t5].map rS):List (List SV))=(fl++[t5]).map rS by rw[List.map_append])) (ap (a:=(fl.map rS).length+(([t5].map rS):List (List SV)).length) (b:=16) (by simp;omega) (by unfold maxLen;simp;omega))))))) ?_
    refine etd [] [(11,.own 5 [.z t1,.m 1 (fl++[t5]) rS] [.no])] (fun E=>A8 5 1 0 rfl rfl rfl rfl) ?_
    refine etd [] [(11,.cell 5 [.z t1,.m 1 (fl++[t5]) rS])] (fun E=>d6 5 rfl) ?_
    refine exn [10,11] [(9,.cell 4 [.z t1,.m 1 (fl++[t5]) rS])] ?_
    exact rtM rfl (⟨_,⟨t1,(fl++[t5])⟩,by omega,by simp;omega,fun u hu=>(List.mem_append.1 hu).elim (hP1.2.1 u) fun hu=>by simp at hu;subst hu;exact a4O _ (by assumption),rfl,rfl⟩)
   ·refine a5 (etd [] [(11,.own 5 [.z t1,.m 1 fl rS] [.no])] (fun E=>A8 5 1 0 rfl rfl rfl rfl) ?_)
    refine etd [] [(11,.cell 5 [.z t1,.m 1 fl rS])] (fun E=>d6 5 rfl) ?_
    refine exn [10,11,68] [(9,.cell 4 [.z t1,.m 1 fl rS])] ?_
    exact rtM rfl (⟨_,⟨t1,fl⟩,by omega,by simp;omega,hP1.2.1,rfl,rfl⟩)
theorem C3 (b:List UInt8)(q:Nat)(hb:b.length≤2000)(hq:q≤800000000000)(ks:Kinds)(most:Nat)(w:Bool)(hf:Few ks)(hm4:most≤4):
 ∃o r,(fun o s=>∃(q':Nat) (l:List ByteArray),(q'≤q+30)∧(l.length≤most)∧(∀u∈l,Valid ks u∧u.size≤4)∧o= .cell obN [.im true (.sl 1 (b.map rB)),.im true (.int .i64 ((q':Nat):Int))]∧s= .lf (.im true (.sl 1 (l.map rS)))) o r∧CallM Try.prog 32 [.lf (.im true (.sl 1 (ks.map rRecs))),.lf (.im true (.int .i64 ((most:Nat):Int))),.lf (.im true (.bool w))] (.cell obN [.im true (.sl 1 (b.map rB)),.im true (.int .i64 ((q:Nat):Int))]) o r:=by
 refine CallME (fn:=Try.f32) TTok mixed Try.func32 rfl rfl rfl rfl rfl ?_
 refine ex [(0,.lf (.ptr obN 0)),(1,rdr b q),(2,.lf (.m 1 ks rRecs)),(4,.int (most:Int)),(6,.bool w)] [] AllP.nil (by kernel_rfl) ?_
 refine exn [] [(18,.lf (.u 11 0 9 1 []))] ?_
 refine a7 ?_
 obtain⟨_,_,⟨x1,hx1,rfl,rfl⟩,cc1⟩:=e7 b q (most+1) hb (by omega) (by omega)
 refine exd [4] [(1,rdr b (q+1)),(20,.int (x1:Int))] [(2,.slot (.int (↑(most+1):Int))),(3,.mth (rdl b (q+1)) [] (.int (x1:Int)))] (a2 (wI1 most) (cl2 tx19 cc1)) ?_
 refine a9 (eld (fun l0 n L=>∃(i:Nat) (fl:List ByteArray) (qq:Nat),L=upG [] [(1,rdr b qq),(18,.lf (.u 11 0 9 1 (fl.map rS))),(20,.int (i:Int))] l0∧n=i+1∧(fl.length+i≤most∧(∀u∈fl,Valid ks u∧u.size≤4)∧qq+6*i≤q+30)) _ ⟨x1,[],q+1,rfl,rfl,⟨by simp;omega,by simp,by omega⟩⟩ ?_)
 rintro n L ⟨i,fl,qq,rfl,rfl,hP1⟩
 have hle:=hP1.1
 have hqq:=hP1.2.2
 refine a7 (exn [] [(34,.bool (decide ((i:Int)>0)))] ?_)
 refine ecp (fun h1=> ?_) fun h1=> ?_
 ·refine a5 ?_
  refine a7 ?_
  refine a9 ?_
  obtain⟨_,_,⟨q1,t1,hq1,hv1,hp1,hz1,rfl,rfl⟩,cc2⟩:=a2b b qq hb (by omega) ks w hf
  refine exed [34] [(1,rdr b q1),(18,.lf (.u 11 0 9 1 ((fl++[t1]).map rS)))] [(4,.mth (rdl b q1) [] (.lf (.q t1))),(5,.slot (.lf (.m 1 [t1] rS))),(6,.slot (.lf (.u 11 0 9 1 ((fl++[t1]).map rS))))] (a2 (cl2 tx38 cc2) (a2 (a1 (show([[.str t1]]:List (List SV))=([t1].map rS)from rfl)) (a2 (a1 (show((fl.map rS)++([t1].map rS):List (List SV))=(fl++[t1]).map rS by rw[List.map_append])) (a2 (hl ((fl.map rS).length)) (ap (a:=(fl.map rS).length+(([t1].map rS):List (List SV)).length) (b:=16) (by simp;omega) (by unfold maxLen;simp;omega)))))) ?_
  exact exed [] [(20,.int ((i-1:Nat):Int))] [(1,.slot (.int ((i-1:Nat):Int)))] (wIo ((i:Int)-1) ((i-1:Nat):Int)) (⟨_,by omega,(i-1),(fl++[t1]),q1,rfl,rfl,⟨by simp;omega,fun u hu=>(List.mem_append.1 hu).elim (hP1.2.1 u) fun hu=>by simp at hu;subst hu;exact⟨by assumption,by assumption⟩,by omega⟩⟩)
 ·refine d9 (efd 9 [] [(18,.lf (.m 1 fl rS))] ?_)
  refine exn [2,6,18,20,34] [(16,.lf (.m 1 fl rS))] ?_
  exact rtM rfl (⟨_,fl,by omega,by omega,hP1.2.1,rfl,rfl⟩)
theorem O5 (b:List UInt8)(q:Nat)(hb:b.length≤2000)(hq:q≤700000000000)(ks:Kinds)(nr:Nat)(hf:Few ks)(hnr:nr≤10):
 ∃o r,(fun o s=>∃q' f,(q'≤q+200)∧(HdOk ks nr f)∧((f:Fn).code=[⟨⟨#[110,117,109]⟩,1,0⟩,⟨⟨#[102,97,105,108]⟩,0,0⟩])∧o= .cell obN [.im true (.sl 1 (b.map rB)),.im true (.int .i64 ((q':Nat):Int))]∧s= .agg [.im true (.int .i64 ((f:Fn).seen)),.im true (.sl 1 (((f:Fn).args).map rS)),.im true (.sl 1 (((f:Fn).rets).map rS)),.im true (.sl 1 (((f:Fn).locals).map rS)),.im true (.sl 1 (((f:Fn).takes).map rI)),.im true (.sl 3 (((f:Fn).code).map rIns))]) o r∧CallM Try.prog 21 [.lf (.im true (.sl 1 (ks.map rRecs))),.lf (.im true (.int .i64 ((nr:Nat):Int)))] (.cell obN [.im true (.sl 1 (b.map rB)),.im true (.int .i64 ((q:Nat):Int))]) o r:=by
 refine CallME (fn:=Try.f21) TTok mixed Try.func21 rfl rfl rfl rfl rfl ?_
 refine ex [(0,.lf (.ptr obN 0)),(1,rdr b q),(2,.lf (.m 1 ks rRecs)),(4,.int (nr:Int)),(12,.lf (.ptr 6 0)),(13,.cell 6 [.z 0,.nil,.nil,.nil,.nil,.nil])] [] AllP.nil (by kernel_rfl) ?_
 obtain⟨_,_,⟨t1,ht1,rfl,rfl⟩,cc1⟩:=u0 b q hb (by omega) [2,2,2,0,1] (by decide) (by decide)
 refine exd [] [(1,rdr b (q+1)),(14,.lf (.ptr 7 0)),(15,.cell 7 [.z t1,.nil,.nil,.nil,.nil,.nil])] [(1,.slot (.lf (.m 1 [2,2,2,0,1] rI))),(2,.mth (rdl b (q+1)) [] (.int t1))] (a2 (a1 (show([[.int .i64 2],[.int .i64 2],[.int .i64 2],[.int .i64 0],[.int .i64 1]]:List (List SV))=([2,2,2,0,1].map rI)from rfl)) (cl2 tx23 cc1)) ?_
 rcases bft (decide ((t1:Int)<2))with g1|g1
 ·have g1p:=d5 g1
  refine exd [] [(16,.bool true)] [(2,.slot (.bool true))] (kB g1) ?_
  obtain⟨_,_,⟨q1,l1,hq1,hl1,hv1,rfl,rfl⟩,cc3⟩:=C3 b (q+1) hb (by omega) ks 2 true hf (by omega)
  refine exd [] [(1,rdr b q1),(15,.cell 7 [.z t1,.m 1 l1 rS,.nil,.nil,.nil,.nil])] [(3,.mth (rdl b q1) [] (.lf (.m 1 l1 rS)))] (cl2 tx32 cc3) ?_
  obtain⟨_,_,⟨q2,l2,hq2,hl2,hv2,rfl,rfl⟩,cc4⟩:=C3 b q1 hb (by omega) ks 3 true hf (by omega)
  refine exd [] [(1,rdr b q2),(15,.cell 7 [.z t1,.m 1 l1 rS,.nil,.m 1 l2 rS,.nil,.nil])] [(2,.mth (rdl b q2) [] (.lf (.m 1 l2 rS)))] (cl2 tx32 cc4) ?_
  obtain⟨_,_,⟨x2,hx2,rfl,rfl⟩,cc5⟩:=e7 b q2 3 hb (by omega) (by omega)
  obtain⟨_,_,⟨q3,l3,hq3,hl3,hv3,rfl,rfl⟩,cc6⟩:=C3 b (q2+1) hb (by omega) ks 2 (decide ((x2:Int)=0)) hf (by omega)
  refine exd [2,16] [(1,rdr b q3),(15,.cell 7 [.z t1,.m 1 l1 rS,.m 1 l3 rS,.m 1 l2 rS,.nil,.nil])] [(5,.mth (rdl b (q2+1)) [] (.int (x2:Int))),(8,.mth (rdl b q3) [] (.lf (.m 1 l3 rS)))] (a2 (cl2 tx19 cc5) (cl2 tx32 cc6)) ?_
  refine a7 (etd [] [(15,.own 7 [.z t1,.m 1 l1 rS,.m 1 l3 rS,.m 1 l2 rS,.nil,.nil] [.no])] (fun E=>I9 7 1 rfl) ?_)
  refine T5 7 4 0 3000002 3 1 [(0,.lf (.ptr obN 0)),(1,rdr b q3),(4,.int (nr:Int)),(12,.lf (.ptr 6 0)),(13,.cell 6 [.z 0,.nil,.nil,.nil,.nil,.nil]),(14,.lf (.ptr 7 0)),(15,.own 7 [.z t1,.m 1 l1 rS,.m 1 l3 rS,.m 1 l2 rS,.hd 3000002 0 0,.nil] [.mk 3000002 0 3 1 []])] rfl rfl rfl (by kernel_rfl) (by kernel_rfl) (by kernel_rfl) ?_
  refine exn [] [(15,.own 7 [.z t1,.m 1 l1 rS,.m 1 l3 rS,.m 1 l2 rS,.hd 3000002 ((([]:List Int).map rI:List (List SV)).length) 0,.nil] [.mk 3000002 0 3 1 (([]:List Int).map rI)]),(18,.int 0)] ?_
  refine a9 (eld (fun l0 n L=>∃(k:Nat) (tk:List Int) (qq:Nat),L=upG [] [(1,rdr b qq),(15,.own 7 [.z t1,.m 1 l1 rS,.m 1 l3 rS,.m 1 l2 rS,.hd 3000002 ((tk.map rI).length) 0,.nil] [.mk 3000002 0 3 1 (tk.map rI)]),(18,.int (k:Int))] l0∧n=nr-k∧(k≤nr∧tk.length≤k∧(∀x∈tk,0≤x∧x≤1000)∧qq≤q3+k)) _ ⟨0,[],q3,rfl,rfl,⟨by omega,by simp,by simp,by omega⟩⟩ ?_)
  rintro n L ⟨k,tk,qq,rfl,rfl,hP1⟩
  have hle:=hP1.1
  have hln:=hP1.2.1
  have htk:=hP1.2.2.1
  have hqq:=hP1.2.2.2
  refine a7 (exn [] [(86,.bool (decide ((k:Int)<(nr:Int))))] ?_)
  refine ecp (fun h1=> ?_) fun h1=> ?_
  ·refine a5 ?_
   refine a7 ?_
   refine a9 ?_
   obtain⟨_,_,⟨x3,hx3,rfl,rfl⟩,cc7⟩:=e7 b qq 3 hb (by omega) (by omega)
   refine exd [86] [(1,rdr b (qq+1)),(96,.bool (decide ((x3:Int)>0)))] [(1,.mth (rdl b (qq+1)) [] (.int (x3:Int)))] (cl2 tx19 cc7) ?_
   refine ecp (fun h2=> ?_) fun h2=> ?_
   ·refine exed [96] [(15,.own 7 [.z t1,.m 1 l1 rS,.m 1 l3 rS,.m 1 l2 rS,.hd 3000002 (((tk++[(k:Int)]).map rI:List (List SV)).length) 0,.nil] [.mk 3000002 0 3 1 ((tk++[(k:Int)]).map rI)])] [(1,.out 0),(3,.slot (.lf (.m 1 [(k:Int)] rI))),(4,.slot (.lf (.u 3000002 0 3 1 ((tk++[(k:Int)]).map rI)))),(6,.inn 0)] (a2 (hl ((tk.map rI).length)) (a2 (a1 (show([[.int .i64 (k:Int)]]:List (List SV))=([(k:Int)].map rI)from rfl)) (a2 (a1 (show((tk.map rI)++([(k:Int)].map rI):List (List SV))=(tk++[(k:Int)]).map rI by rw[List.map_append])) (ap (a:=(tk.map rI).length+(([(k:Int)].map rI):List (List SV)).length) (b:=8) (by simp;omega) (by unfold maxLen;simp;omega))))) ?_
    exact exed [] [(18,.int (↑(k+1):Int))] [(1,.slot (.int (↑(k+1):Int)))] (wI1 k) (⟨_,by omega,(k+1),(tk++[(k:Int)]),(qq+1),rfl,rfl,⟨by omega,by first|(simp;omega)|omega,by first|exact fun x hx=>(List.mem_append.1 hx).elim (hP1.2.2.1 x) fun hx=>(by simp at hx;subst hx;omega)|exact hP1.2.2.1,by omega⟩⟩)
   ·exact a5 (exed [96] [(18,.int (↑(k+1):Int))] [(1,.slot (.int (↑(k+1):Int)))] (wI1 k) (⟨_,by omega,(k+1),tk,(qq+1),rfl,rfl,⟨by omega,by first|(simp;omega)|omega,by first|exact fun x hx=>(List.mem_append.1 hx).elim (hP1.2.2.1 x) fun hx=>(by simp at hx;subst hx;omega)|exact hP1.2.2.1,by omega⟩⟩))
  ·refine d9 (exd [4,18,86] [(15,.own 7 [.z t1,.m 1 l1 rS,.m 1 l3 rS,.m 1 l2 rS,.hd 3000002 ((tk.map rI).length) 0,.im true (.sl 3 [[.str B1,.int .i64 1,.int .i64 0],[.str B2,.int .i64 0,.int .i64 0]])] [.mk 3000002 0 3 1 (tk.map rI)])] [(2,.im)] AllP.nil ?_)
   refine etd [] [(15,.own 7 [.z t1,.m 1 l1 rS,.m 1 l3 rS,.m 1 l2 rS,.m 1 tk rI,.im true (.sl 3 [[.str B1,.int .i64 1,.int .i64 0],[.str B2,.int .i64 0,.int .i64 0]])] [.no])] (fun E=>A8 7 4 0 rfl rfl rfl rfl) ?_
   refine etd [] [(15,.cell 7 [.z t1,.m 1 l1 rS,.m 1 l3 rS,.m 1 l2 rS,.m 1 tk rI,.im true (.sl 3 [[.str B1,.int .i64 1,.int .i64 0],[.str B2,.int .i64 0,.int .i64 0]])])] (fun E=>d6 7 rfl) ?_
   refine exn [14,15] [(13,.cell 6 [.z t1,.m 1 l1 rS,.m 1 l3 rS,.m 1 l2 rS,.m 1 tk rI,.im true (.sl 3 [[.str B1,.int .i64 1,.int .i64 0],[.str B2,.int .i64 0,.int .i64 0]])])] ?_
   exact rtM rfl (⟨_,⟨t1,l1,l3,l2,tk,[⟨⟨#[110,117,109]⟩,1,0⟩,⟨⟨#[102,97,105,108]⟩,0,0⟩]⟩,by omega,⟨⟨hl1,hv1⟩,⟨hl3,hv3⟩,⟨hl2,hv2⟩,Nat.le_trans hln hle,htk⟩,rfl,rfl,rfl⟩)
 ·have g1p:=i5 g1
  obtain⟨_,_,⟨x1,hx1,rfl,rfl⟩,cc2⟩:=e7 b (q+1) 4 hb (by omega) (by omega)
  refine exd [] [(1,rdr b (q+1+1)),(16,.bool (decide ((x1:Int)=0)))] [(2,.slot (.bool false)),(5,.mth (rdl b (q+1+1)) [] (.int (x1:Int)))] (a2 (kB g1) (cl2 tx19 cc2)) ?_
  obtain⟨_,_,⟨q4,l4,hq4,hl4,hv4,rfl,rfl⟩,cc8⟩:=C3 b (q+1+1) hb (by omega) ks 2 (decide ((x1:Int)=0)) hf (by omega)
  refine exd [] [(1,rdr b q4),(15,.cell 7 [.z t1,.m 1 l4 rS,.nil,.nil,.nil,.nil])] [(3,.mth (rdl b q4) [] (.lf (.m 1 l4 rS)))] (cl2 tx32 cc8) ?_
  obtain⟨_,_,⟨q5,l5,hq5,hl5,hv5,rfl,rfl⟩,cc9⟩:=C3 b q4 hb (by omega) ks 3 true hf (by omega)
  refine exd [] [(1,rdr b q5),(15,.cell 7 [.z t1,.m 1 l4 rS,.nil,.m 1 l5 rS,.nil,.nil])] [(2,.mth (rdl b q5) [] (.lf (.m 1 l5 rS)))] (cl2 tx32 cc9) ?_
  rcases bft (decide ((((x1:Nat):Int):Int)=0))with g2|g2
  ·have g2p:=d5 g2
   obtain⟨_,_,⟨x4,hx4,rfl,rfl⟩,cc10⟩:=e7 b q5 3 hb (by omega) (by omega)
   obtain⟨_,_,⟨q6,l6,hq6,hl6,hv6,rfl,rfl⟩,cc11⟩:=C3 b (q5+1) hb (by omega) ks 2 (decide ((x4:Int)=0)) hf (by omega)
   refine exd [2,16] [(1,rdr b q6),(15,.cell 7 [.z t1,.m 1 l4 rS,.m 1 l6 rS,.m 1 l5 rS,.nil,.nil])] [(2,.slot (.bool true)),(5,.mth (rdl b (q5+1)) [] (.int (x4:Int))),(8,.mth (rdl b q6) [] (.lf (.m 1 l6 rS)))] (a2 (kB g2) (a2 (cl2 tx19 cc10) (cl2 tx32 cc11))) ?_
   refine a7 (etd [] [(15,.own 7 [.z t1,.m 1 l4 rS,.m 1 l6 rS,.m 1 l5 rS,.nil,.nil] [.no])] (fun E=>I9 7 1 rfl) ?_)
   refine T5 7 4 0 3000002 3 1 [(0,.lf (.ptr obN 0)),(1,rdr b q6),(4,.int (nr:Int)),(12,.lf (.ptr 6 0)),(13,.cell 6 [.z 0,.nil,.nil,.nil,.nil,.nil]),(14,.lf (.ptr 7 0)),(15,.own 7 [.z t1,.m 1 l4 rS,.m 1 l6 rS,.m 1 l5 rS,.hd 3000002 0 0,.nil] [.mk 3000002 0 3 1 []])] rfl rfl rfl (by kernel_rfl) (by kernel_rfl) (by kernel_rfl) ?_
   refine exn [] [(15,.own 7 [.z t1,.m 1 l4 rS,.m 1 l6 rS,.m 1 l5 rS,.hd 3000002 ((([]:List Int).map rI:List (List SV)).length) 0,.nil] [.mk 3000002 0 3 1 (([]:List Int).map rI)]),(18,.int 0)] ?_
   refine a9 (eld (fun l0 n L=>∃(k:Nat) (tk:List Int) (qq:Nat),L=upG [] [(1,rdr b qq),(15,.own 7 [.z t1,.m 1 l4 rS,.m 1 l6 rS,.m 1 l5 rS,.hd 3000002 ((tk.map rI).length) 0,.nil] [.mk 3000002 0 3 1 (tk.map rI)]),(18,.int (k:Int))] l0∧n=nr-k∧(k≤nr∧tk.length≤k∧(∀x∈tk,0≤x∧x≤1000)∧qq≤q6+k)) _ ⟨0,[],q6,rfl,rfl,⟨by omega,by simp,by simp,by omega⟩⟩ ?_)
   rintro n L ⟨k,tk,qq,rfl,rfl,hP2⟩
   have hle:=hP2.1
   have hln:=hP2.2.1
   have htk:=hP2.2.2.1
   have hqq:=hP2.2.2.2
   refine a7 (exn [] [(86,.bool (decide ((k:Int)<(nr:Int))))] ?_)
   refine ecp (fun h3=> ?_) fun h3=> ?_
   ·refine a5 ?_
    refine a7 ?_
    refine a9 ?_
    obtain⟨_,_,⟨x5,hx5,rfl,rfl⟩,cc12⟩:=e7 b qq 3 hb (by omega) (by omega)
    refine exd [86] [(1,rdr b (qq+1)),(96,.bool (decide ((x5:Int)>0)))] [(1,.mth (rdl b (qq+1)) [] (.int (x5:Int)))] (cl2 tx19 cc12) ?_
    refine ecp (fun h4=> ?_) fun h4=> ?_
    ·refine exed [96] [(15,.own 7 [.z t1,.m 1 l4 rS,.m 1 l6 rS,.m 1 l5 rS,.hd 3000002 (((tk++[(k:Int)]).map rI:List (List SV)).length) 0,.nil] [.mk 3000002 0 3 1 ((tk++[(k:Int)]).map rI)])] [(1,.out 0),(3,.slot (.lf (.m 1 [(k:Int)] rI))),(4,.slot (.lf (.u 3000002 0 3 1 ((tk++[(k:Int)]).map rI)))),(6,.inn 0)] (a2 (hl ((tk.map rI).length)) (a2 (a1 (show([[.int .i64 (k:Int)]]:List (List SV))=([(k:Int)].map rI)from rfl)) (a2 (a1 (show((tk.map rI)++([(k:Int)].map rI):List (List SV))=(tk++[(k:Int)]).map rI by rw[List.map_append])) (ap (a:=(tk.map rI).length+(([(k:Int)].map rI):List (List SV)).length) (b:=8) (by simp;omega) (by unfold maxLen;simp;omega))))) ?_
     exact exed [] [(18,.int (↑(k+1):Int))] [(1,.slot (.int (↑(k+1):Int)))] (wI1 k) (⟨_,by omega,(k+1),(tk++[(k:Int)]),(qq+1),rfl,rfl,⟨by omega,by first|(simp;omega)|omega,by first|exact fun x hx=>(List.mem_append.1 hx).elim (hP2.2.2.1 x) fun hx=>(by simp at hx;subst hx;omega)|exact hP2.2.2.1,by omega⟩⟩)
    ·exact a5 (exed [96] [(18,.int (↑(k+1):Int))] [(1,.slot (.int (↑(k+1):Int)))] (wI1 k) (⟨_,by omega,(k+1),tk,(qq+1),rfl,rfl,⟨by omega,by first|(simp;omega)|omega,by first|exact fun x hx=>(List.mem_append.1 hx).elim (hP2.2.2.1 x) fun hx=>(by simp at hx;subst hx;omega)|exact hP2.2.2.1,by omega⟩⟩))
   ·refine d9 (exd [4,18,86] [(15,.own 7 [.z t1,.m 1 l4 rS,.m 1 l6 rS,.m 1 l5 rS,.hd 3000002 ((tk.map rI).length) 0,.im true (.sl 3 [[.str B1,.int .i64 1,.int .i64 0],[.str B2,.int .i64 0,.int .i64 0]])] [.mk 3000002 0 3 1 (tk.map rI)])] [(2,.im)] AllP.nil ?_)
    refine etd [] [(15,.own 7 [.z t1,.m 1 l4 rS,.m 1 l6 rS,.m 1 l5 rS,.m 1 tk rI,.im true (.sl 3 [[.str B1,.int .i64 1,.int .i64 0],[.str B2,.int .i64 0,.int .i64 0]])] [.no])] (fun E=>A8 7 4 0 rfl rfl rfl rfl) ?_
    refine etd [] [(15,.cell 7 [.z t1,.m 1 l4 rS,.m 1 l6 rS,.m 1 l5 rS,.m 1 tk rI,.im true (.sl 3 [[.str B1,.int .i64 1,.int .i64 0],[.str B2,.int .i64 0,.int .i64 0]])])] (fun E=>d6 7 rfl) ?_
    refine exn [14,15] [(13,.cell 6 [.z t1,.m 1 l4 rS,.m 1 l6 rS,.m 1 l5 rS,.m 1 tk rI,.im true (.sl 3 [[.str B1,.int .i64 1,.int .i64 0],[.str B2,.int .i64 0,.int .i64 0]])])] ?_
    exact rtM rfl (⟨_,⟨t1,l4,l6,l5,tk,[⟨⟨#[110,117,109]⟩,1,0⟩,⟨⟨#[102,97,105,108]⟩,0,0⟩]⟩,by omega,⟨⟨hl4,hv4⟩,⟨hl6,hv6⟩,⟨hl5,hv5⟩,Nat.le_trans hln hle,htk⟩,rfl,rfl,rfl⟩)
  ·have g2p:=i5 g2
   obtain⟨_,_,⟨q6,l6,hq6,hl6,hv6,rfl,rfl⟩,cc10⟩:=C3 b q5 hb (by omega) ks 2 false hf (by omega)
   refine exd [2,16] [(1,rdr b q6),(15,.cell 7 [.z t1,.m 1 l4 rS,.m 1 l6 rS,.m 1 l5 rS,.nil,.nil])] [(2,.slot (.bool false)),(8,.mth (rdl b q6) [] (.lf (.m 1 l6 rS)))] (a2 (kB g2) (cl2 tx32 cc10)) ?_
   refine a7 (etd [] [(15,.own 7 [.z t1,.m 1 l4 rS,.m 1 l6 rS,.m 1 l5 rS,.nil,.nil] [.no])] (fun E=>I9 7 1 rfl) ?_)
   refine T5 7 4 0 3000002 3 1 [(0,.lf (.ptr obN 0)),(1,rdr b q6),(4,.int (nr:Int)),(12,.lf (.ptr 6 0)),(13,.cell 6 [.z 0,.nil,.nil,.nil,.nil,.nil]),(14,.lf (.ptr 7 0)),(15,.own 7 [.z t1,.m 1 l4 rS,.m 1 l6 rS,.m 1 l5 rS,.hd 3000002 0 0,.nil] [.mk 3000002 0 3 1 []])] rfl rfl rfl (by kernel_rfl) (by kernel_rfl) (by kernel_rfl) ?_
   refine exn [] [(15,.own 7 [.z t1,.m 1 l4 rS,.m 1 l6 rS,.m 1 l5 rS,.hd 3000002 ((([]:List Int).map rI:List (List SV)).length) 0,.nil] [.mk 3000002 0 3 1 (([]:List Int).map rI)]),(18,.int 0)] ?_
   refine a9 (eld (fun l0 n L=>∃(k:Nat) (tk:List Int) (qq:Nat),L=upG [] [(1,rdr b qq),(15,.own 7 [.z t1,.m 1 l4 rS,.m 1 l6 rS,.m 1 l5 rS,.hd 3000002 ((tk.map rI).length) 0,.nil] [.mk 3000002 0 3 1 (tk.map rI)]),(18,.int (k:Int))] l0∧n=nr-k∧(k≤nr∧tk.length≤k∧(∀x∈tk,0≤x∧x≤1000)∧qq≤q6+k)) _ ⟨0,[],q6,rfl,rfl,⟨by omega,by simp,by simp,by omega⟩⟩ ?_)
   rintro n L ⟨k,tk,qq,rfl,rfl,hP3⟩
   have hle:=hP3.1
   have hln:=hP3.2.1
   have htk:=hP3.2.2.1
   have hqq:=hP3.2.2.2
   refine a7 (exn [] [(86,.bool (decide ((k:Int)<(nr:Int))))] ?_)
   refine ecp (fun h5=> ?_) fun h5=> ?_
   ·refine a5 ?_
    refine a7 ?_
    refine a9 ?_
    obtain⟨_,_,⟨x6,hx6,rfl,rfl⟩,cc13⟩:=e7 b qq 3 hb (by omega) (by omega)
    refine exd [86] [(1,rdr b (qq+1)),(96,.bool (decide ((x6:Int)>0)))] [(1,.mth (rdl b (qq+1)) [] (.int (x6:Int)))] (cl2 tx19 cc13) ?_
    refine ecp (fun h6=> ?_) fun h6=> ?_
    ·refine exed [96] [(15,.own 7 [.z t1,.m 1 l4 rS,.m 1 l6 rS,.m 1 l5 rS,.hd 3000002 (((tk++[(k:Int)]).map rI:List (List SV)).length) 0,.nil] [.mk 3000002 0 3 1 ((tk++[(k:Int)]).map rI)])] [(1,.out 0),(3,.slot (.lf (.m 1 [(k:Int)] rI))),(4,.slot (.lf (.u 3000002 0 3 1 ((tk++[(k:Int)]).map rI)))),(6,.inn 0)] (a2 (hl ((tk.map rI).length)) (a2 (a1 (show([[.int .i64 (k:Int)]]:List (List SV))=([(k:Int)].map rI)from rfl)) (a2 (a1 (show((tk.map rI)++([(k:Int)].map rI):List (List SV))=(tk++[(k:Int)]).map rI by rw[List.map_append])) (ap (a:=(tk.map rI).length+(([(k:Int)].map rI):List (List SV)).length) (b:=8) (by simp;omega) (by unfold maxLen;simp;omega))))) ?_
     exact exed [] [(18,.int (↑(k+1):Int))] [(1,.slot (.int (↑(k+1):Int)))] (wI1 k) (⟨_,by omega,(k+1),(tk++[(k:Int)]),(qq+1),rfl,rfl,⟨by omega,by first|(simp;omega)|omega,by first|exact fun x hx=>(List.mem_append.1 hx).elim (hP3.2.2.1 x) fun hx=>(by simp at hx;subst hx;omega)|exact hP3.2.2.1,by omega⟩⟩)
    ·exact a5 (exed [96] [(18,.int (↑(k+1):Int))] [(1,.slot (.int (↑(k+1):Int)))] (wI1 k) (⟨_,by omega,(k+1),tk,(qq+1),rfl,rfl,⟨by omega,by first|(simp;omega)|omega,by first|exact fun x hx=>(List.mem_append.1 hx).elim (hP3.2.2.1 x) fun hx=>(by simp at hx;subst hx;omega)|exact hP3.2.2.1,by omega⟩⟩))
   ·refine d9 (exd [4,18,86] [(15,.own 7 [.z t1,.m 1 l4 rS,.m 1 l6 rS,.m 1 l5 rS,.hd 3000002 ((tk.map rI).length) 0,.im true (.sl 3 [[.str B1,.int .i64 1,.int .i64 0],[.str B2,.int .i64 0,.int .i64 0]])] [.mk 3000002 0 3 1 (tk.map rI)])] [(2,.im)] AllP.nil ?_)
    refine etd [] [(15,.own 7 [.z t1,.m 1 l4 rS,.m 1 l6 rS,.m 1 l5 rS,.m 1 tk rI,.im true (.sl 3 [[.str B1,.int .i64 1,.int .i64 0],[.str B2,.int .i64 0,.int .i64 0]])] [.no])] (fun E=>A8 7 4 0 rfl rfl rfl rfl) ?_
    refine etd [] [(15,.cell 7 [.z t1,.m 1 l4 rS,.m 1 l6 rS,.m 1 l5 rS,.m 1 tk rI,.im true (.sl 3 [[.str B1,.int .i64 1,.int .i64 0],[.str B2,.int .i64 0,.int .i64 0]])])] (fun E=>d6 7 rfl) ?_
    refine exn [14,15] [(13,.cell 6 [.z t1,.m 1 l4 rS,.m 1 l6 rS,.m 1 l5 rS,.m 1 tk rI,.im true (.sl 3 [[.str B1,.int .i64 1,.int .i64 0],[.str B2,.int .i64 0,.int .i64 0]])])] ?_
    exact rtM rfl (⟨_,⟨t1,l4,l6,l5,tk,[⟨⟨#[110,117,109]⟩,1,0⟩,⟨⟨#[102,97,105,108]⟩,0,0⟩]⟩,by omega,⟨⟨hl4,hv4⟩,⟨hl6,hv6⟩,⟨hl5,hv5⟩,Nat.le_trans hln hle,htk⟩,rfl,rfl,rfl⟩)
theorem a6C (b:List UInt8)(q:Nat)(hb:b.length≤2000)(hq:q≤900000000000):
 ∃o r,(fun o s=>∃q' op ia ib,(q'≤q+4)∧((op:ByteArray).size≤8)∧((ia:Nat)≤1000)∧((ib:Nat)≤1000)∧o= .cell obN [.im true (.sl 1 (b.map rB)),.im true (.int .i64 ((q':Nat):Int))]∧s= .agg [.im true (.str op),.im true (.int .i64 ((ia:Nat):Int)),.im true (.int .i64 ((ib:Nat):Int))]) o r∧CallM Try.prog 34 [] (.cell obN [.im true (.sl 1 (b.map rB)),.im true (.int .i64 ((q:Nat):Int))]) o r:=by
 refine CallME (fn:=Try.f34) TTok mixed Try.func34 rfl rfl rfl rfl rfl ?_
 have hfl:FORMS.length=37:=rfl
 refine ex [(0,.lf (.ptr obN 0)),(1,rdr b q),(4,.lf (.ptr 2 0)),(5,.cell 2 [.q ⟨#[]⟩,.z 0,.z 0])] [] AllP.nil (by kernel_rfl) ?_
 refine exd [] [(6,.lf (.m 3 FORMS rIns))] [(0,.ret (.lf (.m 3 FORMS rIns)))] (cl tx42 M7) ?_
 obtain⟨_,_,⟨x1,hx1,rfl,rfl⟩,cc1⟩:=e7 b q FORMS.length hb (by omega) (by omega)
 refine exd [6] [(1,rdr b (q+1)),(8,.lf (.ptr 4 0)),(9,.cell 4 [.q ((nth FORMS x1).op),.z ((nth FORMS x1).a),.z ((nth FORMS x1).b)])] [(3,.slot (.int (FORMS.length:Int))),(4,.mth (rdl b (q+1)) [] (.int (x1:Int))),(5,.row (rIns (nth FORMS x1)))] (a2 (lnl FORMS rIns) (a2 (cl2 tx19 cc1) (ixn rIns FORMS x1))) ?_
 refine a7 (exn [] [(30,.bool (decide (((nth FORMS x1).a:Int)>0)))] ?_)
 refine ecp (fun h1=> ?_) fun h1=> ?_
 ·have hfa:=X0 _ (c6 (l:=FORMS) (i:=x1) (by omega))
  obtain⟨na,hna⟩:=Int.eq_ofNat_of_zero_le (a:=(nth FORMS x1).a) (by omega)
  obtain⟨_,_,⟨x2,hx2,rfl,rfl⟩,cc2⟩:=e7 b (q+1) (min na 12) hb (by omega) (by omega)
  refine exed [30] [(1,rdr b (q+1+1)),(9,.cell 4 [.q ((nth FORMS x1).op),.z (x2:Int),.z ((nth FORMS x1).b)])] [(3,.slot (.int (↑(min na 12):Int))),(4,.mth (rdl b (q+1+1)) [] (.int (x2:Int)))] (a2 (a1 (show(Slot.int (if(12:Int)<(nth FORMS x1).a then 12 else(nth FORMS x1).a):Slot)= .int (↑(min na 12):Int)by rw[hna,show(if(12:Int)<(na:Int)then 12 else(na:Int))=(↑(min na 12):Int)by split<;>omega])) (cl2 tx19 cc2)) ?_
  refine a7 (exn [] [(48,.bool (decide (((nth FORMS x1).b:Int)>0)))] ?_)
  refine ecp (fun h2=> ?_) fun h2=> ?_
  ·obtain⟨nb,hnb⟩:=Int.eq_ofNat_of_zero_le (a:=(nth FORMS x1).b) (by omega)
   obtain⟨_,_,⟨x3,hx3,rfl,rfl⟩,cc3⟩:=e7 b (q+1+1) nb hb (by omega) (by omega)
   refine exed [48] [(1,rdr b (q+1+1+1)),(9,.cell 4 [.q ((nth FORMS x1).op),.z (x2:Int),.z (x3:Int)])] [(2,.slot (.int (nb:Int))),(3,.mth (rdl b (q+1+1+1)) [] (.int (x3:Int)))] (a2 (a1 (show(Slot.int (nth FORMS x1).b:Slot)= .int (nb:Int)by rw[hnb];try rfl)) (cl2 tx19 cc3)) ?_
   refine exn [8,9] [(5,.cell 2 [.q ((nth FORMS x1).op),.z (x2:Int),.z (x3:Int)])] ?_
   exact rtM rfl (⟨_,(nth FORMS x1).op,x2,x3,by omega,hfa.2.2.2,by omega,by omega,rfl,by first|rfl|(simp only[hia,hib];rfl)|(simp only[hia];rfl)|(simp only[hib];rfl)⟩)
  ·have hib:(nth FORMS x1).b=((0:Nat):Int):=by omega
   refine a5 (exn [8,9,48] [(5,.cell 2 [.q ((nth FORMS x1).op),.z (x2:Int),.z ((nth FORMS x1).b)])] ?_)
   exact rtM rfl (⟨_,(nth FORMS x1).op,x2,0,by omega,hfa.2.2.2,by omega,by omega,rfl,by first|rfl|(simp only[hia,hib];rfl)|(simp only[hia];rfl)|(simp only[hib];rfl)⟩)
 ·have hfa:=X0 _ (c6 (l:=FORMS) (i:=x1) (by omega))
  have hia:(nth FORMS x1).a=((0:Nat):Int):=by omega
  refine a5 (a7 (exn [30] [(48,.bool (decide (((nth FORMS x1).b:Int)>0)))] ?_))
  refine ecp (fun h3=> ?_) fun h3=> ?_
  ·obtain⟨nb,hnb⟩:=Int.eq_ofNat_of_zero_le (a:=(nth FORMS x1).b) (by omega)
   obtain⟨_,_,⟨x4,hx4,rfl,rfl⟩,cc4⟩:=e7 b (q+1) nb hb (by omega) (by omega)
   refine exed [48] [(1,rdr b (q+1+1)),(9,.cell 4 [.q ((nth FORMS x1).op),.z ((nth FORMS x1).a),.z (x4:Int)])] [(2,.slot (.int (nb:Int))),(3,.mth (rdl b (q+1+1)) [] (.int (x4:Int)))] (a2 (a1 (show(Slot.int (nth FORMS x1).b:Slot)= .int (nb:Int)by rw[hnb];try rfl)) (cl2 tx19 cc4)) ?_
   refine exn [8,9] [(5,.cell 2 [.q ((nth FORMS x1).op),.z ((nth FORMS x1).a),.z (x4:Int)])] ?_
   exact rtM rfl (⟨_,(nth FORMS x1).op,0,x4,by omega,hfa.2.2.2,by omega,by omega,rfl,by first|rfl|(simp only[hia,hib];rfl)|(simp only[hia];rfl)|(simp only[hib];rfl)⟩)
  ·have hib:(nth FORMS x1).b=((0:Nat):Int):=by omega
   refine a5 (exn [8,9,48] [(5,.cell 2 [.q ((nth FORMS x1).op),.z ((nth FORMS x1).a),.z ((nth FORMS x1).b)])] ?_)
   exact rtM rfl (⟨_,(nth FORMS x1).op,0,0,by omega,hfa.2.2.2,by omega,by omega,rfl,by first|rfl|(simp only[hia,hib];rfl)|(simp only[hia];rfl)|(simp only[hib];rfl)⟩)
theorem a6U (ks:Kinds)(f:Fn)(ha:f.args.length≤1000)(hlo:f.locals.length≤1000)(hv:∀u∈f.args,Valid ks u∧u.size≤4):
 ∃s,(fun s=>∃pm:List Mk,pm.length=f.args.length+f.locals.length∧(∀x∈pm,PlOk ks x)∧s= .agg [.im true (.sl 2 (([]:List Mk).map rMk)),.im true (.sl 2 (pm.map rMk))]) s∧CallV Try.prog 33 [.agg [.im true (.int .i64 f.seen),.im true (.sl 1 (f.args.map rS)),.im true (.sl 1 (f.rets.map rS)),.im true (.sl 1 (f.locals.map rS)),.im true (.sl 1 (f.takes.map rI)),.im true (.sl 3 (f.code.map rIns))]] (·=s):=by
 refine CallE (fn:=Try.f33) TTok mixed Try.func33 rfl rfl rfl rfl rfl ?_
 refine ex [(2,.lf (.ptr 1 0)),(3,.cell 1 [.z f.seen,.m 1 f.args rS,.m 1 f.rets rS,.m 1 f.locals rS,.m 1 f.takes rI,.m 3 f.code rIns]),(4,.lf (.ptr 2 0)),(5,.cell 2 [.nil,.nil])] [] AllP.nil (by kernel_rfl) ?_
 refine exn [] [(6,.lf (.ptr 3 0)),(7,.cell 3 [.nil,.nil])] ?_
 refine a7 (etd [] [(7,.own 3 [.nil,.nil] [.no])] (fun E=>I9 3 1 rfl) ?_)
 refine T5 3 1 0 3000003 76 2 [(2,.lf (.ptr 1 0)),(3,.cell 1 [.z f.seen,.m 1 f.args rS,.m 1 f.rets rS,.m 1 f.locals rS,.m 1 f.takes rI,.m 3 f.code rIns]),(4,.lf (.ptr 2 0)),(5,.cell 2 [.nil,.nil]),(6,.lf (.ptr 3 0)),(7,.own 3 [.nil,.hd 3000003 0 0] [.mk 3000003 0 76 2 []])] rfl rfl rfl (by kernel_rfl) (by kernel_rfl) (by kernel_rfl) ?_
 refine exn [] [(7,.own 3 [.nil,.hd 3000003 ((([]:List Mk).map rMk:List (List SV)).length) 0] [.mk 3000003 0 76 2 (([]:List Mk).map rMk)]),(8,.int 0)] ?_
 refine a9 (eld (fun l0 n L=>∃(i:Nat) (pl:List Mk),L=upG [] [(7,.own 3 [.nil,.hd 3000003 ((pl.map rMk).length) 0] [.mk 3000003 0 76 2 (pl.map rMk)]),(8,.int (i:Int))] l0∧n=f.args.length-i∧((i≤f.args.length∧pl.length=i)∧∀x∈pl,PlOk ks x)) _ ⟨0,[],rfl,rfl,⟨⟨by omega,rfl⟩,by simp⟩⟩ ?_)
 rintro n L ⟨i,pl,rfl,rfl,hP1⟩
 have hi1:=hP1.1.1
 have hi2:=hP1.1.2
 refine a7 (exd [] [(24,.bool (decide ((i:Int)<(f.args.length:Int))))] [(3,.slot (.int (f.args.length:Int)))] (lnl f.args rS) ?_)
 refine ecp (fun h1=> ?_) fun h1=> ?_
 ·refine a5 (a7 (a9 (exd [24] [(10,.lf (.ptr 5 0)),(11,.cell 5 [.q (nth f.args i),.nil])] [(3,.row (rS (nth f.args i)))] (ixn rS f.args i) ?_)))
  refine a7 (exd [] [(52,.bool (isRef (nth f.args i)))] [(3,.row (rS (nth f.args i))),(5,.ret (.bool (isRef (nth f.args i))))] (a2 (ixn rS f.args i) (cl tx41 (i9 (nth f.args i)))) ?_)
  refine ecd (fun h2=> ?_) fun h2=> ?_
  ·refine exed [52] [(11,.cell 5 [.q (nth f.args i),.m 1 [9] rI])] [(0,.slot (.lf (.m 1 [9] rI)))] (a1 (show([[.int .i64 9]]:List (List SV))=([9].map rI)from rfl)) ?_
   refine exed [10,11] [(7,.own 3 [.nil,.hd 3000003 (((pl++[(⟨nth f.args i,[9]⟩:Mk)]).map rMk:List (List SV)).length) 0] [.mk 3000003 0 76 2 ((pl++[(⟨nth f.args i,[9]⟩:Mk)]).map rMk)])] [(1,.out 0),(3,.im),(4,.slot (.lf (.u 3000003 0 76 2 ((pl++[(⟨nth f.args i,[9]⟩:Mk)]).map rMk)))),(6,.inn 0)] (a2 (hl ((pl.map rMk).length)) (a2 (a1 (show((pl.map rMk)++[[.str (nth f.args i),.sl 1 ([9].map rI)]]:List (List SV))=(pl++[(⟨nth f.args i,[9]⟩:Mk)]).map rMk by rw[List.map_append];rfl)) (ap (a:=(pl.map rMk).length+([[.str (nth f.args i),.sl 1 ([9].map rI)]]:List (List SV)).length) (b:=40) (by simp;omega) (by unfold maxLen;simp;omega)))) ?_
   exact exed [] [(8,.int (↑(i+1):Int))] [(1,.slot (.int (↑(i+1):Int)))] (wI1 i) (⟨_,by omega,(i+1),(pl++[(⟨nth f.args i,[9]⟩:Mk)]),rfl,rfl,⟨⟨by omega,by simp;omega⟩,fun x hx=>(List.mem_append.1 hx).elim (hP1.2 x) fun hx=>by simp at hx;subst hx;exact⟨fun _=>(hv _ (c6 (by omega))).1,by simp⟩⟩⟩)
  ·refine a5 (exed [10,11,52] [(7,.own 3 [.nil,.hd 3000003 (((pl++[(⟨nth f.args i,[]⟩:Mk)]).map rMk:List (List SV)).length) 0] [.mk 3000003 0 76 2 ((pl++[(⟨nth f.args i,[]⟩:Mk)]).map rMk)])] [(1,.out 0),(3,.im),(4,.slot (.lf (.u 3000003 0 76 2 ((pl++[(⟨nth f.args i,[]⟩:Mk)]).map rMk)))),(6,.inn 0)] (a2 (hl ((pl.map rMk).length)) (a2 (a1 (show((pl.map rMk)++[[.str (nth f.args i),.sl 1 []]]:List (List SV))=(pl++[(⟨nth f.args i,[]⟩:Mk)]).map rMk by rw[List.map_append];rfl)) (ap (a:=(pl.map rMk).length+([[.str (nth f.args i),.sl 1 []]]:List (List SV)).length) (b:=40) (by simp;omega) (by unfold maxLen;simp;omega)))) ?_)
   exact exed [] [(8,.int (↑(i+1):Int))] [(1,.slot (.int (↑(i+1):Int)))] (wI1 i) (⟨_,by omega,(i+1),(pl++[(⟨nth f.args i,[]⟩:Mk)]),rfl,rfl,⟨⟨by omega,by simp;omega⟩,fun x hx=>(List.mem_append.1 hx).elim (hP1.2 x) fun hx=>by simp at hx;subst hx;exact⟨fun _=>(hv _ (c6 (by omega))).1,by simp⟩⟩⟩)
 ·refine d9 (a7 (exn [8,24] [(12,.int 0)] ?_))
  refine a9 (eld (fun l0 n L=>∃(k:Nat) (pm:List Mk),L=upG [] [(7,.own 3 [.nil,.hd 3000003 ((pm.map rMk).length) 0] [.mk 3000003 0 76 2 (pm.map rMk)]),(12,.int (k:Int))] l0∧n=f.locals.length-k∧((k≤f.locals.length∧pm.length=f.args.length+k)∧∀x∈pm,PlOk ks x)) _ ⟨0,pl,rfl,rfl,⟨⟨by omega,by omega⟩,hP1.2⟩⟩ ?_)
  rintro n L ⟨k,pm,rfl,rfl,hP2⟩
  have hk1:=hP2.1.1
  have hk2:=hP2.1.2
  refine a7 (exd [] [(78,.bool (decide ((k:Int)<(f.locals.length:Int))))] [(3,.slot (.int (f.locals.length:Int)))] (lnl f.locals rS) ?_)
  refine ecp (fun h3=> ?_) fun h3=> ?_
  ·refine a5 (a7 (a9 (exed [78] [(7,.own 3 [.nil,.hd 3000003 (((pm++[noMk]).map rMk).length) 0] [.mk 3000003 0 76 2 ((pm++[noMk]).map rMk)])] [(1,.out 0),(3,.im),(4,.slot (.lf (.u 3000003 0 76 2 ((pm++[noMk]).map rMk)))),(6,.inn 0)] (a2 (hl ((pm.map rMk).length)) (a2 (a1 (show((pm.map rMk)++[[.str ⟨#[]⟩,.sl 1 []]]:List (List SV))=(pm++[noMk]).map rMk by rw[List.map_append];rfl)) (ap (a:=(pm.map rMk).length+([[.str ⟨#[]⟩,.sl 1 []]]:List (List SV)).length) (b:=40) (by simp;omega) (by unfold maxLen;simp;omega)))) ?_)))
   exact exed [] [(12,.int (↑(k+1):Int))] [(1,.slot (.int (↑(k+1):Int)))] (wI1 k) (⟨_,by omega,(k+1),(pm++[noMk]),rfl,rfl,⟨⟨by omega,by simp;omega⟩,fun x hx=>(List.mem_append.1 hx).elim (hP2.2 x) fun hx=>by simp at hx;subst hx;exact PlOk.no ks⟩⟩)
  ·refine d9 (etd [] [(7,.own 3 [.nil,.m 2 pm rMk] [.no])] (fun E=>A8 3 1 0 rfl rfl rfl rfl) ?_)
   refine etd [] [(7,.cell 3 [.nil,.m 2 pm rMk])] (fun E=>d6 3 rfl) ?_
   refine exn [2,3,6,7,12,78] [(5,.cell 2 [.nil,.m 2 pm rMk])] ?_
   refine etd [] [(5,.cell 2 [.m 2 ([]:List Mk) rMk,.m 2 pm rMk])] (fun E=>j4 2 0 2 rfl rfl) ?_
   exact rtE rfl (⟨_,hP2.1.2.trans (by omega),hP2.2,rfl⟩)
end Go.Proofs.Ytjfjdgjhihgdkaa
