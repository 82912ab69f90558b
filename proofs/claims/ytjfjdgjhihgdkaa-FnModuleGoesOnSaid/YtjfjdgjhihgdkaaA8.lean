/- Part 8 of the proof of FnModuleGoesOn. -/
import Derived.Test.YtjfjdgjhihgdkaaA7
import Derived.KernelRfl
set_option linter.unusedVariables false
set_option linter.unusedSimpArgs false
set_option maxRecDepth 100000
namespace Go.Proofs.Ytjfjdgjhihgdkaa
open Go Go.RowKit V
namespace N4
theorem a4S :FieldOne Try.prog 76 0 0:=FieldOne.of TTok Try.underlying76 rfl rfl rfl rfl rfl
end N4
open N4
theorem a7m (sh:List Mod)(ks:Kinds)(m:Nat)(f:Fn)(np Lb:Nat)(s:S7)(hI:I7 ks np Lb s)(op:ByteArray)(ia ib:Nat)(hi9:ia≤1000000∧ib≤1000000)(hC:C7 sh ks m f np)(hL:Lb≤900000):
 ∃o r,(fun o r=>∃s' b,(I7 ks np (Lb+4) s')∧(s'.code=0→s.code=0)∧(b=false→I7 ks np Lb s')∧o=ob7 sh ks m f s'.st s'.pls s'.code∧r= .bool b) o r∧CallM Try.prog 56 [.agg [.im true (.str op),.im true (.int .i64 ((ia:Nat):Int)),.im true (.int .i64 ((ib:Nat):Int))]] (ob7 sh ks m f s.st s.pls s.code) o r:=by
 refine CallME (fn:=Try.f56) TTok mixed Try.func56 rfl rfl rfl rfl rfl ?_
 have hm:=hC.hm
 have hk3:=hC.hk3
 have hr3:=hC.hr3
 have hLs:=hI.l
 have hnp:=hI.n
 have hnp2:=hC.hnp
 have hsml:=hC.sml
 refine ex [(0,.lf (.ptr obN 0)),(1,o7 sh ks m f s),(6,.lf (.ptr 3 0)),(7,.cell 3 [.q op,.z (ia:Int),.z (ib:Int)])] [] AllP.nil (by kernel_rfl) ?_
 refine exd [] [(10,.lf (.m 1 [B0] rS))] [(0,.slot (.lf (.m 1 [B0] rS)))] (a1 (show([[.str B0]]:List (List SV))=([B0].map rS)from rfl)) ?_
 refine exd [] [(12,.lf (.m 1 [B3] rS))] [(0,.slot (.lf (.m 1 [B3] rS)))] (a1 (show([[.str B3]]:List (List SV))=([B3].map rS)from rfl)) ?_
 refine a7 (exn [6,7] [(22,.lf (.q op))] ?_)
 refine a9 (exn [] [(24,.bool (op.toList==B1.toList))] ?_)
 refine ecd (fun h1=> ?_) fun h1=> ?_
 ·obtain⟨_,_,⟨s1,hI1,hs1,hs2,rfl,rfl⟩,cc1⟩:=o2 sh ks m f np Lb ⟨s.st,s.pls,s.code⟩ hI B0 [] (fun _=>a0X) (by omega) (by first|(simp;done)|omega|assumption)
  have hs1:s1.code=s.code:=hs1
  refine exed [10,12,22,24] [(1,o7 sh ks m f s1)] [(1,w7 sh ks m f s1 (.tup []))] (cl2 tx75 (CallM.nil (a:=[.lf (.q B0)]) (b:=[]) (sz:=1) cc1)) ?_
  refine exn [] [(8,.bool true)] ?_
  exact rtM rfl (⟨⟨s1.st,s1.pls,s1.code⟩,true,(hI1).mono (by omega),fun q=>(hs1.symm.trans q),(fun h=>by cases h),rfl,rfl⟩)
 ·refine a7 (exn [24] [(32,.bool (op.toList==B27.toList))] ?_)
  refine ecd (fun h2=> ?_) fun h2=> ?_
  ·have h2r:=h2
   refine a5 (ecT h2r ?_)
   obtain⟨_,_,⟨s2,hI2,hs3,hs4,rfl,rfl⟩,cc2⟩:=o2 sh ks m f np Lb ⟨s.st,s.pls,s.code⟩ hI B3 [] (fun _=>a1Z) (by omega) (by first|(simp;done)|omega|assumption)
   have hs3:s2.code=s.code:=hs3
   refine exed [10,12,22,32] [(1,o7 sh ks m f s2)] [(1,w7 sh ks m f s2 (.tup []))] (cl2 tx75 (CallM.nil (a:=[.lf (.q B3)]) (b:=[]) (sz:=1) cc2)) ?_
   refine exn [] [(8,.bool true)] ?_
   exact rtM rfl (⟨⟨s2.st,s2.pls,s2.code⟩,true,(hI2).mono (by omega),fun q=>(hs3.symm.trans q),(fun h=>by cases h),rfl,rfl⟩)
  ·refine exed [] [(32,.bool (op.toList==B43.toList))] [] AllP.nil ?_
   refine ecd (fun h3=> ?_) fun h3=> ?_
   ·obtain⟨_,_,⟨s3,hI3,hs5,hs6,rfl,rfl⟩,cc3⟩:=o2 sh ks m f np Lb ⟨s.st,s.pls,s.code⟩ hI B3 [] (fun _=>a1Z) (by omega) (by first|(simp;done)|omega|assumption)
    have hs5:s3.code=s.code:=hs5
    refine exed [10,12,22,32] [(1,o7 sh ks m f s3)] [(1,w7 sh ks m f s3 (.tup []))] (cl2 tx75 (CallM.nil (a:=[.lf (.q B3)]) (b:=[]) (sz:=1) cc3)) ?_
    refine exn [] [(8,.bool true)] ?_
    exact rtM rfl (⟨⟨s3.st,s3.pls,s3.code⟩,true,(hI3).mono (by omega),fun q=>(hs5.symm.trans q),(fun h=>by cases h),rfl,rfl⟩)
   ·refine exn [32] [(42,.bool (op.toList==B18.toList))] ?_
    refine ecd (fun h4=> ?_) fun h4=> ?_
    ·obtain⟨_,_,⟨s4,hI4,hs7,hs8,rfl,rfl⟩,cc4⟩:=o2 sh ks m f np Lb ⟨s.st,s.pls,s.code⟩ hI B9 [] (fun _=>mk_111) (by omega) (by first|(simp;done)|omega|assumption)
     have hs7:s4.code=s.code:=hs7
     refine exed [10,12,22,42] [(1,o7 sh ks m f s4)] [(1,w7 sh ks m f s4 (.tup []))] (cl2 tx75 (CallM.nil (a:=[.lf (.q B9)]) (b:=[]) (sz:=1) cc4)) ?_
     refine exn [] [(8,.bool true)] ?_
     exact rtM rfl (⟨⟨s4.st,s4.pls,s4.code⟩,true,(hI4).mono (by omega),fun q=>(hs7.symm.trans q),(fun h=>by cases h),rfl,rfl⟩)
    ·refine a7 (exn [42] [(50,.bool (op.toList==B36.toList))] ?_)
     refine ecd (fun h5=> ?_) fun h5=> ?_
     ·have h5r:=h5
      refine a5 (ecT h5r ?_)
      obtain⟨_,_,⟨s5,mk1,hI5,hp1,hp2,hp3,rfl,rfl⟩,cc5⟩:=y5 sh ks m f np Lb ⟨s.st,s.pls,s.code⟩ hI [B0] (by simp) (by omega)
      have hp1:s5.code=0→s.code=0∧MkOk ks mk1∧([B0]=[]∨mk1.type∈[B0]):=hp1
      have hp2:s5.pls=s.pls:=hp2
      have hp2l:s5.pls.length=s.pls.length:=congrArg List.length hp2
      have hp3z:mk1.type.size≤4∧mk1.org.length≤10:=hp3
      refine exd [12,22,50] [(1,o7 sh ks m f s5)] [(2,w7 sh ks m f s5 (.agg [.q mk1.type,.m 1 mk1.org rI]))] (cl2 tx76 cc5) ?_
      obtain⟨_,_,⟨s6,mk2,hI6,hp4,hp5,hp6,rfl,rfl⟩,cc6⟩:=y5 sh ks m f np Lb ⟨s5.st,s5.pls,s5.code⟩ hI5 [B0] (by simp) (by omega)
      have hp4:s6.code=0→s5.code=0∧MkOk ks mk2∧([B0]=[]∨mk2.type∈[B0]):=hp4
      have hp5:s6.pls=s5.pls:=hp5
      have hp5l:s6.pls.length=s5.pls.length:=congrArg List.length hp5
      have hp6z:mk2.type.size≤4∧mk2.org.length≤10:=hp6
      refine exd [10] [(1,o7 sh ks m f s6)] [(2,w7 sh ks m f s6 (.agg [.q mk2.type,.m 1 mk2.org rI]))] (cl2 tx76 cc6) ?_
      obtain⟨_,_,⟨s7,hI7,hs9,hs10,rfl,rfl⟩,cc7⟩:=o2 sh ks m f np Lb ⟨s6.st,s6.pls,s6.code⟩ hI6 B0 [] (fun _=>a0X) (by omega) (by first|(simp;done)|omega|assumption)
      have hs9:s7.code=s6.code:=hs9
      refine exed [] [(1,o7 sh ks m f s7)] [(1,w7 sh ks m f s7 (.tup []))] (cl2 tx75 (CallM.nil (a:=[.lf (.q B0)]) (b:=[]) (sz:=1) cc7)) ?_
      refine exn [] [(8,.bool true)] ?_
      exact rtM rfl (⟨⟨s7.st,s7.pls,s7.code⟩,true,(hI7).mono (by omega),fun q=>(hp1 (hp4 (hs9.symm.trans q)).1).1,(fun h=>by cases h),rfl,rfl⟩)
     ·refine exn [] [(50,.bool (op.toList==B37.toList))] ?_
      refine ecd (fun h6=> ?_) fun h6=> ?_
      ·have h6r:=h6
       refine a5 (ecT h6r ?_)
       obtain⟨_,_,⟨s8,mk3,hI8,hp7,hp8,hp9,rfl,rfl⟩,cc8⟩:=y5 sh ks m f np Lb ⟨s.st,s.pls,s.code⟩ hI [B0] (by simp) (by omega)
       have hp7:s8.code=0→s.code=0∧MkOk ks mk3∧([B0]=[]∨mk3.type∈[B0]):=hp7
       have hp8:s8.pls=s.pls:=hp8
       have hp8l:s8.pls.length=s.pls.length:=congrArg List.length hp8
       have hp9z:mk3.type.size≤4∧mk3.org.length≤10:=hp9
       refine exd [12,22,50] [(1,o7 sh ks m f s8)] [(2,w7 sh ks m f s8 (.agg [.q mk3.type,.m 1 mk3.org rI]))] (cl2 tx76 cc8) ?_
       obtain⟨_,_,⟨s9,mk4,hI9,hp10,hp11,hp12,rfl,rfl⟩,cc9⟩:=y5 sh ks m f np Lb ⟨s8.st,s8.pls,s8.code⟩ hI8 [B0] (by simp) (by omega)
       have hp10:s9.code=0→s8.code=0∧MkOk ks mk4∧([B0]=[]∨mk4.type∈[B0]):=hp10
       have hp11:s9.pls=s8.pls:=hp11
       have hp11l:s9.pls.length=s8.pls.length:=congrArg List.length hp11
       have hp12z:mk4.type.size≤4∧mk4.org.length≤10:=hp12
       refine exd [10] [(1,o7 sh ks m f s9)] [(2,w7 sh ks m f s9 (.agg [.q mk4.type,.m 1 mk4.org rI]))] (cl2 tx76 cc9) ?_
       obtain⟨_,_,⟨s10,hI10,hs11,hs12,rfl,rfl⟩,cc10⟩:=o2 sh ks m f np Lb ⟨s9.st,s9.pls,s9.code⟩ hI9 B0 [] (fun _=>a0X) (by omega) (by first|(simp;done)|omega|assumption)
       have hs11:s10.code=s9.code:=hs11
       refine exed [] [(1,o7 sh ks m f s10)] [(1,w7 sh ks m f s10 (.tup []))] (cl2 tx75 (CallM.nil (a:=[.lf (.q B0)]) (b:=[]) (sz:=1) cc10)) ?_
       refine exn [] [(8,.bool true)] ?_
       exact rtM rfl (⟨⟨s10.st,s10.pls,s10.code⟩,true,(hI10).mono (by omega),fun q=>(hp7 (hp10 (hs11.symm.trans q)).1).1,(fun h=>by cases h),rfl,rfl⟩)
      ·refine exn [] [(50,.bool (op.toList==B38.toList))] ?_
       refine ecd (fun h7=> ?_) fun h7=> ?_
       ·have h7r:=h7
        refine a5 (ecT h7r ?_)
        obtain⟨_,_,⟨s11,mk5,hI11,hp13,hp14,hp15,rfl,rfl⟩,cc11⟩:=y5 sh ks m f np Lb ⟨s.st,s.pls,s.code⟩ hI [B0] (by simp) (by omega)
        have hp13:s11.code=0→s.code=0∧MkOk ks mk5∧([B0]=[]∨mk5.type∈[B0]):=hp13
        have hp14:s11.pls=s.pls:=hp14
        have hp14l:s11.pls.length=s.pls.length:=congrArg List.length hp14
        have hp15z:mk5.type.size≤4∧mk5.org.length≤10:=hp15
        refine exd [12,22,50] [(1,o7 sh ks m f s11)] [(2,w7 sh ks m f s11 (.agg [.q mk5.type,.m 1 mk5.org rI]))] (cl2 tx76 cc11) ?_
        obtain⟨_,_,⟨s12,mk6,hI12,hp16,hp17,hp18,rfl,rfl⟩,cc12⟩:=y5 sh ks m f np Lb ⟨s11.st,s11.pls,s11.code⟩ hI11 [B0] (by simp) (by omega)
        have hp16:s12.code=0→s11.code=0∧MkOk ks mk6∧([B0]=[]∨mk6.type∈[B0]):=hp16
        have hp17:s12.pls=s11.pls:=hp17
        have hp17l:s12.pls.length=s11.pls.length:=congrArg List.length hp17
        have hp18z:mk6.type.size≤4∧mk6.org.length≤10:=hp18
        refine exd [10] [(1,o7 sh ks m f s12)] [(2,w7 sh ks m f s12 (.agg [.q mk6.type,.m 1 mk6.org rI]))] (cl2 tx76 cc12) ?_
        obtain⟨_,_,⟨s13,hI13,hs13,hs14,rfl,rfl⟩,cc13⟩:=o2 sh ks m f np Lb ⟨s12.st,s12.pls,s12.code⟩ hI12 B0 [] (fun _=>a0X) (by omega) (by first|(simp;done)|omega|assumption)
        have hs13:s13.code=s12.code:=hs13
        refine exed [] [(1,o7 sh ks m f s13)] [(1,w7 sh ks m f s13 (.tup []))] (cl2 tx75 (CallM.nil (a:=[.lf (.q B0)]) (b:=[]) (sz:=1) cc13)) ?_
        refine exn [] [(8,.bool true)] ?_
        exact rtM rfl (⟨⟨s13.st,s13.pls,s13.code⟩,true,(hI13).mono (by omega),fun q=>(hp13 (hp16 (hs13.symm.trans q)).1).1,(fun h=>by cases h),rfl,rfl⟩)
       ·refine exn [] [(50,.bool (op.toList==B39.toList))] ?_
        refine ecd (fun h8=> ?_) fun h8=> ?_
        ·have h8r:=h8
         refine a5 (ecT h8r ?_)
         obtain⟨_,_,⟨s14,mk7,hI14,hp19,hp20,hp21,rfl,rfl⟩,cc14⟩:=y5 sh ks m f np Lb ⟨s.st,s.pls,s.code⟩ hI [B0] (by simp) (by omega)
         have hp19:s14.code=0→s.code=0∧MkOk ks mk7∧([B0]=[]∨mk7.type∈[B0]):=hp19
         have hp20:s14.pls=s.pls:=hp20
         have hp20l:s14.pls.length=s.pls.length:=congrArg List.length hp20
         have hp21z:mk7.type.size≤4∧mk7.org.length≤10:=hp21
         refine exd [12,22,50] [(1,o7 sh ks m f s14)] [(2,w7 sh ks m f s14 (.agg [.q mk7.type,.m 1 mk7.org rI]))] (cl2 tx76 cc14) ?_
         obtain⟨_,_,⟨s15,mk8,hI15,hp22,hp23,hp24,rfl,rfl⟩,cc15⟩:=y5 sh ks m f np Lb ⟨s14.st,s14.pls,s14.code⟩ hI14 [B0] (by simp) (by omega)
         have hp22:s15.code=0→s14.code=0∧MkOk ks mk8∧([B0]=[]∨mk8.type∈[B0]):=hp22
         have hp23:s15.pls=s14.pls:=hp23
         have hp23l:s15.pls.length=s14.pls.length:=congrArg List.length hp23
         have hp24z:mk8.type.size≤4∧mk8.org.length≤10:=hp24
         refine exd [10] [(1,o7 sh ks m f s15)] [(2,w7 sh ks m f s15 (.agg [.q mk8.type,.m 1 mk8.org rI]))] (cl2 tx76 cc15) ?_
         obtain⟨_,_,⟨s16,hI16,hs15,hs16,rfl,rfl⟩,cc16⟩:=o2 sh ks m f np Lb ⟨s15.st,s15.pls,s15.code⟩ hI15 B0 [] (fun _=>a0X) (by omega) (by first|(simp;done)|omega|assumption)
         have hs15:s16.code=s15.code:=hs15
         refine exed [] [(1,o7 sh ks m f s16)] [(1,w7 sh ks m f s16 (.tup []))] (cl2 tx75 (CallM.nil (a:=[.lf (.q B0)]) (b:=[]) (sz:=1) cc16)) ?_
         refine exn [] [(8,.bool true)] ?_
         exact rtM rfl (⟨⟨s16.st,s16.pls,s16.code⟩,true,(hI16).mono (by omega),fun q=>(hp19 (hp22 (hs15.symm.trans q)).1).1,(fun h=>by cases h),rfl,rfl⟩)
        ·refine exed [] [(50,.bool (op.toList==B44.toList))] [] AllP.nil ?_
         refine ecd (fun h9=> ?_) fun h9=> ?_
         ·obtain⟨_,_,⟨s17,mk9,hI17,hp25,hp26,hp27,rfl,rfl⟩,cc17⟩:=y5 sh ks m f np Lb ⟨s.st,s.pls,s.code⟩ hI [B0] (by simp) (by omega)
          have hp25:s17.code=0→s.code=0∧MkOk ks mk9∧([B0]=[]∨mk9.type∈[B0]):=hp25
          have hp26:s17.pls=s.pls:=hp26
          have hp26l:s17.pls.length=s.pls.length:=congrArg List.length hp26
          have hp27z:mk9.type.size≤4∧mk9.org.length≤10:=hp27
          refine exd [12,22,50] [(1,o7 sh ks m f s17)] [(2,w7 sh ks m f s17 (.agg [.q mk9.type,.m 1 mk9.org rI]))] (cl2 tx76 cc17) ?_
          obtain⟨_,_,⟨s18,mk10,hI18,hp28,hp29,hp30,rfl,rfl⟩,cc18⟩:=y5 sh ks m f np Lb ⟨s17.st,s17.pls,s17.code⟩ hI17 [B0] (by simp) (by omega)
          have hp28:s18.code=0→s17.code=0∧MkOk ks mk10∧([B0]=[]∨mk10.type∈[B0]):=hp28
          have hp29:s18.pls=s17.pls:=hp29
          have hp29l:s18.pls.length=s17.pls.length:=congrArg List.length hp29
          have hp30z:mk10.type.size≤4∧mk10.org.length≤10:=hp30
          refine exd [10] [(1,o7 sh ks m f s18)] [(2,w7 sh ks m f s18 (.agg [.q mk10.type,.m 1 mk10.org rI]))] (cl2 tx76 cc18) ?_
          obtain⟨_,_,⟨s19,hI19,hs17,hs18,rfl,rfl⟩,cc19⟩:=o2 sh ks m f np Lb ⟨s18.st,s18.pls,s18.code⟩ hI18 B0 [] (fun _=>a0X) (by omega) (by first|(simp;done)|omega|assumption)
          have hs17:s19.code=s18.code:=hs17
          refine exed [] [(1,o7 sh ks m f s19)] [(1,w7 sh ks m f s19 (.tup []))] (cl2 tx75 (CallM.nil (a:=[.lf (.q B0)]) (b:=[]) (sz:=1) cc19)) ?_
          refine exn [] [(8,.bool true)] ?_
          exact rtM rfl (⟨⟨s19.st,s19.pls,s19.code⟩,true,(hI19).mono (by omega),fun q=>(hp25 (hp28 (hs17.symm.trans q)).1).1,(fun h=>by cases h),rfl,rfl⟩)
         ·refine exn [50] [(78,.bool (op.toList==B45.toList))] ?_
          refine ecd (fun h10=> ?_) fun h10=> ?_
          ·obtain⟨_,_,⟨s20,mk11,hI20,hp31,hp32,hp33,rfl,rfl⟩,cc20⟩:=y5 sh ks m f np Lb ⟨s.st,s.pls,s.code⟩ hI [B0] (by simp) (by omega)
           have hp31:s20.code=0→s.code=0∧MkOk ks mk11∧([B0]=[]∨mk11.type∈[B0]):=hp31
           have hp32:s20.pls=s.pls:=hp32
           have hp32l:s20.pls.length=s.pls.length:=congrArg List.length hp32
           have hp33z:mk11.type.size≤4∧mk11.org.length≤10:=hp33
           refine exd [12,22,78] [(1,o7 sh ks m f s20)] [(2,w7 sh ks m f s20 (.agg [.q mk11.type,.m 1 mk11.org rI]))] (cl2 tx76 cc20) ?_
           obtain⟨_,_,⟨s21,mk12,hI21,hp34,hp35,hp36,rfl,rfl⟩,cc21⟩:=y5 sh ks m f np Lb ⟨s20.st,s20.pls,s20.code⟩ hI20 [B0] (by simp) (by omega)
           have hp34:s21.code=0→s20.code=0∧MkOk ks mk12∧([B0]=[]∨mk12.type∈[B0]):=hp34
           have hp35:s21.pls=s20.pls:=hp35
           have hp35l:s21.pls.length=s20.pls.length:=congrArg List.length hp35
           have hp36z:mk12.type.size≤4∧mk12.org.length≤10:=hp36
           refine exd [10] [(1,o7 sh ks m f s21)] [(2,w7 sh ks m f s21 (.agg [.q mk12.type,.m 1 mk12.org rI]))] (cl2 tx76 cc21) ?_
           obtain⟨_,_,⟨s22,hI22,hs19,hs20,rfl,rfl⟩,cc22⟩:=o2 sh ks m f np Lb ⟨s21.st,s21.pls,s21.code⟩ hI21 B3 [] (fun _=>a1Z) (by omega) (by first|(simp;done)|omega|assumption)
           have hs19:s22.code=s21.code:=hs19
           refine exed [] [(1,o7 sh ks m f s22)] [(1,w7 sh ks m f s22 (.tup []))] (cl2 tx75 (CallM.nil (a:=[.lf (.q B3)]) (b:=[]) (sz:=1) cc22)) ?_
           refine exn [] [(8,.bool true)] ?_
           exact rtM rfl (⟨⟨s22.st,s22.pls,s22.code⟩,true,(hI22).mono (by omega),fun q=>(hp31 (hp34 (hs19.symm.trans q)).1).1,(fun h=>by cases h),rfl,rfl⟩)
          ·refine a7 (exn [78] [(98,.bool (op.toList==B40.toList))] ?_)
           refine ecd (fun h11=> ?_) fun h11=> ?_
           ·have h11r:=h11
            refine a5 (ecT h11r ?_)
            obtain⟨_,_,⟨s23,mk13,hI23,hp37,hp38,hp39,rfl,rfl⟩,cc23⟩:=y5 sh ks m f np Lb ⟨s.st,s.pls,s.code⟩ hI [B3] (by simp) (by omega)
            have hp37:s23.code=0→s.code=0∧MkOk ks mk13∧([B3]=[]∨mk13.type∈[B3]):=hp37
            have hp38:s23.pls=s.pls:=hp38
            have hp38l:s23.pls.length=s.pls.length:=congrArg List.length hp38
            have hp39z:mk13.type.size≤4∧mk13.org.length≤10:=hp39
            refine exd [10,22,98] [(1,o7 sh ks m f s23)] [(2,w7 sh ks m f s23 (.agg [.q mk13.type,.m 1 mk13.org rI]))] (cl2 tx76 cc23) ?_
            obtain⟨_,_,⟨s24,mk14,hI24,hp40,hp41,hp42,rfl,rfl⟩,cc24⟩:=y5 sh ks m f np Lb ⟨s23.st,s23.pls,s23.code⟩ hI23 [B3] (by simp) (by omega)
            have hp40:s24.code=0→s23.code=0∧MkOk ks mk14∧([B3]=[]∨mk14.type∈[B3]):=hp40
            have hp41:s24.pls=s23.pls:=hp41
            have hp41l:s24.pls.length=s23.pls.length:=congrArg List.length hp41
            have hp42z:mk14.type.size≤4∧mk14.org.length≤10:=hp42
            refine exd [12] [(1,o7 sh ks m f s24)] [(2,w7 sh ks m f s24 (.agg [.q mk14.type,.m 1 mk14.org rI]))] (cl2 tx76 cc24) ?_
            obtain⟨_,_,⟨s25,hI25,hs21,hs22,rfl,rfl⟩,cc25⟩:=o2 sh ks m f np Lb ⟨s24.st,s24.pls,s24.code⟩ hI24 B3 [] (fun _=>a1Z) (by omega) (by first|(simp;done)|omega|assumption)
            have hs21:s25.code=s24.code:=hs21
            refine exed [] [(1,o7 sh ks m f s25)] [(1,w7 sh ks m f s25 (.tup []))] (cl2 tx75 (CallM.nil (a:=[.lf (.q B3)]) (b:=[]) (sz:=1) cc25)) ?_
            refine exn [] [(8,.bool true)] ?_
            exact rtM rfl (⟨⟨s25.st,s25.pls,s25.code⟩,true,(hI25).mono (by omega),fun q=>(hp37 (hp40 (hs21.symm.trans q)).1).1,(fun h=>by cases h),rfl,rfl⟩)
           ·refine exed [] [(98,.bool (op.toList==B46.toList))] [] AllP.nil ?_
            refine ecd (fun h12=> ?_) fun h12=> ?_
            ·obtain⟨_,_,⟨s26,mk15,hI26,hp43,hp44,hp45,rfl,rfl⟩,cc26⟩:=y5 sh ks m f np Lb ⟨s.st,s.pls,s.code⟩ hI [B3] (by simp) (by omega)
             have hp43:s26.code=0→s.code=0∧MkOk ks mk15∧([B3]=[]∨mk15.type∈[B3]):=hp43
             have hp44:s26.pls=s.pls:=hp44
             have hp44l:s26.pls.length=s.pls.length:=congrArg List.length hp44
             have hp45z:mk15.type.size≤4∧mk15.org.length≤10:=hp45
             refine exd [10,22,98] [(1,o7 sh ks m f s26)] [(2,w7 sh ks m f s26 (.agg [.q mk15.type,.m 1 mk15.org rI]))] (cl2 tx76 cc26) ?_
             obtain⟨_,_,⟨s27,mk16,hI27,hp46,hp47,hp48,rfl,rfl⟩,cc27⟩:=y5 sh ks m f np Lb ⟨s26.st,s26.pls,s26.code⟩ hI26 [B3] (by simp) (by omega)
             have hp46:s27.code=0→s26.code=0∧MkOk ks mk16∧([B3]=[]∨mk16.type∈[B3]):=hp46
             have hp47:s27.pls=s26.pls:=hp47
             have hp47l:s27.pls.length=s26.pls.length:=congrArg List.length hp47
             have hp48z:mk16.type.size≤4∧mk16.org.length≤10:=hp48
             refine exd [12] [(1,o7 sh ks m f s27)] [(2,w7 sh ks m f s27 (.agg [.q mk16.type,.m 1 mk16.org rI]))] (cl2 tx76 cc27) ?_
             obtain⟨_,_,⟨s28,hI28,hs23,hs24,rfl,rfl⟩,cc28⟩:=o2 sh ks m f np Lb ⟨s27.st,s27.pls,s27.code⟩ hI27 B3 [] (fun _=>a1Z) (by omega) (by first|(simp;done)|omega|assumption)
             have hs23:s28.code=s27.code:=hs23
             refine exed [] [(1,o7 sh ks m f s28)] [(1,w7 sh ks m f s28 (.tup []))] (cl2 tx75 (CallM.nil (a:=[.lf (.q B3)]) (b:=[]) (sz:=1) cc28)) ?_
             refine exn [] [(8,.bool true)] ?_
             exact rtM rfl (⟨⟨s28.st,s28.pls,s28.code⟩,true,(hI28).mono (by omega),fun q=>(hp43 (hp46 (hs23.symm.trans q)).1).1,(fun h=>by cases h),rfl,rfl⟩)
            ·refine exn [98] [(120,.bool (op.toList==B47.toList))] ?_
             refine ecd (fun h13=> ?_) fun h13=> ?_
             ·obtain⟨_,_,⟨s29,mk17,hI29,hp49,hp50,hp51,rfl,rfl⟩,cc29⟩:=y5 sh ks m f np Lb ⟨s.st,s.pls,s.code⟩ hI [B3] (by simp) (by omega)
              have hp49:s29.code=0→s.code=0∧MkOk ks mk17∧([B3]=[]∨mk17.type∈[B3]):=hp49
              have hp50:s29.pls=s.pls:=hp50
              have hp50l:s29.pls.length=s.pls.length:=congrArg List.length hp50
              have hp51z:mk17.type.size≤4∧mk17.org.length≤10:=hp51
              refine exd [10,12,22,120] [(1,o7 sh ks m f s29)] [(2,w7 sh ks m f s29 (.agg [.q mk17.type,.m 1 mk17.org rI]))] (cl2 tx76 cc29) ?_
              obtain⟨_,_,⟨s30,hI30,hs25,hs26,rfl,rfl⟩,cc30⟩:=o2 sh ks m f np Lb ⟨s29.st,s29.pls,s29.code⟩ hI29 B3 [] (fun _=>a1Z) (by omega) (by first|(simp;done)|omega|assumption)
              have hs25:s30.code=s29.code:=hs25
              refine exed [] [(1,o7 sh ks m f s30)] [(1,w7 sh ks m f s30 (.tup []))] (cl2 tx75 (CallM.nil (a:=[.lf (.q B3)]) (b:=[]) (sz:=1) cc30)) ?_
              refine exn [] [(8,.bool true)] ?_
              exact rtM rfl (⟨⟨s30.st,s30.pls,s30.code⟩,true,(hI30).mono (by omega),fun q=>(hp49 (hs25.symm.trans q)).1,(fun h=>by cases h),rfl,rfl⟩)
             ·refine exn [120] [(134,.bool (op.toList==B48.toList))] ?_
              refine ecd (fun h14=> ?_) fun h14=> ?_
              ·obtain⟨_,_,⟨s31,mk18,hI31,hp52,hp53,hp54,rfl,rfl⟩,cc31⟩:=y5 sh ks m f np Lb ⟨s.st,s.pls,s.code⟩ hI [] (by simp) (by omega)
               have hp52:s31.code=0→s.code=0∧MkOk ks mk18∧([]=[]∨mk18.type∈[]):=hp52
               have hp53:s31.pls=s.pls:=hp53
               have hp53l:s31.pls.length=s.pls.length:=congrArg List.length hp53
               have hp54z:mk18.type.size≤4∧mk18.org.length≤10:=hp54
               refine exd [10,12,22,134] [(1,o7 sh ks m f s31),(14,.lf (.q mk18.type))] [(1,w7 sh ks m f s31 (.agg [.q mk18.type,.m 1 mk18.org rI])),(2,.cut 0 0 .hole)] (a2 (cl2 tx76 (CallM.nil (a:=[]) (b:=[]) (sz:=1) cc31)) (a1 a4S)) ?_
               obtain⟨_,_,⟨s32,mk19,hI32,hp55,hp56,hp57,rfl,rfl⟩,cc32⟩:=y5 sh ks m f np Lb ⟨s31.st,s31.pls,s31.code⟩ hI31 [mk18.type] (by simp) (by omega)
               have hp55:s32.code=0→s31.code=0∧MkOk ks mk19∧([mk18.type]=[]∨mk19.type∈[mk18.type]):=hp55
               have hp56:s32.pls=s31.pls:=hp56
               have hp56l:s32.pls.length=s31.pls.length:=congrArg List.length hp56
               have hp57z:mk19.type.size≤4∧mk19.org.length≤10:=hp57
               refine exd [] [(1,o7 sh ks m f s32)] [(2,.slot (.lf (.m 1 [mk18.type] rS))),(3,w7 sh ks m f s32 (.agg [.q mk19.type,.m 1 mk19.org rI]))] (a2 (a1 (show([[.str mk18.type]]:List (List SV))=([mk18.type].map rS)from rfl)) (cl2 tx76 cc32)) ?_
               obtain⟨_,_,⟨k1,hk1,rfl,rfl⟩,cc33⟩:=n6 sh ks m f np Lb ⟨s32.st,s32.pls,s32.code⟩ hI32 (!(isRef mk18.type)) 1 (by decide)
               have hk1:k1=0→s32.code=0∧(!(isRef mk18.type))=true:=hk1
               refine exd [] [(1,ob7 sh ks m f s32.st s32.pls k1)] [(2,.ret (.bool (isRef mk18.type))),(4,.mth (ob7L sh ks m f s32.st s32.pls k1) (ob7B s32.st s32.pls) (.tup []))] (a2 (cl tx41 (i9 mk18.type)) (cl2 tx60 cc33)) ?_
               obtain⟨_,_,⟨k2,hk2,rfl,rfl⟩,cc34⟩:=n6 sh ks m f np Lb ⟨s32.st,s32.pls,k1⟩ (hI32.code k1) (decide (k1≠0)||canB (ableOf ks mk18.type) 2) 3 (by decide)
               have hk2:k2=0→k1=0∧(decide (k1≠0)||canB (ableOf ks mk18.type) 2)=true:=hk2
               refine ejd [14] [(1,ob7 sh ks m f s32.st s32.pls k2)] (by
                rcases bft (decide ((k1:Int)≠0))with g1|g1
                ·have g1p:=d5 g1
                 exact runJ [(5,.slot (.bool true)),(10,.slot (.bool (decide (k1≠0)||canB (ableOf ks mk18.type) 2))),(11,.mth (ob7L sh ks m f s32.st s32.pls k2) (ob7B s32.st s32.pls) (.tup []))] (a2 (kB g1) (a2 (kBs true (decide (k1≠0)||canB (ableOf ks mk18.type) 2)) (cl2 tx60 cc34)))
                ·have g1p:=i5 g1
                 obtain⟨_,_,⟨rfl,rfl⟩,ca1⟩:=R2 sh ks m f np Lb ⟨s32.st,s32.pls,k1⟩ (hI32.code k1) mk18.type 2 (by exact(hp52 (hp55 (hk1 (show k1=0 by omega)).1).1).2.1.ty.able) (by decide)
                 exact runJ [(5,.slot (.bool false)),(9,.mth (ob7L sh ks m f s32.st s32.pls k1) (ob7B s32.st s32.pls) (.bool (canB (ableOf ks mk18.type) 2))),(10,.slot (.bool (decide (k1≠0)||canB (ableOf ks mk18.type) 2))),(11,.mth (ob7L sh ks m f s32.st s32.pls k2) (ob7B s32.st s32.pls) (.tup []))] (a2 (kB g1) (a2 (cl2 tx77 ca1) (a2 (kBs (canB (ableOf ks mk18.type) 2) (decide (k1≠0)||canB (ableOf ks mk18.type) 2)) (cl2 tx60 cc34))))) ?_
               obtain⟨_,_,⟨s33,hI33,hs27,hs28,rfl,rfl⟩,cc35⟩:=o2 sh ks m f np Lb ⟨s32.st,s32.pls,k2⟩ (hI32.code k2) B3 [] (fun _=>a1Z) (by omega) (by first|(simp;done)|omega|assumption)
               have hs27:s33.code=k2:=hs27
               refine exed [] [(1,o7 sh ks m f s33)] [(1,w7 sh ks m f s33 (.tup []))] (cl2 tx75 (CallM.nil (a:=[.lf (.q B3)]) (b:=[]) (sz:=1) cc35)) ?_
               refine exn [] [(8,.bool true)] ?_
               exact rtM rfl (⟨⟨s33.st,s33.pls,s33.code⟩,true,(hI33).mono (by omega),fun q=>(hp52 (hp55 (hk1 (hk2 (hs27.symm.trans q)).1).1).1).1,(fun h=>by cases h),rfl,rfl⟩)
              ·refine exn [134] [(190,.bool (op.toList==B41.toList))] ?_
               refine ecd (fun h15=> ?_) fun h15=> ?_
               ·refine exn [10,12,22,190] [(8,.bool true)] ?_
                exact rtM rfl (⟨⟨s.st,s.pls,s.code⟩,true,(hI).mono (by omega),fun q=>q,(fun h=>by cases h),rfl,rfl⟩)
               ·refine exn [190] [(194,.bool (op.toList==B12.toList))] ?_
                refine ecd (fun h16=> ?_) fun h16=> ?_
                ·obtain⟨_,_,⟨s34,mk20,hI34,hp58,hp59,hp60,rfl,rfl⟩,cc36⟩:=y5 sh ks m f np Lb ⟨s.st,s.pls,s.code⟩ hI [B3] (by simp) (by omega)
                 have hp58:s34.code=0→s.code=0∧MkOk ks mk20∧([B3]=[]∨mk20.type∈[B3]):=hp58
                 have hp59:s34.pls=s.pls:=hp59
                 have hp59l:s34.pls.length=s.pls.length:=congrArg List.length hp59
                 have hp60z:mk20.type.size≤4∧mk20.org.length≤10:=hp60
                 refine exed [10,12,22,194] [(1,o7 sh ks m f s34)] [(2,w7 sh ks m f s34 (.agg [.q mk20.type,.m 1 mk20.org rI]))] (cl2 tx76 cc36) ?_
                 refine exn [] [(8,.bool true)] ?_
                 exact rtM rfl (⟨⟨s34.st,s34.pls,s34.code⟩,true,(hI34).mono (by omega),fun q=>(hp58 q).1,(fun h=>by cases h),rfl,rfl⟩)
                ·refine exn [12,22,194] [(204,.bool (op.toList==B2.toList))] ?_
                 refine ecd (fun h17=> ?_) fun h17=> ?_
                 ·obtain⟨_,_,⟨s35,mk21,hI35,hp61,hp62,hp63,rfl,rfl⟩,cc37⟩:=y5 sh ks m f np Lb ⟨s.st,s.pls,s.code⟩ hI [B0] (by simp) (by omega)
                  have hp61:s35.code=0→s.code=0∧MkOk ks mk21∧([B0]=[]∨mk21.type∈[B0]):=hp61
                  have hp62:s35.pls=s.pls:=hp62
                  have hp62l:s35.pls.length=s.pls.length:=congrArg List.length hp62
                  have hp63z:mk21.type.size≤4∧mk21.org.length≤10:=hp63
                  refine exed [10,204] [(1,o7 sh ks m f s35)] [(2,w7 sh ks m f s35 (.agg [.q mk21.type,.m 1 mk21.org rI]))] (cl2 tx76 cc37) ?_
                  refine exn [] [(8,.bool true)] ?_
                  exact rtM rfl (⟨⟨s35.st,s35.pls,s35.code⟩,true,(hI35).mono (by omega),fun q=>(hp61 q).1,(fun h=>by cases h),rfl,rfl⟩)
                 ·refine exn [10,204] [(8,.bool false)] ?_
                  exact rtM rfl (⟨⟨s.st,s.pls,s.code⟩,false,(hI).mono (by omega),fun q=>q,(fun _=>hI),rfl,rfl⟩)
theorem put_x (sh:List Mod)(ks:Kinds)(m:Nat)(f:Fn)(np Lb:Nat)(s:S7)(hI:I7 ks np Lb s)(pn:Nat)(hC:C7 sh ks m f np)(hL:Lb≤900000):
 ∃o r,(fun o r=>∃s',(I7 ks np (Lb+4) s')∧(s'.code=0→s.code=0)∧o=ob7 sh ks m f s'.st s'.pls s'.code∧r=(.tup [])) o r∧CallM Try.prog 81 [.lf (.im true (.int .i64 ((pn:Nat):Int)))] (ob7 sh ks m f s.st s.pls s.code) o r:=by
 refine CallME (fn:=Try.f81) TTok mixed Try.func81 rfl rfl rfl rfl rfl ?_
 have hm:=hC.hm
 have hk3:=hC.hk3
 have hr3:=hC.hr3
 have hLs:=hI.l
 have hnp:=hI.n
 have hnp2:=hC.hnp
 have hsml:=hC.sml
 refine a7 (ex [(0,.lf (.ptr obN 0)),(1,o7 sh ks m f s),(2,.int (pn:Int)),(24,.bool (decide ((pn:Int)≥(s.pls.length:Int))))] [(6,.slot (.int (s.pls.length:Int)))] (a2 (a1 (show(Slot.int (((s.pls.map rMk).length:Nat):Int))= .int (s.pls.length:Int)by rw[show(s.pls.map rMk).length=s.pls.length by simp])) AllP.nil) (by kernel_rfl) ?_)
 refine ecp (fun h1=> ?_) fun h1=> ?_
 ·obtain⟨_,_,⟨k1,hk1,rfl,rfl⟩,cc1⟩:=M8 sh ks m f np Lb ⟨s.st,s.pls,s.code⟩ hI 2
  have hk1:k1=0→s.code=0∧(2:Int)=0:=hk1
  refine exd [2,24] [(1,ob7 sh ks m f s.st s.pls k1)] [(1,.mth (ob7L sh ks m f s.st s.pls k1) (ob7B s.st s.pls) (.tup []))] (cl2 tx84 cc1) ?_
  exact rtM rfl (⟨⟨s.st,s.pls,k1⟩,((hI.code k1)).mono (by omega),fun q=>(hk1 q).1,rfl,rfl⟩)
 ·refine a5 ?_
  obtain⟨_,⟨t1,rfl⟩,cc2⟩:=plc_x f pn (by have:=hI.n;omega) (by omega) (by omega)
  obtain⟨_,_,⟨s1,mk1,hI1,hp1,hp2,hp3,rfl,rfl⟩,cc3⟩:=y5 sh ks m f np Lb ⟨s.st,s.pls,s.code⟩ hI [t1] (by simp) (by omega)
  have hp1:s1.code=0→s.code=0∧MkOk ks mk1∧([t1]=[]∨mk1.type∈[t1]):=hp1
  have hp2:s1.pls=s.pls:=hp2
  have hp2l:s1.pls.length=s.pls.length:=congrArg List.length hp2
  have hp3z:mk1.type.size≤4∧mk1.org.length≤10:=hp3
  refine exd [24] [(1,o7 sh ks m f s1),(8,.lf (.ptr 4 0)),(9,.cell 4 [.q mk1.type,.m 1 mk1.org rI])] [(6,.ret (.lf (.q t1))),(7,.slot (.lf (.m 1 [t1] rS))),(8,w7 sh ks m f s1 (.agg [.q mk1.type,.m 1 mk1.org rI]))] (a2 (cl tx96 cc2) (a2 (a1 (show([[.str t1]]:List (List SV))=([t1].map rS)from rfl)) (cl2 tx76 cc3))) ?_
  refine a7 (exn [] [(56,.bool (decide ((s1.code:Int)≠0)))] ?_)
  refine ecp (fun h2=> ?_) fun h2=> ?_
  ·exact rtM rfl (⟨⟨s1.st,s1.pls,s1.code⟩,(hI1).mono (by omega),fun q=>(hp1 q).1,rfl,rfl⟩)
  ·refine a5 (a7 (exd [56] [(76,.bool (!(((nth s1.pls pn).type).toList==B4.toList)))] [(8,.elem pn 0 (rMk (nth s1.pls pn)) none)] (a2 (ixu (i:=pn) (n:=(s1.pls.map rMk).length) (by simp;omega)) (elT (f:=rMk) (l:=s1.pls) (i:=pn) (j:=0) (n:=1) (sz:=2) (off:=(pn:Int).toNat*2+0) (j6 (l:=s1.pls) (i:=pn) (by omega)) (by omega) (by omega))) ?_))
   refine ecd (fun h3=> ?_) fun h3=> ?_
   ·have h3:(((nth s1.pls pn).type).toList==B4.toList)=false:=o4 h3
    obtain⟨_,_,⟨rfl,rfl⟩,ca1⟩:=R2 sh ks m f np Lb ⟨s1.st,s1.pls,s1.code⟩ hI1 ((nth s1.pls pn).type) 2 (by exact((hI1).pl _ (c6 (by omega))).ty (bytes_ne'.1 (by assumption))|>.able) (by decide)
    obtain⟨_,_,⟨k2,hk2,rfl,rfl⟩,cc4⟩:=n6 sh ks m f np Lb ⟨s1.st,s1.pls,s1.code⟩ hI1 (canB (ableOf ks ((nth s1.pls pn).type)) 2) 3 (by decide)
    have hk2:k2=0→s1.code=0∧(canB (ableOf ks ((nth s1.pls pn).type)) 2)=true:=hk2
    refine exd [76] [(1,ob7 sh ks m f s1.st s1.pls k2)] [(10,.elem pn 0 (rMk (nth s1.pls pn)) none),(11,w7 sh ks m f s1 (.bool (canB (ableOf ks ((nth s1.pls pn).type)) 2))),(12,.mth (ob7L sh ks m f s1.st s1.pls k2) (ob7B s1.st s1.pls) (.tup []))] (a2 (ixu (i:=pn) (n:=(s1.pls.map rMk).length) (by simp;omega)) (a2 (elT (f:=rMk) (l:=s1.pls) (i:=pn) (j:=0) (n:=1) (sz:=2) (off:=(pn:Int).toNat*2+0) (j6 (l:=s1.pls) (i:=pn) (by omega)) (by omega) (by omega)) (a2 (cl2 tx77 ca1) (cl2 tx60 cc4)))) ?_
    obtain⟨_,⟨b1,rfl⟩,cc5⟩:=Y9 s1.st s1.pls (by have:=((hI1.code k2)).l;(try simp only at this);omega) (fun x hx=>(((hI1.code k2)).st x hx).len) (by have:=((hI1.code k2)).n;(try simp only at this);omega) (fun x hx=>(((hI1.code k2)).pl x hx).len) (pn:Int)
    obtain⟨_,_,⟨k3,hk3,rfl,rfl⟩,cc6⟩:=n6 sh ks m f np Lb ⟨s1.st,s1.pls,k2⟩ (hI1.code k2) (!b1) 4 (by decide)
    have hk3:k3=0→k2=0∧(!b1)=true:=hk3
    refine exed [] [(1,ob7 sh ks m f s1.st s1.pls k3)] [(6,.ret (.bool b1)),(8,.mth (ob7L sh ks m f s1.st s1.pls k3) (ob7B s1.st s1.pls) (.tup []))] (a2 (hl ((s1.st.map rMk).length)) (a2 (hl ((s1.pls.map rMk).length)) (a2 (cl tx80 cc5) (cl2 tx60 cc6)))) ?_
    refine exed [2,8,9] [(1,.own obN [.l 3 sh rMod,.m 1 ks rRecs,.z (m:Int),.z f.seen,.m 1 f.args rS,.m 1 f.rets rS,.m 1 f.locals rS,.m 1 f.takes rI,.m 3 f.code rIns,.hd (obN+1) ((s1.st.map rMk).length) 0,.hd (obN+2) ((s1.pls.map rMk).length) 0,.z k3] [.mk (obN+1) 0 76 2 (s1.st.map rMk),.mk (obN+2) 0 76 2 ((s1.pls.set pn mk1).map rMk)])] [(8,.elem pn 0 (rMk (nth s1.pls pn)) (some ((s1.pls.set pn mk1).map rMk)))] (a2 (ixu (i:=pn) (n:=(s1.pls.map rMk).length) (by simp;omega)) (stT (f:=rMk) (l:=s1.pls) (i:=pn) (j:=0) (n:=2) (sz:=2) (off:=(pn:Int).toNat*2) (y:=mk1) (new:=[.str mk1.type,.sl 1 (mk1.org.map rI)]) (j6 (l:=s1.pls) (i:=pn) (by omega)) (by omega) (by omega) rfl (rfl))) ?_
    rw[a2L sh ks m f s1.st s1.pls pn mk1 k3]
    exact⟨.inr rfl,[],by kernel_rfl,rfl,by kernel_rfl,⟨⟨s1.st,(s1.pls.set pn mk1),k3⟩,((hI1.put (x:=mk1) ((hp1 (show s1.code=0 by omega)).2.1.pl) pn k3)).mono (by omega),fun q=>(hp1 (hk2 (hk3 q).1).1).1,rfl,rfl⟩⟩
   ·have h3:(((nth s1.pls pn).type).toList==B4.toList)=true:=o3 h3
    refine a5 (exed [2,8,9,76] [(1,.own obN [.l 3 sh rMod,.m 1 ks rRecs,.z (m:Int),.z f.seen,.m 1 f.args rS,.m 1 f.rets rS,.m 1 f.locals rS,.m 1 f.takes rI,.m 3 f.code rIns,.hd (obN+1) ((s1.st.map rMk).length) 0,.hd (obN+2) ((s1.pls.map rMk).length) 0,.z s1.code] [.mk (obN+1) 0 76 2 (s1.st.map rMk),.mk (obN+2) 0 76 2 ((s1.pls.set pn mk1).map rMk)])] [(8,.elem pn 0 (rMk (nth s1.pls pn)) (some ((s1.pls.set pn mk1).map rMk)))] (a2 (ixu (i:=pn) (n:=(s1.pls.map rMk).length) (by simp;omega)) (stT (f:=rMk) (l:=s1.pls) (i:=pn) (j:=0) (n:=2) (sz:=2) (off:=(pn:Int).toNat*2) (y:=mk1) (new:=[.str mk1.type,.sl 1 (mk1.org.map rI)]) (j6 (l:=s1.pls) (i:=pn) (by omega)) (by omega) (by omega) rfl (rfl))) ?_)
    rw[a2L sh ks m f s1.st s1.pls pn mk1 s1.code]
    exact⟨.inr rfl,[],by kernel_rfl,rfl,by kernel_rfl,⟨⟨s1.st,(s1.pls.set pn mk1),s1.code⟩,((hI1.put (x:=mk1) ((hp1 (show s1.code=0 by omega)).2.1.pl) pn s1.code)).mono (by omega),fun q=>(hp1 q).1,rfl,rfl⟩⟩
theorem a6P (sh:List Mod)(ks:Kinds)(m:Nat)(f:Fn)(np Lb:Nat)(s:S7)(hI:I7 ks np Lb s)(op:ByteArray)(ia ib:Nat)(hi9:ia≤1000000∧ib≤1000000)(hC:C7 sh ks m f np)(hL:Lb≤900000):
 ∃o r,(fun o r=>∃s',(I7 ks np (Lb+4) s')∧(s'.code=0→s.code=0)∧o=ob7 sh ks m f s'.st s'.pls s'.code∧r=(.tup [])) o r∧CallM Try.prog 82 [.agg [.im true (.str op),.im true (.int .i64 ((ia:Nat):Int)),.im true (.int .i64 ((ib:Nat):Int))]] (ob7 sh ks m f s.st s.pls s.code) o r:=by
 refine CallME (fn:=Try.f82) TTok mixed Try.func82 rfl rfl rfl rfl rfl ?_
 have hm:=hC.hm
 have hk3:=hC.hk3
 have hr3:=hC.hr3
 have hLs:=hI.l
 have hnp:=hI.n
 have hnp2:=hC.hnp
 have hsml:=hC.sml
 refine ex [(0,.lf (.ptr obN 0)),(1,o7 sh ks m f s),(6,.lf (.ptr 3 0)),(7,.cell 3 [.q op,.z (ia:Int),.z (ib:Int)])] [] AllP.nil (by kernel_rfl) ?_
 refine a7 ?_
 obtain⟨_,_,⟨k1,b1,hp1,hp2,hp3,rfl,rfl⟩,cc1⟩:=a3d sh ks m f np Lb ⟨s.st,s.pls,s.code⟩ hI ia
 have hp1:b1=true→ia<s.pls.length∧(nth s.pls ia).type≠⟨#[]⟩∧k1=s.code:=hp1
 have hp1z:=a44 (ks:=ks) (hI).pl ia
 have hp2:b1=false→k1≠0:=hp2
 have hp3:k1=0→s.code=0:=hp3
 refine exd [] [(1,ob7 sh ks m f s.st s.pls k1),(18,.bool (!b1))] [(3,.mth (ob7L sh ks m f s.st s.pls k1) (ob7B s.st s.pls) (.bool b1))] (cl2 tx78 cc1) ?_
 refine ecd (fun h1=> ?_) fun h1=> ?_
 ·have h1:b1=false:=o4 h1
  exact rtM rfl (⟨⟨s.st,s.pls,k1⟩,((hI.code k1)).mono (by omega),fun q=>(hp3 q),rfl,rfl⟩)
 ·have h1:b1=true:=o3 h1
  refine a5 (exd [18] [(8,.lf (.q ((nth s.pls ia).type)))] [(9,.elem ia 0 (rMk (nth s.pls ia)) none)] (a2 (ixu (i:=ia) (n:=(s.pls.map rMk).length) (by rw[List.length_map];first|omega|exact(hp1 (by assumption)).1)) (elT (f:=rMk) (l:=s.pls) (i:=ia) (j:=0) (n:=1) (sz:=2) (off:=(ia:Int).toNat*2+0) (j6 (l:=s.pls) (i:=ia) (by first|omega|exact(hp1 (by assumption)).1)) (by omega) (by omega))) ?_)
  obtain⟨_,_,⟨k2,hk1,rfl,rfl⟩,cc2⟩:=n6 sh ks m f np Lb ⟨s.st,s.pls,k1⟩ (hI.code k1) (!(isRef ((nth s.pls ia).type))) 2 (by decide)
  have hk1:k2=0→k1=0∧(!(isRef ((nth s.pls ia).type)))=true:=hk1
  refine exd [] [(1,ob7 sh ks m f s.st s.pls k2)] [(2,.ret (.bool (isRef ((nth s.pls ia).type)))),(4,.mth (ob7L sh ks m f s.st s.pls k2) (ob7B s.st s.pls) (.tup []))] (a2 (cl tx41 (i9 ((nth s.pls ia).type))) (cl2 tx60 cc2)) ?_
  refine a7 (exn [] [(54,.bool (op.toList==B32.toList))] ?_)
  refine ecd (fun h2=> ?_) fun h2=> ?_
  ·obtain⟨_,⟨b2,rfl⟩,cc3⟩:=a4V s.st s.pls (by have:=((hI.code k2)).l;(try simp only at this);omega) (fun x hx=>(((hI.code k2)).st x hx).len) (by have:=((hI.code k2)).n;(try simp only at this);omega) (fun x hx=>(((hI.code k2)).pl x hx).len) (ia:Int)
   obtain⟨_,_,⟨k3,hk2,rfl,rfl⟩,cc4⟩:=n6 sh ks m f np Lb ⟨s.st,s.pls,k2⟩ (hI.code k2) (!b2) 4 (by decide)
   have hk2:k3=0→k2=0∧(!b2)=true:=hk2
   refine exd [54] [(1,ob7 sh ks m f s.st s.pls k3)] [(7,.ret (.bool b2)),(9,.mth (ob7L sh ks m f s.st s.pls k3) (ob7B s.st s.pls) (.tup []))] (a2 (hl ((s.st.map rMk).length)) (a2 (hl ((s.pls.map rMk).length)) (a2 (cl tx79 cc3) (cl2 tx60 cc4)))) ?_
   obtain⟨_,_,⟨s1,hI1,hs1,hs2,rfl,rfl⟩,cc5⟩:=o2 sh ks m f np Lb ⟨s.st,s.pls,k3⟩ (hI.code k3) (B8++((nth s.pls ia).type)) [(ia:Int)] (fun q=>J6 (H0 ((((hI).pl _ (c6 (hp1 (by assumption)).1)).ty (hp1 (by assumption)).2.1).plain (fun hr=>by have hz:=(hk1 (hk2 q).1).2;rw[A2.2 hr]at hz;cases hz))) (by simp)) (by omega) (by first|(simp;done)|omega|assumption)
   have hs1:s1.code=k3:=hs1
   refine exd [6,7,8] [(1,o7 sh ks m f s1)] [(5,.slot (.lf (.m 1 [(ia:Int)] rI))),(6,w7 sh ks m f s1 (.tup []))] (a2 (a1 (StrFit.mk (a:=B8) (b:=((nth s.pls ia).type)) (by exact strf (by have q1:B8.size=1:=rfl;have q2:B6.size=1:=rfl;have:=hp1z;first|omega|(simp only[ByteArray.size_append];omega))))) (a2 (a1 (show([[.int .i64 (ia:Int)]]:List (List SV))=([(ia:Int)].map rI)from rfl)) (cl2 tx75 cc5))) ?_
   exact rtM rfl (⟨⟨s1.st,s1.pls,s1.code⟩,(hI1).mono (by omega),fun q=>(hp3 (hk1 (hk2 (hs1.symm.trans q)).1).1),rfl,rfl⟩)
  ·refine a5 ?_
   obtain⟨_,⟨b3,rfl⟩,cc6⟩:=Y9 s.st s.pls (by have:=((hI.code k2)).l;(try simp only at this);omega) (fun x hx=>(((hI.code k2)).st x hx).len) (by have:=((hI.code k2)).n;(try simp only at this);omega) (fun x hx=>(((hI.code k2)).pl x hx).len) (ia:Int)
   obtain⟨_,_,⟨k4,hk3,rfl,rfl⟩,cc7⟩:=n6 sh ks m f np Lb ⟨s.st,s.pls,k2⟩ (hI.code k2) (!b3) 4 (by decide)
   have hk3:k4=0→k2=0∧(!b3)=true:=hk3
   refine exd [54] [(1,ob7 sh ks m f s.st s.pls k4)] [(7,.ret (.bool b3)),(9,.mth (ob7L sh ks m f s.st s.pls k4) (ob7B s.st s.pls) (.tup []))] (a2 (hl ((s.st.map rMk).length)) (a2 (hl ((s.pls.map rMk).length)) (a2 (cl tx80 cc6) (cl2 tx60 cc7)))) ?_
   obtain⟨_,_,⟨s2,hI2,hs3,hs4,rfl,rfl⟩,cc8⟩:=o2 sh ks m f np Lb ⟨s.st,s.pls,k4⟩ (hI.code k4) (B6++((nth s.pls ia).type)) [(ia:Int)] (fun q=>J6 (Q5 ((((hI).pl _ (c6 (hp1 (by assumption)).1)).ty (hp1 (by assumption)).2.1).plain (fun hr=>by have hz:=(hk1 (hk3 q).1).2;rw[A2.2 hr]at hz;cases hz))) (by simp)) (by omega) (by first|(simp;done)|omega|assumption)
   have hs3:s2.code=k4:=hs3
   refine exed [6,7,8] [(1,o7 sh ks m f s2)] [(5,.slot (.lf (.m 1 [(ia:Int)] rI))),(6,w7 sh ks m f s2 (.tup []))] (a2 (a1 (StrFit.mk (a:=B6) (b:=((nth s.pls ia).type)) (by exact strf (by have q1:B8.size=1:=rfl;have q2:B6.size=1:=rfl;have:=hp1z;first|omega|(simp only[ByteArray.size_append];omega))))) (a2 (a1 (show([[.int .i64 (ia:Int)]]:List (List SV))=([(ia:Int)].map rI)from rfl)) (cl2 tx75 cc8))) ?_
   exact⟨.inr rfl,[],by kernel_rfl,rfl,by kernel_rfl,⟨⟨s2.st,s2.pls,s2.code⟩,(hI2).mono (by omega),fun q=>(hp3 (hk1 (hk3 (hs3.symm.trans q)).1).1),rfl,rfl⟩⟩
theorem a5Z (sh:List Mod)(ks:Kinds)(m:Nat)(f:Fn)(np Lb:Nat)(s:S7)(hI:I7 ks np Lb s)(op:ByteArray)(ia ib:Nat)(hi9:ia≤1000000∧ib≤1000000)(hC:C7 sh ks m f np)(hL:Lb≤900000):
 ∃o r,(fun o r=>∃s' b,(I7 ks np (Lb+4) s')∧(s'.code=0→s.code=0)∧(b=false→I7 ks np Lb s')∧o=ob7 sh ks m f s'.st s'.pls s'.code∧r= .bool b) o r∧CallM Try.prog 57 [.agg [.im true (.str op),.im true (.int .i64 ((ia:Nat):Int)),.im true (.int .i64 ((ib:Nat):Int))]] (ob7 sh ks m f s.st s.pls s.code) o r:=by
 refine CallME (fn:=Try.f57) TTok mixed Try.func57 rfl rfl rfl rfl rfl ?_
 have hm:=hC.hm
 have hk3:=hC.hk3
 have hr3:=hC.hr3
 have hLs:=hI.l
 have hnp:=hI.n
 have hnp2:=hC.hnp
 have hsml:=hC.sml
 refine ex [(0,.lf (.ptr obN 0)),(1,o7 sh ks m f s),(6,.lf (.ptr 3 0)),(7,.cell 3 [.q op,.z (ia:Int),.z (ib:Int)])] [] AllP.nil (by kernel_rfl) ?_
 refine a7 (exn [] [(18,.lf (.q op))] ?_)
 refine a9 (exn [] [(20,.bool (op.toList==B49.toList))] ?_)
 refine ecd (fun h1=> ?_) fun h1=> ?_
 ·obtain⟨_,_,⟨k1,b1,hp1,hp2,hp3,rfl,rfl⟩,cc1⟩:=a3d sh ks m f np Lb ⟨s.st,s.pls,s.code⟩ hI ia
  have hp1:b1=true→ia<s.pls.length∧(nth s.pls ia).type≠⟨#[]⟩∧k1=s.code:=hp1
  have hp1z:=a44 (ks:=ks) (hI).pl ia
  have hp2:b1=false→k1≠0:=hp2
  have hp3:k1=0→s.code=0:=hp3
  refine exd [18,20] [(1,ob7 sh ks m f s.st s.pls k1),(30,.bool b1)] [(3,.mth (ob7L sh ks m f s.st s.pls k1) (ob7B s.st s.pls) (.bool b1))] (cl2 tx78 cc1) ?_
  refine ecd (fun h2=> ?_) fun h2=> ?_
  ·refine exd [30] [(10,.lf (.ptr 5 0)),(11,.cell 5 [.q ((nth s.pls ia).type),.m 1 ((nth s.pls ia).org) rI])] [(8,.elem ia 0 (rMk (nth s.pls ia)) none)] (a2 (ixu (i:=ia) (n:=(s.pls.map rMk).length) (by rw[List.length_map];first|omega|exact(hp1 (by assumption)).1)) (elT (f:=rMk) (l:=s.pls) (i:=ia) (j:=0) (n:=2) (sz:=2) (off:=(ia:Int).toNat*2) (j6 (l:=s.pls) (i:=ia) (by first|omega|exact(hp1 (by assumption)).1)) (by omega) (by omega))) ?_
   obtain⟨_,_,⟨rfl,rfl⟩,ca1⟩:=R2 sh ks m f np Lb ⟨s.st,s.pls,k1⟩ (hI.code k1) ((nth s.pls ia).type) 1 (by exact(((hI).pl _ (c6 (hp1 (by assumption)).1)).ty (hp1 (by assumption)).2.1).able) (by decide)
   obtain⟨_,_,⟨k2,hk1,rfl,rfl⟩,cc2⟩:=n6 sh ks m f np Lb ⟨s.st,s.pls,k1⟩ (hI.code k1) (canB (ableOf ks ((nth s.pls ia).type)) 1) 3 (by decide)
   have hk1:k2=0→k1=0∧(canB (ableOf ks ((nth s.pls ia).type)) 1)=true:=hk1
   refine exd [] [(1,ob7 sh ks m f s.st s.pls k2)] [(4,.mth (ob7L sh ks m f s.st s.pls k1) (ob7B s.st s.pls) (.bool (canB (ableOf ks ((nth s.pls ia).type)) 1))),(5,.mth (ob7L sh ks m f s.st s.pls k2) (ob7B s.st s.pls) (.tup []))] (a2 (cl2 tx77 ca1) (cl2 tx60 cc2)) ?_
   rcases bft (isRef ((nth s.pls ia).type))with g1|g1
   ·have g1p:=g1
    obtain⟨_,_,⟨k3,hk2,rfl,rfl⟩,cc3⟩:=n6 sh ks m f np Lb ⟨s.st,s.pls,k2⟩ (hI.code k2) true 4 (by decide)
    have hk2:k3=0→k2=0∧true=true:=hk2
    refine exd [6,7] [(1,ob7 sh ks m f s.st s.pls k3)] [(3,.ret (.bool (isRef ((nth s.pls ia).type)))),(4,.slot (.bool true)),(14,.mth (ob7L sh ks m f s.st s.pls k3) (ob7B s.st s.pls) (.tup []))] (a2 (cl tx41 (i9 ((nth s.pls ia).type))) (a2 (kB g1) (cl2 tx60 cc3))) ?_
    obtain⟨_,_,⟨s1,hI1,hs1,hs2,rfl,rfl⟩,cc5⟩:=o2 sh ks m f np Lb ⟨s.st,s.pls,k3⟩ (hI.code k3) ((nth s.pls ia).type) ((nth s.pls ia).org) (fun _=>⟨((hI).pl _ (c6 (hp1 (by assumption)).1)).ty (hp1 (by assumption)).2.1,((hI).pl _ (c6 (hp1 (by assumption)).1)).len⟩) (by omega) (by first|(simp;done)|exact hp1z.2|exact hp4z.2|exact hp7z.2|omega)
    have hs1:s1.code=k3:=hs1
    refine exed [10,11] [(1,o7 sh ks m f s1)] [(5,w7 sh ks m f s1 (.tup []))] (cl2 tx75 cc5) ?_
    refine exn [] [(8,.bool true)] ?_
    exact rtM rfl (⟨⟨s1.st,s1.pls,s1.code⟩,true,(hI1).mono (by omega),fun q=>(hp3 (hk1 (hk2 (hs1.symm.trans q)).1).1),(fun h=>by cases h),rfl,rfl⟩)
   ·have g1p:=g1
    obtain⟨_,⟨b2,rfl⟩,cc3⟩:=a4V s.st s.pls (by have:=((hI.code k2)).l;(try simp only at this);omega) (fun x hx=>(((hI.code k2)).st x hx).len) (by have:=((hI.code k2)).n;(try simp only at this);omega) (fun x hx=>(((hI.code k2)).pl x hx).len) (ia:Int)
    obtain⟨_,_,⟨k3,hk2,rfl,rfl⟩,cc4⟩:=n6 sh ks m f np Lb ⟨s.st,s.pls,k2⟩ (hI.code k2) (!b2) 4 (by decide)
    have hk2:k3=0→k2=0∧(!b2)=true:=hk2
    refine exd [6,7] [(1,ob7 sh ks m f s.st s.pls k3)] [(3,.ret (.bool (isRef ((nth s.pls ia).type)))),(4,.slot (.bool false)),(11,.ret (.bool b2)),(14,.mth (ob7L sh ks m f s.st s.pls k3) (ob7B s.st s.pls) (.tup []))] (a2 (cl tx41 (i9 ((nth s.pls ia).type))) (a2 (kB g1) (a2 (hl ((s.st.map rMk).length)) (a2 (hl ((s.pls.map rMk).length)) (a2 (cl tx79 cc3) (cl2 tx60 cc4)))))) ?_
    obtain⟨_,_,⟨s2,hI2,hs3,hs4,rfl,rfl⟩,cc6⟩:=o2 sh ks m f np Lb ⟨s.st,s.pls,k3⟩ (hI.code k3) ((nth s.pls ia).type) ((nth s.pls ia).org) (fun _=>⟨((hI).pl _ (c6 (hp1 (by assumption)).1)).ty (hp1 (by assumption)).2.1,((hI).pl _ (c6 (hp1 (by assumption)).1)).len⟩) (by omega) (by first|(simp;done)|exact hp1z.2|exact hp4z.2|exact hp7z.2|omega)
    have hs3:s2.code=k3:=hs3
    refine exed [10,11] [(1,o7 sh ks m f s2)] [(5,w7 sh ks m f s2 (.tup []))] (cl2 tx75 cc6) ?_
    refine exn [] [(8,.bool true)] ?_
    exact rtM rfl (⟨⟨s2.st,s2.pls,s2.code⟩,true,(hI2).mono (by omega),fun q=>(hp3 (hk1 (hk2 (hs3.symm.trans q)).1).1),(fun h=>by cases h),rfl,rfl⟩)
  ·refine a5 (exn [6,7,30] [(8,.bool true)] ?_)
   exact rtM rfl (⟨⟨s.st,s.pls,k1⟩,true,((hI.code k1)).mono (by omega),fun q=>(hp3 q),(fun h=>by cases h),rfl,rfl⟩)
 ·refine exn [20] [(104,.bool (op.toList==B23.toList))] ?_
  refine ecd (fun h3=> ?_) fun h3=> ?_
  ·obtain⟨_,_,⟨k4,b3,hp4,hp5,hp6,rfl,rfl⟩,cc7⟩:=a3d sh ks m f np Lb ⟨s.st,s.pls,s.code⟩ hI ia
   have hp4:b3=true→ia<s.pls.length∧(nth s.pls ia).type≠⟨#[]⟩∧k4=s.code:=hp4
   have hp4z:=a44 (ks:=ks) (hI).pl ia
   have hp5:b3=false→k4≠0:=hp5
   have hp6:k4=0→s.code=0:=hp6
   refine exd [18,104] [(1,ob7 sh ks m f s.st s.pls k4),(114,.bool b3)] [(3,.mth (ob7L sh ks m f s.st s.pls k4) (ob7B s.st s.pls) (.bool b3))] (cl2 tx78 cc7) ?_
   refine ecd (fun h4=> ?_) fun h4=> ?_
   ·refine exd [114] [(12,.lf (.ptr 6 0)),(13,.cell 6 [.q ((nth s.pls ia).type),.m 1 ((nth s.pls ia).org) rI])] [(8,.elem ia 0 (rMk (nth s.pls ia)) none)] (a2 (ixu (i:=ia) (n:=(s.pls.map rMk).length) (by rw[List.length_map];first|omega|exact(hp4 (by assumption)).1)) (elT (f:=rMk) (l:=s.pls) (i:=ia) (j:=0) (n:=2) (sz:=2) (off:=(ia:Int).toNat*2) (j6 (l:=s.pls) (i:=ia) (by first|omega|exact(hp4 (by assumption)).1)) (by omega) (by omega))) ?_
    obtain⟨_,⟨b4,rfl⟩,cc8⟩:=Y9 s.st s.pls (by have:=((hI.code k4)).l;(try simp only at this);omega) (fun x hx=>(((hI.code k4)).st x hx).len) (by have:=((hI.code k4)).n;(try simp only at this);omega) (fun x hx=>(((hI.code k4)).pl x hx).len) (ia:Int)
    obtain⟨_,_,⟨k5,hk3,rfl,rfl⟩,cc9⟩:=n6 sh ks m f np Lb ⟨s.st,s.pls,k4⟩ (hI.code k4) (!b4) 4 (by decide)
    have hk3:k5=0→k4=0∧(!b4)=true:=hk3
    refine exd [] [(1,ob7 sh ks m f s.st s.pls k5)] [(7,.ret (.bool b4)),(9,.mth (ob7L sh ks m f s.st s.pls k5) (ob7B s.st s.pls) (.tup []))] (a2 (hl ((s.st.map rMk).length)) (a2 (hl ((s.pls.map rMk).length)) (a2 (cl tx80 cc8) (cl2 tx60 cc9)))) ?_
    refine exd [6,7] [(1,.own obN [.l 3 sh rMod,.m 1 ks rRecs,.z (m:Int),.z f.seen,.m 1 f.args rS,.m 1 f.rets rS,.m 1 f.locals rS,.m 1 f.takes rI,.m 3 f.code rIns,.hd (obN+1) ((s.st.map rMk).length) 0,.hd (obN+2) ((s.pls.map rMk).length) 0,.z k5] [.mk (obN+1) 0 76 2 (s.st.map rMk),.mk (obN+2) 0 76 2 ((s.pls.set ia noMk).map rMk)])] [(9,.elem ia 0 (rMk (nth s.pls ia)) (some ((s.pls.set ia noMk).map rMk)))] (a2 (ixu (i:=ia) (n:=(s.pls.map rMk).length) (by rw[List.length_map];first|omega|exact(hp4 (by assumption)).1)) (stT (f:=rMk) (l:=s.pls) (i:=ia) (j:=0) (n:=2) (sz:=2) (off:=(ia:Int).toNat*2) (y:=noMk) (new:=[.str ⟨#[]⟩,.sl 1 []]) (j6 (l:=s.pls) (i:=ia) (by first|omega|exact(hp4 (by assumption)).1)) (by omega) (by omega) rfl (rfl))) ?_
    rw[a2L sh ks m f s.st s.pls ia noMk k5]
    obtain⟨_,_,⟨s3,hI3,hs5,hs6,rfl,rfl⟩,cc10⟩:=o2 sh ks m f np Lb ⟨s.st,(s.pls.set ia noMk),k5⟩ (hI.put (x:=noMk) (PlOk.no ks) ia k5) ((nth s.pls ia).type) ((nth s.pls ia).org) (fun _=>⟨((hI).pl _ (c6 (hp4 (by assumption)).1)).ty (hp4 (by assumption)).2.1,((hI).pl _ (c6 (hp4 (by assumption)).1)).len⟩) (by omega) (by first|(simp;done)|exact hp1z.2|exact hp4z.2|exact hp7z.2|omega)
    have hs5:s3.code=k5:=hs5
    refine exed [12,13] [(1,o7 sh ks m f s3)] [(5,w7 sh ks m f s3 (.tup []))] (cl2 tx75 cc10) ?_
    refine exn [] [(8,.bool true)] ?_
    exact rtM rfl (⟨⟨s3.st,s3.pls,s3.code⟩,true,(hI3).mono (by omega),fun q=>(hp6 (hk3 (hs5.symm.trans q)).1),(fun h=>by cases h),rfl,rfl⟩)
   ·refine a5 (exn [6,7,114] [(8,.bool true)] ?_)
    exact rtM rfl (⟨⟨s.st,s.pls,k4⟩,true,((hI.code k4)).mono (by omega),fun q=>(hp6 q),(fun h=>by cases h),rfl,rfl⟩)
  ·refine exn [104] [(184,.bool (op.toList==B50.toList))] ?_
   refine ecd (fun h5=> ?_) fun h5=> ?_
   ·obtain⟨_,_,⟨s4,hI4,hs7,rfl,rfl⟩,cc11⟩:=put_x sh ks m f np Lb ⟨s.st,s.pls,s.code⟩ hI ia hC (by omega)
    have hs7:s4.code=0→s.code=0:=hs7
    refine exed [6,7,18,184] [(1,o7 sh ks m f s4)] [(3,w7 sh ks m f s4 (.tup []))] (cl2 tx81 cc11) ?_
    refine exn [] [(8,.bool true)] ?_
    exact rtM rfl (⟨⟨s4.st,s4.pls,s4.code⟩,true,(hI4).mono (by omega),fun q=>(hs7 q),(fun h=>by cases h),rfl,rfl⟩)
   ·refine exn [184] [(196,.bool (op.toList==B26.toList))] ?_
    refine ecd (fun h6=> ?_) fun h6=> ?_
    ·obtain⟨_,_,⟨s5,mk1,hI5,hp7,hp8,hp9,rfl,rfl⟩,cc12⟩:=y5 sh ks m f np Lb ⟨s.st,s.pls,s.code⟩ hI [] (by simp) (by omega)
     have hp7:s5.code=0→s.code=0∧MkOk ks mk1∧([]=[]∨mk1.type∈[]):=hp7
     have hp8:s5.pls=s.pls:=hp8
     have hp8l:s5.pls.length=s.pls.length:=congrArg List.length hp8
     have hp9z:mk1.type.size≤4∧mk1.org.length≤10:=hp9
     refine exd [6,7,18,196] [(1,o7 sh ks m f s5),(14,.lf (.ptr 7 0)),(15,.cell 7 [.q mk1.type,.m 1 mk1.org rI])] [(1,w7 sh ks m f s5 (.agg [.q mk1.type,.m 1 mk1.org rI]))] (cl2 tx76 (CallM.nil (a:=[]) (b:=[]) (sz:=1) cc12)) ?_
     rcases bft (decide ((s5.code:Int)≠0))with g2|g2
     ·have g2p:=d5 g2
      obtain⟨_,_,⟨k6,hk4,rfl,rfl⟩,cc13⟩:=n6 sh ks m f np Lb ⟨s5.st,s5.pls,s5.code⟩ hI5 (decide (s5.code≠0)||canB (ableOf ks mk1.type) 2) 3 (by decide)
      have hk4:k6=0→s5.code=0∧(decide (s5.code≠0)||canB (ableOf ks mk1.type) 2)=true:=hk4
      refine exed [14,15] [(1,ob7 sh ks m f s5.st s5.pls k6)] [(5,.slot (.bool true)),(11,.slot (.bool (decide (s5.code≠0)||canB (ableOf ks mk1.type) 2))),(12,.mth (ob7L sh ks m f s5.st s5.pls k6) (ob7B s5.st s5.pls) (.tup []))] (a2 (kB g2) (a2 (kBs true (decide (s5.code≠0)||canB (ableOf ks mk1.type) 2)) (cl2 tx60 cc13))) ?_
      refine exn [] [(8,.bool true)] ?_
      exact rtM rfl (⟨⟨s5.st,s5.pls,k6⟩,true,((hI5.code k6)).mono (by omega),fun q=>(hp7 (hk4 q).1).1,(fun h=>by cases h),rfl,rfl⟩)
     ·have g2p:=i5 g2
      obtain⟨_,_,⟨rfl,rfl⟩,ca2⟩:=R2 sh ks m f np Lb ⟨s5.st,s5.pls,s5.code⟩ hI5 mk1.type 2 (by exact(hp7 (show s5.code=0 by omega)).2.1.ty.able) (by decide)
      obtain⟨_,_,⟨k6,hk4,rfl,rfl⟩,cc13⟩:=n6 sh ks m f np Lb ⟨s5.st,s5.pls,s5.code⟩ hI5 (decide (s5.code≠0)||canB (ableOf ks mk1.type) 2) 3 (by decide)
      have hk4:k6=0→s5.code=0∧(decide (s5.code≠0)||canB (ableOf ks mk1.type) 2)=true:=hk4
      refine exed [14,15] [(1,ob7 sh ks m f s5.st s5.pls k6)] [(5,.slot (.bool false)),(10,w7 sh ks m f s5 (.bool (canB (ableOf ks mk1.type) 2))),(11,.slot (.bool (decide (s5.code≠0)||canB (ableOf ks mk1.type) 2))),(12,.mth (ob7L sh ks m f s5.st s5.pls k6) (ob7B s5.st s5.pls) (.tup []))] (a2 (kB g2) (a2 (cl2 tx77 ca2) (a2 (kBs (canB (ableOf ks mk1.type) 2) (decide (s5.code≠0)||canB (ableOf ks mk1.type) 2)) (cl2 tx60 cc13)))) ?_
      refine exn [] [(8,.bool true)] ?_
      exact rtM rfl (⟨⟨s5.st,s5.pls,k6⟩,true,((hI5.code k6)).mono (by omega),fun q=>(hp7 (hk4 q).1).1,(fun h=>by cases h),rfl,rfl⟩)
    ·refine a7 (exn [196] [(230,.bool (op.toList==B32.toList))] ?_)
     refine ecd (fun h7=> ?_) fun h7=> ?_
     ·have h7r:=h7
      refine a5 (ecT h7r ?_)
      obtain⟨_,_,⟨s6,hI6,hs8,rfl,rfl⟩,cc14⟩:=a6P sh ks m f np Lb ⟨s.st,s.pls,s.code⟩ hI op ia ib hi9 hC (by omega)
      have hs8:s6.code=0→s.code=0:=hs8
      refine exed [6,7,18,230] [(1,o7 sh ks m f s6)] [(2,w7 sh ks m f s6 (.tup []))] (cl2 tx82 cc14) ?_
      refine exn [] [(8,.bool true)] ?_
      exact rtM rfl (⟨⟨s6.st,s6.pls,s6.code⟩,true,(hI6).mono (by omega),fun q=>(hs8 q),(fun h=>by cases h),rfl,rfl⟩)
     ·refine exed [18] [(230,.bool (op.toList==B51.toList))] [] AllP.nil ?_
      refine ecd (fun h8=> ?_) fun h8=> ?_
      ·obtain⟨_,_,⟨s7,hI7,hs9,rfl,rfl⟩,cc15⟩:=a6P sh ks m f np Lb ⟨s.st,s.pls,s.code⟩ hI op ia ib hi9 hC (by omega)
       have hs9:s7.code=0→s.code=0:=hs9
       refine exed [6,7,230] [(1,o7 sh ks m f s7)] [(2,w7 sh ks m f s7 (.tup []))] (cl2 tx82 cc15) ?_
       refine exn [] [(8,.bool true)] ?_
       exact rtM rfl (⟨⟨s7.st,s7.pls,s7.code⟩,true,(hI7).mono (by omega),fun q=>(hs9 q),(fun h=>by cases h),rfl,rfl⟩)
      ·refine exn [6,7,230] [(8,.bool false)] ?_
       exact rtM rfl (⟨⟨s.st,s.pls,s.code⟩,false,(hI).mono (by omega),fun q=>q,(fun _=>hI),rfl,rfl⟩)
theorem a6E (sh:List Mod)(ks:Kinds)(m:Nat)(f:Fn)(np Lb:Nat)(s:S7)(hI:I7 ks np Lb s)(op:ByteArray)(ia ib:Nat)(hi9:ia≤1000000∧ib≤1000000)(hC:C7 sh ks m f np)(hL:Lb≤900000):
 ∃o r,(fun o r=>∃s' b,(I7 ks np (Lb+4) s')∧(s'.code=0→s.code=0)∧(b=false→I7 ks np Lb s')∧o=ob7 sh ks m f s'.st s'.pls s'.code∧r= .bool b) o r∧CallM Try.prog 59 [.agg [.im true (.str op),.im true (.int .i64 ((ia:Nat):Int)),.im true (.int .i64 ((ib:Nat):Int))]] (ob7 sh ks m f s.st s.pls s.code) o r:=by
 refine CallME (fn:=Try.f59) TTok mixed Try.func59 rfl rfl rfl rfl rfl ?_
 have hm:=hC.hm
 have hk3:=hC.hk3
 have hr3:=hC.hr3
 have hLs:=hI.l
 have hnp:=hI.n
 have hnp2:=hC.hnp
 have hsml:=hC.sml
 refine ex [(0,.lf (.ptr obN 0)),(1,o7 sh ks m f s),(6,.lf (.ptr 3 0)),(7,.cell 3 [.q op,.z (ia:Int),.z (ib:Int)])] [] AllP.nil (by kernel_rfl) ?_
 refine a7 ?_
 obtain⟨zc,hz⟩:∃c,c=((!(op.toList==B11.toList))&&((!(op.toList==B17.toList))&&((!(op.toList==B16.toList))&&((!(op.toList==B20.toList))&&(!(op.toList==B21.toList)))))):=⟨_,rfl⟩
 refine ejd [] [(58,.bool zc)] (by
  rcases bft (!(op.toList==B11.toList))with g1|g1
  ·have g1p:=o4 g1
   rcases bft (!(op.toList==B17.toList))with g2|g2
   ·have g2p:=o4 g2
    rcases bft (!(op.toList==B16.toList))with g3|g3
    ·have g3p:=o4 g3
     rcases bft (!(op.toList==B20.toList))with g4|g4
     ·have g4p:=o4 g4
      exact runJ [(2,.slot (.bool true)),(6,.slot (.bool true)),(11,.slot (.bool true)),(16,.slot (.bool true)),(22,.slot (.bool zc))] (a2 (kB g1) (a2 (kB g2) (a2 (kB g3) (a2 (kB g4) (kBs (!(op.toList==B21.toList)) zc)))))
     ·have g4p:=o3 g4
      exact runJ [(2,.slot (.bool true)),(6,.slot (.bool true)),(11,.slot (.bool true)),(16,.slot (.bool false)),(22,.slot (.bool zc))] (a2 (kB g1) (a2 (kB g2) (a2 (kB g3) (a2 (kB g4) (kBs false zc)))))
    ·have g3p:=o3 g3
     exact runJ [(2,.slot (.bool true)),(6,.slot (.bool true)),(11,.slot (.bool false)),(22,.slot (.bool zc))] (a2 (kB g1) (a2 (kB g2) (a2 (kB g3) (kBs false zc))))
   ·have g2p:=o3 g2
    exact runJ [(2,.slot (.bool true)),(6,.slot (.bool false)),(22,.slot (.bool zc))] (a2 (kB g1) (a2 (kB g2) (kBs false zc)))
  ·have g1p:=o3 g1
   exact runJ [(2,.slot (.bool false)),(22,.slot (.bool zc))] (a2 (kB g1) (kBs false zc))) ?_
 subst hz
 refine ecd (fun h1=> ?_) fun h1=> ?_
 ·refine exn [6,7,58] [(8,.bool false)] ?_
  exact rtM rfl (⟨⟨s.st,s.pls,s.code⟩,false,(hI).mono (by omega),fun q=>q,(fun _=>hI),rfl,rfl⟩)
 ·refine a5 ?_
  obtain⟨_,_,⟨k1,t1,hp1,hp2,hp3,hp1z,rfl,rfl⟩,cc1⟩:=a6u sh ks m f np Lb ⟨s.st,s.pls,s.code⟩ hI ia hm hk3 hr3
  have hp1:t1≠⟨#[]⟩→ia<(nth ks m).length∧t1=kn m ia∧k1=s.code:=hp1
  have hp2:t1=⟨#[]⟩→k1≠0:=hp2
  have hp3:k1=0→s.code=0:=hp3
  have hfl:t1≠⟨#[]⟩→(nth (nth ks m) ia).fields.length≤3:=fun e=>(hC.fld ia (hp1 e).1).1
  refine exd [58] [(1,ob7 sh ks m f s.st s.pls k1),(10,.lf (.q t1))] [(3,.mth (ob7L sh ks m f s.st s.pls k1) (ob7B s.st s.pls) (.lf (.q t1)))] (cl2 tx83 cc1) ?_
  obtain⟨_,_,⟨k2,hk1,rfl,rfl⟩,cc2⟩:=n6 sh ks m f np Lb ⟨s.st,s.pls,k1⟩ (hI.code k1) ((t1.toList==B4.toList)||canB (ableOf ks t1) 8) 5 (by decide)
  have hk1:k2=0→k1=0∧((t1.toList==B4.toList)||canB (ableOf ks t1) 8)=true:=hk1
  refine ejd [] [(1,ob7 sh ks m f s.st s.pls k2)] (by
   rcases bft (t1.toList==B4.toList)with g5|g5
   ·exact runJ [(2,.slot (.bool true)),(7,.slot (.bool ((t1.toList==B4.toList)||canB (ableOf ks t1) 8))),(8,.mth (ob7L sh ks m f s.st s.pls k2) (ob7B s.st s.pls) (.tup []))] (a2 (kB g5) (a2 (kBs true ((t1.toList==B4.toList)||canB (ableOf ks t1) 8)) (cl2 tx60 cc2)))
   ·obtain⟨_,_,⟨rfl,rfl⟩,ca1⟩:=R2 sh ks m f np Lb ⟨s.st,s.pls,k1⟩ (hI.code k1) t1 8 (by exact(m7 (by have hh:=hp1 (by first|assumption|(simpa[bytes_ne']using g1p)|(exact bytes_ne'.1 (by assumption)));rw[hh.2.1];exact hC.kn hh.1)).able) (by decide)
    exact runJ [(2,.slot (.bool false)),(6,.mth (ob7L sh ks m f s.st s.pls k1) (ob7B s.st s.pls) (.bool (canB (ableOf ks t1) 8))),(7,.slot (.bool ((t1.toList==B4.toList)||canB (ableOf ks t1) 8))),(8,.mth (ob7L sh ks m f s.st s.pls k2) (ob7B s.st s.pls) (.tup []))] (a2 (kB g5) (a2 (cl2 tx77 ca1) (a2 (kBs (canB (ableOf ks t1) 8) ((t1.toList==B4.toList)||canB (ableOf ks t1) 8)) (cl2 tx60 cc2))))) ?_
  rcases bft (op.toList==B11.toList)with g6|g6
  ·have g6p:=g6
   obtain⟨_,_,⟨k3,hk2,rfl,rfl⟩,cc3⟩:=n6 sh ks m f np Lb ⟨s.st,s.pls,k2⟩ (hI.code k2) true 5 (by decide)
   have hk2:k3=0→k2=0∧true=true:=hk2
   refine exd [] [(1,ob7 sh ks m f s.st s.pls k3)] [(3,.slot (.bool true)),(19,.mth (ob7L sh ks m f s.st s.pls k3) (ob7B s.st s.pls) (.tup []))] (a2 (kB g6) (cl2 tx60 cc3)) ?_
   obtain⟨_,_,⟨s1,mk1,hI1,hp4,hp5,hp6,rfl,rfl⟩,cc5⟩:=y5 sh ks m f np Lb ⟨s.st,s.pls,k3⟩ (hI.code k3) [B9] (by simp) (by omega)
   have hp4:s1.code=0→k3=0∧MkOk ks mk1∧([B9]=[]∨mk1.type∈[B9]):=hp4
   have hp5:s1.pls=s.pls:=hp5
   have hp5l:s1.pls.length=s.pls.length:=congrArg List.length hp5
   have hp6z:mk1.type.size≤4∧mk1.org.length≤10:=hp6
   refine exd [] [(1,o7 sh ks m f s1)] [(1,.slot (.lf (.m 1 [B9] rS))),(2,w7 sh ks m f s1 (.agg [.q mk1.type,.m 1 mk1.org rI]))] (a2 (a1 (show([[.str B9]]:List (List SV))=([B9].map rS)from rfl)) (cl2 tx76 cc5)) ?_
   refine exd [] [(12,.int ((6+ia:Nat):Int))] [(2,.slot (.int ((6+ia:Nat):Int)))] (wIo (6+(ia:Int)) ((6+ia:Nat):Int)) ?_
   refine a7 (exn [6,7] [(140,.lf (.q op))] ?_)
   refine a9 (exn [] [(142,.bool (op.toList==B11.toList))] ?_)
   refine ecT g6 ?_
   obtain⟨_,_,⟨s2,mk2,hI2,hp7,hp8,hp9,rfl,rfl⟩,cc6⟩:=y5 sh ks m f np Lb ⟨s1.st,s1.pls,s1.code⟩ hI1 [t1] (by simp) (by omega)
   have hp7:s2.code=0→s1.code=0∧MkOk ks mk2∧([t1]=[]∨mk2.type∈[t1]):=hp7
   have hp8:s2.pls=s1.pls:=hp8
   have hp8l:s2.pls.length=s1.pls.length:=congrArg List.length hp8
   have hp9z:mk2.type.size≤4∧mk2.org.length≤10:=hp9
   refine exed [10,12,140,142] [(1,o7 sh ks m f s2)] [(2,.slot (.lf (.m 1 [t1] rS))),(3,w7 sh ks m f s2 (.agg [.q mk2.type,.m 1 mk2.org rI]))] (a2 (a1 (show([[.str t1]]:List (List SV))=([t1].map rS)from rfl)) (cl2 tx76 cc6)) ?_
   refine exn [] [(8,.bool true)] ?_
   exact rtM rfl (⟨⟨s2.st,s2.pls,s2.code⟩,true,(hI2).mono (by omega),fun q=>(hp3 (hk1 (hk2 (hp4 (hp7 q).1).1).1).1),(fun h=>by cases h),rfl,rfl⟩)
  ·have g6p:=g6
   rcases bft (op.toList==B16.toList)with g7|g7
   ·have g7p:=g7
    obtain⟨_,_,⟨k3,hk2,rfl,rfl⟩,cc3⟩:=n6 sh ks m f np Lb ⟨s.st,s.pls,k2⟩ (hI.code k2) true 5 (by decide)
    have hk2:k3=0→k2=0∧true=true:=hk2
    refine exd [] [(1,ob7 sh ks m f s.st s.pls k3)] [(3,.slot (.bool false)),(7,.slot (.bool true)),(19,.mth (ob7L sh ks m f s.st s.pls k3) (ob7B s.st s.pls) (.tup []))] (a2 (kB g6) (a2 (kB g7) (cl2 tx60 cc3))) ?_
    obtain⟨_,_,⟨s3,mk3,hI3,hp10,hp11,hp12,rfl,rfl⟩,cc7⟩:=y5 sh ks m f np Lb ⟨s.st,s.pls,k3⟩ (hI.code k3) [B9] (by simp) (by omega)
    have hp10:s3.code=0→k3=0∧MkOk ks mk3∧([B9]=[]∨mk3.type∈[B9]):=hp10
    have hp11:s3.pls=s.pls:=hp11
    have hp11l:s3.pls.length=s.pls.length:=congrArg List.length hp11
    have hp12z:mk3.type.size≤4∧mk3.org.length≤10:=hp12
    refine exd [] [(1,o7 sh ks m f s3)] [(1,.slot (.lf (.m 1 [B9] rS))),(2,w7 sh ks m f s3 (.agg [.q mk3.type,.m 1 mk3.org rI]))] (a2 (a1 (show([[.str B9]]:List (List SV))=([B9].map rS)from rfl)) (cl2 tx76 cc7)) ?_
    refine exd [] [(12,.int ((6+ia:Nat):Int))] [(2,.slot (.int ((6+ia:Nat):Int)))] (wIo (6+(ia:Int)) ((6+ia:Nat):Int)) ?_
    refine a7 (exn [6,7] [(140,.lf (.q op))] ?_)
    refine a9 (exn [] [(142,.bool (op.toList==B11.toList))] ?_)
    refine ecF g6 ?_
    refine exn [142] [(154,.bool (op.toList==B17.toList))] ?_
    refine ecd (fun h2=> ?_) fun h2=> ?_
    ·obtain⟨_,⟨b2,rfl⟩,cc8⟩:=Y9 s3.st s3.pls (by have:=(hI3).l;(try simp only at this);omega) (fun x hx=>((hI3).st x hx).len) (by have:=(hI3).n;(try simp only at this);omega) (fun x hx=>((hI3).pl x hx).len) ((6+ia:Nat):Int)
     obtain⟨_,_,⟨k4,hk3,rfl,rfl⟩,cc9⟩:=n6 sh ks m f np Lb ⟨s3.st,s3.pls,s3.code⟩ hI3 (!b2) 4 (by decide)
     have hk3:k4=0→s3.code=0∧(!b2)=true:=hk3
     refine exd [12,140,154] [(1,ob7 sh ks m f s3.st s3.pls k4)] [(6,.ret (.bool b2)),(8,.mth (ob7L sh ks m f s3.st s3.pls k4) (ob7B s3.st s3.pls) (.tup []))] (a2 (hl ((s3.st.map rMk).length)) (a2 (hl ((s3.pls.map rMk).length)) (a2 (cl tx80 cc8) (cl2 tx60 cc9)))) ?_
     obtain⟨_,_,⟨s4,hI4,hs1,hs2,rfl,rfl⟩,cc10⟩:=o2 sh ks m f np Lb ⟨s3.st,s3.pls,k4⟩ (hI3.code k4) t1 [] (fun q=>J6 (m7 (by have hz:=(hk1 (hk2 (hp10 (hk3 q).1).1).1).1;have hne:t1≠⟨#[]⟩:=fun e=>hp2 e hz;have hh:=hp1 hne;rw[hh.2.1];exact hC.kn hh.1)) (by simp)) (by omega) (by first|(simp;done)|omega|assumption)
     have hs1:s4.code=k4:=hs1
     refine exed [10] [(1,o7 sh ks m f s4)] [(2,w7 sh ks m f s4 (.tup []))] (cl2 tx75 (CallM.nil (a:=[.lf (.q t1)]) (b:=[]) (sz:=1) cc10)) ?_
     refine exn [] [(8,.bool true)] ?_
     exact rtM rfl (⟨⟨s4.st,s4.pls,s4.code⟩,true,(hI4).mono (by omega),fun q=>(hp3 (hk1 (hk2 (hp10 (hk3 (hs1.symm.trans q)).1).1).1).1),(fun h=>by cases h),rfl,rfl⟩)
    ·refine exn [154] [(182,.bool (op.toList==B16.toList))] ?_
     refine ecT g7 ?_
     obtain⟨_,_,⟨s5,hI5,hs3,hs4,rfl,rfl⟩,cc11⟩:=o2 sh ks m f np Lb ⟨s3.st,s3.pls,s3.code⟩ hI3 B3 [] (fun _=>a1Z) (by omega) (by first|(simp;done)|omega|assumption)
     have hs3:s5.code=s3.code:=hs3
     refine exed [10,12,140,182] [(1,o7 sh ks m f s5)] [(1,w7 sh ks m f s5 (.tup []))] (cl2 tx75 (CallM.nil (a:=[.lf (.q B3)]) (b:=[]) (sz:=1) cc11)) ?_
     refine exn [] [(8,.bool true)] ?_
     exact rtM rfl (⟨⟨s5.st,s5.pls,s5.code⟩,true,(hI5).mono (by omega),fun q=>(hp3 (hk1 (hk2 (hp10 (hs3.symm.trans q)).1).1).1),(fun h=>by cases h),rfl,rfl⟩)
   ·have g7p:=g7
    obtain⟨_,⟨b1,rfl⟩,cc3⟩:=in_x f.takes (by omega) (ia:Int)
    obtain⟨_,_,⟨k3,hk2,rfl,rfl⟩,cc4⟩:=n6 sh ks m f np Lb ⟨s.st,s.pls,k2⟩ (hI.code k2) b1 5 (by decide)
    have hk2:k3=0→k2=0∧b1=true:=hk2
    refine exd [] [(1,ob7 sh ks m f s.st s.pls k3)] [(3,.slot (.bool false)),(7,.slot (.bool false)),(17,.ret (.bool b1)),(19,.mth (ob7L sh ks m f s.st s.pls k3) (ob7B s.st s.pls) (.tup []))] (a2 (kB g6) (a2 (kB g7) (a2 (cl tx15 cc3) (cl2 tx60 cc4)))) ?_
    obtain⟨_,_,⟨s6,mk4,hI6,hp13,hp14,hp15,rfl,rfl⟩,cc12⟩:=y5 sh ks m f np Lb ⟨s.st,s.pls,k3⟩ (hI.code k3) [B9] (by simp) (by omega)
    have hp13:s6.code=0→k3=0∧MkOk ks mk4∧([B9]=[]∨mk4.type∈[B9]):=hp13
    have hp14:s6.pls=s.pls:=hp14
    have hp14l:s6.pls.length=s.pls.length:=congrArg List.length hp14
    have hp15z:mk4.type.size≤4∧mk4.org.length≤10:=hp15
    refine exd [] [(1,o7 sh ks m f s6)] [(1,.slot (.lf (.m 1 [B9] rS))),(2,w7 sh ks m f s6 (.agg [.q mk4.type,.m 1 mk4.org rI]))] (a2 (a1 (show([[.str B9]]:List (List SV))=([B9].map rS)from rfl)) (cl2 tx76 cc12)) ?_
    refine exd [] [(12,.int ((6+ia:Nat):Int))] [(2,.slot (.int ((6+ia:Nat):Int)))] (wIo (6+(ia:Int)) ((6+ia:Nat):Int)) ?_
    refine a7 (exn [6,7] [(140,.lf (.q op))] ?_)
    refine a9 (exn [] [(142,.bool (op.toList==B11.toList))] ?_)
    refine ecF g6 ?_
    refine exn [142] [(154,.bool (op.toList==B17.toList))] ?_
    refine ecd (fun h3=> ?_) fun h3=> ?_
    ·obtain⟨_,⟨b3,rfl⟩,cc13⟩:=Y9 s6.st s6.pls (by have:=(hI6).l;(try simp only at this);omega) (fun x hx=>((hI6).st x hx).len) (by have:=(hI6).n;(try simp only at this);omega) (fun x hx=>((hI6).pl x hx).len) ((6+ia:Nat):Int)
     obtain⟨_,_,⟨k5,hk4,rfl,rfl⟩,cc14⟩:=n6 sh ks m f np Lb ⟨s6.st,s6.pls,s6.code⟩ hI6 (!b3) 4 (by decide)
     have hk4:k5=0→s6.code=0∧(!b3)=true:=hk4
     refine exd [12,140,154] [(1,ob7 sh ks m f s6.st s6.pls k5)] [(6,.ret (.bool b3)),(8,.mth (ob7L sh ks m f s6.st s6.pls k5) (ob7B s6.st s6.pls) (.tup []))] (a2 (hl ((s6.st.map rMk).length)) (a2 (hl ((s6.pls.map rMk).length)) (a2 (cl tx80 cc13) (cl2 tx60 cc14)))) ?_
     obtain⟨_,_,⟨s7,hI7,hs5,hs6,rfl,rfl⟩,cc15⟩:=o2 sh ks m f np Lb ⟨s6.st,s6.pls,k5⟩ (hI6.code k5) t1 [] (fun q=>J6 (m7 (by have hz:=(hk1 (hk2 (hp13 (hk4 q).1).1).1).1;have hne:t1≠⟨#[]⟩:=fun e=>hp2 e hz;have hh:=hp1 hne;rw[hh.2.1];exact hC.kn hh.1)) (by simp)) (by omega) (by first|(simp;done)|omega|assumption)
     have hs5:s7.code=k5:=hs5
     refine exed [10] [(1,o7 sh ks m f s7)] [(2,w7 sh ks m f s7 (.tup []))] (cl2 tx75 (CallM.nil (a:=[.lf (.q t1)]) (b:=[]) (sz:=1) cc15)) ?_
     refine exn [] [(8,.bool true)] ?_
     exact rtM rfl (⟨⟨s7.st,s7.pls,s7.code⟩,true,(hI7).mono (by omega),fun q=>(hp3 (hk1 (hk2 (hp13 (hk4 (hs5.symm.trans q)).1).1).1).1),(fun h=>by cases h),rfl,rfl⟩)
    ·refine exn [154] [(182,.bool (op.toList==B16.toList))] ?_
     refine ecF g7 ?_
     refine exn [182] [(190,.bool (op.toList==B20.toList))] ?_
     refine ecd (fun h4=> ?_) fun h4=> ?_
     ·obtain⟨_,⟨b4,rfl⟩,cc16⟩:=a4V s6.st s6.pls (by have:=(hI6).l;(try simp only at this);omega) (fun x hx=>((hI6).st x hx).len) (by have:=(hI6).n;(try simp only at this);omega) (fun x hx=>((hI6).pl x hx).len) ((6+ia:Nat):Int)
      obtain⟨_,_,⟨k6,hk5,rfl,rfl⟩,cc17⟩:=n6 sh ks m f np Lb ⟨s6.st,s6.pls,s6.code⟩ hI6 (!b4) 4 (by decide)
      have hk5:k6=0→s6.code=0∧(!b4)=true:=hk5
      refine exd [140,190] [(1,ob7 sh ks m f s6.st s6.pls k6)] [(6,.ret (.bool b4)),(8,.mth (ob7L sh ks m f s6.st s6.pls k6) (ob7B s6.st s6.pls) (.tup []))] (a2 (hl ((s6.st.map rMk).length)) (a2 (hl ((s6.pls.map rMk).length)) (a2 (cl tx79 cc16) (cl2 tx60 cc17)))) ?_
      obtain⟨_,_,⟨s8,hI8,hs7,hs8,rfl,rfl⟩,cc18⟩:=o2 sh ks m f np Lb ⟨s6.st,s6.pls,k6⟩ (hI6.code k6) (B8++t1) [((6+ia:Nat):Int)] (fun q=>J6 (H0 (by have hz:=(hk1 (hk2 (hp13 (hk5 q).1).1).1).1;have hne:t1≠⟨#[]⟩:=fun e=>hp2 e hz;have hh:=hp1 hne;rw[hh.2.1];exact hC.kn hh.1)) (by simp)) (by omega) (by first|(simp;done)|omega|assumption)
      have hs7:s8.code=k6:=hs7
      refine exed [10,12] [(1,o7 sh ks m f s8)] [(4,.slot (.lf (.m 1 [((6+ia:Nat):Int)] rI))),(5,w7 sh ks m f s8 (.tup []))] (a2 (a1 (StrFit.mk (a:=B8) (b:=t1) (by exact strf (by have q1:B8.size=1:=rfl;have q2:B6.size=1:=rfl;first|omega|(simp only[ByteArray.size_append];omega))))) (a2 (a1 (show([[.int .i64 ((6+ia:Nat):Int)]]:List (List SV))=([((6+ia:Nat):Int)].map rI)from rfl)) (cl2 tx75 cc18))) ?_
      refine exn [] [(8,.bool true)] ?_
      exact rtM rfl (⟨⟨s8.st,s8.pls,s8.code⟩,true,(hI8).mono (by omega),fun q=>(hp3 (hk1 (hk2 (hp13 (hk5 (hs7.symm.trans q)).1).1).1).1),(fun h=>by cases h),rfl,rfl⟩)
     ·refine exn [140,190] [(224,.bool (op.toList==B21.toList))] ?_
      refine ecd (fun h5=> ?_) fun h5=> ?_
      ·obtain⟨_,⟨b5,rfl⟩,cc19⟩:=Y9 s6.st s6.pls (by have:=(hI6).l;(try simp only at this);omega) (fun x hx=>((hI6).st x hx).len) (by have:=(hI6).n;(try simp only at this);omega) (fun x hx=>((hI6).pl x hx).len) ((6+ia:Nat):Int)
       obtain⟨_,_,⟨k7,hk6,rfl,rfl⟩,cc20⟩:=n6 sh ks m f np Lb ⟨s6.st,s6.pls,s6.code⟩ hI6 (!b5) 4 (by decide)
       have hk6:k7=0→s6.code=0∧(!b5)=true:=hk6
       refine exd [224] [(1,ob7 sh ks m f s6.st s6.pls k7)] [(6,.ret (.bool b5)),(8,.mth (ob7L sh ks m f s6.st s6.pls k7) (ob7B s6.st s6.pls) (.tup []))] (a2 (hl ((s6.st.map rMk).length)) (a2 (hl ((s6.pls.map rMk).length)) (a2 (cl tx80 cc19) (cl2 tx60 cc20)))) ?_
       obtain⟨_,_,⟨s9,hI9,hs9,hs10,rfl,rfl⟩,cc21⟩:=o2 sh ks m f np Lb ⟨s6.st,s6.pls,k7⟩ (hI6.code k7) (B6++t1) [((6+ia:Nat):Int)] (fun q=>J6 (Q5 (by have hz:=(hk1 (hk2 (hp13 (hk6 q).1).1).1).1;have hne:t1≠⟨#[]⟩:=fun e=>hp2 e hz;have hh:=hp1 hne;rw[hh.2.1];exact hC.kn hh.1)) (by simp)) (by omega) (by first|(simp;done)|omega|assumption)
       have hs9:s9.code=k7:=hs9
       refine exed [10,12] [(1,o7 sh ks m f s9)] [(4,.slot (.lf (.m 1 [((6+ia:Nat):Int)] rI))),(5,w7 sh ks m f s9 (.tup []))] (a2 (a1 (StrFit.mk (a:=B6) (b:=t1) (by exact strf (by have q1:B8.size=1:=rfl;have q2:B6.size=1:=rfl;first|omega|(simp only[ByteArray.size_append];omega))))) (a2 (a1 (show([[.int .i64 ((6+ia:Nat):Int)]]:List (List SV))=([((6+ia:Nat):Int)].map rI)from rfl)) (cl2 tx75 cc21))) ?_
       refine exn [] [(8,.bool true)] ?_
       exact rtM rfl (⟨⟨s9.st,s9.pls,s9.code⟩,true,(hI9).mono (by omega),fun q=>(hp3 (hk1 (hk2 (hp13 (hk6 (hs9.symm.trans q)).1).1).1).1),(fun h=>by cases h),rfl,rfl⟩)
      ·refine a5 (exn [10,12,224] [(8,.bool true)] ?_)
       exact rtM rfl (⟨⟨s6.st,s6.pls,s6.code⟩,true,(hI6).mono (by omega),fun q=>(hp3 (hk1 (hk2 (hp13 q).1).1).1),(fun h=>by cases h),rfl,rfl⟩)
theorem a5z (sh:List Mod)(ks:Kinds)(m:Nat)(f:Fn)(np Lb:Nat)(s:S7)(hI:I7 ks np Lb s)(op:ByteArray)(ia ib:Nat)(hi9:ia≤1000000∧ib≤1000000)(hC:C7 sh ks m f np)(hL:Lb≤900000):
 ∃o r,(fun o r=>∃s' b,(I7 ks np (Lb+4) s')∧(s'.code=0→s.code=0)∧(b=false→I7 ks np Lb s')∧o=ob7 sh ks m f s'.st s'.pls s'.code∧r= .bool b) o r∧CallM Try.prog 58 [.agg [.im true (.str op),.im true (.int .i64 ((ia:Nat):Int)),.im true (.int .i64 ((ib:Nat):Int))]] (ob7 sh ks m f s.st s.pls s.code) o r:=by
 refine CallME (fn:=Try.f58) TTok mixed Try.func58 rfl rfl rfl rfl rfl ?_
 have hm:=hC.hm
 have hk3:=hC.hk3
 have hr3:=hC.hr3
 have hLs:=hI.l
 have hnp:=hI.n
 have hnp2:=hC.hnp
 have hsml:=hC.sml
 refine ex [(0,.lf (.ptr obN 0)),(1,o7 sh ks m f s),(6,.lf (.ptr 3 0)),(7,.cell 3 [.q op,.z (ia:Int),.z (ib:Int)])] [] AllP.nil (by kernel_rfl) ?_
 refine a7 (exn [] [(32,.lf (.q op))] ?_)
 refine a9 (exn [] [(34,.bool (op.toList==B24.toList))] ?_)
 refine ecd (fun h1=> ?_) fun h1=> ?_
 ·obtain⟨_,_,⟨k1,t1,hp1,hp2,hp3,hp1z,rfl,rfl⟩,cc1⟩:=a6u sh ks m f np Lb ⟨s.st,s.pls,s.code⟩ hI ia hm hk3 hr3
  have hp1:t1≠⟨#[]⟩→ia<(nth ks m).length∧t1=kn m ia∧k1=s.code:=hp1
  have hp2:t1=⟨#[]⟩→k1≠0:=hp2
  have hp3:k1=0→s.code=0:=hp3
  have hfl:t1≠⟨#[]⟩→(nth (nth ks m) ia).fields.length≤3:=fun e=>(hC.fld ia (hp1 e).1).1
  refine exd [32,34] [(1,ob7 sh ks m f s.st s.pls k1),(10,.lf (.q t1))] [(3,.mth (ob7L sh ks m f s.st s.pls k1) (ob7B s.st s.pls) (.lf (.q t1)))] (cl2 tx83 cc1) ?_
  refine a7 (exn [] [(12,.int 0)] ?_)
  refine a9 (eld (fun l0 n L=>∃(i:Nat) (tt:S7),L=upG [] [(1,o7 sh ks m f tt),(12,.int (i:Int))] l0∧n=4-i∧(i≤3∧I7 ks np Lb tt∧(tt.code=0→k1=0))) _ ⟨0,⟨s.st,s.pls,k1⟩,rfl,rfl,⟨by omega,(hI.code k1),fun h=>h⟩⟩ ?_)
  rintro n L ⟨i,tt,rfl,rfl,hP1⟩
  have hIt:=hP1.2.1
  have hct:=hP1.2.2
  refine a7 ?_
  rcases bft (!(t1.toList==B4.toList))with g1|g1
  ·have g1p:=o4 g1
   refine exd [] [(88,.bool (decide ((i:Int)<((((nth (nth ks m) ia).fields).length:Nat):Int))))] [(1,.slot (.bool true)),(12,.row (rRecs (nth ks m))),(16,.row (rRec (nth (nth ks m) ia))),(19,.slot (.int ((((nth (nth ks m) ia).fields).length:Nat):Int)))] (a2 (kB g1) (a2 (ixn rRecs ks m (by first|omega|exact(hp1 (bytes_ne'.1 (by assumption))).1)) (a2 (ixn rRec (nth ks m) ia (by first|omega|exact(hp1 (bytes_ne'.1 (by assumption))).1)) (lnl ((nth (nth ks m) ia).fields) rS)))) ?_
   refine ecp (fun h2=> ?_) fun h2=> ?_
   ·refine a5 (a7 (a9 (exd [88] [(14,.lf (.m 1 ((nth (nth ks m) ia).fields) rS))] [(8,.row (rRecs (nth ks m))),(12,.row (rRec (nth (nth ks m) ia)))] (a2 (ixn rRecs ks m (by first|omega|exact(hp1 (bytes_ne'.1 (by assumption))).1)) (ixn rRec (nth ks m) ia (by first|omega|exact(hp1 (bytes_ne'.1 (by assumption))).1))) ?_)))
    obtain⟨_,_,⟨s1,mk1,hI1,hp4,hp5,hp6,rfl,rfl⟩,cc2⟩:=y5 sh ks m f np Lb ⟨tt.st,tt.pls,tt.code⟩ hIt [(nth ((nth (nth ks m) ia).fields) ((nth (nth ks m) ia).fields.length-1-i))] (by simp) (by omega)
    have hp4:s1.code=0→tt.code=0∧MkOk ks mk1∧([(nth ((nth (nth ks m) ia).fields) ((nth (nth ks m) ia).fields.length-1-i))]=[]∨mk1.type∈[(nth ((nth (nth ks m) ia).fields) ((nth (nth ks m) ia).fields.length-1-i))]):=hp4
    have hp5:s1.pls=tt.pls:=hp5
    have hp5l:s1.pls.length=tt.pls.length:=congrArg List.length hp5
    have hp6z:mk1.type.size≤4∧mk1.org.length≤10:=hp6
    refine exed [14] [(1,o7 sh ks m f s1)] [(3,.slot (.int ((((nth (nth ks m) ia).fields).length:Nat):Int))),(4,.slot (.int (((nth (nth ks m) ia).fields.length-1:Nat):Int))),(6,.slot (.int (((nth (nth ks m) ia).fields.length-1-i:Nat):Int))),(7,.row (rS (nth ((nth (nth ks m) ia).fields) ((nth (nth ks m) ia).fields.length-1-i)))),(9,.slot (.lf (.m 1 [(nth ((nth (nth ks m) ia).fields) ((nth (nth ks m) ia).fields.length-1-i))] rS))),(10,w7 sh ks m f s1 (.agg [.q mk1.type,.m 1 mk1.org rI]))] (a2 (lnl ((nth (nth ks m) ia).fields) rS) (a2 (wI (a:=((((nth (nth ks m) ia).fields).length:Nat):Int)-1) (b:=(((nth (nth ks m) ia).fields.length-1:Nat):Int)) (by first|omega|(have:=hfl (bytes_ne'.1 (by assumption));omega)) (by first|omega|(have:=hfl (bytes_ne'.1 (by assumption));omega)) (by first|omega|(have:=hfl (bytes_ne'.1 (by assumption));omega))) (a2 (wI (a:=(((nth (nth ks m) ia).fields.length-1:Nat):Int)-(i:Int)) (b:=(((nth (nth ks m) ia).fields.length-1-i:Nat):Int)) (by first|omega|(have:=hfl (bytes_ne'.1 (by assumption));omega)) (by first|omega|(have:=hfl (bytes_ne'.1 (by assumption));omega)) (by first|omega|(have:=hfl (bytes_ne'.1 (by assumption));omega))) (a2 (ixn rS ((nth (nth ks m) ia).fields) ((nth (nth ks m) ia).fields.length-1-i) (by first|omega|exact(hp1 (bytes_ne'.1 (by assumption))).1)) (a2 (a1 (show([[.str (nth ((nth (nth ks m) ia).fields) ((nth (nth ks m) ia).fields.length-1-i))]]:List (List SV))=([(nth ((nth (nth ks m) ia).fields) ((nth (nth ks m) ia).fields.length-1-i))].map rS)from rfl)) (cl2 tx76 cc2)))))) ?_
    exact exed [] [(1,ob7 sh ks m f ((⟨s1.st,s1.pls,s1.code⟩:S7).st) ((⟨s1.st,s1.pls,s1.code⟩:S7).pls) ((⟨s1.st,s1.pls,s1.code⟩:S7).code)),(12,.int (↑(i+1):Int))] [(1,.slot (.int (↑(i+1):Int)))] (wI1 i) (⟨_,by first|omega|(have:=hfl (bytes_ne'.1 (by assumption));omega),(i+1),⟨s1.st,s1.pls,s1.code⟩,rfl,rfl,⟨by first|omega|(have:=hfl (bytes_ne'.1 (by assumption));omega),hI1,fun q=>hct (hp4 q).1⟩⟩)
   ·refine d9 ?_
    obtain⟨_,_,⟨s2,hI2,hs1,hs2,rfl,rfl⟩,cc3⟩:=o2 sh ks m f np Lb ⟨tt.st,tt.pls,tt.code⟩ hIt t1 [] (fun q=>J6 (m7 (by have hz:=(hct q);have hne:t1≠⟨#[]⟩:=fun e=>hp2 e hz;have hh:=hp1 hne;rw[hh.2.1];exact hC.kn hh.1)) (by simp)) (by omega) (by first|(simp;done)|omega|assumption)
    have hs1:s2.code=tt.code:=hs1
    refine exed [6,7,10,12,88] [(1,o7 sh ks m f s2)] [(2,w7 sh ks m f s2 (.tup []))] (cl2 tx75 (CallM.nil (a:=[.lf (.q t1)]) (b:=[]) (sz:=1) cc3)) ?_
    refine exn [] [(8,.bool true)] ?_
    exact rtM rfl (⟨⟨s2.st,s2.pls,s2.code⟩,true,(hI2).mono (by omega),fun q=>(hp3 (hct (hs1.symm.trans q))),(fun h=>by cases h),rfl,rfl⟩)
  ·have g1p:=o3 g1
   refine exd [] [(88,.bool false)] [(1,.slot (.bool false))] (kB g1) ?_
   refine ecF rfl ?_
   refine d9 ?_
   obtain⟨_,_,⟨s3,hI3,hs3,hs4,rfl,rfl⟩,cc4⟩:=o2 sh ks m f np Lb ⟨tt.st,tt.pls,tt.code⟩ hIt t1 [] (fun q=>J6 (m7 (by have hz:=(hct q);have hne:t1≠⟨#[]⟩:=fun e=>hp2 e hz;have hh:=hp1 hne;rw[hh.2.1];exact hC.kn hh.1)) (by simp)) (by omega) (by first|(simp;done)|omega|assumption)
   have hs3:s3.code=tt.code:=hs3
   refine exed [6,7,10,12,88] [(1,o7 sh ks m f s3)] [(2,w7 sh ks m f s3 (.tup []))] (cl2 tx75 (CallM.nil (a:=[.lf (.q t1)]) (b:=[]) (sz:=1) cc4)) ?_
   refine exn [] [(8,.bool true)] ?_
   exact rtM rfl (⟨⟨s3.st,s3.pls,s3.code⟩,true,(hI3).mono (by omega),fun q=>(hp3 (hct (hs3.symm.trans q))),(fun h=>by cases h),rfl,rfl⟩)
 ·refine exn [34] [(152,.bool (op.toList==B22.toList))] ?_
  refine ecd (fun h4=> ?_) fun h4=> ?_
  ·obtain⟨_,_,⟨k2,t2,hp7,hp8,hp9,hp7z,rfl,rfl⟩,cc5⟩:=a6u sh ks m f np Lb ⟨s.st,s.pls,s.code⟩ hI ia hm hk3 hr3
   have hp7:t2≠⟨#[]⟩→ia<(nth ks m).length∧t2=kn m ia∧k2=s.code:=hp7
   have hp8:t2=⟨#[]⟩→k2≠0:=hp8
   have hp9:k2=0→s.code=0:=hp9
   have hfl:t2≠⟨#[]⟩→(nth (nth ks m) ia).fields.length≤3:=fun e=>(hC.fld ia (hp7 e).1).1
   refine exd [32,152] [(1,ob7 sh ks m f s.st s.pls k2),(16,.lf (.q t2))] [(3,.mth (ob7L sh ks m f s.st s.pls k2) (ob7B s.st s.pls) (.lf (.q t2)))] (cl2 tx83 cc5) ?_
   obtain⟨_,_,⟨s4,mk2,hI4,hp10,hp11,hp12,rfl,rfl⟩,cc6⟩:=y5 sh ks m f np Lb ⟨s.st,s.pls,k2⟩ (hI.code k2) [t2] (by simp) (by omega)
   have hp10:s4.code=0→k2=0∧MkOk ks mk2∧([t2]=[]∨mk2.type∈[t2]):=hp10
   have hp11:s4.pls=s.pls:=hp11
   have hp11l:s4.pls.length=s.pls.length:=congrArg List.length hp11
   have hp12z:mk2.type.size≤4∧mk2.org.length≤10:=hp12
   refine exd [] [(1,o7 sh ks m f s4)] [(2,.slot (.lf (.m 1 [t2] rS))),(3,w7 sh ks m f s4 (.agg [.q mk2.type,.m 1 mk2.org rI]))] (a2 (a1 (show([[.str t2]]:List (List SV))=([t2].map rS)from rfl)) (cl2 tx76 cc6)) ?_
   refine exn [] [(18,.int 0)] ?_
   refine a9 (eld (fun l0 n L=>∃(i:Nat) (tt:S7),L=upG [] [(1,o7 sh ks m f tt),(18,.int (i:Int))] l0∧n=4-i∧(i≤3∧I7 ks np (Lb+i) tt∧(tt.code=0→s4.code=0))) _ ⟨0,⟨s4.st,s4.pls,s4.code⟩,rfl,rfl,⟨by omega,hI4,fun h=>h⟩⟩ ?_)
   rintro n L ⟨i,tt,rfl,rfl,hP2⟩
   have hIt:=hP2.2.1
   have hct:=hP2.2.2
   refine a7 ?_
   rcases bft (!(t2.toList==B4.toList))with g2|g2
   ·have g2p:=o4 g2
    refine exd [] [(214,.bool (decide ((i:Int)<((((nth (nth ks m) ia).fields).length:Nat):Int))))] [(1,.slot (.bool true)),(12,.row (rRecs (nth ks m))),(16,.row (rRec (nth (nth ks m) ia))),(19,.slot (.int ((((nth (nth ks m) ia).fields).length:Nat):Int)))] (a2 (kB g2) (a2 (ixn rRecs ks m (by first|omega|exact(hp7 (bytes_ne'.1 (by assumption))).1)) (a2 (ixn rRec (nth ks m) ia (by first|omega|exact(hp7 (bytes_ne'.1 (by assumption))).1)) (lnl ((nth (nth ks m) ia).fields) rS)))) ?_
    refine ecp (fun h5=> ?_) fun h5=> ?_
    ·refine a5 ?_
     refine a7 ?_
     refine a9 ?_
     obtain⟨_,_,⟨s5,hI5,hs5,hs6,rfl,rfl⟩,cc7⟩:=o2 sh ks m f np (Lb+i) ⟨tt.st,tt.pls,tt.code⟩ hIt (nth ((nth (nth ks m) ia).fields) i) [] (fun _=>J6 (m7 ((hC.fld ia (hp7 (bytes_ne'.1 (by assumption))).1).2 _ (c6 (by omega)))) (by simp)) (by omega) (by first|(simp;done)|exact hp12z.2|omega)
     have hs5:s5.code=tt.code:=hs5
     refine exed [214] [(1,o7 sh ks m f s5)] [(9,.row (rRecs (nth ks m))),(13,.row (rRec (nth (nth ks m) ia))),(17,.row (rS (nth ((nth (nth ks m) ia).fields) i))),(19,w7 sh ks m f s5 (.tup []))] (a2 (ixn rRecs ks m (by first|omega|exact(hp7 (bytes_ne'.1 (by assumption))).1)) (a2 (ixn rRec (nth ks m) ia (by first|omega|exact(hp7 (bytes_ne'.1 (by assumption))).1)) (a2 (ixn rS ((nth (nth ks m) ia).fields) i (by first|omega|exact(hp7 (bytes_ne'.1 (by assumption))).1)) (cl2 tx75 (CallM.nil (a:=[.lf (.q (nth ((nth (nth ks m) ia).fields) i))]) (b:=[]) (sz:=1) cc7))))) ?_
     exact exed [] [(1,ob7 sh ks m f ((⟨s5.st,s5.pls,s5.code⟩:S7).st) ((⟨s5.st,s5.pls,s5.code⟩:S7).pls) ((⟨s5.st,s5.pls,s5.code⟩:S7).code)),(18,.int (↑(i+1):Int))] [(1,.slot (.int (↑(i+1):Int)))] (wI1 i) (⟨_,by first|omega|(have:=hfl (bytes_ne'.1 (by assumption));omega),(i+1),⟨s5.st,s5.pls,s5.code⟩,rfl,rfl,⟨by first|omega|(have:=hfl (bytes_ne'.1 (by assumption));omega),hI5,fun q=>hct (hs5.symm.trans q)⟩⟩)
    ·refine d9 (exn [6,7,16,18,214] [(8,.bool true)] ?_)
     exact rtM rfl (⟨⟨tt.st,tt.pls,tt.code⟩,true,(hIt).mono (by omega),fun q=>(hp9 (hp10 (hct q)).1),(fun h=>by cases h),rfl,rfl⟩)
   ·have g2p:=o3 g2
    refine exd [] [(214,.bool false)] [(1,.slot (.bool false))] (kB g2) ?_
    refine ecF rfl ?_
    refine d9 (exn [6,7,16,18,214] [(8,.bool true)] ?_)
    exact rtM rfl (⟨⟨tt.st,tt.pls,tt.code⟩,true,(hIt).mono (by omega),fun q=>(hp9 (hp10 (hct q)).1),(fun h=>by cases h),rfl,rfl⟩)
  ·refine exn [152] [(260,.bool (op.toList==B52.toList))] ?_
   refine ecd (fun h7=> ?_) fun h7=> ?_
   ·obtain⟨_,_,⟨k3,t3,hp13,hp14,hp15,hp13z,rfl,rfl⟩,cc8⟩:=a6u sh ks m f np Lb ⟨s.st,s.pls,s.code⟩ hI ib hm hk3 hr3
    have hp13:t3≠⟨#[]⟩→ib<(nth ks m).length∧t3=kn m ib∧k3=s.code:=hp13
    have hp14:t3=⟨#[]⟩→k3≠0:=hp14
    have hp15:k3=0→s.code=0:=hp15
    have hfl:t3≠⟨#[]⟩→(nth (nth ks m) ib).fields.length≤3:=fun e=>(hC.fld ib (hp13 e).1).1
    refine exd [32,260] [(1,ob7 sh ks m f s.st s.pls k3),(20,.lf (.q t3))] [(3,.mth (ob7L sh ks m f s.st s.pls k3) (ob7B s.st s.pls) (.lf (.q t3)))] (cl2 tx83 cc8) ?_
    refine a7 ?_
    rcases bft (t3.toList==B4.toList)with g3|g3
    ·have g3p:=g3
     refine exd [] [(316,.bool true)] [(1,.slot (.bool true))] (kB g3) ?_
     refine ecT rfl ?_
     obtain⟨_,_,⟨k4,hk1,rfl,rfl⟩,cc9⟩:=M8 sh ks m f np Lb ⟨s.st,s.pls,k3⟩ (hI.code k3) 5
     have hk1:k4=0→k3=0∧(5:Int)=0:=hk1
     refine exd [6,7,20,316] [(1,ob7 sh ks m f s.st s.pls k4)] [(1,.mth (ob7L sh ks m f s.st s.pls k4) (ob7B s.st s.pls) (.tup []))] (cl2 tx84 cc9) ?_
     refine exn [] [(8,.bool true)] ?_
     exact rtM rfl (⟨⟨s.st,s.pls,k4⟩,true,((hI.code k4)).mono (by omega),fun q=>(hp15 (hk1 q).1),(fun h=>by cases h),rfl,rfl⟩)
    ·have g3p:=g3
     refine exd [] [(316,.bool (decide ((ia:Int)≥((((nth (nth ks m) ib).fields).length:Nat):Int))))] [(1,.slot (.bool false)),(13,.row (rRecs (nth ks m))),(17,.row (rRec (nth (nth ks m) ib))),(20,.slot (.int ((((nth (nth ks m) ib).fields).length:Nat):Int)))] (a2 (kB g3) (a2 (ixn rRecs ks m (by first|omega|exact(hp13 (bytes_ne'.1 (by assumption))).1)) (a2 (ixn rRec (nth ks m) ib (by first|omega|exact(hp13 (bytes_ne'.1 (by assumption))).1)) (lnl ((nth (nth ks m) ib).fields) rS)))) ?_
     refine ecp (fun h9=> ?_) fun h9=> ?_
     ·obtain⟨_,_,⟨k5,hk2,rfl,rfl⟩,cc10⟩:=M8 sh ks m f np Lb ⟨s.st,s.pls,k3⟩ (hI.code k3) 5
      have hk2:k5=0→k3=0∧(5:Int)=0:=hk2
      refine exd [6,7,20,316] [(1,ob7 sh ks m f s.st s.pls k5)] [(1,.mth (ob7L sh ks m f s.st s.pls k5) (ob7B s.st s.pls) (.tup []))] (cl2 tx84 cc10) ?_
      refine exn [] [(8,.bool true)] ?_
      exact rtM rfl (⟨⟨s.st,s.pls,k5⟩,true,((hI.code k5)).mono (by omega),fun q=>(hp15 (hk2 q).1),(fun h=>by cases h),rfl,rfl⟩)
     ·refine a5 ?_
      obtain⟨_,_,⟨s6,mk3,hI6,hp16,hp17,hp18,rfl,rfl⟩,cc11⟩:=y5 sh ks m f np Lb ⟨s.st,s.pls,k3⟩ (hI.code k3) [B8++t3,B6++t3] (by simp) (by omega)
      have hp16:s6.code=0→k3=0∧MkOk ks mk3∧([B8++t3,B6++t3]=[]∨mk3.type∈[B8++t3,B6++t3]):=hp16
      have hp17:s6.pls=s.pls:=hp17
      have hp17l:s6.pls.length=s.pls.length:=congrArg List.length hp17
      have hp18z:mk3.type.size≤4∧mk3.org.length≤10:=hp18
      refine exd [20,316] [(1,o7 sh ks m f s6),(22,.lf (.ptr 11 0)),(23,.cell 11 [.q mk3.type,.m 1 mk3.org rI])] [(5,.slot (.lf (.m 1 [B8++t3,B6++t3] rS))),(6,w7 sh ks m f s6 (.agg [.q mk3.type,.m 1 mk3.org rI]))] (a2 (a1 (StrFit.mk (a:=B8) (b:=t3) (by exact strf (by have q1:B8.size=1:=rfl;have q2:B6.size=1:=rfl;have q6:=hC.fs ib ia;first|omega|(simp only[ByteArray.size_append];omega))))) (a2 (a1 (StrFit.mk (a:=B6) (b:=t3) (by exact strf (by have q1:B8.size=1:=rfl;have q2:B6.size=1:=rfl;have q6:=hC.fs ib ia;first|omega|(simp only[ByteArray.size_append];omega))))) (a2 (a1 (show([[.str (B8++t3)],[.str (B6++t3)]]:List (List SV))=([B8++t3,B6++t3].map rS)from rfl)) (cl2 tx76 cc11)))) ?_
      refine exn [] [(344,.bool (decide ((s6.code:Int)=0)))] ?_
      refine ecp (fun h10=> ?_) fun h10=> ?_
      ·obtain⟨_,_,⟨s7,hI7,hs7,hs8,rfl,rfl⟩,cc12⟩:=o2 sh ks m f np Lb ⟨s6.st,s6.pls,s6.code⟩ hI6 ((mk3.type.extract 0 1)++(nth ((nth (nth ks m) ib).fields) ia)) mk3.org (fun q=>J6 (a49 ((hp16 q).2.2.resolve_left (by simp)) ((hC.fld ib (hp13 (bytes_ne'.1 (by assumption))).1).2 _ (c6 (by omega)))) (hp16 q).2.1.len) (by omega) (by first|(simp;done)|exact hp18z.2|omega)
       have hs7:s7.code=s6.code:=hs7
       refine exed [6,7,22,23,344] [(1,o7 sh ks m f s7)] [(3,.cut 0 1 (.im (.str (mk3.type.extract 0 1)))),(12,.row (rRecs (nth ks m))),(16,.row (rRec (nth (nth ks m) ib))),(21,.row (rS (nth ((nth (nth ks m) ib).fields) ia))),(26,w7 sh ks m f s7 (.tup []))] (a2 (a1 (a1 (rfl:(0:Nat)=0))) (a2 (a1 (a1 (rfl:(1:Int)=((1:Nat):Int)))) (a2 (a1 (show 0≤1 by first|exact a3L ((hp16 (show s6.code=0 by omega)).2.2.resolve_left (by simp))|omega)) (a2 (a1 (show 1≤mk3.type.size by first|exact a3L ((hp16 (show s6.code=0 by omega)).2.2.resolve_left (by simp))|omega)) (a2 (a1 (rfl:(.im (.str (mk3.type.extract 0 1)):Slot)= .im (.str (mk3.type.extract 0 1)))) (a2 (ixn rRecs ks m (by first|omega|exact(hp13 (bytes_ne'.1 (by assumption))).1)) (a2 (ixn rRec (nth ks m) ib (by first|omega|exact(hp13 (bytes_ne'.1 (by assumption))).1)) (a2 (ixn rS ((nth (nth ks m) ib).fields) ia (by first|omega|exact(hp13 (bytes_ne'.1 (by assumption))).1)) (a2 (a1 (StrFit.mk (a:=(mk3.type.extract 0 1)) (b:=(nth ((nth (nth ks m) ib).fields) ia)) (by exact strf (by have q1:B8.size=1:=rfl;have q2:B6.size=1:=rfl;have q6:=hC.fs ib ia;have q7:=P3 mk3.type 0 1;have q8:=W7 mk3.type;have q9:=hp18z.1;first|omega|(simp only[ByteArray.size_append];omega))))) (cl2 tx75 cc12)))))))))) ?_
       refine exn [] [(8,.bool true)] ?_
       exact rtM rfl (⟨⟨s7.st,s7.pls,s7.code⟩,true,(hI7).mono (by omega),fun q=>(hp15 (hp16 (hs7.symm.trans q)).1),(fun h=>by cases h),rfl,rfl⟩)
      ·refine a5 (exn [6,7,22,23,344] [(8,.bool true)] ?_)
       exact rtM rfl (⟨⟨s6.st,s6.pls,s6.code⟩,true,(hI6).mono (by omega),fun q=>(hp15 (hp16 q).1),(fun h=>by cases h),rfl,rfl⟩)
   ·refine a7 (exn [260] [(400,.bool (op.toList==B42.toList))] ?_)
    refine ecd (fun h11=> ?_) fun h11=> ?_
    ·have h11r:=h11
     refine a5 (ecT h11r ?_)
     obtain⟨_,_,⟨s8,mk4,hI8,hp19,hp20,hp21,rfl,rfl⟩,cc13⟩:=y5 sh ks m f np Lb ⟨s.st,s.pls,s.code⟩ hI [] (by simp) (by omega)
     have hp19:s8.code=0→s.code=0∧MkOk ks mk4∧([]=[]∨mk4.type∈[]):=hp19
     have hp20:s8.pls=s.pls:=hp20
     have hp20l:s8.pls.length=s.pls.length:=congrArg List.length hp20
     have hp21z:mk4.type.size≤4∧mk4.org.length≤10:=hp21
     refine exd [32,400] [(1,o7 sh ks m f s8),(24,.lf (.ptr 12 0)),(25,.cell 12 [.q mk4.type,.m 1 mk4.org rI])] [(1,w7 sh ks m f s8 (.agg [.q mk4.type,.m 1 mk4.org rI]))] (cl2 tx76 (CallM.nil (a:=[]) (b:=[]) (sz:=1) cc13)) ?_
     obtain⟨_,_,⟨k6,hk3,rfl,rfl⟩,cc14⟩:=n6 sh ks m f np Lb ⟨s8.st,s8.pls,s8.code⟩ hI8 (isRef mk4.type) 1 (by decide)
     have hk3:k6=0→s8.code=0∧(isRef mk4.type)=true:=hk3
     refine exd [] [(1,ob7 sh ks m f s8.st s8.pls k6)] [(3,.ret (.bool (isRef mk4.type))),(4,.mth (ob7L sh ks m f s8.st s8.pls k6) (ob7B s8.st s8.pls) (.tup []))] (a2 (cl tx41 (i9 mk4.type)) (cl2 tx60 cc14)) ?_
     obtain⟨_,_,⟨k7,hk4,rfl,rfl⟩,cc15⟩:=n6 sh ks m f np Lb ⟨s8.st,s8.pls,k6⟩ (hI8.code k6) (decide (k6≠0)||canB (ableOf ks (pl (mk4.type))) 1) 3 (by decide)
     have hk4:k7=0→k6=0∧(decide (k6≠0)||canB (ableOf ks (pl (mk4.type))) 1)=true:=hk4
     refine ejd [] [(1,ob7 sh ks m f s8.st s8.pls k7)] (by
      rcases bft (decide ((k6:Int)≠0))with g4|g4
      ·have g4p:=d5 g4
       exact runJ [(5,.slot (.bool true)),(12,.slot (.bool (decide (k6≠0)||canB (ableOf ks (pl (mk4.type))) 1))),(13,.mth (ob7L sh ks m f s8.st s8.pls k7) (ob7B s8.st s8.pls) (.tup []))] (a2 (kB g4) (a2 (kBs true (decide (k6≠0)||canB (ableOf ks (pl (mk4.type))) 1)) (cl2 tx60 cc15)))
      ·have g4p:=i5 g4
       obtain⟨_,_,⟨rfl,rfl⟩,ca1⟩:=R2 sh ks m f np Lb ⟨s8.st,s8.pls,k6⟩ (hI8.code k6) (pl mk4.type) 1 (by exact(hp19 (hk3 (show k6=0 by omega)).1).2.1.ty.ablePl) (by decide)
       exact runJ [(5,.slot (.bool false)),(10,.ret (.lf (.q (pl mk4.type)))),(11,.mth (ob7L sh ks m f s8.st s8.pls k6) (ob7B s8.st s8.pls) (.bool (canB (ableOf ks (pl mk4.type)) 1))),(12,.slot (.bool (decide (k6≠0)||canB (ableOf ks (pl (mk4.type))) 1))),(13,.mth (ob7L sh ks m f s8.st s8.pls k7) (ob7B s8.st s8.pls) (.tup []))] (a2 (kB g4) (a2 (cl tx85 (w9 mk4.type)) (a2 (cl2 tx77 ca1) (a2 (kBs (canB (ableOf ks (pl mk4.type)) 1) (decide (k6≠0)||canB (ableOf ks (pl (mk4.type))) 1)) (cl2 tx60 cc15)))))) ?_
     refine a7 (exn [6,7] [(452,.bool (op.toList==B28.toList))] ?_)
     refine ecd (fun h12=> ?_) fun h12=> ?_
     ·obtain⟨_,_,⟨s9,hI9,hs9,hs10,rfl,rfl⟩,cc16⟩:=o2 sh ks m f np Lb ⟨s8.st,s8.pls,k7⟩ (hI8.code k7) mk4.type mk4.org (fun q=>(hp19 (hk3 (hk4 q).1).1).2.1) (by omega) (by first|(simp;done)|exact hp21z.2|omega)
      have hs9:s9.code=k7:=hs9
      refine exed [452] [(1,o7 sh ks m f s9)] [(5,w7 sh ks m f s9 (.tup []))] (cl2 tx75 cc16) ?_
      obtain⟨_,_,⟨s10,hI10,hs11,hs12,rfl,rfl⟩,cc17⟩:=o2 sh ks m f np (Lb+1) ⟨s9.st,s9.pls,s9.code⟩ hI9 (pl mk4.type) [] (fun q=>J6 ((hp19 (hk3 (hk4 (hs9.symm.trans q)).1).1).2.1.ty.of_pl) (by simp)) (by omega) (by first|(simp;done)|exact hp21z.2|omega)
      have hs11:s10.code=s9.code:=hs11
      refine exed [24,25] [(1,o7 sh ks m f s10)] [(3,.ret (.lf (.q (pl mk4.type)))),(4,w7 sh ks m f s10 (.tup []))] (a2 (cl tx85 (w9 mk4.type)) (cl2 tx75 (CallM.nil (a:=[.lf (.q (pl mk4.type))]) (b:=[]) (sz:=1) cc17))) ?_
      refine exn [] [(8,.bool true)] ?_
      exact rtM rfl (⟨⟨s10.st,s10.pls,s10.code⟩,true,(hI10).mono (by omega),fun q=>(hp19 (hk3 (hk4 (hs9.symm.trans (hs11.symm.trans q))).1).1).1,(fun h=>by cases h),rfl,rfl⟩)
     ·refine a5 ?_
      obtain⟨_,_,⟨s11,hI11,hs13,hs14,rfl,rfl⟩,cc18⟩:=o2 sh ks m f np Lb ⟨s8.st,s8.pls,k7⟩ (hI8.code k7) (pl mk4.type) [] (fun q=>J6 ((hp19 (hk3 (hk4 q).1).1).2.1.ty.of_pl) (by simp)) (by omega) (by first|(simp;done)|exact hp21z.2|omega)
      have hs13:s11.code=k7:=hs13
      refine exed [24,25,452] [(1,o7 sh ks m f s11)] [(3,.ret (.lf (.q (pl mk4.type)))),(4,w7 sh ks m f s11 (.tup []))] (a2 (cl tx85 (w9 mk4.type)) (cl2 tx75 (CallM.nil (a:=[.lf (.q (pl mk4.type))]) (b:=[]) (sz:=1) cc18))) ?_
      refine exn [] [(8,.bool true)] ?_
      exact rtM rfl (⟨⟨s11.st,s11.pls,s11.code⟩,true,(hI11).mono (by omega),fun q=>(hp19 (hk3 (hk4 (hs13.symm.trans q)).1).1).1,(fun h=>by cases h),rfl,rfl⟩)
    ·refine exed [] [(400,.bool (op.toList==B28.toList))] [] AllP.nil ?_
     refine ecd (fun h13=> ?_) fun h13=> ?_
     ·have h13r:=h13
      obtain⟨_,_,⟨s12,mk5,hI12,hp22,hp23,hp24,rfl,rfl⟩,cc19⟩:=y5 sh ks m f np Lb ⟨s.st,s.pls,s.code⟩ hI [] (by simp) (by omega)
      have hp22:s12.code=0→s.code=0∧MkOk ks mk5∧([]=[]∨mk5.type∈[]):=hp22
      have hp23:s12.pls=s.pls:=hp23
      have hp23l:s12.pls.length=s.pls.length:=congrArg List.length hp23
      have hp24z:mk5.type.size≤4∧mk5.org.length≤10:=hp24
      refine exd [32,400] [(1,o7 sh ks m f s12),(24,.lf (.ptr 12 0)),(25,.cell 12 [.q mk5.type,.m 1 mk5.org rI])] [(1,w7 sh ks m f s12 (.agg [.q mk5.type,.m 1 mk5.org rI]))] (cl2 tx76 (CallM.nil (a:=[]) (b:=[]) (sz:=1) cc19)) ?_
      obtain⟨_,_,⟨k8,hk5,rfl,rfl⟩,cc20⟩:=n6 sh ks m f np Lb ⟨s12.st,s12.pls,s12.code⟩ hI12 (isRef mk5.type) 1 (by decide)
      have hk5:k8=0→s12.code=0∧(isRef mk5.type)=true:=hk5
      refine exd [] [(1,ob7 sh ks m f s12.st s12.pls k8)] [(3,.ret (.bool (isRef mk5.type))),(4,.mth (ob7L sh ks m f s12.st s12.pls k8) (ob7B s12.st s12.pls) (.tup []))] (a2 (cl tx41 (i9 mk5.type)) (cl2 tx60 cc20)) ?_
      obtain⟨_,_,⟨k9,hk6,rfl,rfl⟩,cc21⟩:=n6 sh ks m f np Lb ⟨s12.st,s12.pls,k8⟩ (hI12.code k8) (decide (k8≠0)||canB (ableOf ks (pl (mk5.type))) 1) 3 (by decide)
      have hk6:k9=0→k8=0∧(decide (k8≠0)||canB (ableOf ks (pl (mk5.type))) 1)=true:=hk6
      refine ejd [] [(1,ob7 sh ks m f s12.st s12.pls k9)] (by
       rcases bft (decide ((k8:Int)≠0))with g5|g5
       ·have g5p:=d5 g5
        exact runJ [(5,.slot (.bool true)),(12,.slot (.bool (decide (k8≠0)||canB (ableOf ks (pl (mk5.type))) 1))),(13,.mth (ob7L sh ks m f s12.st s12.pls k9) (ob7B s12.st s12.pls) (.tup []))] (a2 (kB g5) (a2 (kBs true (decide (k8≠0)||canB (ableOf ks (pl (mk5.type))) 1)) (cl2 tx60 cc21)))
       ·have g5p:=i5 g5
        obtain⟨_,_,⟨rfl,rfl⟩,ca2⟩:=R2 sh ks m f np Lb ⟨s12.st,s12.pls,k8⟩ (hI12.code k8) (pl mk5.type) 1 (by exact(hp22 (hk5 (show k8=0 by omega)).1).2.1.ty.ablePl) (by decide)
        exact runJ [(5,.slot (.bool false)),(10,.ret (.lf (.q (pl mk5.type)))),(11,.mth (ob7L sh ks m f s12.st s12.pls k8) (ob7B s12.st s12.pls) (.bool (canB (ableOf ks (pl mk5.type)) 1))),(12,.slot (.bool (decide (k8≠0)||canB (ableOf ks (pl (mk5.type))) 1))),(13,.mth (ob7L sh ks m f s12.st s12.pls k9) (ob7B s12.st s12.pls) (.tup []))] (a2 (kB g5) (a2 (cl tx85 (w9 mk5.type)) (a2 (cl2 tx77 ca2) (a2 (kBs (canB (ableOf ks (pl mk5.type)) 1) (decide (k8≠0)||canB (ableOf ks (pl (mk5.type))) 1)) (cl2 tx60 cc21)))))) ?_
      refine a7 (exn [6,7] [(452,.bool (op.toList==B28.toList))] ?_)
      refine ecT h13r ?_
      obtain⟨_,_,⟨s13,hI13,hs15,hs16,rfl,rfl⟩,cc22⟩:=o2 sh ks m f np Lb ⟨s12.st,s12.pls,k9⟩ (hI12.code k9) mk5.type mk5.org (fun q=>(hp22 (hk5 (hk6 q).1).1).2.1) (by omega) (by first|(simp;done)|exact hp24z.2|omega)
      have hs15:s13.code=k9:=hs15
      refine exed [452] [(1,o7 sh ks m f s13)] [(5,w7 sh ks m f s13 (.tup []))] (cl2 tx75 cc22) ?_
      obtain⟨_,_,⟨s14,hI14,hs17,hs18,rfl,rfl⟩,cc23⟩:=o2 sh ks m f np (Lb+1) ⟨s13.st,s13.pls,s13.code⟩ hI13 (pl mk5.type) [] (fun q=>J6 ((hp22 (hk5 (hk6 (hs15.symm.trans q)).1).1).2.1.ty.of_pl) (by simp)) (by omega) (by first|(simp;done)|exact hp24z.2|omega)
      have hs17:s14.code=s13.code:=hs17
      refine exed [24,25] [(1,o7 sh ks m f s14)] [(3,.ret (.lf (.q (pl mk5.type)))),(4,w7 sh ks m f s14 (.tup []))] (a2 (cl tx85 (w9 mk5.type)) (cl2 tx75 (CallM.nil (a:=[.lf (.q (pl mk5.type))]) (b:=[]) (sz:=1) cc23))) ?_
      refine exn [] [(8,.bool true)] ?_
      exact rtM rfl (⟨⟨s14.st,s14.pls,s14.code⟩,true,(hI14).mono (by omega),fun q=>(hp22 (hk5 (hk6 (hs15.symm.trans (hs17.symm.trans q))).1).1).1,(fun h=>by cases h),rfl,rfl⟩)
     ·refine exn [6,7,400] [(476,.bool (op.toList==B53.toList))] ?_
      refine ecd (fun h14=> ?_) fun h14=> ?_
      ·obtain⟨_,_,⟨s15,mk6,hI15,hp25,hp26,hp27,rfl,rfl⟩,cc24⟩:=y5 sh ks m f np Lb ⟨s.st,s.pls,s.code⟩ hI [] (by simp) (by omega)
       have hp25:s15.code=0→s.code=0∧MkOk ks mk6∧([]=[]∨mk6.type∈[]):=hp25
       have hp26:s15.pls=s.pls:=hp26
       have hp26l:s15.pls.length=s.pls.length:=congrArg List.length hp26
       have hp27z:mk6.type.size≤4∧mk6.org.length≤10:=hp27
       refine exd [32,476] [(1,o7 sh ks m f s15),(26,.lf (.ptr 13 0)),(27,.cell 13 [.q mk6.type,.m 1 mk6.org rI])] [(1,w7 sh ks m f s15 (.agg [.q mk6.type,.m 1 mk6.org rI]))] (cl2 tx76 (CallM.nil (a:=[]) (b:=[]) (sz:=1) cc24)) ?_
       obtain⟨_,_,⟨s16,mk7,hI16,hp28,hp29,hp30,rfl,rfl⟩,cc25⟩:=y5 sh ks m f np Lb ⟨s15.st,s15.pls,s15.code⟩ hI15 [B6++mk6.type] (by simp) (by omega)
       have hp28:s16.code=0→s15.code=0∧MkOk ks mk7∧([B6++mk6.type]=[]∨mk7.type∈[B6++mk6.type]):=hp28
       have hp29:s16.pls=s15.pls:=hp29
       have hp29l:s16.pls.length=s15.pls.length:=congrArg List.length hp29
       have hp30z:mk7.type.size≤4∧mk7.org.length≤10:=hp30
       refine exd [] [(1,o7 sh ks m f s16)] [(4,.slot (.lf (.m 1 [B6++mk6.type] rS))),(5,w7 sh ks m f s16 (.agg [.q mk7.type,.m 1 mk7.org rI]))] (a2 (a1 (StrFit.mk (a:=B6) (b:=mk6.type) (by exact strf (by have q1:B8.size=1:=rfl;have q2:B6.size=1:=rfl;have q6:=hC.fs ib ia;have q7:=P3 mk6.type 0 1;have q8:=W7 mk6.type;have q9:=hp27z.1;first|omega|(simp only[ByteArray.size_append];omega))))) (a2 (a1 (show([[.str (B6++mk6.type)]]:List (List SV))=([B6++mk6.type].map rS)from rfl)) (cl2 tx76 cc25))) ?_
       rcases bft (decide ((s16.code:Int)≠0))with g6|g6
       ·have g6p:=d5 g6
        obtain⟨_,_,⟨k10,hk7,rfl,rfl⟩,cc26⟩:=n6 sh ks m f np Lb ⟨s16.st,s16.pls,s16.code⟩ hI16 (decide (s16.code≠0)||canB (ableOf ks mk6.type) 2) 3 (by decide)
        have hk7:k10=0→s16.code=0∧(decide (s16.code≠0)||canB (ableOf ks mk6.type) 2)=true:=hk7
        refine exed [26,27] [(1,ob7 sh ks m f s16.st s16.pls k10)] [(5,.slot (.bool true)),(11,.slot (.bool (decide (s16.code≠0)||canB (ableOf ks mk6.type) 2))),(12,.mth (ob7L sh ks m f s16.st s16.pls k10) (ob7B s16.st s16.pls) (.tup []))] (a2 (kB g6) (a2 (kBs true (decide (s16.code≠0)||canB (ableOf ks mk6.type) 2)) (cl2 tx60 cc26))) ?_
        refine exn [] [(8,.bool true)] ?_
        exact rtM rfl (⟨⟨s16.st,s16.pls,k10⟩,true,((hI16.code k10)).mono (by omega),fun q=>(hp25 (hp28 (hk7 q).1).1).1,(fun h=>by cases h),rfl,rfl⟩)
       ·have g6p:=i5 g6
        obtain⟨_,_,⟨rfl,rfl⟩,ca3⟩:=R2 sh ks m f np Lb ⟨s16.st,s16.pls,s16.code⟩ hI16 mk6.type 2 (by exact(hp25 (hp28 (show s16.code=0 by omega)).1).2.1.ty.able) (by decide)
        obtain⟨_,_,⟨k10,hk7,rfl,rfl⟩,cc26⟩:=n6 sh ks m f np Lb ⟨s16.st,s16.pls,s16.code⟩ hI16 (decide (s16.code≠0)||canB (ableOf ks mk6.type) 2) 3 (by decide)
        have hk7:k10=0→s16.code=0∧(decide (s16.code≠0)||canB (ableOf ks mk6.type) 2)=true:=hk7
        refine exed [26,27] [(1,ob7 sh ks m f s16.st s16.pls k10)] [(5,.slot (.bool false)),(10,w7 sh ks m f s16 (.bool (canB (ableOf ks mk6.type) 2))),(11,.slot (.bool (decide (s16.code≠0)||canB (ableOf ks mk6.type) 2))),(12,.mth (ob7L sh ks m f s16.st s16.pls k10) (ob7B s16.st s16.pls) (.tup []))] (a2 (kB g6) (a2 (cl2 tx77 ca3) (a2 (kBs (canB (ableOf ks mk6.type) 2) (decide (s16.code≠0)||canB (ableOf ks mk6.type) 2)) (cl2 tx60 cc26)))) ?_
        refine exn [] [(8,.bool true)] ?_
        exact rtM rfl (⟨⟨s16.st,s16.pls,k10⟩,true,((hI16.code k10)).mono (by omega),fun q=>(hp25 (hp28 (hk7 q).1).1).1,(fun h=>by cases h),rfl,rfl⟩)
      ·refine exn [32,476] [(522,.bool (op.toList==B54.toList))] ?_
       refine ecd (fun h15=> ?_) fun h15=> ?_
       ·obtain⟨_,_,⟨s17,mk8,hI17,hp31,hp32,hp33,rfl,rfl⟩,cc27⟩:=y5 sh ks m f np Lb ⟨s.st,s.pls,s.code⟩ hI [] (by simp) (by omega)
        have hp31:s17.code=0→s.code=0∧MkOk ks mk8∧([]=[]∨mk8.type∈[]):=hp31
        have hp32:s17.pls=s.pls:=hp32
        have hp32l:s17.pls.length=s.pls.length:=congrArg List.length hp32
        have hp33z:mk8.type.size≤4∧mk8.org.length≤10:=hp33
        refine exd [522] [(1,o7 sh ks m f s17),(28,.lf (.ptr 14 0)),(29,.cell 14 [.q mk8.type,.m 1 mk8.org rI])] [(1,w7 sh ks m f s17 (.agg [.q mk8.type,.m 1 mk8.org rI]))] (cl2 tx76 (CallM.nil (a:=[]) (b:=[]) (sz:=1) cc27)) ?_
        rcases bft (isRef mk8.type)with g7|g7
        ·have g7p:=g7
         obtain⟨_,_,⟨k11,hk8,rfl,rfl⟩,cc28⟩:=n6 sh ks m f np Lb ⟨s17.st,s17.pls,s17.code⟩ hI17 (decide (((((bt mk8.type 0).toNat:Nat):Int):Int)=33)) 1 (by decide)
         have hk8:k11=0→s17.code=0∧(decide (((((bt mk8.type 0).toNat:Nat):Int):Int)=33))=true:=hk8
         refine exd [] [(1,ob7 sh ks m f s17.st s17.pls k11)] [(3,.ret (.bool (isRef mk8.type))),(4,.slot (.bool true)),(7,.byte (bt mk8.type 0)),(10,.mth (ob7L sh ks m f s17.st s17.pls k11) (ob7B s17.st s17.pls) (.tup []))] (a2 (cl tx41 (i9 mk8.type)) (a2 (kB g7) (a2 (z8 (t:=mk8.type) (i:=0) (by exact(A2.1 (by assumption)).1)) (cl2 tx60 cc28)))) ?_
         obtain⟨_,_,⟨s18,hI18,hs19,hs20,rfl,rfl⟩,cc29⟩:=o2 sh ks m f np Lb ⟨s17.st,s17.pls,k11⟩ (hI17.code k11) (B8++(pl mk8.type)) mk8.org (fun q=>J6 (H0 (hp31 (hk8 q).1).2.1.ty) (hp31 (hk8 q).1).2.1.len) (by omega) (by first|(simp;done)|exact hp33z.2|omega)
         have hs19:s18.code=k11:=hs19
         refine exed [28,29] [(1,o7 sh ks m f s18)] [(3,.ret (.lf (.q (pl mk8.type)))),(7,w7 sh ks m f s18 (.tup []))] (a2 (cl tx85 (w9 mk8.type)) (a2 (a1 (StrFit.mk (a:=B8) (b:=(pl mk8.type)) (by exact strf (by have q1:B8.size=1:=rfl;have q2:B6.size=1:=rfl;have q6:=hC.fs ib ia;have q7:=P3 mk8.type 0 1;have q8:=W7 mk8.type;have q9:=hp33z.1;first|omega|(simp only[ByteArray.size_append];omega))))) (cl2 tx75 cc29))) ?_
         refine exn [] [(8,.bool true)] ?_
         exact rtM rfl (⟨⟨s18.st,s18.pls,s18.code⟩,true,(hI18).mono (by omega),fun q=>(hp31 (hk8 (hs19.symm.trans q)).1).1,(fun h=>by cases h),rfl,rfl⟩)
        ·have g7p:=g7
         obtain⟨_,_,⟨k11,hk8,rfl,rfl⟩,cc28⟩:=n6 sh ks m f np Lb ⟨s17.st,s17.pls,s17.code⟩ hI17 false 1 (by decide)
         have hk8:k11=0→s17.code=0∧false=true:=hk8
         refine exd [] [(1,ob7 sh ks m f s17.st s17.pls k11)] [(3,.ret (.bool (isRef mk8.type))),(4,.slot (.bool false)),(10,.mth (ob7L sh ks m f s17.st s17.pls k11) (ob7B s17.st s17.pls) (.tup []))] (a2 (cl tx41 (i9 mk8.type)) (a2 (kB g7) (cl2 tx60 cc28))) ?_
         obtain⟨_,_,⟨s19,hI19,hs21,hs22,rfl,rfl⟩,cc30⟩:=o2 sh ks m f np Lb ⟨s17.st,s17.pls,k11⟩ (hI17.code k11) (B8++(pl mk8.type)) mk8.org (fun q=>J6 (H0 (hp31 (hk8 q).1).2.1.ty) (hp31 (hk8 q).1).2.1.len) (by omega) (by first|(simp;done)|exact hp33z.2|omega)
         have hs21:s19.code=k11:=hs21
         refine exed [28,29] [(1,o7 sh ks m f s19)] [(3,.ret (.lf (.q (pl mk8.type)))),(7,w7 sh ks m f s19 (.tup []))] (a2 (cl tx85 (w9 mk8.type)) (a2 (a1 (StrFit.mk (a:=B8) (b:=(pl mk8.type)) (by exact strf (by have q1:B8.size=1:=rfl;have q2:B6.size=1:=rfl;have q6:=hC.fs ib ia;have q7:=P3 mk8.type 0 1;have q8:=W7 mk8.type;have q9:=hp33z.1;first|omega|(simp only[ByteArray.size_append];omega))))) (cl2 tx75 cc30))) ?_
         refine exn [] [(8,.bool true)] ?_
         exact rtM rfl (⟨⟨s19.st,s19.pls,s19.code⟩,true,(hI19).mono (by omega),fun q=>(hp31 (hk8 (hs21.symm.trans q)).1).1,(fun h=>by cases h),rfl,rfl⟩)
       ·refine exn [522] [(8,.bool false)] ?_
        exact rtM rfl (⟨⟨s.st,s.pls,s.code⟩,false,(hI).mono (by omega),fun q=>q,(fun _=>hI),rfl,rfl⟩)
end Go.Proofs.Ytjfjdgjhihgdkaa
