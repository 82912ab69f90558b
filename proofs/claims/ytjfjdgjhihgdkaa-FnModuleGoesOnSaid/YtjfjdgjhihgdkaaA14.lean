/- FnModuleGoesOn: called with any list of bytes, the function FnModuleGoesOn of the laws ends and answers true; no condition is added to the given statement. The texts A0 and on are printed by programs of our own (states told as changes, few spaces), out of texts that were built as they stand. -/
import Derived.Test.YtjfjdgjhihgdkaaA13
import Derived.Test.YtjfjdgjhihgdkaaRows
import Derived.WalkKit
import Derived.ProofKit
import Derived.OpenShut
import Derived.ShutString
import Derived.ChangeOld
import Derived.SizedLaws
import Derived.KernelRfl
set_option linter.unusedVariables false
set_option linter.unusedSimpArgs false
set_option maxRecDepth 100000
namespace Go.Proofs.Ytjfjdgjhihgdkaa.fnModuleGoesOn
open Go Go.RowKit Go.ChangeShapes Go.WideShapes Go.ChangeAt Go.Proofs.Ytjfjdgjhihgdkaa Go.Proofs.Ytjfjdgjhihgdkaa.V
open Go.ChangeMaps (open_string shut_string)
open V
theorem rd5 :Rd Try.prog 5 (fun l=>∃x:UInt8,okU8 x∧l=rB x):=(Rd.int Try.underlying5).mono fun l ⟨n,h,e⟩=>⟨UInt8.ofNat n.toNat,trivial,e.trans (u8_of h)⟩
theorem rd22 :Rd Try.prog 22 (fun l=>∃x:List UInt8,okL okU8 x∧l=(fun xs=>[SV.sl 1 (xs.map rB)]) x):=
 (Rd.list Try.underlying22 (by kernel_rfl) (by decide) (of_decide_eq_true (by kernel_rfl)) rd5).mono fun l ⟨xs,h,e⟩=>⟨xs,h,e⟩
theorem own :ownKnob Try.prog.godebug=none:=by kernel_rfl
theorem a7v :laidOutB Try.prog=true:=by kernel_rfl
theorem lifted (os:Os)(started:os.Started)(H:Type)(enc:TypeId×Value→H):
 ReturnsInHanded {} Try.checked os 3 .any (Rows.fnModuleGoesOnSpec.pre6 enc Try.prog Try.f3 Rows.fnModuleGoesOnRow.domain false) (Rows.fnModuleGoesOnSpec.post enc Try.prog Try.f3 false true false false):=by
 refine returnsInHanded_of_change_sized (C:=Try.checked) own started (by kernel_rfl) Try.func3
  (ChangeSpec.witness6 (enc:=enc) (C:=Try.checked) false ⟨#[],#[.slice none 0 0],[]⟩ 8 (by kernel_rfl) (by kernel_rfl) (by kernel_rfl) (by kernel_rfl)) ?_
 intro W base args ds gs before hval0 hW hcnd hsz0 _
 have hsz:(DataW.weightsEach Try.prog (Try.f3.params.toList++Rows.fnModuleGoesOnSpec.plain.varTypes Try.prog) (ds++gs)).all (·≤reachBytes)=true:=hsz0
 have hval:∀(j:Nat) t v,Try.f3.params[j]? =some t→args[j]? =some v→Value.okWide Try.prog W .any base t v:=hval0
 have hW':=hW
 obtain⟨p,q,hA0,hV,rfl,hfz,hnd⟩:=hW
 have hA:DataW.TrodAll enc Try.prog W 0 (fun _=>true) true Try.f3.params.toList args.toList ds p:=hA0
 rw[Try.params3]at hA hval hsz
 obtain⟨v0,vs0,d0,ds0,p0,q0,hargs,rfl,rfl,h0,r0⟩:=trodAll_cons hA
 obtain⟨rfl,rfl,rfl⟩:=trodAll_nil r0
 obtain rfl:args= #[v0]:=by cases args;simp_all
 obtain⟨rfl,rfl⟩:=trodVars_none hV
 have k0:=h0
 have lt0:∀x∈p0,x.block<W.heap.size:=by obtain⟨m,hm⟩:=k0;exact DataW.trod_lt m _ _ _ hm
 obtain⟨l0,⟨a,ka,e0⟩,a0⟩:=Rd.one rd22 (a3i Try.underlying22 (hval 0 22 v0 rfl rfl)) h0 (a4d hsz 0 rfl rfl)
 cases e0
 clear hA0 hval0 hsz0 hsz
 refine(a4J (args:=[.lf (.im true (.sl 1 (a.map rB)))]) (law5_h a) W trivial #[v0] rfl (args1 a0)).mono fun e W' ⟨he,bel⟩=> ?_
 subst he
 exact⟨_,rfl,_,_,_,[],_,[],hW',trodAll_mk1 (shut_bool Try.underlying4 _),(trodAll_cons_mk (Below.trod a7v (by kernel_rfl) (of_decide_eq_true (by kernel_rfl)) k0 bel lt0) trodAll_mk0),rfl,bel.frame _,fun h=>by cases h⟩
theorem over :Rows.fnModuleGoesOnRow.holds Try.pinned (OpenSpec.ofChange Rows.fnModuleGoesOnSpec):=
 OpenClaim.holds_of_wide 3 Try.f3 rfl rfl rfl rfl rfl rfl rfl ⟨rfl,rfl,rfl,rfl,rfl⟩ rfl rfl rfl rfl rfl (by kernel_rfl) Try.func3 (by kernel_rfl)
  (of_decide_eq_true (by kernel_rfl)) (by unfold Func.isWrapper;first|(rw[if_pos (by decide+kernel)];kernel_rfl)|(rw[if_neg (by decide+kernel)];exact⟨rfl,rfl⟩))
  (fun os started H enc _=>lifted os started H enc)
theorem proved :Rows.FnModuleGoesOnSaid:=over
end Go.Proofs.Ytjfjdgjhihgdkaa.fnModuleGoesOn
namespace Go.Proofs.Ytjfjdgjhihgdkaa
theorem fnModuleGoesOn_holds :Rows.FnModuleGoesOnSaid:=fnModuleGoesOn.proved
#print axioms fnModuleGoesOn_holds
end Go.Proofs.Ytjfjdgjhihgdkaa
