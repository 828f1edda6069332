/- The law FnAgreesBent: whatever code it is called with, its call returns true and leaves the code as it was. Conditions: none but the statement's own. -/
import Derived.Test.YticeglbllcelaaaGreatRows
import Derived.Test.YticeglbllcelaaaGreatTwABP
import Derived.Test.YticeglbllcelaaaGreatTlRow
import Derived.WalkKit
import Derived.ProofKit
import Derived.OpenShut
import Derived.ShutString
import Derived.ChangeOld
import Derived.Below
import Derived.SizedLaws
namespace Go.Proofs.YticeglbllcelaaaGreat.fnAgreesBent
open Go.ChangeShapes Go.WideShapes Go.ChangeAt Go.RowKit Go.TL
set_option linter.unusedVariables false
theorem laidOut:laidOutB Tryz.prog=true:=by kernel_rfl
theorem own:ownKnob Tryz.prog.godebug=none:=by kernel_rfl
set_option maxRecDepth 100000 in
theorem lifted(os:Os)(started:os.Started)(H:Type)(enc:TypeId×Value→H):
  ReturnsInHanded {} Tryz.checked os 3 .any (Rows.fnAgreesBentSpec.pre6 enc Tryz.prog Tryz.f3 Rows.fnAgreesBentRow.domain false) (Rows.fnAgreesBentSpec.post enc Tryz.prog Tryz.f3 false true false false):=by
 refine returnsInHanded_of_change_sized (C:=Tryz.checked) own started (by kernel_rfl) Tryz.func3
  (ChangeSpec.witness6 (enc:=enc) (C:=Tryz.checked) false ⟨#[],#[.slice none 0 0],[]⟩ 8 (by kernel_rfl) (by kernel_rfl) (by kernel_rfl) (by kernel_rfl)) ?_
 intro W base args ds gs before hval0 hW hcnd hsz0 _
 have hval:∀(j:Nat) t v,Tryz.f3.params[j]? =some t→args[j]? =some v→Value.okWide Tryz.prog W .any base t v:=hval0
 have hW':=hW
 obtain⟨p,q,hA0,hV,rfl,hfz,hnd⟩:=hW
 have hA:DataW.TrodAll enc Tryz.prog W 0 (fun _=>true) true Tryz.f3.params.toList args.toList ds p:=hA0
 rw[Tryz.params3]at hA hval
 obtain⟨v0,vs0,d0,ds0,p0,q0,hargs,rfl,rfl,h0,r0⟩:=trodAll_cons hA
 obtain⟨rfl,rfl,rfl⟩:=trodAll_nil r0
 obtain rfl:args= #[v0]:=by cases args;simp_all
 obtain⟨rfl,rfl⟩:=trodVars_none hV
 have h0k:=h0
 have hlt0:∀x∈p0,x.block<W.heap.size:=fun x hx=>by simpa using hW'.lt x (by simp[hx])
 obtain⟨fu0,hf0⟩:=h0
 have s0:=zPj (ag:=false) (by kernel_rfl) (hval 0 22 v0 rfl rfl)
 obtain⟨_,t0,f0,g0⟩:=zRt (Z:=fun b=>b<W.heap.size) (fun _ h=>h) 20 22 [.sl 1 [.int .u8]] (by kernel_rfl) _ _ _ hf0
 obtain⟨c0,_,rfl,fc0,fn0⟩:=zh f0
 obtain rfl:=JK fn0
 obtain⟨x0,rfl,w0⟩:=Enc.sl zQQ fc0
 clear hA0 hval0 hsz0
 obtain⟨n,hp⟩:=Tw.zFm x0 w0
 have hL:=Tw.zIf n x0 true hp
 refine(hL.below (vals:= #[v0]) (w:=W) rfl fun i arg hi=>?_).mono fun e W' ⟨he,bel⟩=>?_
 ·match i,hi with
  |0,hi=>cases hi;exact⟨v0,_,_,rfl,rfl,s0,rfl,g0⟩
 subst he
 exact⟨_,rfl,_,_,_,[],_,[],hW',trodAll_mk1 (shut_bool Tryz.underlying4 _),trodAll_cons_mk (Below.trod laidOut (by kernel_rfl) (of_decide_eq_true (by kernel_rfl)) h0k bel hlt0) (trodAll_mk0),rfl,bel.frame _,fun h=>by cases h⟩
theorem over:Rows.fnAgreesBentRow.holds Tryz.pinned (OpenSpec.ofChange Rows.fnAgreesBentSpec):=
 OpenClaim.holds_of_wide 3 Tryz.f3 rfl rfl rfl rfl rfl rfl rfl ⟨rfl,rfl,rfl,rfl,rfl⟩ rfl rfl rfl rfl rfl (by kernel_rfl) Tryz.func3 (by kernel_rfl)
  (of_decide_eq_true (by kernel_rfl)) (by unfold Func.isWrapper;first|(rw[if_pos (by decide+kernel)];kernel_rfl)|(rw[if_neg (by decide+kernel)];exact⟨rfl,rfl⟩))
  (fun os started H enc _=>lifted os started H enc)
theorem proved:Rows.FnAgreesBentSaid:=over
end Go.Proofs.YticeglbllcelaaaGreat.fnAgreesBent
namespace Go.Proofs.YticeglbllcelaaaGreat
theorem fnAgreesBent_holds:Rows.FnAgreesBentSaid:=fnAgreesBent.proved
end Go.Proofs.YticeglbllcelaaaGreat
