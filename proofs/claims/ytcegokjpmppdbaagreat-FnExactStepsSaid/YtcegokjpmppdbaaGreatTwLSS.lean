import Derived.Test.YtcegokjpmppdbaaGreatRows
import Derived.Test.YtcegokjpmppdbaaGreatTwSSP
import Derived.Test.YtcegokjpmppdbaaGreatTlRow
import Derived.WalkKit
import Derived.ProofKit
import Derived.OpenShut
import Derived.ShutString
import Derived.ChangeOld
import Derived.Below
import Derived.SizedLaws
namespace Go.Proofs.YtcegokjpmppdbaaGreat.fnExactSteps
open Go.ChangeShapes Go.WideShapes Go.ChangeAt Go.RowKit Go.TL
set_option linter.unusedVariables false
theorem laidOut : laidOutB Tryz.prog = true := by kernel_rfl
theorem own : ownKnob Tryz.prog.godebug = none := by kernel_rfl
set_option maxRecDepth 100000 in
theorem lifted (os : Os) (started : os.Started) (H : Type) (enc : TypeId × Value → H) :
  ReturnsInHanded {} Tryz.checked os 5 .any (Rows.fnExactStepsSpec.pre6 enc Tryz.prog Tryz.f5 Rows.fnExactStepsRow.domain false) (Rows.fnExactStepsSpec.post enc Tryz.prog Tryz.f5 false true false false) := by
 refine returnsInHanded_of_change_sized (C := Tryz.checked) own started (by kernel_rfl) Tryz.func5
  (ChangeSpec.witness6 (enc := enc) (C := Tryz.checked) false ⟨#[],#[.agg #[.slice none 0 0,.slice none 0 0,.slice none 0 0],.slice none 0 0],[]⟩ 8 (by kernel_rfl) (by kernel_rfl) (by kernel_rfl) (by kernel_rfl)) ?_
 intro W base args ds gs before hval0 hW hcnd hsz0 _
 have hval : ∀ (j : Nat) t v,Tryz.f5.params[j]? = some t → args[j]? = some v → Value.okWide Tryz.prog W .any base t v := hval0
 have hW' := hW
 obtain ⟨p,q,hA0,hV,rfl,hfz,hnd⟩ := hW
 have hA : DataW.TrodAll enc Tryz.prog W 0 (fun _ => true) true Tryz.f5.params.toList args.toList ds p := hA0
 rw [Tryz.params5] at hA hval
 obtain ⟨v0,vs0,d0,ds0,p0,q0,hargs,rfl,rfl,h0,r0⟩ := trodAll_cons hA
 obtain ⟨v1,vs1,d1,ds1,p1,q1,rfl,rfl,rfl,h1,r1⟩ := trodAll_cons r0
 obtain ⟨rfl,rfl,rfl⟩ := trodAll_nil r1
 obtain rfl : args = #[v0,v1] := by cases args; simp_all
 obtain ⟨rfl,rfl⟩ := trodVars_none hV
 have h0k := h0
 have hlt0 : ∀ x ∈ p0,x.block < W.heap.size := fun x hx => by simpa using hW'.lt x (by simp [hx])
 obtain ⟨fu0,hf0⟩ := h0
 have s0 := zIS (ag := true) (by kernel_rfl) (hval 0 59 v0 rfl rfl)
 obtain ⟨_,t0,f0,g0⟩ := zK0 (Z := fun b => b < W.heap.size) (fun _ h => h) 20 59 [.sl 11 [.int .i64,.str,.sl 8 [.bool,.int .i64,.bool,.int .i64,.int .i64,.int .i64,.int .i64,.int .i64],.sl 5 [.int .i64,.int .i64,.int .i64,.int .i64,.bool],.sl 3 [.int .i64,.int .i64,.int .i64],.sl 1 [.int .i64],.int .i64,.int .i64,.int .i64,.int .i64,.int .i64],.sl 4 [.int .i64,.int .i64,.int .i64,.int .i64],.sl 7 [.int .i64,.bool,.int .i64,.int .i64,.int .i64,.int .i64,.int .i64]] (by kernel_rfl) _ _ _ hf0
 obtain ⟨x0,rfl,w0⟩ := Tw.Net.enc _ f0
 have h1k := h1
 have hlt1 : ∀ x ∈ p1,x.block < W.heap.size := fun x hx => by simpa using hW'.lt x (by simp [hx])
 obtain ⟨fu1,hf1⟩ := h1
 have s1 := zIS (ag := false) (by kernel_rfl) (hval 1 76 v1 rfl rfl)
 obtain ⟨_,t1,f1,g1⟩ := zK0 (Z := fun b => b < W.heap.size) (fun _ h => h) 20 76 [.sl 2 [.int .i64,.int .i64]] (by kernel_rfl) _ _ _ hf1
 obtain ⟨c1,_,rfl,fc1,fn1⟩ := zL f1
 obtain rfl := QZ fn1
 obtain ⟨x1,rfl,w1⟩ := Enc.sl Tw.Event.enc fc1
 clear hA0 hval0 hsz0
 obtain ⟨n,hp⟩ := Tw.zEJ x0 x1 w0 w1
 have hL := Tw.zGe n x0 x1 true hp
 refine (hL.below (vals := #[v0,v1]) (w := W) rfl fun i arg hi => ?_).mono fun e W' ⟨he,bel⟩ => ?_
 ·match i,hi with
  | 0,hi => cases hi; exact ⟨v0,_,_,rfl,rfl,s0,zEb _,g0⟩
  | 1,hi => cases hi; exact ⟨v1,_,_,rfl,rfl,s1,rfl,g1⟩
 subst he
 exact ⟨_,rfl,_,_,_,[],_,[],hW',trodAll_mk1 (shut_bool Tryz.underlying4 _),trodAll_cons_mk (Below.trod laidOut (by kernel_rfl) (of_decide_eq_true (by kernel_rfl)) h0k bel hlt0) (trodAll_cons_mk (Below.trod laidOut (by kernel_rfl) (of_decide_eq_true (by kernel_rfl)) h1k bel hlt1) (trodAll_mk0)),rfl,bel.frame _,fun h => by cases h⟩
theorem over : Rows.fnExactStepsRow.holds Tryz.pinned (OpenSpec.ofChange Rows.fnExactStepsSpec) :=
 OpenClaim.holds_of_wide 5 Tryz.f5 rfl rfl rfl rfl rfl rfl rfl ⟨rfl,rfl,rfl,rfl,rfl⟩ rfl rfl rfl rfl rfl (by kernel_rfl) Tryz.func5 (by kernel_rfl)
  (of_decide_eq_true (by kernel_rfl)) (by unfold Func.isWrapper; first | (rw [if_pos (by decide +kernel)]; kernel_rfl) | (rw [if_neg (by decide +kernel)]; exact ⟨rfl,rfl⟩))
  (fun os started H enc _ => lifted os started H enc)
theorem proved : Rows.FnExactStepsSaid := over
end Go.Proofs.YtcegokjpmppdbaaGreat.fnExactSteps
namespace Go.Proofs.YtcegokjpmppdbaaGreat
theorem fnExactSteps_holds : Rows.FnExactStepsSaid := fnExactSteps.proved
end Go.Proofs.YtcegokjpmppdbaaGreat
