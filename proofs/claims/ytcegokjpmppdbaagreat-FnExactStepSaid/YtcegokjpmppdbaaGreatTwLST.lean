import Derived.Test.YtcegokjpmppdbaaGreatRows
import Derived.Test.YtcegokjpmppdbaaGreatTwSTP
import Derived.Test.YtcegokjpmppdbaaGreatTlRow
import Derived.WalkKit
import Derived.ProofKit
import Derived.OpenShut
import Derived.ShutString
import Derived.ChangeOld
import Derived.Below
import Derived.SizedLaws
namespace Go.Proofs.YtcegokjpmppdbaaGreat.fnExactStep
open Go.ChangeShapes Go.WideShapes Go.ChangeAt Go.RowKit Go.TL
set_option linter.unusedVariables false
theorem laidOut : laidOutB Tryz.prog = true := by kernel_rfl
theorem own : ownKnob Tryz.prog.godebug = none := by kernel_rfl
set_option maxRecDepth 100000 in
theorem lifted (os : Os) (started : os.Started) (H : Type) (enc : TypeId × Value → H) :
  ReturnsInHanded {} Tryz.checked os 4 .any (Rows.fnExactStepSpec.pre6 enc Tryz.prog Tryz.f4 Rows.fnExactStepRow.domain false) (Rows.fnExactStepSpec.post enc Tryz.prog Tryz.f4 false true false false) := by
 refine returnsInHanded_of_change_sized (C := Tryz.checked) own started (by kernel_rfl) Tryz.func4
  (ChangeSpec.witness6 (enc := enc) (C := Tryz.checked) false ⟨#[],#[.agg #[.slice none 0 0,.slice none 0 0,.slice none 0 0],.agg #[.int .i64 0,.int .i64 0]],[]⟩ 8 (by kernel_rfl) (by kernel_rfl) (by kernel_rfl) (by kernel_rfl)) ?_
 intro W base args ds gs before hval0 hW hcnd hsz0 _
 have hval : ∀ (j : Nat) t v,Tryz.f4.params[j]? = some t → args[j]? = some v → Value.okWide Tryz.prog W .any base t v := hval0
 have hW' := hW
 obtain ⟨p,q,hA0,hV,rfl,hfz,hnd⟩ := hW
 have hA : DataW.TrodAll enc Tryz.prog W 0 (fun _ => true) true Tryz.f4.params.toList args.toList ds p := hA0
 rw [Tryz.params4] at hA hval
 obtain ⟨v0,vs0,d0,ds0,p0,q0,hargs,rfl,rfl,h0,r0⟩ := trodAll_cons hA
 obtain ⟨v1,vs1,d1,ds1,p1,q1,rfl,rfl,rfl,h1,r1⟩ := trodAll_cons r0
 obtain ⟨rfl,rfl,rfl⟩ := trodAll_nil r1
 obtain rfl : args = #[v0,v1] := by cases args; simp_all
 obtain ⟨rfl,rfl⟩ := trodVars_none hV
 have h0k := h0
 have hlt0 : ∀ x ∈ p0,x.block < W.heap.size := fun x hx => by simpa using hW'.lt x (by simp [hx])
 obtain ⟨fu0,hf0⟩ := h0
 have s0 := zH5 (ag := true) (by kernel_rfl) (hval 0 59 v0 rfl rfl)
 obtain ⟨_,t0,f0,g0⟩ := zKa (Z := fun b => b < W.heap.size) (fun _ h => h) 20 59 [.sl 11 [.int .i64,.str,.sl 8 [.bool,.int .i64,.bool,.int .i64,.int .i64,.int .i64,.int .i64,.int .i64],.sl 5 [.int .i64,.int .i64,.int .i64,.int .i64,.bool],.sl 3 [.int .i64,.int .i64,.int .i64],.sl 1 [.int .i64],.int .i64,.int .i64,.int .i64,.int .i64,.int .i64],.sl 4 [.int .i64,.int .i64,.int .i64,.int .i64],.sl 7 [.int .i64,.bool,.int .i64,.int .i64,.int .i64,.int .i64,.int .i64]] (by kernel_rfl) _ _ _ hf0
 obtain ⟨x0,rfl,w0⟩ := Tw.Net.enc _ f0
 have h1k := h1
 have hlt1 : ∀ x ∈ p1,x.block < W.heap.size := fun x hx => by simpa using hW'.lt x (by simp [hx])
 obtain ⟨fu1,hf1⟩ := h1
 have s1 := zH5 (ag := true) (by kernel_rfl) (hval 1 61 v1 rfl rfl)
 obtain ⟨_,t1,f1,g1⟩ := zKa (Z := fun b => b < W.heap.size) (fun _ h => h) 20 61 [.int .i64,.int .i64] (by kernel_rfl) _ _ _ hf1
 obtain ⟨x1,rfl,w1⟩ := Tw.Event.enc _ f1
 clear hA0 hval0 hsz0
 obtain ⟨n,hp⟩ := Tw.zEN x0 x1 w0 w1
 have hL := Tw.zG5 n x0 x1 true hp
 refine (hL.below (vals := #[v0,v1]) (w := W) rfl fun i arg hi => ?_).mono fun e W' ⟨he,bel⟩ => ?_
 ·match i,hi with
  | 0,hi => cases hi; exact ⟨v0,_,_,rfl,rfl,s0,zCX _,g0⟩
  | 1,hi => cases hi; exact ⟨v1,_,_,rfl,rfl,s1,zCX _,g1⟩
 subst he
 exact ⟨_,rfl,_,_,_,[],_,[],hW',trodAll_mk1 (shut_bool Tryz.underlying4 _),trodAll_cons_mk (Below.trod laidOut (by kernel_rfl) (of_decide_eq_true (by kernel_rfl)) h0k bel hlt0) (trodAll_cons_mk (Below.trod laidOut (by kernel_rfl) (of_decide_eq_true (by kernel_rfl)) h1k bel hlt1) (trodAll_mk0)),rfl,bel.frame _,fun h => by cases h⟩
theorem over : Rows.fnExactStepRow.holds Tryz.pinned (OpenSpec.ofChange Rows.fnExactStepSpec) :=
 OpenClaim.holds_of_wide 4 Tryz.f4 rfl rfl rfl rfl rfl rfl rfl ⟨rfl,rfl,rfl,rfl,rfl⟩ rfl rfl rfl rfl rfl (by kernel_rfl) Tryz.func4 (by kernel_rfl)
  (of_decide_eq_true (by kernel_rfl)) (by unfold Func.isWrapper; first | (rw [if_pos (by decide +kernel)]; kernel_rfl) | (rw [if_neg (by decide +kernel)]; exact ⟨rfl,rfl⟩))
  (fun os started H enc _ => lifted os started H enc)
theorem proved : Rows.FnExactStepSaid := over
end Go.Proofs.YtcegokjpmppdbaaGreat.fnExactStep
namespace Go.Proofs.YtcegokjpmppdbaaGreat
theorem fnExactStep_holds : Rows.FnExactStepSaid := fnExactStep.proved
end Go.Proofs.YtcegokjpmppdbaaGreat
