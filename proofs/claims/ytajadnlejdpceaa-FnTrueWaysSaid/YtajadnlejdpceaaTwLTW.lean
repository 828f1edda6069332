import Derived.Test.YtajadnlejdpceaaRows
import Derived.Test.YtajadnlejdpceaaTwTWP
import Derived.Test.YtajadnlejdpceaaTlRow
import Derived.WalkKit
import Derived.ProofKit
import Derived.OpenShut
import Derived.ShutString
import Derived.ChangeOld
import Derived.Below
import Derived.SizedLaws
namespace Go.Proofs.Ytajadnlejdpceaa.fnTrueWays
open Go.ChangeShapes Go.WideShapes Go.ChangeAt Go.RowKit Go.TL
set_option linter.unusedVariables false
theorem laidOut : laidOutB Try.prog = true := by kernel_rfl
theorem own : ownKnob Try.prog.godebug = none := by kernel_rfl
set_option maxRecDepth 100000 in
theorem lifted (os : Os) (started : os.Started) (H : Type) (enc : TypeId × Value → H) :
  ReturnsInHanded {} Try.checked os 6 .any (Rows.fnTrueWaysSpec.pre6 enc Try.prog Try.f6 Rows.fnTrueWaysRow.domain false) (Rows.fnTrueWaysSpec.post enc Try.prog Try.f6 false true false false) := by
 refine returnsInHanded_of_change_sized (C := Try.checked) own started (by kernel_rfl) Try.func6
  (ChangeSpec.witness6 (enc := enc) (C := Try.checked) false ⟨#[],#[.slice none 0 0],[]⟩ 8 (by kernel_rfl) (by kernel_rfl) (by kernel_rfl) (by kernel_rfl)) ?_
 intro W base args ds gs before hval0 hW hcnd hsz0 _
 have hval : ∀ (j : Nat) t v,Try.f6.params[j]? = some t → args[j]? = some v → Value.okWide Try.prog W .any base t v := hval0
 have hW' := hW
 obtain ⟨p,q,hA0,hV,rfl,hfz,hnd⟩ := hW
 have hA : DataW.TrodAll enc Try.prog W 0 (fun _ => true) true Try.f6.params.toList args.toList ds p := hA0
 rw [Try.params6] at hA hval
 obtain ⟨v0,vs0,d0,ds0,p0,q0,hargs,rfl,rfl,h0,r0⟩ := trodAll_cons hA
 obtain ⟨rfl,rfl,rfl⟩ := trodAll_nil r0
 obtain rfl : args = #[v0] := by cases args; simp_all
 obtain ⟨rfl,rfl⟩ := trodVars_none hV
 have h0k := h0
 have hlt0 : ∀ x ∈ p0,x.block < W.heap.size := fun x hx => by simpa using hW'.lt x (by simp [hx])
 obtain ⟨fu0,hf0⟩ := h0
 have s0 := zKN (ag := false) (by kernel_rfl) (hval 0 33 v0 rfl rfl)
 obtain ⟨_,t0,f0,g0⟩ := zLh (Z := fun b => b < W.heap.size) (fun _ h => h) 20 33 [.sl 1 [.int .u8]] (by kernel_rfl) _ _ _ hf0
 obtain ⟨c0,_,rfl,fc0,fn0⟩ := zH f0
 obtain rfl := QF fn0
 obtain ⟨x0,rfl,w0⟩ := Enc.sl zJt fc0
 clear hA0 hval0 hsz0
 obtain ⟨n,hp⟩ := Tw.zDz x0 w0
 have hL := Tw.zG6 n x0 true hp
 refine (hL.below (vals := #[v0]) (w := W) rfl fun i arg hi => ?_).mono fun e W' ⟨he,bel⟩ => ?_
 ·match i,hi with
  | 0,hi => cases hi; exact ⟨v0,_,_,rfl,rfl,s0,rfl,g0⟩
 subst he
 exact ⟨_,rfl,_,_,_,[],_,[],hW',trodAll_mk1 (shut_bool Try.underlying4 _),trodAll_cons_mk (Below.trod laidOut (by kernel_rfl) (of_decide_eq_true (by kernel_rfl)) h0k bel hlt0) (trodAll_mk0),rfl,bel.frame _,fun h => by cases h⟩
theorem over : Rows.fnTrueWaysRow.holds Try.pinned (OpenSpec.ofChange Rows.fnTrueWaysSpec) :=
 OpenClaim.holds_of_wide 6 Try.f6 rfl rfl rfl rfl rfl rfl rfl ⟨rfl,rfl,rfl,rfl,rfl⟩ rfl rfl rfl rfl rfl (by kernel_rfl) Try.func6 (by kernel_rfl)
  (of_decide_eq_true (by kernel_rfl)) (by unfold Func.isWrapper; first | (rw [if_pos (by decide +kernel)]; kernel_rfl) | (rw [if_neg (by decide +kernel)]; exact ⟨rfl,rfl⟩))
  (fun os started H enc _ => lifted os started H enc)
theorem proved : Rows.FnTrueWaysSaid := over
end Go.Proofs.Ytajadnlejdpceaa.fnTrueWays
namespace Go.Proofs.Ytajadnlejdpceaa
theorem fnTrueWays_holds : Rows.FnTrueWaysSaid := fnTrueWays.proved
end Go.Proofs.Ytajadnlejdpceaa
