import Derived.Test.YtajadnlejdpceaaRows
import Derived.Test.YtajadnlejdpceaaTwFIP
import Derived.Test.YtajadnlejdpceaaTlRow
import Derived.WalkKit
import Derived.ProofKit
import Derived.OpenShut
import Derived.ShutString
import Derived.ChangeOld
import Derived.Below
import Derived.SizedLaws
namespace Go.Proofs.Ytajadnlejdpceaa.fnExactFits
open Go.ChangeShapes Go.WideShapes Go.ChangeAt Go.RowKit Go.TL
set_option linter.unusedVariables false
theorem laidOut : laidOutB Try.prog = true := by kernel_rfl
theorem own : ownKnob Try.prog.godebug = none := by kernel_rfl
set_option maxRecDepth 100000 in
theorem lifted (os : Os) (started : os.Started) (H : Type) (enc : TypeId × Value → H) :
  ReturnsInHanded {} Try.checked os 3 .any (Rows.fnExactFitsSpec.pre6 enc Try.prog Try.f3 Rows.fnExactFitsRow.domain false) (Rows.fnExactFitsSpec.post enc Try.prog Try.f3 false true false false) := by
 refine returnsInHanded_of_change_sized (C := Try.checked) own started (by kernel_rfl) Try.func3
  (ChangeSpec.witness6 (enc := enc) (C := Try.checked) false ⟨#[],#[.agg #[.int .i64 0,.int .i64 0,.int .i64 0,.int .i64 0,.slice none 0 0]],[]⟩ 8 (by kernel_rfl) (by kernel_rfl) (by kernel_rfl) (by kernel_rfl)) ?_
 intro W base args ds gs before hval0 hW hcnd hsz0 _
 have hval : ∀ (j : Nat) t v,Try.f3.params[j]? = some t → args[j]? = some v → Value.okWide Try.prog W .any base t v := hval0
 have hW' := hW
 obtain ⟨p,q,hA0,hV,rfl,hfz,hnd⟩ := hW
 have hA : DataW.TrodAll enc Try.prog W 0 (fun _ => true) true Try.f3.params.toList args.toList ds p := hA0
 rw [Try.params3] at hA hval
 obtain ⟨v0,vs0,d0,ds0,p0,q0,hargs,rfl,rfl,h0,r0⟩ := trodAll_cons hA
 obtain ⟨rfl,rfl,rfl⟩ := trodAll_nil r0
 obtain rfl : args = #[v0] := by cases args; simp_all
 obtain ⟨rfl,rfl⟩ := trodVars_none hV
 have h0k := h0
 have hlt0 : ∀ x ∈ p0,x.block < W.heap.size := fun x hx => by simpa using hW'.lt x (by simp [hx])
 obtain ⟨fu0,hf0⟩ := h0
 have s0 := zCs (ag := true) (by kernel_rfl) (hval 0 24 v0 rfl rfl)
 obtain ⟨_,t0,f0,g0⟩ := zDh (Z := fun b => b < W.heap.size) (fun _ h => h) 20 24 [.int .i64,.int .i64,.int .i64,.int .i64,.sl 5 [.sl 1 [.int .i64],.int .i64,.int .i64,.str,.sl 1 [.int .i64]]] (by kernel_rfl) _ _ _ hf0
 obtain ⟨x0,rfl,w0⟩ := Tw.Pdu.enc _ f0
 clear hA0 hval0 hsz0
 obtain ⟨n,hp⟩ := Tw.Yu x0 w0
 have hL := Tw.zAQ n x0 true hp
 refine (hL.below (vals := #[v0]) (w := W) rfl fun i arg hi => ?_).mono fun e W' ⟨he,bel⟩ => ?_
 ·match i,hi with
  | 0,hi => cases hi; exact ⟨v0,_,_,rfl,rfl,s0,Yr _,g0⟩
 subst he
 exact ⟨_,rfl,_,_,_,[],_,[],hW',trodAll_mk1 (shut_bool Try.underlying4 _),trodAll_cons_mk (Below.trod laidOut (by kernel_rfl) (of_decide_eq_true (by kernel_rfl)) h0k bel hlt0) (trodAll_mk0),rfl,bel.frame _,fun h => by cases h⟩
theorem over : Rows.fnExactFitsRow.holds Try.pinned (OpenSpec.ofChange Rows.fnExactFitsSpec) :=
 OpenClaim.holds_of_wide 3 Try.f3 rfl rfl rfl rfl rfl rfl rfl ⟨rfl,rfl,rfl,rfl,rfl⟩ rfl rfl rfl rfl rfl (by kernel_rfl) Try.func3 (by kernel_rfl)
  (of_decide_eq_true (by kernel_rfl)) (by unfold Func.isWrapper; first | (rw [if_pos (by decide +kernel)]; kernel_rfl) | (rw [if_neg (by decide +kernel)]; exact ⟨rfl,rfl⟩))
  (fun os started H enc _ => lifted os started H enc)
theorem proved : Rows.FnExactFitsSaid := over
end Go.Proofs.Ytajadnlejdpceaa.fnExactFits
namespace Go.Proofs.Ytajadnlejdpceaa
theorem fnExactFits_holds : Rows.FnExactFitsSaid := fnExactFits.proved
end Go.Proofs.Ytajadnlejdpceaa
