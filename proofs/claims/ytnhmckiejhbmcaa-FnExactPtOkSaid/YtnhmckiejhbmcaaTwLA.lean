/- The law FnExactPtOk returns true for every port that it is called with, and the port reads as it did; no condition. -/
import Derived.Test.YtnhmckiejhbmcaaRows
import Derived.Test.YtnhmckiejhbmcaaTwA
import Derived.Test.YtnhmckiejhbmcaaTlRow
import Derived.WalkKit
import Derived.ProofKit
import Derived.OpenShut
import Derived.ShutString
import Derived.ChangeOld
import Derived.Below
import Derived.SizedLaws
namespace Go.Proofs.Ytnhmckiejhbmcaa.fnExactPtOk
open Go.ChangeShapes Go.WideShapes Go.ChangeAt Go.RowKit Go.TL
set_option linter.unusedVariables false
theorem laidOut : laidOutB Try.prog = true := by kernel_rfl
theorem own : ownKnob Try.prog.godebug = none := by kernel_rfl
theorem plain (x0_0 : Bool) (x0_1 : Int) (x0_2 : Bool) (x0_3 x0_4 x0_5 x0_6 x0_7 : Int) : Tw.laws_FnExactPtOkF x0_0 x0_1 x0_2 x0_3 x0_4 x0_5 x0_6 x0_7 = true := by
  have hin : Tw.impl_inF = Tw.spec_l1InF := rfl
  have hv : Tw.impl_VecOkF = Tw.spec_VecOkF := by
    funext a b c d e
    simp only [Tw.impl_VecOkF, Tw.spec_VecOkF, hin]
  have : Tw.impl_PtOkF x0_0 x0_1 x0_2 x0_3 x0_4 x0_5 x0_6 x0_7 = Tw.spec_PtOkF x0_0 x0_1 x0_2 x0_3 x0_4 x0_5 x0_6 x0_7 := by
    simp only [Tw.impl_PtOkF, Tw.spec_PtOkF, hin, hv]
    cases Tw.spec_l1InF x0_1 1 1000 <;> cases x0_0 <;> cases x0_2 <;> rfl
  simp only [Tw.laws_FnExactPtOkF, this]
  cases Tw.spec_PtOkF x0_0 x0_1 x0_2 x0_3 x0_4 x0_5 x0_6 x0_7 <;> rfl
set_option maxRecDepth 100000 in
theorem lifted (os : Os) (started : os.Started) (H : Type) (enc : TypeId × Value → H) :
    ReturnsInHanded {} Try.checked os 3 .any (Rows.fnExactPtOkSpec.pre6 enc Try.prog Try.f3 Rows.fnExactPtOkRow.domain false) (Rows.fnExactPtOkSpec.post enc Try.prog Try.f3 false true false false) := by
  refine returnsInHanded_of_change_sized (C := Try.checked) own started (by kernel_rfl) Try.func3
    (ChangeSpec.witness6 (enc := enc) (C := Try.checked) false ⟨#[], #[.agg #[.bool false, .int .i64 0, .bool false, .int .i64 0, .int .i64 0, .int .i64 0, .int .i64 0, .int .i64 0]], []⟩ 8 (by kernel_rfl) (by kernel_rfl) (by kernel_rfl) (by kernel_rfl)) ?_
  intro W base args ds gs before hval0 hW hcnd hsz0 _
  have hval : ∀ (j : Nat) t v, Try.f3.params[j]? = some t → args[j]? = some v → Value.okWide Try.prog W .any base t v := hval0
  have hW' := hW
  obtain ⟨p, q, hA0, hV, rfl, hfz, hnd⟩ := hW
  have hA : DataW.TrodAll enc Try.prog W 0 (fun _ => true) true Try.f3.params.toList args.toList ds p := hA0
  rw [Try.params3] at hA hval
  obtain ⟨v0, vs0, d0, ds0, p0, q0, hargs, rfl, rfl, h0, r0⟩ := trodAll_cons hA
  obtain ⟨rfl, rfl, rfl⟩ := trodAll_nil r0
  obtain rfl : args = #[v0] := by cases args; simp_all
  obtain ⟨rfl, rfl⟩ := trodVars_none hV
  have h0k := h0
  have hlt : ∀ x ∈ p0, x.block < W.heap.size := fun x hx => by simpa using hW'.lt x (by simp [hx])
  obtain ⟨fu0, hf0⟩ := h0
  have s0 := okWide_shp (ag := true) (by kernel_rfl) (hval 0 25 v0 rfl rfl)
  obtain ⟨_, t0, f0_0, g0⟩ := read_row (Z := fun b => b < W.heap.size) 20 25 [.bool, .int .i64, .bool, .int .i64, .int .i64, .int .i64, .int .i64, .int .i64] (by kernel_rfl) _ _ _ hf0
  obtain ⟨_, _, rfl, ⟨x0_0, rfl⟩, f0_1⟩ := fitR_cons f0_0
  obtain ⟨_, _, rfl, ⟨x0_1, rfl, w0_1⟩, f0_2⟩ := fitR_cons f0_1
  obtain ⟨_, _, rfl, ⟨x0_2, rfl⟩, f0_3⟩ := fitR_cons f0_2
  obtain ⟨_, _, rfl, ⟨x0_3, rfl, w0_3⟩, f0_4⟩ := fitR_cons f0_3
  obtain ⟨_, _, rfl, ⟨x0_4, rfl, w0_4⟩, f0_5⟩ := fitR_cons f0_4
  obtain ⟨_, _, rfl, ⟨x0_5, rfl, w0_5⟩, f0_6⟩ := fitR_cons f0_5
  obtain ⟨_, _, rfl, ⟨x0_6, rfl, w0_6⟩, f0_7⟩ := fitR_cons f0_6
  obtain ⟨_, _, rfl, ⟨x0_7, rfl, w0_7⟩, f0_8⟩ := fitR_cons f0_7
  obtain rfl := fitR_nil f0_8
  clear hA0 hval0 hsz0
  have hL := Tw.laws_FnExactPtOk x0_0 x0_1 x0_2 x0_3 x0_4 x0_5 x0_6 x0_7
  rw [plain] at hL
  refine (hL.below (vals := #[v0]) (w := W) rfl fun i arg hi => ?_).mono fun e W' ⟨he, bel⟩ => ?_
  · match i, hi with
    | 0, hi => cases hi; exact ⟨v0, _, _, rfl, rfl, s0, rfl, g0⟩
  subst he
  exact ⟨_, rfl, _, _, _, [], _, [], hW', trodAll_mk1 (shut_bool Try.underlying4 _), trodAll_mk1 (Below.trod laidOut (by kernel_rfl) (of_decide_eq_true (by kernel_rfl)) h0k bel hlt), rfl, bel.frame _, fun h => by cases h⟩
theorem over : Rows.fnExactPtOkRow.holds Try.pinned (OpenSpec.ofChange Rows.fnExactPtOkSpec) :=
  OpenClaim.holds_of_wide 3 Try.f3 rfl rfl rfl rfl rfl rfl rfl ⟨rfl, rfl, rfl, rfl, rfl⟩ rfl rfl rfl rfl rfl (by kernel_rfl) Try.func3 (by kernel_rfl)
    (of_decide_eq_true (by kernel_rfl)) (by unfold Func.isWrapper; first | (rw [if_pos (by decide +kernel)]; kernel_rfl) | (rw [if_neg (by decide +kernel)]; exact ⟨rfl, rfl⟩))
    (fun os started H enc _ => lifted os started H enc)
theorem proved : Rows.FnExactPtOkSaid := over
end Go.Proofs.Ytnhmckiejhbmcaa.fnExactPtOk
namespace Go.Proofs.Ytnhmckiejhbmcaa
/-- The row, under a short name, for the claim. -/
theorem fnExactPtOk_holds : Rows.FnExactPtOkSaid := fnExactPtOk.proved
end Go.Proofs.Ytnhmckiejhbmcaa
