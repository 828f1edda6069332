/- What the functions answer, on plain data. -/
import Derived.Test.YtnhmckiejhbmcaaTwV
import Derived.Test.YtnhmckiejhbmcaaTlPlain
set_option linter.unusedVariables false
set_option linter.unusedSimpArgs false
set_option maxRecDepth 100000
namespace Go.Proofs.Ytnhmckiejhbmcaa.Tw
open Go Go.TL Go.Proofs
def Vtab.sz (x : Vtab) : Nat := x.Rows.length + x.Pvid.length
theorem laws_eqIntSF_refl (n : Nat) (xs : List Int) (h : xs.length ≤ 1048576) (hn : xs.length < n) : laws_eqIntSF n xs xs = some true := by
  unfold laws_eqIntSF
  have := eq_loop (L := laws_eqIntS_L2 n) (f := fun a b => some (a == b)) (fun m xs ys i => rfl) xs (by omega) (fun v _ => by simp) n 0 (by omega) (by omega)
  simp only [bne_self_eq_false, cond_false]
  rw [show (laws_eqIntS_L2 n n xs xs 0) = _ from this]
  rfl
theorem laws_eqVrowF_refl (n : Nat) (v : Vrow) : laws_eqVrowF n v v = some true := by simp [laws_eqVrowF]
theorem laws_eqVrowSF_refl (n : Nat) (xs : List Vrow) (h : xs.length ≤ 1048576) (hn : xs.length < n) : laws_eqVrowSF n xs xs = some true := by
  unfold laws_eqVrowSF
  have := eq_loop (L := laws_eqVrowS_L2 n) (f := laws_eqVrowF n) (fun m xs ys i => rfl) xs (by omega) (fun v _ => laws_eqVrowF_refl n v) n 0 (by omega) (by omega)
  simp only [bne_self_eq_false, cond_false]
  rw [show (laws_eqVrowS_L2 n n xs xs 0) = _ from this]
  rfl
theorem laws_eqVtabF_refl (n : Nat) (x : Vtab) (h : x.sz ≤ 1048576) (hn : x.sz < n) : laws_eqVtabF n x x = some true := by
  unfold Vtab.sz at h hn
  unfold laws_eqVtabF
  rw [laws_eqVrowSF_refl n x.Rows (by omega) (by omega), laws_eqIntSF_refl n x.Pvid (by omega) (by omega)]
  rfl
theorem impl_inF_eq (n : Nat) : impl_inF n = spec_l1InF n := rfl
theorem spec_l1InF_val (n : Nat) (a b c : Int) : spec_l1InF n a b c = some (decide (b ≤ a) && decide (a ≤ c)) := by
  unfold spec_l1InF
  by_cases h : a ≥ b
  · rw [decide_eq_true h]; rfl
  · rw [decide_eq_false h]; rfl
theorem laws_FnExactVtabNew_plain (x0 : Int) (w0 : intWf x0) : ∃ n, laws_FnExactVtabNewF n x0 = some true := by
  refine ⟨20, ?_⟩
  by_cases h : 1 ≤ x0 ∧ x0 ≤ 6
  · have hc : x0 = 1 ∨ x0 = 2 ∨ x0 = 3 ∨ x0 = 4 ∨ x0 = 5 ∨ x0 = 6 := by omega
    rcases hc with rfl | rfl | rfl | rfl | rfl | rfl <;> decide +kernel
  · have hp : (decide (1 ≤ x0) && decide (x0 ≤ 6)) = false := by
      simp only [Bool.and_eq_false_iff, decide_eq_false_iff_not]; omega
    have e1 : spec_VtabNewF 20 x0 = some ⟨[], []⟩ := by
      unfold spec_VtabNewF
      rw [spec_l1InF_val, hp]
      rfl
    have e2 : impl_VtabNewF 20 x0 = some ⟨[], []⟩ := by
      unfold impl_VtabNewF
      rw [impl_inF_eq, spec_l1InF_val, hp]
      rfl
    simp only [laws_FnExactVtabNewF, e1, e2, Option.bind_some]
    decide +kernel
end Go.Proofs.Ytnhmckiejhbmcaa.Tw
