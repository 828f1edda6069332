/- What the functions answer, on plain data. -/
import Derived.Test.YtnhmckiejhbmcaaTwN
import Derived.Test.YtnhmckiejhbmcaaTlPlain
set_option linter.unusedVariables false
set_option linter.unusedSimpArgs false
set_option maxRecDepth 100000
namespace Go.Proofs.Ytnhmckiejhbmcaa.Tw
open Go Go.TL Go.Proofs
theorem laws_szPtSF_ok (n : Nat) {xs : List Pt} {b : Int} (h0 : 0 ≤ b) (h1 : b ≤ 1048576) (hl : xs.length ≤ maxLen) : ∃ r, laws_szPtSF n xs b = some r ∧ Lft b xs.length r := sz_step h0 h1 hl
theorem laws_toPtSF_eq (n : Nat) (xs : List Pt) (h : xs.length ≤ 1048576) (hn : xs.length < n) : laws_toPtSF n xs = some xs := by
  unfold laws_toPtSF
  rw [decide_eq_true (by omega : (0 : Int) ≤ (xs.length : Int)), decide_eq_true (by omega : (xs.length : Int) ≤ 268435456)]
  have := copy_loop (L := laws_toPtS_L2 n) (fun m xs i ys => rfl) xs (by omega) n 0 (List.replicate ((xs.length : Int)).toNat (⟨false, 0, false, (⟨0, 0, 0, 0, 0⟩ : Vec)⟩ : Pt)) (by omega) (by omega) (by simp) rfl
  simp only [Bool.and_self, cond_true]
  rw [show (laws_toPtS_L2 n n xs 0 (List.replicate ((xs.length : Int)).toNat (⟨false, 0, false, (⟨0, 0, 0, 0, 0⟩ : Vec)⟩ : Pt))) = _ from this]
  rfl
theorem laws_eqVecF_refl (n : Nat) (v : Vec) : laws_eqVecF n v v = some true := by simp [laws_eqVecF]
theorem laws_eqPtF_refl (n : Nat) (v : Pt) : laws_eqPtF n v v = some true := by simp [laws_eqPtF, laws_eqVecF_refl]
theorem laws_eqPtSF_refl (n : Nat) (xs : List Pt) (h : xs.length ≤ 1048576) (hn : xs.length < n) : laws_eqPtSF n xs xs = some true := by
  unfold laws_eqPtSF
  have := eq_loop (L := laws_eqPtS_L2 n) (f := laws_eqPtF n) (fun m xs ys i => rfl) xs (by omega) (fun v _ => laws_eqPtF_refl n v) n 0 (by omega) (by omega)
  simp only [bne_self_eq_false, cond_false]
  rw [show (laws_eqPtS_L2 n n xs xs 0) = _ from this]
  rfl
theorem impl_VecOkF_eq (n : Nat) : impl_VecOkF n = spec_VecOkF n := rfl
theorem impl_StepVecF_eq (n : Nat) : impl_StepVecF n = spec_StepVecF n := rfl
theorem spec_l1InF_tot (n : Nat) (a b c : Int) : Tot (spec_l1InF n a b c) := Tot.bif (fun _ => .of) (fun _ => .of)
theorem spec_VecOkF_tot (n : Nat) (v : Vec) : Tot (spec_VecOkF n v) := by
  unfold spec_VecOkF
  repeat' first | exact Tot.of | refine Tot.bind (spec_l1InF_tot _ _ _ _) fun _ _ => ?_ | refine Tot.bif (fun _ => ?_) (fun _ => ?_)
theorem spec_StepVecF_tot (n : Nat) (v : Vec) (c : Int) : Tot (spec_StepVecF n v c) := by
  unfold spec_StepVecF
  repeat' first | exact Tot.of | refine Tot.bind (spec_l1InF_tot _ _ _ _) fun _ _ => ?_ | refine Tot.bind (spec_VecOkF_tot _ _) fun _ _ => ?_ | refine Tot.bif (fun _ => ?_) (fun _ => ?_)
theorem impl_LessVecF_eq (n : Nat) : impl_LessVecF n = spec_LessVecF n := rfl
theorem spec_LessVecF_tot (n : Nat) (v u : Vec) : Tot (spec_LessVecF n v u) := by
  unfold spec_LessVecF
  repeat' first | exact Tot.of | refine Tot.bif (fun _ => ?_) (fun _ => ?_)
theorem spec_BestVec_L2_tot (n : Nat) (x0 : Int) (x1 : List Pt) (h : x1.length ≤ 1048576) : ∀ (m k : Nat) (y2 y3 y4 y5 y6 y7 y8 y9 y10 : Int), k ≤ x1.length → x1.length < m + k → Tot (spec_BestVec_L2 n m x0 x1 k y2 y3 y4 y5 y6 y7 y8 y9 y10)
  | 0, k, y2, y3, y4, y5, y6, y7, y8, y9, y10, h1, h2 => by omega
  | m + 1, k, y2, y3, y4, y5, y6, y7, y8, y9, y10, h1, h2 => by
    rw [spec_BestVec_L2]
    refine Tot.step (fun hk => ?_) .of
    have ih := fun y2 y3 y4 y5 y6 y7 y8 y9 y10 => spec_BestVec_L2_tot n x0 x1 h m (k + 1) y2 y3 y4 y5 y6 y7 y8 y9 y10 (by omega) (by omega)
    simp only [spec_BestVec_J3, wrap_nat (by omega : k ≤ 1099511627776)]
    repeat' first | exact ih _ _ _ _ _ _ _ _ _ | exact Tot.of | refine Tot.bind (idx_tot hk) fun _ _ => ?_ | refine Tot.bind (spec_StepVecF_tot _ _ _) fun _ _ => ?_ | refine Tot.bind (spec_LessVecF_tot _ _ _) fun _ _ => ?_ | refine Tot.bif (fun _ => ?_) (fun _ => ?_)
theorem spec_BestVecF_tot (n : Nat) (x0 : Int) (x1 : List Pt) (h : x1.length ≤ 1048576) (hn : x1.length < n) : Tot (spec_BestVecF n x0 x1) := by
  unfold spec_BestVecF
  refine Tot.bind (spec_BestVec_L2_tot n x0 x1 h n 0 _ _ _ _ _ _ _ _ _ (by omega) (by omega)) fun o _ => ?_
  cases o <;> exact Tot.of
theorem impl_BestVec_L2_eq (n : Nat) : impl_BestVec_L2 n = spec_BestVec_L2 n := by
  funext m
  induction m with
  | zero => rfl
  | succ m ih =>
    funext x0 x1 y1 y2 y3 y4 y5 y6 y7 y8 y9 y10
    simp only [impl_BestVec_L2, spec_BestVec_L2, ih, impl_BestVec_J3, spec_BestVec_J3, impl_StepVecF_eq, impl_LessVecF_eq]
    cases idx x1 y1 <;> rfl
theorem impl_BestVecF_eq (n : Nat) : impl_BestVecF n = spec_BestVecF n := by
  funext x i; simp only [impl_BestVecF, spec_BestVecF, impl_BestVec_L2_eq]; rfl
theorem laws_eqVecF_same (n : Nat) (v u : Vec) (h : v = u) : laws_eqVecF n v u = some true := by rw [h]; exact laws_eqVecF_refl n u
theorem impl_SayVecF_eq (n : Nat) : impl_SayVecF n = spec_SayVecF n := by
  funext x i y; simp only [impl_SayVecF, spec_SayVecF, impl_BestVecF_eq]
theorem spec_SayVecF_tot (n : Nat) (x0 : Int) (x1 : List Pt) (x2 : Int) (h : x1.length ≤ 1048576) (hn : x1.length < n) : Tot (spec_SayVecF n x0 x1 x2) := Tot.bind (spec_BestVecF_tot n x0 x1 h hn) fun _ _ => .of
theorem impl_RoleOfF_eq (n : Nat) : impl_RoleOfF n = spec_RoleOfF n := by
  funext x i y; simp only [impl_RoleOfF, spec_RoleOfF, impl_BestVecF_eq, impl_SayVecF_eq, impl_LessVecF_eq]; rfl
theorem spec_RoleOfF_ok (n : Nat) (x0 : Int) (x1 : List Pt) (x2 : Int) (h : x1.length ≤ 1048576) (hn : x1.length < n) : ∃ r, spec_RoleOfF n x0 x1 x2 = some r ∧ 1 ≤ r ∧ r ≤ 4 := by
  unfold spec_RoleOfF spec_l1InF
  rw [wrap64 (by omega) (by omega)]
  obtain ⟨b, hb⟩ := spec_BestVecF_tot n x0 x1 h hn
  obtain ⟨s, hs⟩ := spec_SayVecF_tot n x0 x1 x2 h hn
  by_cases h1 : x2 ≥ 0
  · by_cases h2 : x2 ≤ (x1.length : Int) - 1
    · obtain ⟨v, hv, _⟩ := idx_of (xs := x1) h1 (by omega)
      obtain ⟨l, hl⟩ := spec_LessVecF_tot n s v.Heard
      simp only [decide_eq_true h1, decide_eq_true h2, cond_true, Option.bind_some, Bool.not_true, cond_false, hb, hs, hv, hl]
      cases v.Up <;> cases (b.2 == x2) <;> cases v.Has <;> cases l <;> exact ⟨_, rfl, by decide, by decide⟩
    · simp only [decide_eq_true h1, decide_eq_false h2, cond_true, Option.bind_some, Bool.not_false]
      exact ⟨_, rfl, by decide, by decide⟩
  · simp only [decide_eq_false h1, cond_false, Option.bind_some, Bool.not_false, cond_true]
    exact ⟨_, rfl, by decide, by decide⟩
theorem wrapU {k : Nat} (h : k ≤ 1099511627776) : IntKind.wrap .u64 (k : Int) = k := by
  show ((k : Int) % 18446744073709551616) = k
  omega
theorem spec_Sends_L2_both (n : Nat) (x0 : Int) (x1 : List Pt) (h : x1.length ≤ 1048576) (hn : x1.length < n) : ∀ (m k : Nat) (y2 : Int), k ≤ x1.length → x1.length < m + k → impl_Sends_L2 n m x0 x1 k y2 = spec_Sends_L2 n m x0 x1 k y2 ∧ Tot (spec_Sends_L2 n m x0 x1 k y2)
  | 0, k, y2, h1, h2 => by omega
  | m + 1, k, y2, h1, h2 => by
    rw [spec_Sends_L2, impl_Sends_L2]
    by_cases hk : k < x1.length
    · have ih := fun y2 => spec_Sends_L2_both n x0 x1 h hn m (k + 1) y2 (by omega) (by omega)
      obtain ⟨r, hr, r1, r2⟩ := spec_RoleOfF_ok n x0 x1 k h hn
      have hk' : decide ((k : Int) < (x1.length : Int)) = true := decide_eq_true (by omega)
      have h0 : decide ((0 : Int) ≤ (k : Int)) = true := decide_eq_true (by omega)
      simp only [hk', wrap_nat (by omega : k ≤ 1099511627776), wrapU (by omega : k ≤ 1099511627776), impl_RoleOfF_eq, hr, Option.bind_some, h0, cond_true, (ih _).1, true_and]
      have hc : r = 1 ∨ r = 2 ∨ r = 3 ∨ r = 4 := by omega
      rcases hc with rfl | rfl | rfl | rfl <;> cases (decide ((k : Int) < 6)) <;> first | exact ⟨rfl, (ih _).2⟩ | exact ⟨rfl, Tot.of⟩
    · have hk' : decide ((k : Int) < (x1.length : Int)) = false := decide_eq_false (by omega)
      rw [hk']
      exact ⟨rfl, Tot.of⟩
theorem spec_SendsF_both (n : Nat) (x0 : Int) (x1 : List Pt) (h : x1.length ≤ 1048576) (hn : x1.length < n) : impl_SendsF n x0 x1 = spec_SendsF n x0 x1 ∧ Tot (spec_SendsF n x0 x1) := by
  obtain ⟨h1, o, h2⟩ := spec_Sends_L2_both n x0 x1 h hn n 0 0 (by omega) (by omega)
  unfold impl_SendsF spec_SendsF
  have e1 : impl_Sends_L2 n n x0 x1 0 0 = some o := h1.trans h2
  have e2 : spec_Sends_L2 n n x0 x1 0 0 = some o := h2
  rw [e1, e2]
  cases o <;> exact ⟨rfl, Tot.of⟩
theorem laws_FnExactSends_plain (x0 : Int) (x1 : List Pt) (w0 : intWf x0) (w1 : listWf Pt.wf x1) : ∃ n, laws_FnExactSendsF n x0 x1 = some true := by
  refine ⟨1048577, ?_⟩
  obtain ⟨r, e, k⟩ := laws_szPtSF_ok 1048577 (xs := x1) (b := 1048576) (by decide) (by decide) w1.1
  simp only [laws_FnExactSendsF, e, Option.bind_some]
  rcases k.neg with ⟨c1, _⟩ | ⟨c1, c2, c3⟩
  · rw [c1]; rfl
  · have hs : x1.length ≤ 1048576 := by omega
    obtain ⟨g, q, hq⟩ := spec_SendsF_both 1048577 x0 x1 hs (by omega)
    simp only [c1, cond_false, laws_toPtSF_eq 1048577 x1 hs (by omega), Option.bind_some, g, hq, bne_self_eq_false, laws_eqPtSF_refl 1048577 x1 hs (by omega), Bool.not_true]
end Go.Proofs.Ytnhmckiejhbmcaa.Tw
