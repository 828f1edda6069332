/- What the functions answer, on plain data. -/
import Derived.Test.YtnhmckiejhbmcaaTwB
import Derived.Test.YtnhmckiejhbmcaaTlPlain
set_option linter.unusedVariables false
set_option linter.unusedSimpArgs false
set_option maxRecDepth 100000
namespace Go.Proofs.Ytnhmckiejhbmcaa.Tw
open Go Go.TL Go.Proofs
theorem laws_szIntSF_ok (n : Nat) {xs : List Int} {b : Int} (h0 : 0 ≤ b) (h1 : b ≤ 1048576) (hl : xs.length ≤ maxLen) : ∃ r, laws_szIntSF n xs b = some r ∧ Lft b xs.length r := sz_step h0 h1 hl
theorem laws_szVrowSF_ok (n : Nat) {xs : List Vrow} {b : Int} (h0 : 0 ≤ b) (h1 : b ≤ 1048576) (hl : xs.length ≤ maxLen) : ∃ r, laws_szVrowSF n xs b = some r ∧ Lft b xs.length r := sz_step h0 h1 hl
def Vtab.sz (x : Vtab) : Nat := x.Rows.length + x.Pvid.length
theorem laws_szVtabF_ok (n : Nat) {x : Vtab} {b : Int} (h0 : 0 ≤ b) (h1 : b ≤ 1048576) (hl : Vtab.wf x) : ∃ r, laws_szVtabF n x b = some r ∧ Lft b x.sz r := by
  obtain ⟨r1, e1, k1⟩ := laws_szVrowSF_ok n h0 h1 hl.1.1
  simp only [laws_szVtabF, e1, Option.bind_some]
  rcases k1.neg with ⟨c1, c2⟩ | ⟨c1, c2, c3⟩
  · rw [c1]; exact ⟨_, rfl, .inl (by decide)⟩
  · rw [c1]
    obtain ⟨r2, e2, k2⟩ := laws_szIntSF_ok n c2 (by omega) hl.2.1.1
    simp only [e2, Option.bind_some, cond_false]
    rcases k2.neg with ⟨d1, d2⟩ | ⟨d1, d2, d3⟩
    · rw [d1]; exact ⟨_, rfl, .inl (by decide)⟩
    · rw [d1]; exact ⟨_, rfl, .inr ⟨d2, by unfold Vtab.sz; omega⟩⟩
theorem laws_toIntSF_eq (n : Nat) (xs : List Int) (h : xs.length ≤ 1048576) (hn : xs.length < n) : laws_toIntSF n xs = some xs := by
  unfold laws_toIntSF
  rw [decide_eq_true (by omega : (0 : Int) ≤ (xs.length : Int)), decide_eq_true (by omega : (xs.length : Int) ≤ 268435456)]
  have := copy_loop (L := laws_toIntS_L1 n) (fun m xs i ys => rfl) xs (by omega) n 0 (List.replicate ((xs.length : Int)).toNat 0) (by omega) (by omega) (by simp) rfl
  simp only [Bool.and_self, cond_true]
  rw [show (laws_toIntS_L1 n n xs 0 (List.replicate ((xs.length : Int)).toNat 0)) = _ from this]
  rfl
theorem laws_toVrowSF_eq (n : Nat) (xs : List Vrow) (h : xs.length ≤ 1048576) (hn : xs.length < n) : laws_toVrowSF n xs = some xs := by
  unfold laws_toVrowSF
  rw [decide_eq_true (by omega : (0 : Int) ≤ (xs.length : Int)), decide_eq_true (by omega : (xs.length : Int) ≤ 268435456)]
  have := copy_loop (L := laws_toVrowS_L1 n) (fun m xs i ys => rfl) xs (by omega) n 0 (List.replicate ((xs.length : Int)).toNat (⟨0, 0, 0⟩ : Vrow)) (by omega) (by omega) (by simp) rfl
  simp only [Bool.and_self, cond_true]
  rw [show (laws_toVrowS_L1 n n xs 0 (List.replicate ((xs.length : Int)).toNat (⟨0, 0, 0⟩ : Vrow))) = _ from this]
  rfl
theorem laws_toVtabF_eq (n : Nat) (x : Vtab) (h : x.sz ≤ 1048576) (hn : x.sz < n) : laws_toVtabF n x = some x := by
  unfold Vtab.sz at h hn
  unfold laws_toVtabF
  rw [laws_toVrowSF_eq n x.Rows (by omega) (by omega), laws_toIntSF_eq n x.Pvid (by omega) (by omega)]
  rfl
theorem laws_eqIntSF_refl (n : Nat) (xs : List Int) (h : xs.length ≤ 1048576) (hn : xs.length < n) : laws_eqIntSF n xs xs = some true := by
  unfold laws_eqIntSF
  have := eq_loop (L := laws_eqIntS_L1 n) (f := fun a b => some (a == b)) (fun m xs ys i => rfl) xs (by omega) (fun v _ => by simp) n 0 (by omega) (by omega)
  simp only [bne_self_eq_false, cond_false]
  rw [show (laws_eqIntS_L1 n n xs xs 0) = _ from this]
  rfl
theorem laws_eqVrowF_refl (n : Nat) (v : Vrow) : laws_eqVrowF n v v = some true := by simp [laws_eqVrowF]
theorem laws_eqVrowSF_refl (n : Nat) (xs : List Vrow) (h : xs.length ≤ 1048576) (hn : xs.length < n) : laws_eqVrowSF n xs xs = some true := by
  unfold laws_eqVrowSF
  have := eq_loop (L := laws_eqVrowS_L1 n) (f := laws_eqVrowF n) (fun m xs ys i => rfl) xs (by omega) (fun v _ => laws_eqVrowF_refl n v) n 0 (by omega) (by omega)
  simp only [bne_self_eq_false, cond_false]
  rw [show (laws_eqVrowS_L1 n n xs xs 0) = _ from this]
  rfl
theorem laws_eqVtabF_refl (n : Nat) (x : Vtab) (h : x.sz ≤ 1048576) (hn : x.sz < n) : laws_eqVtabF n x x = some true := by
  unfold Vtab.sz at h hn
  unfold laws_eqVtabF
  rw [laws_eqVrowSF_refl n x.Rows (by omega) (by omega), laws_eqIntSF_refl n x.Pvid (by omega) (by omega)]
  rfl
theorem impl_RowAt_L1_eq (n : Nat) : impl_RowAt_L1 n = spec_RowAt_L1 n := by
  funext m
  induction m with
  | zero => rfl
  | succ m ih => funext x i y; simp only [impl_RowAt_L1, spec_RowAt_L1, ih]
theorem impl_RowAtF_eq (n : Nat) : impl_RowAtF n = spec_RowAtF n := by
  funext x i; simp only [impl_RowAtF, spec_RowAtF, impl_RowAt_L1_eq]
theorem spec_RowAtF_ok (n : Nat) (x : Vtab) (id : Int) (h : x.Rows.length ≤ 1048576) (hn : x.Rows.length < n) : ∃ r, spec_RowAtF n x id = some r ∧ (r = -1 ∧ (∀ v ∈ x.Rows, v.Id ≠ id) ∨ ∃ v, 0 ≤ r ∧ idx x.Rows r = some v ∧ v.Id = id) := by
  unfold spec_RowAtF
  have hf := find_loop (L := fun m xs i => spec_RowAt_L1 n m ⟨xs, x.Pvid⟩ id i) (p := fun i v => bif v.Id == id then some i else none) (fun m xs i => by
    show (bif _ then _ else _) = _
    congr 1
    congr 1
    funext v
    cases (v.Id == id) <;> rfl) x.Rows (by omega) n 0 (by omega) (by omega)
  rcases hf with ⟨e1, e2⟩ | ⟨j, hj, r, e1, e2, e3, e4⟩
  · rw [show spec_RowAt_L1 n n x id 0 = _ from e1]
    refine ⟨-1, rfl, .inl ⟨rfl, fun v hv => ?_⟩⟩
    obtain ⟨j, hj, rfl⟩ := List.getElem_of_mem hv
    have := e2 j hj (by omega)
    intro hid
    simp [hid] at this
  · rw [show spec_RowAt_L1 n n x id 0 = _ from e4]
    have hid : (x.Rows[j].Id == id) = true := by
      cases hc : (x.Rows[j].Id == id) with
      | true => rfl
      | false => rw [hc] at e2; cases e2
    rw [hid] at e2
    cases e2
    exact ⟨_, rfl, .inr ⟨_, by omega, idx_nat hj, by simpa using hid⟩⟩
theorem impl_EgressOfF_eq (n : Nat) : impl_EgressOfF n = spec_EgressOfF n := by
  funext x i; simp only [impl_EgressOfF, spec_EgressOfF, impl_RowAtF_eq]
theorem spec_EgressOfF_ok (n : Nat) (x : Vtab) (id : Int) (h : x.Rows.length ≤ 1048576) (hn : x.Rows.length < n) : ∃ r, spec_EgressOfF n x id = some r := by
  obtain ⟨r, e, k⟩ := spec_RowAtF_ok n x id h hn
  unfold spec_EgressOfF
  rw [e]
  rcases k with ⟨rfl, _⟩ | ⟨v, k1, k2, _⟩
  · exact ⟨_, rfl⟩
  · rw [Option.bind_some, decide_eq_false (by omega), k2]
    exact ⟨_, rfl⟩
theorem laws_FnExactEgressOf_plain (x0 : Vtab) (x1 : Int) (w0 : x0.wf) (w1 : intWf x1) : ∃ n, laws_FnExactEgressOfF n x0 x1 = some true := by
  refine ⟨1048577, ?_⟩
  obtain ⟨r, e, k⟩ := laws_szVtabF_ok 1048577 (x := x0) (b := 1048576) (by decide) (by decide) w0
  simp only [laws_FnExactEgressOfF, e, Option.bind_some]
  rcases k.neg with ⟨c1, _⟩ | ⟨c1, c2, c3⟩
  · rw [c1]; rfl
  · have hs : x0.sz ≤ 1048576 := by omega
    have hr : x0.Rows.length ≤ 1048576 := by unfold Vtab.sz at hs; omega
    obtain ⟨q, hq⟩ := spec_EgressOfF_ok 1048577 x0 x1 hr (by omega)
    simp only [c1, cond_false, laws_toVtabF_eq 1048577 x0 hs (by omega), Option.bind_some, impl_EgressOfF_eq, hq, bne_self_eq_false, laws_eqVtabF_refl 1048577 x0 hs (by omega), Bool.not_true]
end Go.Proofs.Ytnhmckiejhbmcaa.Tw
