/- What the functions answer, on plain data. -/
import Derived.Test.YtgpcfaiacggoiaaTwBO
import Derived.Test.YtgpcfaiacggoiaaTlPlain
set_option linter.unusedVariables false
set_option linter.unusedSimpArgs false
set_option maxRecDepth 100000
set_option maxHeartbeats 1000000
namespace Go.Proofs.Ytgpcfaiacggoiaa.Tw
open Go Go.TL Go.Proofs
def Vtab.sz (x : Vtab) : Nat := x.Rows.length + x.Pvid.length
theorem laws_szIntSF_ok (n : Nat) {xs : List Int} {b : Int} (h0 : 0 ≤ b) (h1 : b ≤ 1048576) (hl : xs.length ≤ maxLen) : ∃ r, laws_szIntSF n xs b = some r ∧ Lft b xs.length r := sz_step h0 h1 hl
theorem laws_szVrowSF_ok (n : Nat) {xs : List Vrow} {b : Int} (h0 : 0 ≤ b) (h1 : b ≤ 1048576) (hl : xs.length ≤ maxLen) : ∃ r, laws_szVrowSF n xs b = some r ∧ Lft b xs.length r := sz_step h0 h1 hl
theorem laws_szVtabF_ok (n : Nat) {x : Vtab} {b : Int} (h0 : 0 ≤ b) (h1 : b ≤ 1048576) (hl : Vtab.wf x) : ∃ r, laws_szVtabF n x b = some r ∧ Lft b x.sz r := by
  obtain ⟨r1, e1, k1⟩ := laws_szVrowSF_ok n h0 h1 hl.1.1
  simp only [laws_szVtabF, e1, Option.bind_some]
  rcases k1.neg with ⟨c1, c2⟩ | ⟨c1, c2, c3⟩
  · rw [c1]; exact ⟨_, rfl, .inl (by decide)⟩
  · rw [c1]
    obtain ⟨r2, e2, k2⟩ := laws_szIntSF_ok n c2 (by omega) hl.2.1.1
    simp only [e2, Option.bind_some, cond_false]
    rcases k2.neg with ⟨d1, d2⟩ | ⟨d1, d2, d3⟩
    · rw [d1]; exact ⟨_, rfl, .inl (by decide)⟩
    · rw [d1]; exact ⟨_, rfl, .inr ⟨d2, by unfold Vtab.sz; omega⟩⟩
theorem laws_toIntSF_eq (n : Nat) (xs : List Int) (h : xs.length ≤ 268435456) (hn : xs.length < n) : laws_toIntSF n xs = some xs := by
  unfold laws_toIntSF
  rw [decide_eq_true (by omega : (0 : Int) ≤ (xs.length : Int)), decide_eq_true (by omega : (xs.length : Int) ≤ 268435456)]
  have := copy_loop (L := laws_toIntS_L2 n) (fun m xs i ys => rfl) xs (by omega) n 0 (List.replicate ((xs.length : Int)).toNat 0) (by omega) (by omega) (by simp) rfl
  simp only [Bool.and_self, cond_true]
  rw [show (laws_toIntS_L2 n n xs 0 (List.replicate ((xs.length : Int)).toNat 0)) = _ from this]
  rfl
theorem laws_toVrowSF_eq (n : Nat) (xs : List Vrow) (h : xs.length ≤ 1048576) (hn : xs.length < n) : laws_toVrowSF n xs = some xs := by
  unfold laws_toVrowSF
  rw [decide_eq_true (by omega : (0 : Int) ≤ (xs.length : Int)), decide_eq_true (by omega : (xs.length : Int) ≤ 268435456)]
  have := copy_loop (L := laws_toVrowS_L2 n) (fun m xs i ys => rfl) xs (by omega) n 0 (List.replicate ((xs.length : Int)).toNat (⟨0, 0, 0⟩ : Vrow)) (by omega) (by omega) (by simp) rfl
  simp only [Bool.and_self, cond_true]
  rw [show (laws_toVrowS_L2 n n xs 0 (List.replicate ((xs.length : Int)).toNat (⟨0, 0, 0⟩ : Vrow))) = _ from this]
  rfl
theorem laws_toVtabF_eq (n : Nat) (x : Vtab) (h : x.sz ≤ 1048576) (hn : x.sz < n) : laws_toVtabF n x = some x := by
  unfold Vtab.sz at h hn
  unfold laws_toVtabF
  rw [laws_toVrowSF_eq n x.Rows (by omega) (by omega), laws_toIntSF_eq n x.Pvid (by omega) (by omega)]
  rfl
theorem laws_eqIntSF_refl (n : Nat) (xs : List Int) (h : xs.length ≤ 268435456) (hn : xs.length < n) : laws_eqIntSF n xs xs = some true := by
  unfold laws_eqIntSF
  have := eq_loop (L := laws_eqIntS_L2 n) (f := fun a b => some (a == b)) (fun m xs ys i => rfl) xs (by omega) (fun v _ => by simp) n 0 (by omega) (by omega)
  simp only [bne_self_eq_false, cond_false]
  rw [show (laws_eqIntS_L2 n n xs xs 0) = _ from this]
  rfl
theorem laws_eqVrowF_refl (n : Nat) (v : Vrow) : laws_eqVrowF n v v = some true := by simp [laws_eqVrowF]
theorem laws_eqVrowSF_refl (n : Nat) (xs : List Vrow) (h : xs.length ≤ 268435456) (hn : xs.length < n) : laws_eqVrowSF n xs xs = some true := by
  unfold laws_eqVrowSF
  have := eq_loop (L := laws_eqVrowS_L2 n) (f := laws_eqVrowF n) (fun m xs ys i => rfl) xs (by omega) (fun v _ => laws_eqVrowF_refl n v) n 0 (by omega) (by omega)
  simp only [bne_self_eq_false, cond_false]
  rw [show (laws_eqVrowS_L2 n n xs xs 0) = _ from this]
  rfl
theorem laws_eqVtabF_refl (n : Nat) (x : Vtab) (h : x.sz ≤ 268435456) (hn : x.sz < n) : laws_eqVtabF n x x = some true := by
  unfold Vtab.sz at h hn
  unfold laws_eqVtabF
  rw [laws_eqVrowSF_refl n x.Rows (by omega) (by omega), laws_eqIntSF_refl n x.Pvid (by omega) (by omega)]
  rfl
theorem impl_RowAt_L2_eq (n : Nat) : impl_RowAt_L2 n = spec_RowAt_L2 n := by
  funext m
  induction m with
  | zero => rfl
  | succ m ih => funext x i y; simp only [impl_RowAt_L2, spec_RowAt_L2, ih]
theorem impl_RowAtF_eq (n : Nat) : impl_RowAtF n = spec_RowAtF n := by
  funext x i; simp only [impl_RowAtF, spec_RowAtF, impl_RowAt_L2_eq]; rfl
theorem spec_RowAtF_ok (n : Nat) (x : Vtab) (id : Int) (h : x.Rows.length ≤ 1048580) (hn : x.Rows.length < n) : ∃ r, spec_RowAtF n x id = some r ∧ (r = -1 ∧ (∀ v ∈ x.Rows, v.Id ≠ id) ∨ ∃ v, 0 ≤ r ∧ idx x.Rows r = some v ∧ v.Id = id) := by
  unfold spec_RowAtF
  have hf := find_loop (L := fun m xs i => spec_RowAt_L2 n m ⟨xs, x.Pvid⟩ id i) (p := fun i v => bif v.Id == id then some i else none) (fun m xs i => by
    show (bif _ then _ else _) = _
    congr 1
    congr 1
    funext v
    cases (v.Id == id) <;> rfl) x.Rows (by omega) n 0 (by omega) (by omega)
  rcases hf with ⟨e1, e2⟩ | ⟨j, hj, r, e1, e2, e3, e4⟩
  · rw [show spec_RowAt_L2 n n x id 0 = _ from e1]
    refine ⟨-1, rfl, .inl ⟨rfl, fun v hv => ?_⟩⟩
    obtain ⟨j, hj, rfl⟩ := List.getElem_of_mem hv
    have := e2 j hj (by omega)
    intro hid
    simp [hid] at this
  · rw [show spec_RowAt_L2 n n x id 0 = _ from e4]
    have hid : (x.Rows[j].Id == id) = true := by
      cases hc : (x.Rows[j].Id == id) with
      | true => rfl
      | false => rw [hc] at e2; cases e2
    rw [hid] at e2
    cases e2
    exact ⟨_, rfl, .inr ⟨_, by omega, idx_nat hj, by simpa using hid⟩⟩
theorem laws_szPtSF_ok (n : Nat) {xs : List Pt} {b : Int} (h0 : 0 ≤ b) (h1 : b ≤ 1048576) (hl : xs.length ≤ maxLen) : ∃ r, laws_szPtSF n xs b = some r ∧ Lft b xs.length r := sz_step h0 h1 hl
theorem laws_toPtSF_eq (n : Nat) (xs : List Pt) (h : xs.length ≤ 1048576) (hn : xs.length < n) : laws_toPtSF n xs = some xs := by
  unfold laws_toPtSF
  rw [decide_eq_true (by omega : (0 : Int) ≤ (xs.length : Int)), decide_eq_true (by omega : (xs.length : Int) ≤ 268435456)]
  have := copy_loop (L := laws_toPtS_L2 n) (fun m xs i ys => rfl) xs (by omega) n 0 (List.replicate ((xs.length : Int)).toNat (⟨false, 0, false, (⟨0, 0, 0, 0, 0⟩ : Vec)⟩ : Pt)) (by omega) (by omega) (by simp) rfl
  simp only [Bool.and_self, cond_true]
  rw [show (laws_toPtS_L2 n n xs 0 (List.replicate ((xs.length : Int)).toNat (⟨false, 0, false, (⟨0, 0, 0, 0, 0⟩ : Vec)⟩ : Pt))) = _ from this]
  rfl
theorem laws_eqVecF_refl (n : Nat) (v : Vec) : laws_eqVecF n v v = some true := by simp [laws_eqVecF]
theorem laws_eqPtF_refl (n : Nat) (v : Pt) : laws_eqPtF n v v = some true := by simp [laws_eqPtF, laws_eqVecF_refl]
theorem laws_eqPtSF_refl (n : Nat) (xs : List Pt) (h : xs.length ≤ 268435456) (hn : xs.length < n) : laws_eqPtSF n xs xs = some true := by
  unfold laws_eqPtSF
  have := eq_loop (L := laws_eqPtS_L2 n) (f := laws_eqPtF n) (fun m xs ys i => rfl) xs (by omega) (fun v _ => laws_eqPtF_refl n v) n 0 (by omega) (by omega)
  simp only [bne_self_eq_false, cond_false]
  rw [show (laws_eqPtS_L2 n n xs xs 0) = _ from this]
  rfl
theorem spec_l1InF_tot (n : Nat) (a b c : Int) : Tot (spec_l1InF n a b c) := Tot.bif (fun _ => .of) (fun _ => .of)
theorem impl_VecOkF_eq (n : Nat) : impl_VecOkF n = spec_VecOkF n := rfl
theorem spec_VecOkF_tot (n : Nat) (v : Vec) : Tot (spec_VecOkF n v) := by
  unfold spec_VecOkF
  repeat' first | exact Tot.of | refine Tot.bind (spec_l1InF_tot _ _ _ _) fun _ _ => ?_ | refine Tot.bif (fun _ => ?_) (fun _ => ?_)
theorem laws_eqVecF_same (n : Nat) (v u : Vec) (h : v = u) : laws_eqVecF n v u = some true := by rw [h]; exact laws_eqVecF_refl n u
theorem impl_inF_eq (n : Nat) : impl_inF n = spec_l1InF n := rfl
theorem spec_l1InF_val (n : Nat) (a b c : Int) : spec_l1InF n a b c = some (decide (b ≤ a) && decide (a ≤ c)) := by
  unfold spec_l1InF
  by_cases h : a ≥ b
  · rw [decide_eq_true h]; rfl
  · rw [decide_eq_false h]; rfl
theorem spec_VtabOk_mask {p : Int} (h0 : 1 ≤ p) (h1 : p ≤ 6) : ∃ a : Int, 0 ≤ a ∧ a < 9223372036854775808 ∧ (IntKind.wrap .i64 ((IntKind.wrap .i64 (1 * 2 ^ min ((IntKind.wrap .u64 p)).toNat (IntKind.bits .i64))) - 1)) = a ∧ (IntKind.wrap .i64 ((IntKind.wrap .i64 (1 * 2 ^ min (p).toNat (IntKind.bits .i64))) - 1)) = a ∧ decide (0 ≤ (IntKind.wrap .u64 p)) = true ∧ decide (0 ≤ p) = true := by
  have hc : p = 1 ∨ p = 2 ∨ p = 3 ∨ p = 4 ∨ p = 5 ∨ p = 6 := by omega
  rcases hc with rfl | rfl | rfl | rfl | rfl | rfl
  · exact ⟨1, by decide, by decide, by decide, by decide, by decide, by decide⟩
  · exact ⟨3, by decide, by decide, by decide, by decide, by decide, by decide⟩
  · exact ⟨7, by decide, by decide, by decide, by decide, by decide, by decide⟩
  · exact ⟨15, by decide, by decide, by decide, by decide, by decide, by decide⟩
  · exact ⟨31, by decide, by decide, by decide, by decide, by decide, by decide⟩
  · exact ⟨63, by decide, by decide, by decide, by decide, by decide, by decide⟩
theorem spec_VtabOk_L4_both (n : Nat) (x0 : Vtab) (w0 : x0.wf) (x1 : Int) (hp0 : 1 ≤ x1) (hp1 : x1 ≤ 6) (h : x0.Rows.length ≤ 1048580) : ∀ (m k : Nat), k ≤ x0.Rows.length → x0.Rows.length < m + k → impl_VtabOk_L4 n m x0 x1 k = spec_VtabOk_L4 n m x0 x1 k ∧ Tot (spec_VtabOk_L4 n m x0 x1 k)
  | 0, k, h1, h2 => by omega
  | m + 1, k, h1, h2 => by
    rw [spec_VtabOk_L4, impl_VtabOk_L4]
    by_cases hk : k < x0.Rows.length
    · obtain ⟨ih1, o, ih2⟩ := spec_VtabOk_L4_both n x0 w0 x1 hp0 hp1 h m (k + 1) (by omega) (by omega)
      obtain ⟨a, ha0, ha1, ha2, ha3, ha4, ha5⟩ := spec_VtabOk_mask hp0 hp1
      have hk' : decide ((k : Int) < (x0.Rows.length : Int)) = true := decide_eq_true (by omega)
      have hv : x0.Rows[k] ∈ x0.Rows := List.getElem_mem hk
      have hi := idx_nat hk
      generalize x0.Rows[k] = v at hv hi
      have hw := w0.1.2 v hv
      have hin : impl_allPortsF n x1 = some a := by unfold impl_allPortsF; rw [ha5, ha3]; rfl
      simp only [hk', wrap_nat (by omega : k ≤ 1099511627776), hi, Option.bind_some, cond_true, ih1, ih2, hin, impl_inF_eq, spec_l1InF_val, ha2]
      have hbits := fun hm0 hm1 => bits_in (B := v.Bare) (M := v.Members) hw.2.2.1 hm0 hm1
      by_cases hm : 0 ≤ v.Members ∧ v.Members ≤ a
      · have hb := hbits hm.1 (by omega)
        simp only [decide_eq_true hm.1, decide_eq_true hm.2, Bool.and_self, Bool.not_true, cond_false]
        by_cases hz : IntKind.wrap .i64 (BitVec.ofInt (IntKind.bits .i64) v.Bare &&& ~~~BitVec.ofInt (IntKind.bits .i64) v.Members).toNat = 0
        · have h3 := hb.1 hz
          have hz' : ((IntKind.wrap .i64 (BitVec.ofInt (IntKind.bits .i64) v.Bare &&& ~~~BitVec.ofInt (IntKind.bits .i64) v.Members).toNat) != 0) = false := by rw [hz]; rfl
          have hy' : ((IntKind.wrap .i64 (BitVec.ofInt (IntKind.bits .i64) v.Bare &&& BitVec.ofInt (IntKind.bits .i64) v.Members).toNat) != v.Bare) = false := by rw [h3.2.2]; simp
          simp only [hz', hy', decide_eq_true h3.1, decide_eq_true (show v.Bare ≤ a by omega), Bool.and_self, Bool.not_true, cond_false]
          cases k with
          | zero => cases (decide (1 ≤ v.Id) && decide (v.Id ≤ 99)) <;> exact ⟨by trivial, Tot.of⟩
          | succ k =>
            have hw2 : IntKind.wrap .i64 (((k + 1 : Nat) : Int) - 1) = (k : Int) := by rw [wrap64 (by omega) (by omega)]; omega
            have hpos : decide (((k + 1 : Nat) : Int) > 0) = true := decide_eq_true (by omega)
            simp only [hw2, hpos, cond_true, idx_nat (show k < x0.Rows.length by omega), Option.bind_some]
            cases (decide (1 ≤ v.Id) && decide (v.Id ≤ 99)) <;> cases (decide ((x0.Rows[k]'(by omega)).Id ≥ v.Id)) <;> exact ⟨by trivial, Tot.of⟩
        · have hz' : ((IntKind.wrap .i64 (BitVec.ofInt (IntKind.bits .i64) v.Bare &&& ~~~BitVec.ofInt (IntKind.bits .i64) v.Members).toNat) != 0) = true := by simpa using hz
          have h3 : (decide (0 ≤ v.Bare) && decide (v.Bare ≤ a)) = false ∨ ((IntKind.wrap .i64 (BitVec.ofInt (IntKind.bits .i64) v.Bare &&& BitVec.ofInt (IntKind.bits .i64) v.Members).toNat) != v.Bare) = true := by
            by_cases hq : ((IntKind.wrap .i64 (BitVec.ofInt (IntKind.bits .i64) v.Bare &&& BitVec.ofInt (IntKind.bits .i64) v.Members).toNat) != v.Bare) = true
            · exact .inr hq
            · left
              simp at hq
              by_cases hr : 0 ≤ v.Bare ∧ v.Bare ≤ a
              · have hle := bits_le hw.2.2.1 hm.1 (by omega) hq
                exact absurd (hb.2 ⟨hle.1, hle.2, hq⟩) hz
              · simp only [Bool.and_eq_false_iff, decide_eq_false_iff_not]; omega
          simp only [hz', cond_true]
          have hspec : (bif !(decide (0 ≤ v.Bare) && decide (v.Bare ≤ a)) then some (Sum.inr false) else bif ((IntKind.wrap .i64 (BitVec.ofInt (IntKind.bits .i64) v.Bare &&& BitVec.ofInt (IntKind.bits .i64) v.Members).toNat) != v.Bare) then some (Sum.inr false) else (bif decide ((k : Int) > 0) then (idx x0.Rows (IntKind.wrap .i64 ((k : Int) - 1))).bind fun v13 => bif decide (v13.Id ≥ v.Id) then some (Sum.inr false) else some o else some o)) = (some (Sum.inr false) : Option (Unit ⊕ Bool)) := by
            rcases h3 with h3 | h3
            · rw [h3]; rfl
            · rw [h3]; cases (decide (0 ≤ v.Bare) && decide (v.Bare ≤ a)) <;> rfl
          rw [hspec]
          cases k with
          | zero => cases (decide (1 ≤ v.Id) && decide (v.Id ≤ 99)) <;> exact ⟨by trivial, Tot.of⟩
          | succ k =>
            have hw2 : IntKind.wrap .i64 (((k + 1 : Nat) : Int) - 1) = (k : Int) := by rw [wrap64 (by omega) (by omega)]; omega
            have hpos : decide (((k + 1 : Nat) : Int) > 0) = true := decide_eq_true (by omega)
            simp only [hw2, hpos, cond_true, idx_nat (show k < x0.Rows.length by omega), Option.bind_some]
            cases (decide (1 ≤ v.Id) && decide (v.Id ≤ 99)) <;> cases (decide ((x0.Rows[k]'(by omega)).Id ≥ v.Id)) <;> exact ⟨by trivial, Tot.of⟩
      · have hm' : (decide (0 ≤ v.Members) && decide (v.Members ≤ a)) = false := by
          simp only [Bool.and_eq_false_iff, decide_eq_false_iff_not]; omega
        simp only [hm', Bool.not_false, cond_true]
        cases k with
        | zero => cases (decide (1 ≤ v.Id) && decide (v.Id ≤ 99)) <;> exact ⟨by trivial, Tot.of⟩
        | succ k =>
          have hw2 : IntKind.wrap .i64 (((k + 1 : Nat) : Int) - 1) = (k : Int) := by rw [wrap64 (by omega) (by omega)]; omega
          have hpos : decide (((k + 1 : Nat) : Int) > 0) = true := decide_eq_true (by omega)
          simp only [hw2, hpos, cond_true, idx_nat (show k < x0.Rows.length by omega), Option.bind_some]
          cases (decide (1 ≤ v.Id) && decide (v.Id ≤ 99)) <;> cases (decide ((x0.Rows[k]'(by omega)).Id ≥ v.Id)) <;> exact ⟨by trivial, Tot.of⟩
    · have hk' : decide ((k : Int) < (x0.Rows.length : Int)) = false := decide_eq_false (by omega)
      rw [hk']
      exact ⟨by trivial, Tot.of⟩
theorem spec_VtabOk_L3_both (n : Nat) (x0 : Vtab) (h : x0.Rows.length ≤ 1048580) (hn : x0.Rows.length < n) (hq : x0.Pvid.length ≤ 1048580) : ∀ (m k : Nat), k ≤ x0.Pvid.length → x0.Pvid.length < m + k → impl_VtabOk_L3 n m x0 k = spec_VtabOk_L3 n m x0 k ∧ Tot (spec_VtabOk_L3 n m x0 k)
  | 0, k, h1, h2 => by omega
  | m + 1, k, h1, h2 => by
    rw [spec_VtabOk_L3, impl_VtabOk_L3]
    by_cases hk : k < x0.Pvid.length
    · obtain ⟨ih1, o, ih2⟩ := spec_VtabOk_L3_both n x0 h hn hq m (k + 1) (by omega) (by omega)
      have hk' : decide ((k : Int) < (x0.Pvid.length : Int)) = true := decide_eq_true (by omega)
      obtain ⟨r, hr, _⟩ := spec_RowAtF_ok n x0 x0.Pvid[k] h hn
      simp only [hk', wrap_nat (by omega : k ≤ 1099511627776), idx_nat hk, Option.bind_some, cond_true, ih1, ih2, impl_RowAtF_eq, hr]
      cases decide (r < 0) <;> exact ⟨by trivial, Tot.of⟩
    · have hk' : decide ((k : Int) < (x0.Pvid.length : Int)) = false := decide_eq_false (by omega)
      rw [hk']
      exact ⟨by trivial, Tot.of⟩
theorem spec_VtabOkF_both (n : Nat) (x0 : Vtab) (w0 : x0.wf) (x1 : Int) (h : x0.sz ≤ 1048580) (hn : x0.sz < n) : impl_VtabOkF n x0 x1 = spec_VtabOkF n x0 x1 ∧ Tot (spec_VtabOkF n x0 x1) := by
  have hs : x0.Rows.length + x0.Pvid.length = x0.sz := rfl
  unfold impl_VtabOkF spec_VtabOkF
  simp only [impl_inF_eq, spec_l1InF_val, Option.bind_some]
  by_cases hp : 1 ≤ x1 ∧ x1 ≤ 6
  · obtain ⟨a, ha0, ha1, ha2, ha3, ha4, ha5⟩ := spec_VtabOk_mask hp.1 hp.2
    obtain ⟨e1, o, e2⟩ := spec_VtabOk_L4_both n x0 w0 x1 hp.1 hp.2 (by omega) n 0 (by omega) (by omega)
    obtain ⟨f1, q, f2⟩ := spec_VtabOk_L3_both n x0 (by omega) (by omega) (by omega) n 0 (by omega) (by omega)
    have e1' : impl_VtabOk_L4 n n x0 x1 0 = some o := e1.trans e2
    have e2' : spec_VtabOk_L4 n n x0 x1 0 = some o := e2
    have f1' : impl_VtabOk_L3 n n x0 0 = some q := f1.trans f2
    have f2' : spec_VtabOk_L3 n n x0 0 = some q := f2
    simp only [decide_eq_true hp.1, decide_eq_true hp.2, Bool.and_self, Bool.not_true, cond_false, ha4, cond_true, e1', e2', Option.bind_some]
    cases o with
    | inl u =>
      simp only [impl_VtabOk_J1, spec_VtabOk_J1, f1', f2', Option.bind_some]
      cases q <;> exact ⟨rfl, Tot.bif (fun _ => .of) fun _ => Tot.bif (fun _ => .of) fun _ => .of⟩
    | inr r => exact ⟨rfl, Tot.bif (fun _ => .of) fun _ => Tot.bif (fun _ => .of) fun _ => .of⟩
  · have hp' : (decide (1 ≤ x1) && decide (x1 ≤ 6)) = false := by
      simp only [Bool.and_eq_false_iff, decide_eq_false_iff_not]; omega
    rw [hp']
    exact ⟨by trivial, Tot.of⟩
theorem listWf_sub {α : Type} {wf : α → Prop} {xs ys : List α} (h : listWf wf xs) (hs : ∀ y ∈ ys, y ∈ xs) (hl : ys.length ≤ xs.length) : listWf wf ys := ⟨Nat.le_trans hl h.1, fun y hy => h.2 y (hs y hy)⟩
theorem listWf_set {α : Type} {wf : α → Prop} {xs : List α} {i : Nat} {v : α} (h : listWf wf xs) (hv : wf v) : listWf wf (xs.set i v) := ⟨by rw [List.length_set]; exact h.1, fun y hy => by
  rcases List.mem_or_eq_of_mem_set hy with h1 | h1
  · exact h.2 y h1
  · rw [h1]; exact hv⟩
theorem laws_szFentSF_ok (n : Nat) {xs : List Fent} {b : Int} (h0 : 0 ≤ b) (h1 : b ≤ 1048576) (hl : xs.length ≤ maxLen) : ∃ r, laws_szFentSF n xs b = some r ∧ Lft b xs.length r := sz_step h0 h1 hl
theorem laws_toFentSF_eq (n : Nat) (xs : List Fent) (h : xs.length ≤ 1048576) (hn : xs.length < n) : laws_toFentSF n xs = some xs := by
  unfold laws_toFentSF
  rw [decide_eq_true (by omega : (0 : Int) ≤ (xs.length : Int)), decide_eq_true (by omega : (xs.length : Int) ≤ 268435456)]
  have := copy_loop (L := laws_toFentS_L2 n) (fun m xs i ys => rfl) xs (by omega) n 0 (List.replicate ((xs.length : Int)).toNat (⟨0, 0, 0, 0, false⟩ : Fent)) (by omega) (by omega) (by simp) rfl
  simp only [Bool.and_self, cond_true]
  rw [show (laws_toFentS_L2 n n xs 0 (List.replicate ((xs.length : Int)).toNat (⟨0, 0, 0, 0, false⟩ : Fent))) = _ from this]
  rfl
theorem laws_eqFentF_refl (n : Nat) (v : Fent) : laws_eqFentF n v v = some true := by simp [laws_eqFentF]
theorem laws_eqFentSF_refl (n : Nat) (xs : List Fent) (h : xs.length ≤ 268435456) (hn : xs.length < n) : laws_eqFentSF n xs xs = some true := by
  unfold laws_eqFentSF
  have := eq_loop (L := laws_eqFentS_L2 n) (f := laws_eqFentF n) (fun m xs ys i => rfl) xs (by omega) (fun v _ => laws_eqFentF_refl n v) n 0 (by omega) (by omega)
  simp only [bne_self_eq_false, cond_false]
  rw [show (laws_eqFentS_L2 n n xs xs 0) = _ from this]
  rfl
def Bridge.sz (x : Bridge) : Nat := x.Name.size + x.Ports.length + x.F.length + x.V.sz
theorem laws_szBridgeF_ok (n : Nat) {x : Bridge} {b : Int} (h0 : 0 ≤ b) (h1 : b ≤ 1048576) (hl : Bridge.wf x) : ∃ r, laws_szBridgeF n x b = some r ∧ Lft b x.sz r := by
  have hm : maxLen = 9223372036854775807 := by decide
  have hn := hl.2.1
  unfold laws_szBridgeF
  rw [wrap64 (by omega) (by omega)]
  by_cases h : b - (x.Name.size : Int) < 0
  · rw [decide_eq_true h]; exact ⟨_, rfl, .inl (by decide)⟩
  · rw [decide_eq_false h]
    obtain ⟨r1, e1, k1⟩ := laws_szPtSF_ok n (xs := x.Ports) (b := b - x.Name.size) (by omega) (by omega) hl.2.2.1.1
    simp only [cond_false, e1, Option.bind_some]
    rcases k1.neg with ⟨c1, c2⟩ | ⟨c1, c2, c3⟩
    · rw [c1]; exact ⟨_, rfl, .inl (by decide)⟩
    · rw [c1]
      obtain ⟨r2, e2, k2⟩ := laws_szFentSF_ok n (xs := x.F) c2 (by omega) hl.2.2.2.1.1
      simp only [cond_false, e2, Option.bind_some]
      rcases k2.neg with ⟨d1, d2⟩ | ⟨d1, d2, d3⟩
      · rw [d1]; exact ⟨_, rfl, .inl (by decide)⟩
      · rw [d1]
        obtain ⟨r3, e3, k3⟩ := laws_szVtabF_ok n (x := x.V) d2 (by omega) ⟨hl.2.2.2.2.1, hl.2.2.2.2.2.1, trivial⟩
        simp only [cond_false, e3, Option.bind_some]
        rcases k3.neg with ⟨f1, f2⟩ | ⟨f1, f2, f3⟩
        · rw [f1]; exact ⟨_, rfl, .inl (by decide)⟩
        · rw [f1]; exact ⟨_, rfl, .inr ⟨f2, by unfold Bridge.sz; omega⟩⟩
theorem laws_toBridgeF_eq (n : Nat) (x : Bridge) (h : x.sz ≤ 1048576) (hn : x.sz < n) : laws_toBridgeF n x = some x := by
  unfold Bridge.sz at h hn
  unfold laws_toBridgeF
  rw [laws_toPtSF_eq n x.Ports (by omega) (by omega), laws_toFentSF_eq n x.F (by omega) (by omega), laws_toVtabF_eq n x.V (by omega) (by omega)]
  rfl
theorem laws_eqBridgeF_refl (n : Nat) (x : Bridge) (h : x.sz ≤ 268435456) (hn : x.sz < n) : laws_eqBridgeF n x x = some true := by
  unfold Bridge.sz at h hn
  unfold laws_eqBridgeF
  rw [laws_eqPtSF_refl n x.Ports (by omega) (by omega), laws_eqFentSF_refl n x.F (by omega) (by omega), laws_eqVtabF_refl n x.V (by omega) (by omega)]
  simp
theorem impl_PtOkF_eq (n : Nat) : impl_PtOkF n = spec_PtOkF n := by
  funext v
  unfold impl_PtOkF spec_PtOkF
  rw [impl_inF_eq, impl_VecOkF_eq]
  obtain ⟨b, hb⟩ := spec_l1InF_tot n v.Cost 1 1000
  rw [hb]
  cases b <;> cases v.Up <;> cases v.Has <;> rfl
theorem spec_PtOkF_tot (n : Nat) (v : Pt) : Tot (spec_PtOkF n v) := by
  unfold spec_PtOkF
  repeat' first | exact Tot.of | refine Tot.bind (spec_l1InF_tot _ _ _ _) fun _ _ => ?_ | refine Tot.bind (spec_VecOkF_tot _ _) fun _ _ => ?_ | refine Tot.bif (fun _ => ?_) (fun _ => ?_)
theorem spec_l8EntF_tot (n : Nat) (v : Fent) : Tot (spec_l8EntF n v) := by
  unfold spec_l8EntF
  repeat' first | exact Tot.of | refine Tot.bind (spec_l1InF_tot _ _ _ _) fun _ _ => ?_ | refine Tot.bif (fun _ => ?_) (fun _ => ?_)
theorem impl_fentOkF_eq (n : Nat) : impl_fentOkF n = spec_l8EntF n := rfl
theorem impl_behindF_eq (n : Nat) (v u : Fent) : impl_behindF n u v.Tag v.Mac = spec_l8AheadF n v u.Tag u.Mac := by
  unfold impl_behindF spec_l8AheadF
  by_cases h1 : v.Tag = u.Tag
  · simp [h1]
  · have e1 : (v.Tag != u.Tag) = true := by simpa using h1
    have e2 : (u.Tag == v.Tag) = false := by simpa using fun e : u.Tag = v.Tag => h1 e.symm
    rw [e1, e2]
    by_cases h2 : v.Tag < u.Tag
    · rw [decide_eq_true h2]; rfl
    · rw [decide_eq_false h2]; rfl
theorem spec_l8AheadF_tot (n : Nat) (v : Fent) (a b : Int) : Tot (spec_l8AheadF n v a b) := Tot.bif (fun _ => .of) (fun _ => .of)
theorem spec_FdbOk_L2_both (n : Nat) (xs : List Fent) (h : xs.length ≤ 1048580) : ∀ (m k : Nat), k ≤ xs.length → xs.length < m + k → impl_FdbOk_L2 n m xs k = spec_FdbOk_L2 n m xs k ∧ Tot (spec_FdbOk_L2 n m xs k)
  | 0, k, h1, h2 => by omega
  | m + 1, k, h1, h2 => by
    rw [spec_FdbOk_L2, impl_FdbOk_L2]
    by_cases hk : k < xs.length
    · obtain ⟨ih1, o, ih2⟩ := spec_FdbOk_L2_both n xs h m (k + 1) (by omega) (by omega)
      rw [lt_true hk]
      obtain ⟨a, ha⟩ := spec_l8EntF_tot n xs[k]
      simp only [wrap_nat (by omega : k ≤ 1099511627776), idx_nat hk, Option.bind_some, cond_true, ih1, ih2, impl_fentOkF_eq, ha]
      cases k with
      | zero => cases a <;> exact ⟨by trivial, Tot.of⟩
      | succ k =>
        have hw2 : IntKind.wrap .i64 (((k + 1 : Nat) : Int) - 1) = (k : Int) := by rw [wrap64 (by omega) (by omega)]; omega
        have hpos : decide (((k + 1 : Nat) : Int) > 0) = true := decide_eq_true (by omega)
        obtain ⟨b, hb⟩ := spec_l8AheadF_tot n (xs[k]'(by omega)) xs[k + 1].Tag xs[k + 1].Mac
        simp only [hw2, hpos, cond_true, idx_nat (show k < xs.length by omega), Option.bind_some, impl_behindF_eq, hb]
        cases a <;> cases b <;> exact ⟨by trivial, Tot.of⟩
    · have he : k = xs.length := by omega
      rw [he, lt_false]
      exact ⟨rfl, Tot.of⟩
theorem spec_FdbOkF_both (n : Nat) (xs : List Fent) (h : xs.length ≤ 1048580) (hn : xs.length < n) : ∃ b, spec_FdbOkF n xs = some b ∧ impl_FdbOkF n xs = some b := by
  obtain ⟨e1, o, e2⟩ := spec_FdbOk_L2_both n xs h n 0 (by omega) (by omega)
  have e1' : impl_FdbOk_L2 n n xs 0 = some o := e1.trans e2
  have e2' : spec_FdbOk_L2 n n xs 0 = some o := e2
  unfold spec_FdbOkF impl_FdbOkF
  rw [e1', e2']
  cases o <;> exact ⟨_, rfl, rfl⟩
theorem impl_BridgeOk_L2_eq (n : Nat) : impl_BridgeOk_L2 n = spec_BridgeOk_L2 n := by
  funext m
  induction m with
  | zero => rfl
  | succ m ih => funext x i; simp only [impl_BridgeOk_L2, spec_BridgeOk_L2, ih, impl_PtOkF_eq]
theorem spec_BridgeOk_L2_tot (n : Nat) (x : Bridge) (h : x.Ports.length ≤ 1048580) : ∀ (m k : Nat), k ≤ x.Ports.length → x.Ports.length < m + k → Tot (spec_BridgeOk_L2 n m x k)
  | 0, k, h1, h2 => by omega
  | m + 1, k, h1, h2 => by
    rw [spec_BridgeOk_L2]
    refine Tot.step (fun hk => ?_) .of
    have ih := spec_BridgeOk_L2_tot n x h m (k + 1) (by omega) (by omega)
    rw [wrap_nat (by omega : k ≤ 1099511627776)]
    exact Tot.bind (idx_tot hk) fun _ _ => Tot.bind (spec_PtOkF_tot _ _) fun _ _ => Tot.bif (fun _ => .of) fun _ => ih
theorem spec_BridgeOkF_both (n : Nat) (x : Bridge) (wx : x.wf) (h : x.sz ≤ 1048580) (hn : x.sz < n) : ∃ b, spec_BridgeOkF n x = some b ∧ impl_BridgeOkF n x = some b := by
  have hs : x.Name.size + x.Ports.length + x.F.length + x.V.sz = x.sz := rfl
  obtain ⟨o, ho⟩ := spec_BridgeOk_L2_tot n x (by omega) n 0 (by omega) (by omega)
  have ho' : spec_BridgeOk_L2 n n x 0 = some o := ho
  obtain ⟨f, hf1, hf2⟩ := spec_FdbOkF_both n x.F (by omega) (by omega)
  obtain ⟨g, v, hv⟩ := spec_VtabOkF_both n x.V ⟨wx.2.2.2.2.1, wx.2.2.2.2.2.1, trivial⟩ (x.Ports.length : Int) (by omega) (by omega)
  unfold spec_BridgeOkF impl_BridgeOkF
  rw [impl_BridgeOk_L2_eq, ho', Option.bind_some, Option.bind_some]
  cases o with
  | inr r => exact ⟨_, rfl, rfl⟩
  | inl u =>
    simp only [spec_BridgeOk_J1, impl_BridgeOk_J1, impl_inF_eq, impl_isCountF, spec_l11CountsF, spec_l1InF_val, hf1, hf2, g, hv, Option.bind_some]
    have hname : decide ((x.Name.size : Int) > 10) = !decide ((x.Name.size : Int) ≤ 10) := by
      by_cases h : (x.Name.size : Int) ≤ 10
      · rw [decide_eq_true h, decide_eq_false (by omega)]; rfl
      · rw [decide_eq_false h, decide_eq_true (by omega)]; rfl
    rw [hname]
    generalize decide ((x.Name.size : Int) ≤ 10) = b1
    generalize (decide (1 ≤ x.Id) && decide (x.Id ≤ 99)) = b2
    generalize (decide (1 ≤ (x.Ports.length : Int)) && decide ((x.Ports.length : Int) ≤ 6)) = b3
    generalize (decide (0 ≤ x.Ticks) && decide (x.Ticks ≤ 1000000)) = b4
    generalize (decide (0 ≤ x.Parse) && decide (x.Parse ≤ 1000000)) = b5
    generalize (decide (0 ≤ x.Word) && decide (x.Word ≤ 1000000)) = b6
    generalize (decide (0 ≤ x.Drops) && decide (x.Drops ≤ 1000000)) = b7
    generalize (decide (0 ≤ x.Vers) && decide (x.Vers ≤ 1000000)) = b8
    clear hf1 hf2 g hv hname
    revert f v b1 b2 b3 b4 b5 b6 b7 b8
    decide +kernel
theorem laws_FnExactBridgeOk_plain (x0 : Bridge) (w0 : x0.wf) : ∃ n, laws_FnExactBridgeOkF n x0 = some true := by
  refine ⟨1048580, ?_⟩
  obtain ⟨r, e, k⟩ := laws_szBridgeF_ok 1048580 (x := x0) (b := 1048576) (by decide) (by decide) w0
  simp only [laws_FnExactBridgeOkF, e, Option.bind_some]
  rcases k.neg with ⟨c1, _⟩ | ⟨c1, c2, c3⟩
  · rw [c1]; rfl
  · obtain ⟨b, h1, h2⟩ := spec_BridgeOkF_both 1048580 x0 w0 (by omega) (by omega)
    simp only [c1, cond_false, laws_toBridgeF_eq 1048580 x0 (by omega) (by omega), Option.bind_some, h1, h2, beq_self_eq_true, laws_eqBridgeF_refl 1048580 x0 (by omega) (by omega), Bool.not_true]
end Go.Proofs.Ytgpcfaiacggoiaa.Tw
