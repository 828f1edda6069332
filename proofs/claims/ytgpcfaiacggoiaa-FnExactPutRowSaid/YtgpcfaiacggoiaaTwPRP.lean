/- What the functions answer, on plain data. -/
import Derived.Test.YtgpcfaiacggoiaaTwPR
import Derived.Test.YtgpcfaiacggoiaaTlPlain
set_option linter.unusedVariables false
set_option linter.unusedSimpArgs false
set_option maxRecDepth 100000
set_option maxHeartbeats 1000000
namespace Go.Proofs.Ytgpcfaiacggoiaa.Tw
open Go Go.TL Go.Proofs
def Vtab.sz (x : Vtab) : Nat := x.Rows.length + x.Pvid.length
theorem laws_szIntSF_ok (n : Nat) {xs : List Int} {b : Int} (h0 : 0 ≤ b) (h1 : b ≤ 1048576) (hl : xs.length ≤ maxLen) : ∃ r, laws_szIntSF n xs b = some r ∧ Lft b xs.length r := sz_step h0 h1 hl
theorem laws_szVrowSF_ok (n : Nat) {xs : List Vrow} {b : Int} (h0 : 0 ≤ b) (h1 : b ≤ 1048576) (hl : xs.length ≤ maxLen) : ∃ r, laws_szVrowSF n xs b = some r ∧ Lft b xs.length r := sz_step h0 h1 hl
theorem laws_szVtabF_ok (n : Nat) {x : Vtab} {b : Int} (h0 : 0 ≤ b) (h1 : b ≤ 1048576) (hl : Vtab.wf x) : ∃ r, laws_szVtabF n x b = some r ∧ Lft b x.sz r := by
  obtain ⟨r1, e1, k1⟩ := laws_szVrowSF_ok n h0 h1 hl.1.1
  simp only [laws_szVtabF, e1, Option.bind_some]
  rcases k1.neg with ⟨c1, c2⟩ | ⟨c1, c2, c3⟩
  · rw [c1]; exact ⟨_, rfl, .inl (by decide)⟩
  · rw [c1]
    obtain ⟨r2, e2, k2⟩ := laws_szIntSF_ok n c2 (by omega) hl.2.1.1
    simp only [e2, Option.bind_some, cond_false]
    rcases k2.neg with ⟨d1, d2⟩ | ⟨d1, d2, d3⟩
    · rw [d1]; exact ⟨_, rfl, .inl (by decide)⟩
    · rw [d1]; exact ⟨_, rfl, .inr ⟨d2, by unfold Vtab.sz; omega⟩⟩
theorem laws_toIntSF_eq (n : Nat) (xs : List Int) (h : xs.length ≤ 268435456) (hn : xs.length < n) : laws_toIntSF n xs = some xs := by
  unfold laws_toIntSF
  rw [decide_eq_true (by omega : (0 : Int) ≤ (xs.length : Int)), decide_eq_true (by omega : (xs.length : Int) ≤ 268435456)]
  have := copy_loop (L := laws_toIntS_L2 n) (fun m xs i ys => rfl) xs (by omega) n 0 (List.replicate ((xs.length : Int)).toNat 0) (by omega) (by omega) (by simp) rfl
  simp only [Bool.and_self, cond_true]
  rw [show (laws_toIntS_L2 n n xs 0 (List.replicate ((xs.length : Int)).toNat 0)) = _ from this]
  rfl
theorem laws_toVrowSF_eq (n : Nat) (xs : List Vrow) (h : xs.length ≤ 1048576) (hn : xs.length < n) : laws_toVrowSF n xs = some xs := by
  unfold laws_toVrowSF
  rw [decide_eq_true (by omega : (0 : Int) ≤ (xs.length : Int)), decide_eq_true (by omega : (xs.length : Int) ≤ 268435456)]
  have := copy_loop (L := laws_toVrowS_L2 n) (fun m xs i ys => rfl) xs (by omega) n 0 (List.replicate ((xs.length : Int)).toNat (⟨0, 0, 0⟩ : Vrow)) (by omega) (by omega) (by simp) rfl
  simp only [Bool.and_self, cond_true]
  rw [show (laws_toVrowS_L2 n n xs 0 (List.replicate ((xs.length : Int)).toNat (⟨0, 0, 0⟩ : Vrow))) = _ from this]
  rfl
theorem laws_toVtabF_eq (n : Nat) (x : Vtab) (h : x.sz ≤ 1048576) (hn : x.sz < n) : laws_toVtabF n x = some x := by
  unfold Vtab.sz at h hn
  unfold laws_toVtabF
  rw [laws_toVrowSF_eq n x.Rows (by omega) (by omega), laws_toIntSF_eq n x.Pvid (by omega) (by omega)]
  rfl
theorem laws_eqIntSF_refl (n : Nat) (xs : List Int) (h : xs.length ≤ 268435456) (hn : xs.length < n) : laws_eqIntSF n xs xs = some true := by
  unfold laws_eqIntSF
  have := eq_loop (L := laws_eqIntS_L2 n) (f := fun a b => some (a == b)) (fun m xs ys i => rfl) xs (by omega) (fun v _ => by simp) n 0 (by omega) (by omega)
  simp only [bne_self_eq_false, cond_false]
  rw [show (laws_eqIntS_L2 n n xs xs 0) = _ from this]
  rfl
theorem laws_eqVrowF_refl (n : Nat) (v : Vrow) : laws_eqVrowF n v v = some true := by simp [laws_eqVrowF]
theorem laws_eqVrowSF_refl (n : Nat) (xs : List Vrow) (h : xs.length ≤ 268435456) (hn : xs.length < n) : laws_eqVrowSF n xs xs = some true := by
  unfold laws_eqVrowSF
  have := eq_loop (L := laws_eqVrowS_L2 n) (f := laws_eqVrowF n) (fun m xs ys i => rfl) xs (by omega) (fun v _ => laws_eqVrowF_refl n v) n 0 (by omega) (by omega)
  simp only [bne_self_eq_false, cond_false]
  rw [show (laws_eqVrowS_L2 n n xs xs 0) = _ from this]
  rfl
theorem laws_eqVtabF_refl (n : Nat) (x : Vtab) (h : x.sz ≤ 268435456) (hn : x.sz < n) : laws_eqVtabF n x x = some true := by
  unfold Vtab.sz at h hn
  unfold laws_eqVtabF
  rw [laws_eqVrowSF_refl n x.Rows (by omega) (by omega), laws_eqIntSF_refl n x.Pvid (by omega) (by omega)]
  rfl
theorem impl_RowAt_L2_eq (n : Nat) : impl_RowAt_L2 n = spec_RowAt_L2 n := by
  funext m
  induction m with
  | zero => rfl
  | succ m ih => funext x i y; simp only [impl_RowAt_L2, spec_RowAt_L2, ih]
theorem impl_RowAtF_eq (n : Nat) : impl_RowAtF n = spec_RowAtF n := by
  funext x i; simp only [impl_RowAtF, spec_RowAtF, impl_RowAt_L2_eq]; rfl
theorem spec_RowAtF_ok (n : Nat) (x : Vtab) (id : Int) (h : x.Rows.length ≤ 1048580) (hn : x.Rows.length < n) : ∃ r, spec_RowAtF n x id = some r ∧ (r = -1 ∧ (∀ v ∈ x.Rows, v.Id ≠ id) ∨ ∃ v, 0 ≤ r ∧ idx x.Rows r = some v ∧ v.Id = id) := by
  unfold spec_RowAtF
  have hf := find_loop (L := fun m xs i => spec_RowAt_L2 n m ⟨xs, x.Pvid⟩ id i) (p := fun i v => bif v.Id == id then some i else none) (fun m xs i => by
    show (bif _ then _ else _) = _
    congr 1
    congr 1
    funext v
    cases (v.Id == id) <;> rfl) x.Rows (by omega) n 0 (by omega) (by omega)
  rcases hf with ⟨e1, e2⟩ | ⟨j, hj, r, e1, e2, e3, e4⟩
  · rw [show spec_RowAt_L2 n n x id 0 = _ from e1]
    refine ⟨-1, rfl, .inl ⟨rfl, fun v hv => ?_⟩⟩
    obtain ⟨j, hj, rfl⟩ := List.getElem_of_mem hv
    have := e2 j hj (by omega)
    intro hid
    simp [hid] at this
  · rw [show spec_RowAt_L2 n n x id 0 = _ from e4]
    have hid : (x.Rows[j].Id == id) = true := by
      cases hc : (x.Rows[j].Id == id) with
      | true => rfl
      | false => rw [hc] at e2; cases e2
    rw [hid] at e2
    cases e2
    exact ⟨_, rfl, .inr ⟨_, by omega, idx_nat hj, by simpa using hid⟩⟩
theorem spec_l1InF_tot (n : Nat) (a b c : Int) : Tot (spec_l1InF n a b c) := Tot.bif (fun _ => .of) (fun _ => .of)
theorem impl_inF_eq (n : Nat) : impl_inF n = spec_l1InF n := rfl
theorem spec_l1InF_val (n : Nat) (a b c : Int) : spec_l1InF n a b c = some (decide (b ≤ a) && decide (a ≤ c)) := by
  unfold spec_l1InF
  by_cases h : a ≥ b
  · rw [decide_eq_true h]; rfl
  · rw [decide_eq_false h]; rfl
theorem spec_VtabOk_mask {p : Int} (h0 : 1 ≤ p) (h1 : p ≤ 6) : ∃ a : Int, 0 ≤ a ∧ a < 9223372036854775808 ∧ (IntKind.wrap .i64 ((IntKind.wrap .i64 (1 * 2 ^ min ((IntKind.wrap .u64 p)).toNat (IntKind.bits .i64))) - 1)) = a ∧ (IntKind.wrap .i64 ((IntKind.wrap .i64 (1 * 2 ^ min (p).toNat (IntKind.bits .i64))) - 1)) = a ∧ decide (0 ≤ (IntKind.wrap .u64 p)) = true ∧ decide (0 ≤ p) = true := by
  have hc : p = 1 ∨ p = 2 ∨ p = 3 ∨ p = 4 ∨ p = 5 ∨ p = 6 := by omega
  rcases hc with rfl | rfl | rfl | rfl | rfl | rfl
  · exact ⟨1, by decide, by decide, by decide, by decide, by decide, by decide⟩
  · exact ⟨3, by decide, by decide, by decide, by decide, by decide, by decide⟩
  · exact ⟨7, by decide, by decide, by decide, by decide, by decide, by decide⟩
  · exact ⟨15, by decide, by decide, by decide, by decide, by decide, by decide⟩
  · exact ⟨31, by decide, by decide, by decide, by decide, by decide, by decide⟩
  · exact ⟨63, by decide, by decide, by decide, by decide, by decide, by decide⟩
theorem spec_VtabOk_L4_both (n : Nat) (x0 : Vtab) (w0 : x0.wf) (x1 : Int) (hp0 : 1 ≤ x1) (hp1 : x1 ≤ 6) (h : x0.Rows.length ≤ 1048580) : ∀ (m k : Nat), k ≤ x0.Rows.length → x0.Rows.length < m + k → impl_VtabOk_L4 n m x0 x1 k = spec_VtabOk_L4 n m x0 x1 k ∧ Tot (spec_VtabOk_L4 n m x0 x1 k)
  | 0, k, h1, h2 => by omega
  | m + 1, k, h1, h2 => by
    rw [spec_VtabOk_L4, impl_VtabOk_L4]
    by_cases hk : k < x0.Rows.length
    · obtain ⟨ih1, o, ih2⟩ := spec_VtabOk_L4_both n x0 w0 x1 hp0 hp1 h m (k + 1) (by omega) (by omega)
      obtain ⟨a, ha0, ha1, ha2, ha3, ha4, ha5⟩ := spec_VtabOk_mask hp0 hp1
      have hk' : decide ((k : Int) < (x0.Rows.length : Int)) = true := decide_eq_true (by omega)
      have hv : x0.Rows[k] ∈ x0.Rows := List.getElem_mem hk
      have hi := idx_nat hk
      generalize x0.Rows[k] = v at hv hi
      have hw := w0.1.2 v hv
      have hin : impl_allPortsF n x1 = some a := by unfold impl_allPortsF; rw [ha5, ha3]; rfl
      simp only [hk', wrap_nat (by omega : k ≤ 1099511627776), hi, Option.bind_some, cond_true, ih1, ih2, hin, impl_inF_eq, spec_l1InF_val, ha2]
      have hbits := fun hm0 hm1 => bits_in (B := v.Bare) (M := v.Members) hw.2.2.1 hm0 hm1
      by_cases hm : 0 ≤ v.Members ∧ v.Members ≤ a
      · have hb := hbits hm.1 (by omega)
        simp only [decide_eq_true hm.1, decide_eq_true hm.2, Bool.and_self, Bool.not_true, cond_false]
        by_cases hz : IntKind.wrap .i64 (BitVec.ofInt (IntKind.bits .i64) v.Bare &&& ~~~BitVec.ofInt (IntKind.bits .i64) v.Members).toNat = 0
        · have h3 := hb.1 hz
          have hz' : ((IntKind.wrap .i64 (BitVec.ofInt (IntKind.bits .i64) v.Bare &&& ~~~BitVec.ofInt (IntKind.bits .i64) v.Members).toNat) != 0) = false := by rw [hz]; rfl
          have hy' : ((IntKind.wrap .i64 (BitVec.ofInt (IntKind.bits .i64) v.Bare &&& BitVec.ofInt (IntKind.bits .i64) v.Members).toNat) != v.Bare) = false := by rw [h3.2.2]; simp
          simp only [hz', hy', decide_eq_true h3.1, decide_eq_true (show v.Bare ≤ a by omega), Bool.and_self, Bool.not_true, cond_false]
          cases k with
          | zero => cases (decide (1 ≤ v.Id) && decide (v.Id ≤ 99)) <;> exact ⟨by trivial, Tot.of⟩
          | succ k =>
            have hw2 : IntKind.wrap .i64 (((k + 1 : Nat) : Int) - 1) = (k : Int) := by rw [wrap64 (by omega) (by omega)]; omega
            have hpos : decide (((k + 1 : Nat) : Int) > 0) = true := decide_eq_true (by omega)
            simp only [hw2, hpos, cond_true, idx_nat (show k < x0.Rows.length by omega), Option.bind_some]
            cases (decide (1 ≤ v.Id) && decide (v.Id ≤ 99)) <;> cases (decide ((x0.Rows[k]'(by omega)).Id ≥ v.Id)) <;> exact ⟨by trivial, Tot.of⟩
        · have hz' : ((IntKind.wrap .i64 (BitVec.ofInt (IntKind.bits .i64) v.Bare &&& ~~~BitVec.ofInt (IntKind.bits .i64) v.Members).toNat) != 0) = true := by simpa using hz
          have h3 : (decide (0 ≤ v.Bare) && decide (v.Bare ≤ a)) = false ∨ ((IntKind.wrap .i64 (BitVec.ofInt (IntKind.bits .i64) v.Bare &&& BitVec.ofInt (IntKind.bits .i64) v.Members).toNat) != v.Bare) = true := by
            by_cases hq : ((IntKind.wrap .i64 (BitVec.ofInt (IntKind.bits .i64) v.Bare &&& BitVec.ofInt (IntKind.bits .i64) v.Members).toNat) != v.Bare) = true
            · exact .inr hq
            · left
              simp at hq
              by_cases hr : 0 ≤ v.Bare ∧ v.Bare ≤ a
              · have hle := bits_le hw.2.2.1 hm.1 (by omega) hq
                exact absurd (hb.2 ⟨hle.1, hle.2, hq⟩) hz
              · simp only [Bool.and_eq_false_iff, decide_eq_false_iff_not]; omega
          simp only [hz', cond_true]
          have hspec : (bif !(decide (0 ≤ v.Bare) && decide (v.Bare ≤ a)) then some (Sum.inr false) else bif ((IntKind.wrap .i64 (BitVec.ofInt (IntKind.bits .i64) v.Bare &&& BitVec.ofInt (IntKind.bits .i64) v.Members).toNat) != v.Bare) then some (Sum.inr false) else (bif decide ((k : Int) > 0) then (idx x0.Rows (IntKind.wrap .i64 ((k : Int) - 1))).bind fun v13 => bif decide (v13.Id ≥ v.Id) then some (Sum.inr false) else some o else some o)) = (some (Sum.inr false) : Option (Unit ⊕ Bool)) := by
            rcases h3 with h3 | h3
            · rw [h3]; rfl
            · rw [h3]; cases (decide (0 ≤ v.Bare) && decide (v.Bare ≤ a)) <;> rfl
          rw [hspec]
          cases k with
          | zero => cases (decide (1 ≤ v.Id) && decide (v.Id ≤ 99)) <;> exact ⟨by trivial, Tot.of⟩
          | succ k =>
            have hw2 : IntKind.wrap .i64 (((k + 1 : Nat) : Int) - 1) = (k : Int) := by rw [wrap64 (by omega) (by omega)]; omega
            have hpos : decide (((k + 1 : Nat) : Int) > 0) = true := decide_eq_true (by omega)
            simp only [hw2, hpos, cond_true, idx_nat (show k < x0.Rows.length by omega), Option.bind_some]
            cases (decide (1 ≤ v.Id) && decide (v.Id ≤ 99)) <;> cases (decide ((x0.Rows[k]'(by omega)).Id ≥ v.Id)) <;> exact ⟨by trivial, Tot.of⟩
      · have hm' : (decide (0 ≤ v.Members) && decide (v.Members ≤ a)) = false := by
          simp only [Bool.and_eq_false_iff, decide_eq_false_iff_not]; omega
        simp only [hm', Bool.not_false, cond_true]
        cases k with
        | zero => cases (decide (1 ≤ v.Id) && decide (v.Id ≤ 99)) <;> exact ⟨by trivial, Tot.of⟩
        | succ k =>
          have hw2 : IntKind.wrap .i64 (((k + 1 : Nat) : Int) - 1) = (k : Int) := by rw [wrap64 (by omega) (by omega)]; omega
          have hpos : decide (((k + 1 : Nat) : Int) > 0) = true := decide_eq_true (by omega)
          simp only [hw2, hpos, cond_true, idx_nat (show k < x0.Rows.length by omega), Option.bind_some]
          cases (decide (1 ≤ v.Id) && decide (v.Id ≤ 99)) <;> cases (decide ((x0.Rows[k]'(by omega)).Id ≥ v.Id)) <;> exact ⟨by trivial, Tot.of⟩
    · have hk' : decide ((k : Int) < (x0.Rows.length : Int)) = false := decide_eq_false (by omega)
      rw [hk']
      exact ⟨by trivial, Tot.of⟩
theorem spec_VtabOk_L3_both (n : Nat) (x0 : Vtab) (h : x0.Rows.length ≤ 1048580) (hn : x0.Rows.length < n) (hq : x0.Pvid.length ≤ 1048580) : ∀ (m k : Nat), k ≤ x0.Pvid.length → x0.Pvid.length < m + k → impl_VtabOk_L3 n m x0 k = spec_VtabOk_L3 n m x0 k ∧ Tot (spec_VtabOk_L3 n m x0 k)
  | 0, k, h1, h2 => by omega
  | m + 1, k, h1, h2 => by
    rw [spec_VtabOk_L3, impl_VtabOk_L3]
    by_cases hk : k < x0.Pvid.length
    · obtain ⟨ih1, o, ih2⟩ := spec_VtabOk_L3_both n x0 h hn hq m (k + 1) (by omega) (by omega)
      have hk' : decide ((k : Int) < (x0.Pvid.length : Int)) = true := decide_eq_true (by omega)
      obtain ⟨r, hr, _⟩ := spec_RowAtF_ok n x0 x0.Pvid[k] h hn
      simp only [hk', wrap_nat (by omega : k ≤ 1099511627776), idx_nat hk, Option.bind_some, cond_true, ih1, ih2, impl_RowAtF_eq, hr]
      cases decide (r < 0) <;> exact ⟨by trivial, Tot.of⟩
    · have hk' : decide ((k : Int) < (x0.Pvid.length : Int)) = false := decide_eq_false (by omega)
      rw [hk']
      exact ⟨by trivial, Tot.of⟩
theorem spec_VtabOkF_both (n : Nat) (x0 : Vtab) (w0 : x0.wf) (x1 : Int) (h : x0.sz ≤ 1048580) (hn : x0.sz < n) : impl_VtabOkF n x0 x1 = spec_VtabOkF n x0 x1 ∧ Tot (spec_VtabOkF n x0 x1) := by
  have hs : x0.Rows.length + x0.Pvid.length = x0.sz := rfl
  unfold impl_VtabOkF spec_VtabOkF
  simp only [impl_inF_eq, spec_l1InF_val, Option.bind_some]
  by_cases hp : 1 ≤ x1 ∧ x1 ≤ 6
  · obtain ⟨a, ha0, ha1, ha2, ha3, ha4, ha5⟩ := spec_VtabOk_mask hp.1 hp.2
    obtain ⟨e1, o, e2⟩ := spec_VtabOk_L4_both n x0 w0 x1 hp.1 hp.2 (by omega) n 0 (by omega) (by omega)
    obtain ⟨f1, q, f2⟩ := spec_VtabOk_L3_both n x0 (by omega) (by omega) (by omega) n 0 (by omega) (by omega)
    have e1' : impl_VtabOk_L4 n n x0 x1 0 = some o := e1.trans e2
    have e2' : spec_VtabOk_L4 n n x0 x1 0 = some o := e2
    have f1' : impl_VtabOk_L3 n n x0 0 = some q := f1.trans f2
    have f2' : spec_VtabOk_L3 n n x0 0 = some q := f2
    simp only [decide_eq_true hp.1, decide_eq_true hp.2, Bool.and_self, Bool.not_true, cond_false, ha4, cond_true, e1', e2', Option.bind_some]
    cases o with
    | inl u =>
      simp only [impl_VtabOk_J1, spec_VtabOk_J1, f1', f2', Option.bind_some]
      cases q <;> exact ⟨rfl, Tot.bif (fun _ => .of) fun _ => Tot.bif (fun _ => .of) fun _ => .of⟩
    | inr r => exact ⟨rfl, Tot.bif (fun _ => .of) fun _ => Tot.bif (fun _ => .of) fun _ => .of⟩
  · have hp' : (decide (1 ≤ x1) && decide (x1 ≤ 6)) = false := by
      simp only [Bool.and_eq_false_iff, decide_eq_false_iff_not]; omega
    rw [hp']
    exact ⟨by trivial, Tot.of⟩
theorem laws_markVrowSF_ok (n : Nat) (xs : List Vrow) (b : Int) (h : xs.length ≤ 268435456) (hn : xs.length < n) (h0 : 0 ≤ b) (h1 : b + (3 : Nat) * xs.length ≤ 1099511627776) : laws_markVrowSF n xs b = some (b + (3 : Nat) * xs.length, markL (fun _ b => (⟨b, b + 1, b + 2⟩ : Vrow)) 3 xs b) := by
  have := mark_loop (L := laws_markVrowS_L2 n) (f := fun _ b => (⟨b, b + 1, b + 2⟩ : Vrow)) (c := 3) (fun m k ys b v hk hl hv h0 h1 => by
    rw [laws_markVrowS_L2, lt_true hk, idx_at hv]
    simp only [cond_true, Option.bind_some, idx_set hk, wrap64 (show -9223372036854775808 ≤ b + 1 by omega) (by omega), wrap64 (show -9223372036854775808 ≤ b + 1 + 1 by omega) (by omega), wrap64 (show -9223372036854775808 ≤ b + 1 + 1 + 1 by omega) (by omega), wrap_nat (show k ≤ 1099511627776 by omega)]
    rw [idx_set (by simpa using hk)]
    simp only [Option.bind_some, List.set_set, Int.toNat_natCast]
    rw [show b + 1 + 1 = b + 2 by omega, show b + 2 + 1 = b + (3 : Nat) by omega])
    (fun m ys b => by rw [laws_markVrowS_L2, lt_false]; rfl) xs n [] b (by simpa using h) h0 h1 hn
  unfold laws_markVrowSF
  simp only [List.length_nil, List.nil_append] at this
  rw [show laws_markVrowS_L2 n n 0 xs b = _ from this]
  rfl
theorem laws_heldVrowSF_ok (n : Nat) (xs : List Vrow) (b : Int) (h : xs.length ≤ 268435456) (hn : xs.length < n) (h0 : 0 ≤ b) (h1 : b + (3 : Nat) * xs.length ≤ 1099511627776) : laws_heldVrowSF n (markL (fun _ b => (⟨b, b + 1, b + 2⟩ : Vrow)) 3 xs b) b = some (b + (3 : Nat) * xs.length) := by
  have := held_loop (L := laws_heldVrowS_L2 n) (f := fun _ b => (⟨b, b + 1, b + 2⟩ : Vrow)) (c := 3) (fun m k ys b v hk hl hv h0 h1 => by
    rw [laws_heldVrowS_L2, lt_true hk, idx_at hv]
    simp only [cond_true, Option.bind_some, bne_self_eq_false, cond_false, wrap64 (show -9223372036854775808 ≤ b + 1 by omega) (by omega), wrap64 (show -9223372036854775808 ≤ b + 1 + 1 by omega) (by omega), wrap64 (show -9223372036854775808 ≤ b + 1 + 1 + 1 by omega) (by omega), wrap_nat (show k ≤ 1099511627776 by omega)]
    rw [show b + 1 + 1 = b + 2 by omega, show b + 2 + 1 = b + (3 : Nat) by omega]
    simp only [bne_self_eq_false, cond_false])
    (fun m ys b => by rw [laws_heldVrowS_L2, lt_false]; rfl) xs n [] b (by simpa using h) h0 h1 hn
  unfold laws_heldVrowSF
  simp only [List.length_nil, List.nil_append] at this
  rw [show laws_heldVrowS_L2 n n (markL (fun _ b => (⟨b, b + 1, b + 2⟩ : Vrow)) 3 xs b) 0 b = _ from this]
  rfl
theorem laws_markIntSF_ok (n : Nat) (xs : List Int) (b : Int) (h : xs.length ≤ 268435456) (hn : xs.length < n) (h0 : 0 ≤ b) (h1 : b + (1 : Nat) * xs.length ≤ 1099511627776) : laws_markIntSF n xs b = some (b + (1 : Nat) * xs.length, markL (fun _ b => b) 1 xs b) := by
  have := mark_loop (L := laws_markIntS_L2 n) (f := fun _ b => b) (c := 1) (fun m k ys b v hk hl hv h0 h1 => by
    rw [laws_markIntS_L2, lt_true hk, idx_at hv]
    simp only [cond_true, Option.bind_some, wrap64 (show -9223372036854775808 ≤ b + 1 by omega) (by omega), wrap_nat (show k ≤ 1099511627776 by omega), Int.toNat_natCast]
    rfl)
    (fun m ys b => by rw [laws_markIntS_L2, lt_false]; rfl) xs n [] b (by simpa using h) h0 h1 hn
  unfold laws_markIntSF
  simp only [List.length_nil, List.nil_append] at this
  rw [show laws_markIntS_L2 n n 0 xs b = _ from this]
  rfl
theorem laws_heldIntSF_ok (n : Nat) (xs : List Int) (b : Int) (h : xs.length ≤ 268435456) (hn : xs.length < n) (h0 : 0 ≤ b) (h1 : b + (1 : Nat) * xs.length ≤ 1099511627776) : laws_heldIntSF n (markL (fun _ b => b) 1 xs b) b = some (b + (1 : Nat) * xs.length) := by
  have := held_loop (L := laws_heldIntS_L2 n) (f := fun _ b => b) (c := 1) (fun m k ys b v hk hl hv h0 h1 => by
    rw [laws_heldIntS_L2, lt_true hk, idx_at hv]
    simp only [cond_true, Option.bind_some, bne_self_eq_false, cond_false, wrap64 (show -9223372036854775808 ≤ b + 1 by omega) (by omega), wrap_nat (show k ≤ 1099511627776 by omega)]
    rfl)
    (fun m ys b => by rw [laws_heldIntS_L2, lt_false]; rfl) xs n [] b (by simpa using h) h0 h1 hn
  unfold laws_heldIntSF
  simp only [List.length_nil, List.nil_append] at this
  rw [show laws_heldIntS_L2 n n (markL (fun _ b => b) 1 xs b) 0 b = _ from this]
  rfl
theorem laws_markVtabF_ok (n : Nat) (x : Vtab) (h : x.sz ≤ 268435456) (hn : x.sz < n) : ∃ c y, 0 < c ∧ laws_markVtabF n x 1 = some (c, y) ∧ laws_heldVtabF n y 1 = some c := by
  have hs : x.Rows.length + x.Pvid.length = x.sz := rfl
  refine ⟨1 + (3 : Nat) * x.Rows.length + (1 : Nat) * x.Pvid.length, ⟨markL (fun _ b => (⟨b, b + 1, b + 2⟩ : Vrow)) 3 x.Rows 1, markL (fun _ b => b) 1 x.Pvid (1 + (3 : Nat) * x.Rows.length)⟩, by omega, ?_, ?_⟩
  · unfold laws_markVtabF
    rw [laws_markVrowSF_ok n x.Rows 1 (by omega) (by omega) (by omega) (by omega), Option.bind_some, laws_markIntSF_ok n x.Pvid _ (by omega) (by omega) (by omega) (by omega)]
    rfl
  · unfold laws_heldVtabF
    rw [laws_heldVrowSF_ok n x.Rows 1 (by omega) (by omega) (by omega) (by omega), Option.bind_some, laws_heldIntSF_ok n x.Pvid _ (by omega) (by omega) (by omega) (by omega), Option.bind_some, decide_eq_false (by omega), decide_eq_false (by omega)]
    rfl
theorem spec_l9CopyF_eq (n : Nat) (x : Vtab) (h : x.sz ≤ 268435456) : spec_l9CopyF n x = some x := by
  have hs : x.Rows.length + x.Pvid.length = x.sz := rfl
  unfold spec_l9CopyF
  simp only [List.length_nil, Nat.zero_add, decide_eq_true (show x.Rows.length ≤ 268435456 by omega), decide_eq_true (show x.Pvid.length ≤ 268435456 by omega), cond_true, List.nil_append]
theorem impl_copyVtabF_eq (n : Nat) (x : Vtab) (h : x.sz ≤ 268435456) : impl_copyVtabF n x = some x := by
  have hs : x.Rows.length + x.Pvid.length = x.sz := rfl
  unfold impl_copyVtabF impl_copyIntsF
  simp only [List.length_nil, Nat.zero_add, decide_eq_true (show x.Rows.length ≤ 268435456 by omega), decide_eq_true (show x.Pvid.length ≤ 268435456 by omega), cond_true, List.nil_append, Option.bind_some]
theorem turned_both (n : Nat) (x y : Vtab) (wx : x.wf) (wy : y.wf) (hp : y.Pvid.length = x.Pvid.length) (hx : x.sz ≤ 1048576) (hy : y.sz ≤ 1048577) (hn : 1048577 < n) : ∃ a b, spec_VtabOkF n x (x.Pvid.length : Int) = some a ∧ spec_VtabOkF n y (x.Pvid.length : Int) = some b ∧ spec_l9OrF n y x = some (bif b then (y, true) else (x, false)) ∧ impl_turnedF n x y = some (bif a && b then (y, true) else (x, false)) := by
  obtain ⟨e1, a, ha⟩ := spec_VtabOkF_both n x wx (x.Pvid.length : Int) (by omega) (by omega)
  obtain ⟨e2, b, hb⟩ := spec_VtabOkF_both n y wy (x.Pvid.length : Int) (by omega) (by omega)
  refine ⟨a, b, ha, hb, ?_, ?_⟩
  · unfold spec_l9OrF
    rw [hb, Option.bind_some, spec_l9CopyF_eq n x (by omega)]
    cases b <;> rfl
  · unfold impl_turnedF
    rw [e1, e2, ha, hb, impl_copyVtabF_eq n x (by omega)]
    cases a <;> cases b <;> rfl
theorem listWf_sub {α : Type} {wf : α → Prop} {xs ys : List α} (h : listWf wf xs) (hs : ∀ y ∈ ys, y ∈ xs) (hl : ys.length ≤ xs.length) : listWf wf ys := ⟨Nat.le_trans hl h.1, fun y hy => h.2 y (hs y hy)⟩
theorem listWf_set {α : Type} {wf : α → Prop} {xs : List α} {i : Nat} {v : α} (h : listWf wf xs) (hv : wf v) : listWf wf (xs.set i v) := ⟨by rw [List.length_set]; exact h.1, fun y hy => by
  rcases List.mem_or_eq_of_mem_set hy with h1 | h1
  · exact h.2 y h1
  · rw [h1]; exact hv⟩
theorem laws_markVtabF_okb (n : Nat) (x : Vtab) (b : Int) (h : x.sz ≤ 268435456) (hn : x.sz < n) (hb : 0 < b) (hb2 : b ≤ 549755813888) : ∃ c y, b ≤ c ∧ c ≤ b + 3 * x.sz ∧ laws_markVtabF n x b = some (c, y) ∧ laws_heldVtabF n y b = some c := by
  have hs : x.Rows.length + x.Pvid.length = x.sz := rfl
  refine ⟨b + (3 : Nat) * x.Rows.length + (1 : Nat) * x.Pvid.length, ⟨markL (fun _ b => (⟨b, b + 1, b + 2⟩ : Vrow)) 3 x.Rows b, markL (fun _ b => b) 1 x.Pvid (b + (3 : Nat) * x.Rows.length)⟩, by omega, by omega, ?_, ?_⟩
  · unfold laws_markVtabF
    rw [laws_markVrowSF_ok n x.Rows b (by omega) (by omega) (by omega) (by omega), Option.bind_some, laws_markIntSF_ok n x.Pvid _ (by omega) (by omega) (by omega) (by omega)]
    rfl
  · unfold laws_heldVtabF
    rw [laws_heldVrowSF_ok n x.Rows b (by omega) (by omega) (by omega) (by omega), Option.bind_some, laws_heldIntSF_ok n x.Pvid _ (by omega) (by omega) (by omega) (by omega), Option.bind_some, decide_eq_false (by omega), decide_eq_false (by omega)]
    rfl
/-- The rows are in order. -/
def sortedFrom (xs : List Vrow) (k : Nat) : Prop := ∀ j (hj : j + 1 < xs.length), k ≤ j + 1 → xs[j].Id < xs[j + 1].Id
theorem spec_VtabOk_L4_sorted (n : Nat) (x0 : Vtab) (x1 : Int) (h : x0.Rows.length ≤ 1048580) : ∀ (m k : Nat) (o : Unit ⊕ Bool), k ≤ x0.Rows.length → spec_VtabOk_L4 n m x0 x1 k = some o → o = .inr false ∨ sortedFrom x0.Rows k
  | 0, k, o, h1, h2 => by cases h2
  | m + 1, k, o, h1, h2 => by
    rw [spec_VtabOk_L4] at h2
    by_cases hk : k < x0.Rows.length
    · rw [lt_true hk, idx_nat hk, wrap_nat (by omega)] at h2
      simp only [cond_true, Option.bind_some, spec_l1InF_val] at h2
      have rec' : ∀ o, spec_VtabOk_L4 n m x0 x1 ((k + 1 : Nat) : Int) = some o → (k = 0 ∨ ∃ hk0 : 0 < k, (x0.Rows[k - 1]'(by omega)).Id < x0.Rows[k].Id) → o = .inr false ∨ sortedFrom x0.Rows k := fun o ho hs => by
        rcases spec_VtabOk_L4_sorted n x0 x1 h m (k + 1) o (by omega) ho with e | e
        · exact .inl e
        · right
          intro j hj hkj
          by_cases hjk : k = j + 1
          · subst hjk
            rcases hs with hs | ⟨_, hs⟩
            · omega
            · simpa using hs
          · exact e j hj (by omega)
      revert h2
      cases (decide (1 ≤ x0.Rows[k].Id) && decide (x0.Rows[k].Id ≤ 99)) with
      | false => intro h2; left; exact (Option.some.inj h2).symm
      | true =>
        simp only [Bool.not_true, cond_false]
        cases (decide (0 ≤ x0.Rows[k].Members) && decide (x0.Rows[k].Members ≤ _)) with
        | false => intro h2; left; exact (Option.some.inj h2).symm
        | true =>
          simp only [Bool.not_true, cond_false]
          cases (decide (0 ≤ x0.Rows[k].Bare) && decide (x0.Rows[k].Bare ≤ _)) with
          | false => intro h2; left; exact (Option.some.inj h2).symm
          | true =>
            simp only [Bool.not_true, cond_false]
            cases ((IntKind.wrap .i64 (BitVec.ofInt (IntKind.bits .i64) x0.Rows[k].Bare &&& BitVec.ofInt (IntKind.bits .i64) x0.Rows[k].Members).toNat) != x0.Rows[k].Bare) with
            | true => intro h2; left; exact (Option.some.inj h2).symm
            | false =>
              simp only [cond_false]
              by_cases hk0 : 0 < k
              · have hw2 : IntKind.wrap .i64 ((k : Int) - 1) = ((k - 1 : Nat) : Int) := by rw [wrap64 (by omega) (by omega)]; omega
                rw [decide_eq_true (show (k : Int) > 0 by omega), hw2, idx_nat (show k - 1 < x0.Rows.length by omega)]
                simp only [cond_true, Option.bind_some]
                by_cases hge : (x0.Rows[k - 1]'(by omega)).Id ≥ x0.Rows[k].Id
                · rw [decide_eq_true hge]
                  intro h2; left; exact (Option.some.inj h2).symm
                · rw [decide_eq_false hge]
                  intro h2
                  exact rec' o h2 (.inr ⟨hk0, by omega⟩)
              · rw [decide_eq_false (show ¬ (k : Int) > 0 by omega)]
                intro h2
                exact rec' o h2 (.inl (by omega))
    · right
      intro j hj hkj
      omega
theorem spec_VtabOkF_sorted (n : Nat) (x : Vtab) (p : Int) (h : x.Rows.length ≤ 1048580) (hok : spec_VtabOkF n x p = some true) : sortedFrom x.Rows 0 := by
  unfold spec_VtabOkF at hok
  simp only [spec_l1InF_val, Option.bind_some] at hok
  revert hok
  cases (decide (1 ≤ p) && decide (p ≤ 6)) with
  | false => intro h; cases h
  | true =>
    simp only [Bool.not_true, cond_false]
    cases ((x.Pvid.length : Int) != p) with
    | true => intro h; cases h
    | false =>
      simp only [cond_false]
      cases (decide ((x.Rows.length : Int) > 6)) with
      | true => intro h; cases h
      | false =>
        simp only [cond_false]
        cases (decide (0 ≤ (IntKind.wrap .u64 p))) with
        | false => intro h; cases h
        | true =>
          simp only [cond_true]
          intro hok
          obtain ⟨o, ho, hm⟩ := bind_some hok
          rcases spec_VtabOk_L4_sorted n x p h n 0 o (by omega) ho with e | e
          · subst e; cases hm
          · exact e
/-- A row put in its place. -/
def insR (r : Vrow) : List Vrow → List Vrow
  | [] => [r]
  | v :: xs => if v.Id < r.Id then v :: insR r xs else if v.Id = r.Id then r :: xs else r :: v :: xs
theorem sorted_tail {v : Vrow} {xs : List Vrow} (h : sortedFrom (v :: xs) 0) : sortedFrom xs 0 := fun j hj _ => by
  have := h (j + 1) (by simpa using hj) (by omega)
  simpa using this
theorem sorted_gt : ∀ {xs : List Vrow} {v : Vrow}, sortedFrom (v :: xs) 0 → ∀ u ∈ xs, v.Id < u.Id
  | w :: xs, v, h, u, hu => by
    have h0 : v.Id < w.Id := by have := h 0 (by simp) (by omega); simpa using this
    rcases List.mem_cons.1 hu with e | hu
    · rw [e]; exact h0
    · have := sorted_gt (sorted_tail h) u hu
      omega
theorem insR_none (r : Vrow) : ∀ (xs : List Vrow), (∀ v ∈ xs, v.Id < r.Id) → insR r xs = xs ++ [r]
  | [], _ => rfl
  | v :: xs, h => by
    rw [insR, if_pos (h v (by simp)), insR_none r xs fun u hu => h u (by simp [hu])]
    rfl
/-- What is put, wherever it stands. -/
theorem insR_set (r : Vrow) : ∀ (xs : List Vrow) (k : Nat) (hk : k < xs.length), sortedFrom xs 0 → xs[k].Id = r.Id → insR r xs = xs.set k r
  | v :: xs, 0, hk, hs, he => by
    have he : v.Id = r.Id := he
    rw [insR, if_neg (by omega), if_pos he]
    rfl
  | v :: xs, k + 1, hk, hs, he => by
    have hk' : k < xs.length := by simpa using hk
    have he : xs[k].Id = r.Id := he
    have := sorted_gt hs xs[k] (List.getElem_mem hk')
    rw [insR, if_pos (by omega), insR_set r xs k hk' (sorted_tail hs) he]
    rfl
theorem insR_cut (r : Vrow) : ∀ (xs : List Vrow) (k : Nat) (hk : k ≤ xs.length), (∀ j (hj : j < xs.length), j < k → xs[j].Id < r.Id) → (∀ hj : k < xs.length, r.Id < xs[k].Id) → insR r xs = xs.take k ++ r :: xs.drop k
  | [], k, hk, h1, h2 => by
    have : k = 0 := by simpa using hk
    subst this; rfl
  | v :: xs, 0, hk, h1, h2 => by
    have := h2 (by simp)
    have this : r.Id < v.Id := this
    rw [insR, if_neg (by omega), if_neg (by omega)]
    rfl
  | v :: xs, k + 1, hk, h1, h2 => by
    have h0 := h1 0 (by simp) (by omega)
    have h0 : v.Id < r.Id := h0
    rw [insR, if_pos h0, insR_cut r xs k (by simpa using hk) (fun j hj hjk => by have := h1 (j + 1) (by simpa using hj) (by omega); simpa using this) (fun hj => by have := h2 (by simpa using hj); simpa using this)]
    rfl
/-- The spec's loop, from element k on. -/
theorem spec_l9Row_L2_done (n : Nat) (x0 : Vtab) (r : Vrow) (h : x0.Rows.length ≤ 1048580) : ∀ (m k : Nat) (acc : List Vrow), k ≤ x0.Rows.length → x0.Rows.length < m + k → acc.length ≤ 1048590 + k → (∀ j (hj : j < x0.Rows.length), k ≤ j → x0.Rows[j].Id ≠ r.Id) → spec_l9Row_L2 n m x0 r k true acc = some (.inl (true, acc ++ x0.Rows.drop k))
  | 0, k, acc, h1, h2, _, _ => by omega
  | m + 1, k, acc, h1, h2, h3, h4 => by
    rw [spec_l9Row_L2]
    by_cases hk : k < x0.Rows.length
    · have hne : (x0.Rows[k].Id != r.Id) = true := by simpa using h4 k hk (by omega)
      have hlen : decide (acc.length + [x0.Rows[k]].length ≤ 268435456) = true := decide_eq_true (by rw [List.length_singleton]; omega)
      simp only [lt_true hk, cond_true, Bool.not_true, cond_false, spec_l9Row_J3, idx_nat hk, Option.bind_some, hne, hlen, wrap_nat (by omega : k ≤ 1099511627776)]
      rw [spec_l9Row_L2_done n x0 r h m (k + 1) (acc ++ [x0.Rows[k]]) (by omega) (by omega) (by simp; omega) (fun j hj hkj => h4 j hj (by omega))]
      rw [List.drop_eq_getElem_cons hk]
      simp
    · have he : k = x0.Rows.length := by omega
      rw [he, lt_false]
      simp
theorem spec_l9Row_L2_ins (n : Nat) (x0 : Vtab) (r : Vrow) (h : x0.Rows.length ≤ 1048580) (hs : sortedFrom x0.Rows 0) : ∀ (m k : Nat) (acc : List Vrow), k ≤ x0.Rows.length → x0.Rows.length < m + k → acc.length ≤ 1048580 + k → ∃ d ys, spec_l9Row_L2 n m x0 r k false acc = some (.inl (d, ys)) ∧ (bif d then ys else ys ++ [r]) = acc ++ insR r (x0.Rows.drop k) ∧ ys.length + k ≤ acc.length + x0.Rows.length + 1
  | 0, k, acc, h1, h2, _ => by omega
  | m + 1, k, acc, h1, h2, h3 => by
    rw [spec_l9Row_L2]
    by_cases hk : k < x0.Rows.length
    · have hdrop := List.drop_eq_getElem_cons hk
      by_cases hge : x0.Rows[k].Id ≥ r.Id
      · have hlen : decide (acc.length + [r].length ≤ 268435456) = true := decide_eq_true (by rw [List.length_singleton]; omega)
        simp only [lt_true hk, cond_true, Bool.not_false, idx_nat hk, Option.bind_some, decide_eq_true hge, hlen, spec_l9Row_J3, wrap_nat (by omega : k ≤ 1099511627776)]
        have hgt : ∀ j (hj : j < x0.Rows.length), k + 1 ≤ j → x0.Rows[j].Id ≠ r.Id := fun j hj hkj => by
          have : x0.Rows[k].Id < x0.Rows[j].Id := by
            have hs' : sortedFrom (x0.Rows[k] :: x0.Rows.drop (k + 1)) 0 := by
              rw [← hdrop]
              intro i hi _
              have := hs (k + i) (by simp at hi; omega) (by omega)
              simpa [List.getElem_drop, Nat.add_assoc] using this
            refine sorted_gt hs' _ ?_
            have : x0.Rows[j] = (x0.Rows.drop (k + 1))[j - (k + 1)]'(by simp; omega) := by
              rw [List.getElem_drop]; congr 1; omega
            rw [this]
            exact List.getElem_mem _
          omega
        by_cases heq : x0.Rows[k].Id = r.Id
        · have hne : (x0.Rows[k].Id != r.Id) = false := by simpa using heq
          rw [hne]
          simp only [cond_false]
          rw [spec_l9Row_L2_done n x0 r h m (k + 1) (acc ++ [r]) (by omega) (by omega) (by simp; omega) hgt]
          refine ⟨true, _, rfl, ?_, by simp; omega⟩
          rw [hdrop, insR, if_neg (by omega), if_pos heq]
          simp
        · have hne : (x0.Rows[k].Id != r.Id) = true := by simpa using heq
          have hlen2 : decide ((acc ++ [r]).length + [x0.Rows[k]].length ≤ 268435456) = true := decide_eq_true (by simp; omega)
          rw [hne]
          simp only [cond_true, hlen2]
          rw [spec_l9Row_L2_done n x0 r h m (k + 1) ((acc ++ [r]) ++ [x0.Rows[k]]) (by omega) (by omega) (by simp; omega) hgt]
          refine ⟨true, _, rfl, ?_, by simp; omega⟩
          rw [hdrop, insR, if_neg (by omega), if_neg heq]
          simp
      · have hne : (x0.Rows[k].Id != r.Id) = true := by simp; omega
        have hlen : decide (acc.length + [x0.Rows[k]].length ≤ 268435456) = true := decide_eq_true (by rw [List.length_singleton]; omega)
        simp only [lt_true hk, cond_true, Bool.not_false, idx_nat hk, Option.bind_some, decide_eq_false hge, cond_false, hne, hlen, spec_l9Row_J3, wrap_nat (by omega : k ≤ 1099511627776)]
        obtain ⟨d, ys, e1, e2, e3⟩ := spec_l9Row_L2_ins n x0 r h hs m (k + 1) (acc ++ [x0.Rows[k]]) (by omega) (by omega) (by simp; omega)
        refine ⟨d, ys, e1, ?_, ?_⟩
        · rw [e2, hdrop, insR, if_pos (by omega)]
          simp
        · simp at e3; omega
    · have he : k = x0.Rows.length := by omega
      rw [he, lt_false]
      refine ⟨false, acc, rfl, ?_, by omega⟩
      simp [insR]
theorem spec_l9RowF_eq (n : Nat) (x : Vtab) (r : Vrow) (h : x.sz ≤ 1048576) (hn : x.sz < n) (hs : sortedFrom x.Rows 0) : spec_l9RowF n x r = some ⟨insR r x.Rows, x.Pvid⟩ := by
  have hsz : x.Rows.length + x.Pvid.length = x.sz := rfl
  obtain ⟨d, ys, e1, e2, e3⟩ := spec_l9Row_L2_ins n x r (by omega) hs n 0 [] (by omega) (by omega) (by simp)
  unfold spec_l9RowF
  rw [decide_eq_true (show ([] : List Int).length + x.Pvid.length ≤ 268435456 by simp; omega)]
  simp only [cond_true]
  rw [show spec_l9Row_L2 n n x r 0 false ([] : List Vrow) = _ from e1]
  simp only [List.drop_zero, List.nil_append] at e2
  simp only [List.length_nil] at e3
  simp only [Option.bind_some, spec_l9Row_J1, List.nil_append]
  cases d with
  | true =>
    simp only [cond_true] at e2
    rw [e2]; rfl
  | false =>
    simp only [cond_false] at e2
    rw [decide_eq_true (show ys.length + [r].length ≤ 268435456 by simp; omega), e2]; rfl
theorem impl_withRow_L2_ok (n : Nat) (x0 : Vtab) (r : Vrow) (h : x0.Rows.length ≤ 1048580) : ∀ (m k : Nat), k ≤ x0.Rows.length → x0.Rows.length < m + k → (∀ j (hj : j < x0.Rows.length), j < k → x0.Rows[j].Id ≤ r.Id) → ∃ q : Nat, impl_withRow_L2 n m x0 r k = some (.inl (q : Int)) ∧ q ≤ x0.Rows.length ∧ (∀ j (hj : j < x0.Rows.length), j < q → x0.Rows[j].Id ≤ r.Id) ∧ (∀ hq : q < x0.Rows.length, r.Id < x0.Rows[q].Id)
  | 0, k, h1, h2, _ => by omega
  | m + 1, k, h1, h2, h3 => by
    rw [impl_withRow_L2]
    by_cases hk : k < x0.Rows.length
    · rw [lt_true hk, idx_nat hk, wrap_nat (by omega)]
      simp only [cond_true, Option.bind_some]
      by_cases hle : x0.Rows[k].Id ≤ r.Id
      · rw [decide_eq_true hle]
        exact impl_withRow_L2_ok n x0 r h m (k + 1) (by omega) (by omega) (fun j hj hjk => by
          by_cases e : j = k
          · subst e; exact hle
          · exact h3 j hj (by omega))
      · rw [decide_eq_false hle]
        exact ⟨k, rfl, by omega, h3, fun _ => by omega⟩
    · have he : k = x0.Rows.length := by omega
      rw [he, lt_false]
      exact ⟨x0.Rows.length, rfl, by omega, fun j hj _ => h3 j hj (by omega), fun hq => by omega⟩
theorem impl_withRowF_ok (n : Nat) (x : Vtab) (r : Vrow) (wx : x.wf) (wr : r.wf) (h : x.sz ≤ 1048576) (hn : x.sz < n) : ∃ y : Vtab, impl_withRowF n x r = some y ∧ y.wf ∧ y.Pvid = x.Pvid ∧ y.sz ≤ 1048577 ∧ (sortedFrom x.Rows 0 → y = ⟨insR r x.Rows, x.Pvid⟩) := by
  have hsz : x.Rows.length + x.Pvid.length = x.sz := rfl
  obtain ⟨i, hi, hk⟩ := spec_RowAtF_ok n x r.Id (by omega) (by omega)
  unfold impl_withRowF
  simp only [impl_copyVtabF_eq n x (by omega), impl_RowAtF_eq, hi, Option.bind_some]
  rcases hk with ⟨rfl, hno⟩ | ⟨v, h0, hv, hid⟩
  · obtain ⟨q, e1, e2, e3, e4⟩ := impl_withRow_L2_ok n x r (by omega) n 0 (by omega) (by omega) (fun j hj hj0 => by omega)
    rw [show decide ((-1 : Int) ≥ 0) = false from rfl]
    simp only [cond_false]
    rw [show impl_withRow_L2 n n x r 0 = _ from e1]
    simp only [Option.bind_some, impl_withRow_J1]
    have hlist : (((([] : List Vrow) ++ ((x.Rows.drop ((0 : Int)).toNat).take (((q : Int)).toNat - ((0 : Int)).toNat))) ++ [r]) ++ ((x.Rows.drop ((q : Int)).toNat).take ((((x.Rows.length : Int) : Int)).toNat - ((q : Int)).toNat))) = x.Rows.take q ++ r :: x.Rows.drop q := by
      simp only [Int.toNat_natCast, List.nil_append, show ((0 : Int)).toNat = 0 from rfl, List.drop_zero, Nat.sub_zero]
      rw [List.take_of_length_le (l := x.Rows.drop q) (by simp)]
      simp
    have g1 : (decide ((0 : Int) ≤ 0) && (decide ((0 : Int) ≤ (q : Int)) && decide ((q : Int) ≤ (x.Rows.length : Int)))) = true := by
      rw [decide_eq_true (by omega : (0 : Int) ≤ (q : Int)), decide_eq_true (by omega : (q : Int) ≤ (x.Rows.length : Int))]; rfl
    have g2 : (decide ((0 : Int) ≤ (q : Int)) && (decide ((q : Int) ≤ (x.Rows.length : Int)) && decide (((x.Rows.length : Int) : Int) ≤ (x.Rows.length : Int)))) = true := by
      rw [decide_eq_true (by omega : (0 : Int) ≤ (q : Int)), decide_eq_true (by omega : (q : Int) ≤ (x.Rows.length : Int)), decide_eq_true (Int.le_refl _)]; rfl
    have g3 : decide (([] : List Vrow).length + ((x.Rows.drop ((0 : Int)).toNat).take (((q : Int)).toNat - ((0 : Int)).toNat)).length ≤ 268435456) = true := decide_eq_true (by simp; omega)
    have g4 : decide ((([] : List Vrow) ++ ((x.Rows.drop ((0 : Int)).toNat).take (((q : Int)).toNat - ((0 : Int)).toNat))).length + [r].length ≤ 268435456) = true := decide_eq_true (by simp; omega)
    have g5 : decide (((([] : List Vrow) ++ ((x.Rows.drop ((0 : Int)).toNat).take (((q : Int)).toNat - ((0 : Int)).toNat))) ++ [r]).length + ((x.Rows.drop ((q : Int)).toNat).take ((((x.Rows.length : Int) : Int)).toNat - ((q : Int)).toNat)).length ≤ 268435456) = true := decide_eq_true (by simp; omega)
    refine ⟨⟨x.Rows.take q ++ r :: x.Rows.drop q, x.Pvid⟩, ?_, ?_, rfl, ?_, fun hs => ?_⟩
    · rw [g1]
      simp only [cond_true, g3, g4, g5, hlist]
      rw [g2]
      rfl
    · refine ⟨⟨?_, fun y hy => ?_⟩, wx.2⟩
      · have := wx.1.1
        have hm : maxLen = 9223372036854775807 := by decide
        simp; omega
      · rcases List.mem_append.1 hy with h | h
        · exact wx.1.2 y (List.mem_of_mem_take h)
        · rcases List.mem_cons.1 h with e | h
          · rw [e]; exact wr
          · exact wx.1.2 y (List.mem_of_mem_drop h)
    · show (x.Rows.take q ++ r :: x.Rows.drop q).length + x.Pvid.length ≤ 1048577
      simp; omega
    · rw [insR_cut r x.Rows q e2 (fun j hj hjq => by
        have := e3 j hj hjq
        have := hno x.Rows[j] (List.getElem_mem hj)
        omega) e4]
  · obtain ⟨g1, g2⟩ := idx_get hv
    have hlt : i.toNat < x.Rows.length := (List.getElem?_eq_some_iff.1 g2).1
    rw [decide_eq_true (show i ≥ 0 from h0), hv]
    refine ⟨⟨x.Rows.set i.toNat r, x.Pvid⟩, rfl, ⟨listWf_set wx.1 wr, wx.2⟩, rfl, ?_, fun hs => ?_⟩
    · show (x.Rows.set i.toNat r).length + x.Pvid.length ≤ 1048577
      rw [List.length_set]; omega
    · rw [insR_set r x.Rows i.toNat hlt hs (by
        have := (List.getElem?_eq_some_iff.1 g2).2
        rw [this]; exact hid)]
theorem spec_PutRowF_both (n : Nat) (x : Vtab) (r : Vrow) (wx : x.wf) (wr : r.wf) (hx : x.sz ≤ 1048576) (hn : 1048577 < n) : ∃ y b, spec_PutRowF n x r = some (y, b) ∧ impl_PutRowF n x r = some (y, b) ∧ y.sz ≤ 1048577 := by
  obtain ⟨y, h1, h2, h3, h4, h5⟩ := impl_withRowF_ok n x r wx wr hx (by omega)
  obtain ⟨a, b, f1, f2, f3, f4⟩ := turned_both n x y wx h2 (by rw [h3]) hx h4 hn
  have hi : impl_PutRowF n x r = some (bif a && b then (y, true) else (x, false)) := by
    simp only [impl_PutRowF, h1, f4, Option.bind_some]
  cases a with
  | false =>
    refine ⟨x, false, ?_, hi, by omega⟩
    simp only [spec_PutRowF, f1, Option.bind_some, spec_l9CopyF_eq n x (by omega)]
    rfl
  | true =>
    have hs := spec_VtabOkF_sorted n x _ (by have : x.Rows.length + x.Pvid.length = x.sz := rfl; omega) f1
    have he := h5 hs
    refine ⟨(bif b then (y, true) else (x, false) : Vtab × Bool).1, (bif b then (y, true) else (x, false) : Vtab × Bool).2, ?_, ?_, ?_⟩
    · simp only [spec_PutRowF, f1, Option.bind_some, Bool.not_true, cond_false, spec_l9RowF_eq n x r hx (by omega) hs, ← he, f3]
    · rw [hi]; cases b <;> rfl
    · cases b <;> first | exact h4 | (show x.sz ≤ 1048577; omega)
theorem laws_FnExactPutRow_plain (x0 : Vtab) (x1 : Vrow) (w0 : x0.wf) (w1 : x1.wf) : ∃ n, laws_FnExactPutRowF n x0 x1 = some true := by
  refine ⟨1048580, ?_⟩
  obtain ⟨r, e, k⟩ := laws_szVtabF_ok 1048580 (x := x0) (b := 1048576) (by decide) (by decide) w0
  simp only [laws_FnExactPutRowF, e, Option.bind_some]
  rcases k.neg with ⟨c1, _⟩ | ⟨c1, c2, c3⟩
  · rw [c1]; rfl
  · have hs : x0.sz ≤ 1048576 := by omega
    obtain ⟨y, b, h1, h2, h3⟩ := spec_PutRowF_both 1048580 x0 x1 w0 w1 hs (by omega)
    obtain ⟨c, z, m0, m1, _⟩ := laws_markVtabF_ok 1048580 x0 (by omega) (by omega)
    obtain ⟨c', z', m0', m1', m2'⟩ := laws_markVtabF_ok 1048580 y (by omega) (by omega)
    simp only [c1, cond_false, laws_toVtabF_eq 1048580 x0 hs (by omega), laws_toVrowF, Option.bind_some, h1, h2, m1, m1', m2', decide_eq_false (show ¬ c < 0 by omega), decide_eq_false (show ¬ c' < 0 by omega), bne_self_eq_false, beq_self_eq_true, laws_eqVtabF_refl 1048580 x0 (by omega) (by omega), laws_eqVtabF_refl 1048580 y (by omega) (by omega), laws_eqVrowF_refl, Bool.not_true]
end Go.Proofs.Ytgpcfaiacggoiaa.Tw
