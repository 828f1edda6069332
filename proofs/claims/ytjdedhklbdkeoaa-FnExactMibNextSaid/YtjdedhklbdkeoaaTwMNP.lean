/- What the functions answer, on plain data. -/
import Derived.Test.YtjdedhklbdkeoaaTwMN
import Derived.Test.YtjdedhklbdkeoaaTlPlain
set_option linter.unusedVariables false
set_option linter.unusedSimpArgs false
set_option maxRecDepth 100000
set_option maxHeartbeats 1000000
namespace Go.Proofs.Ytjdedhklbdkeoaa.Tw
open Go Go.TL Go.Proofs
def Vtab.sz (x : Vtab) : Nat := x.Rows.length + x.Pvid.length
theorem laws_szIntSF_ok (n : Nat) {xs : List Int} {b : Int} (h0 : 0 ≤ b) (h1 : b ≤ 1048576) (hl : xs.length ≤ maxLen) : ∃ r, laws_szIntSF n xs b = some r ∧ Lft b xs.length r := sz_step h0 h1 hl
theorem laws_szVrowSF_ok (n : Nat) {xs : List Vrow} {b : Int} (h0 : 0 ≤ b) (h1 : b ≤ 1048576) (hl : xs.length ≤ maxLen) : ∃ r, laws_szVrowSF n xs b = some r ∧ Lft b xs.length r := sz_step h0 h1 hl
theorem laws_szVtabF_ok (n : Nat) {x : Vtab} {b : Int} (h0 : 0 ≤ b) (h1 : b ≤ 1048576) (hl : Vtab.wf x) : ∃ r, laws_szVtabF n x b = some r ∧ Lft b x.sz r := by
  obtain ⟨r1, e1, k1⟩ := laws_szVrowSF_ok n h0 h1 hl.1.1
  simp only [laws_szVtabF, e1, Option.bind_some]
  rcases k1.neg with ⟨c1, c2⟩ | ⟨c1, c2, c3⟩
  · rw [c1]; exact ⟨_, rfl, .inl (by decide)⟩
  · rw [c1]
    obtain ⟨r2, e2, k2⟩ := laws_szIntSF_ok n c2 (by omega) hl.2.1.1
    simp only [e2, Option.bind_some, cond_false]
    rcases k2.neg with ⟨d1, d2⟩ | ⟨d1, d2, d3⟩
    · rw [d1]; exact ⟨_, rfl, .inl (by decide)⟩
    · rw [d1]; exact ⟨_, rfl, .inr ⟨d2, by unfold Vtab.sz; omega⟩⟩
theorem laws_toIntSF_eq (n : Nat) (xs : List Int) (h : xs.length ≤ 268435456) (hn : xs.length < n) : laws_toIntSF n xs = some xs := by
  unfold laws_toIntSF
  rw [decide_eq_true (by omega : (0 : Int) ≤ (xs.length : Int)), decide_eq_true (by omega : (xs.length : Int) ≤ 268435456)]
  have := copy_loop (L := laws_toIntS_L2 n) (fun m xs i ys => rfl) xs (by omega) n 0 (List.replicate ((xs.length : Int)).toNat 0) (by omega) (by omega) (by simp) rfl
  simp only [Bool.and_self, cond_true]
  rw [show (laws_toIntS_L2 n n xs 0 (List.replicate ((xs.length : Int)).toNat 0)) = _ from this]
  rfl
theorem laws_toVrowSF_eq (n : Nat) (xs : List Vrow) (h : xs.length ≤ 1048576) (hn : xs.length < n) : laws_toVrowSF n xs = some xs := by
  unfold laws_toVrowSF
  rw [decide_eq_true (by omega : (0 : Int) ≤ (xs.length : Int)), decide_eq_true (by omega : (xs.length : Int) ≤ 268435456)]
  have := copy_loop (L := laws_toVrowS_L2 n) (fun m xs i ys => rfl) xs (by omega) n 0 (List.replicate ((xs.length : Int)).toNat (⟨0, 0, 0⟩ : Vrow)) (by omega) (by omega) (by simp) rfl
  simp only [Bool.and_self, cond_true]
  rw [show (laws_toVrowS_L2 n n xs 0 (List.replicate ((xs.length : Int)).toNat (⟨0, 0, 0⟩ : Vrow))) = _ from this]
  rfl
theorem laws_toVtabF_eq (n : Nat) (x : Vtab) (h : x.sz ≤ 1048576) (hn : x.sz < n) : laws_toVtabF n x = some x := by
  unfold Vtab.sz at h hn
  unfold laws_toVtabF
  rw [laws_toVrowSF_eq n x.Rows (by omega) (by omega), laws_toIntSF_eq n x.Pvid (by omega) (by omega)]
  rfl
theorem laws_eqIntSF_refl (n : Nat) (xs : List Int) (h : xs.length ≤ 268435456) (hn : xs.length < n) : laws_eqIntSF n xs xs = some true := by
  unfold laws_eqIntSF
  have := eq_loop (L := laws_eqIntS_L2 n) (f := fun a b => some (a == b)) (fun m xs ys i => rfl) xs (by omega) (fun v _ => by simp) n 0 (by omega) (by omega)
  simp only [bne_self_eq_false, cond_false]
  rw [show (laws_eqIntS_L2 n n xs xs 0) = _ from this]
  rfl
theorem laws_eqVrowF_refl (n : Nat) (v : Vrow) : laws_eqVrowF n v v = some true := by simp [laws_eqVrowF]
theorem laws_eqVrowSF_refl (n : Nat) (xs : List Vrow) (h : xs.length ≤ 268435456) (hn : xs.length < n) : laws_eqVrowSF n xs xs = some true := by
  unfold laws_eqVrowSF
  have := eq_loop (L := laws_eqVrowS_L2 n) (f := laws_eqVrowF n) (fun m xs ys i => rfl) xs (by omega) (fun v _ => laws_eqVrowF_refl n v) n 0 (by omega) (by omega)
  simp only [bne_self_eq_false, cond_false]
  rw [show (laws_eqVrowS_L2 n n xs xs 0) = _ from this]
  rfl
theorem laws_eqVtabF_refl (n : Nat) (x : Vtab) (h : x.sz ≤ 268435456) (hn : x.sz < n) : laws_eqVtabF n x x = some true := by
  unfold Vtab.sz at h hn
  unfold laws_eqVtabF
  rw [laws_eqVrowSF_refl n x.Rows (by omega) (by omega), laws_eqIntSF_refl n x.Pvid (by omega) (by omega)]
  rfl
theorem impl_RowAt_L2_eq (n : Nat) : impl_RowAt_L2 n = spec_RowAt_L2 n := by
  funext m
  induction m with
  | zero => rfl
  | succ m ih => funext x i y; simp only [impl_RowAt_L2, spec_RowAt_L2, ih]
theorem impl_RowAtF_eq (n : Nat) : impl_RowAtF n = spec_RowAtF n := by
  funext x i; simp only [impl_RowAtF, spec_RowAtF, impl_RowAt_L2_eq]; rfl
theorem spec_RowAtF_ok (n : Nat) (x : Vtab) (id : Int) (h : x.Rows.length ≤ 1048580) (hn : x.Rows.length < n) : ∃ r, spec_RowAtF n x id = some r ∧ (r = -1 ∧ (∀ v ∈ x.Rows, v.Id ≠ id) ∨ ∃ v, 0 ≤ r ∧ idx x.Rows r = some v ∧ v.Id = id) := by
  unfold spec_RowAtF
  have hf := find_loop (L := fun m xs i => spec_RowAt_L2 n m ⟨xs, x.Pvid⟩ id i) (p := fun i v => bif v.Id == id then some i else none) (fun m xs i => by
    show (bif _ then _ else _) = _
    congr 1
    congr 1
    funext v
    cases (v.Id == id) <;> rfl) x.Rows (by omega) n 0 (by omega) (by omega)
  rcases hf with ⟨e1, e2⟩ | ⟨j, hj, r, e1, e2, e3, e4⟩
  · rw [show spec_RowAt_L2 n n x id 0 = _ from e1]
    refine ⟨-1, rfl, .inl ⟨rfl, fun v hv => ?_⟩⟩
    obtain ⟨j, hj, rfl⟩ := List.getElem_of_mem hv
    have := e2 j hj (by omega)
    intro hid
    simp [hid] at this
  · rw [show spec_RowAt_L2 n n x id 0 = _ from e4]
    have hid : (x.Rows[j].Id == id) = true := by
      cases hc : (x.Rows[j].Id == id) with
      | true => rfl
      | false => rw [hc] at e2; cases e2
    rw [hid] at e2
    cases e2
    exact ⟨_, rfl, .inr ⟨_, by omega, idx_nat hj, by simpa using hid⟩⟩
theorem laws_szPtSF_ok (n : Nat) {xs : List Pt} {b : Int} (h0 : 0 ≤ b) (h1 : b ≤ 1048576) (hl : xs.length ≤ maxLen) : ∃ r, laws_szPtSF n xs b = some r ∧ Lft b xs.length r := sz_step h0 h1 hl
theorem laws_toPtSF_eq (n : Nat) (xs : List Pt) (h : xs.length ≤ 1048576) (hn : xs.length < n) : laws_toPtSF n xs = some xs := by
  unfold laws_toPtSF
  rw [decide_eq_true (by omega : (0 : Int) ≤ (xs.length : Int)), decide_eq_true (by omega : (xs.length : Int) ≤ 268435456)]
  have := copy_loop (L := laws_toPtS_L2 n) (fun m xs i ys => rfl) xs (by omega) n 0 (List.replicate ((xs.length : Int)).toNat (⟨false, 0, false, (⟨0, 0, 0, 0, 0⟩ : Vec)⟩ : Pt)) (by omega) (by omega) (by simp) rfl
  simp only [Bool.and_self, cond_true]
  rw [show (laws_toPtS_L2 n n xs 0 (List.replicate ((xs.length : Int)).toNat (⟨false, 0, false, (⟨0, 0, 0, 0, 0⟩ : Vec)⟩ : Pt))) = _ from this]
  rfl
theorem laws_eqVecF_refl (n : Nat) (v : Vec) : laws_eqVecF n v v = some true := by simp [laws_eqVecF]
theorem laws_eqPtF_refl (n : Nat) (v : Pt) : laws_eqPtF n v v = some true := by simp [laws_eqPtF, laws_eqVecF_refl]
theorem laws_eqPtSF_refl (n : Nat) (xs : List Pt) (h : xs.length ≤ 268435456) (hn : xs.length < n) : laws_eqPtSF n xs xs = some true := by
  unfold laws_eqPtSF
  have := eq_loop (L := laws_eqPtS_L2 n) (f := laws_eqPtF n) (fun m xs ys i => rfl) xs (by omega) (fun v _ => laws_eqPtF_refl n v) n 0 (by omega) (by omega)
  simp only [bne_self_eq_false, cond_false]
  rw [show (laws_eqPtS_L2 n n xs xs 0) = _ from this]
  rfl
theorem spec_l1InF_tot (n : Nat) (a b c : Int) : Tot (spec_l1InF n a b c) := Tot.bif (fun _ => .of) (fun _ => .of)
theorem impl_VecOkF_eq (n : Nat) : impl_VecOkF n = spec_VecOkF n := rfl
theorem spec_VecOkF_tot (n : Nat) (v : Vec) : Tot (spec_VecOkF n v) := by
  unfold spec_VecOkF
  repeat' first | exact Tot.of | refine Tot.bind (spec_l1InF_tot _ _ _ _) fun _ _ => ?_ | refine Tot.bif (fun _ => ?_) (fun _ => ?_)
theorem impl_StepVecF_eq (n : Nat) : impl_StepVecF n = spec_StepVecF n := rfl
theorem spec_StepVecF_tot (n : Nat) (v : Vec) (c : Int) : Tot (spec_StepVecF n v c) := by
  unfold spec_StepVecF
  repeat' first | exact Tot.of | refine Tot.bind (spec_l1InF_tot _ _ _ _) fun _ _ => ?_ | refine Tot.bind (spec_VecOkF_tot _ _) fun _ _ => ?_ | refine Tot.bif (fun _ => ?_) (fun _ => ?_)
theorem impl_LessVecF_eq (n : Nat) : impl_LessVecF n = spec_LessVecF n := rfl
theorem spec_LessVecF_tot (n : Nat) (v u : Vec) : Tot (spec_LessVecF n v u) := by
  unfold spec_LessVecF
  repeat' first | exact Tot.of | refine Tot.bif (fun _ => ?_) (fun _ => ?_)
theorem spec_BestVec_L2_tot (n : Nat) (x0 : Int) (x1 : List Pt) (h : x1.length ≤ 1048576) : ∀ (m k : Nat) (y2 y3 y4 y5 y6 y7 y8 y9 y10 : Int), k ≤ x1.length → x1.length < m + k → Tot (spec_BestVec_L2 n m x0 x1 k y2 y3 y4 y5 y6 y7 y8 y9 y10)
  | 0, k, y2, y3, y4, y5, y6, y7, y8, y9, y10, h1, h2 => by omega
  | m + 1, k, y2, y3, y4, y5, y6, y7, y8, y9, y10, h1, h2 => by
    rw [spec_BestVec_L2]
    refine Tot.step (fun hk => ?_) .of
    have ih := fun y2 y3 y4 y5 y6 y7 y8 y9 y10 => spec_BestVec_L2_tot n x0 x1 h m (k + 1) y2 y3 y4 y5 y6 y7 y8 y9 y10 (by omega) (by omega)
    simp only [spec_BestVec_J3, wrap_nat (by omega : k ≤ 1099511627776)]
    repeat' first | exact ih _ _ _ _ _ _ _ _ _ | exact Tot.of | refine Tot.bind (idx_tot hk) fun _ _ => ?_ | refine Tot.bind (spec_StepVecF_tot _ _ _) fun _ _ => ?_ | refine Tot.bind (spec_LessVecF_tot _ _ _) fun _ _ => ?_ | refine Tot.bif (fun _ => ?_) (fun _ => ?_)
theorem spec_BestVecF_tot (n : Nat) (x0 : Int) (x1 : List Pt) (h : x1.length ≤ 1048576) (hn : x1.length < n) : Tot (spec_BestVecF n x0 x1) := by
  unfold spec_BestVecF
  refine Tot.bind (spec_BestVec_L2_tot n x0 x1 h n 0 _ _ _ _ _ _ _ _ _ (by omega) (by omega)) fun o _ => ?_
  cases o <;> exact Tot.of
theorem impl_BestVec_L2_eq (n : Nat) : impl_BestVec_L2 n = spec_BestVec_L2 n := by
  funext m
  induction m with
  | zero => rfl
  | succ m ih =>
    funext x0 x1 y1 y2 y3 y4 y5 y6 y7 y8 y9 y10
    simp only [impl_BestVec_L2, spec_BestVec_L2, ih, impl_BestVec_J3, spec_BestVec_J3, impl_StepVecF_eq, impl_LessVecF_eq]
    cases idx x1 y1 <;> rfl
theorem impl_BestVecF_eq (n : Nat) : impl_BestVecF n = spec_BestVecF n := by
  funext x i; simp only [impl_BestVecF, spec_BestVecF, impl_BestVec_L2_eq]; rfl
theorem laws_eqVecF_same (n : Nat) (v u : Vec) (h : v = u) : laws_eqVecF n v u = some true := by rw [h]; exact laws_eqVecF_refl n u
theorem impl_SayVecF_eq (n : Nat) : impl_SayVecF n = spec_SayVecF n := by
  funext x i y; simp only [impl_SayVecF, spec_SayVecF, impl_BestVecF_eq]
theorem spec_SayVecF_tot (n : Nat) (x0 : Int) (x1 : List Pt) (x2 : Int) (h : x1.length ≤ 1048576) (hn : x1.length < n) : Tot (spec_SayVecF n x0 x1 x2) := Tot.bind (spec_BestVecF_tot n x0 x1 h hn) fun _ _ => .of
theorem impl_RoleOfF_eq (n : Nat) : impl_RoleOfF n = spec_RoleOfF n := by
  funext x i y; simp only [impl_RoleOfF, spec_RoleOfF, impl_BestVecF_eq, impl_SayVecF_eq, impl_LessVecF_eq]; rfl
theorem spec_RoleOfF_ok (n : Nat) (x0 : Int) (x1 : List Pt) (x2 : Int) (h : x1.length ≤ 1048576) (hn : x1.length < n) : ∃ r, spec_RoleOfF n x0 x1 x2 = some r ∧ 1 ≤ r ∧ r ≤ 4 := by
  unfold spec_RoleOfF spec_l1InF
  rw [wrap64 (by omega) (by omega)]
  obtain ⟨b, hb⟩ := spec_BestVecF_tot n x0 x1 h hn
  obtain ⟨s, hs⟩ := spec_SayVecF_tot n x0 x1 x2 h hn
  by_cases h1 : x2 ≥ 0
  · by_cases h2 : x2 ≤ (x1.length : Int) - 1
    · obtain ⟨v, hv, _⟩ := idx_of (xs := x1) h1 (by omega)
      obtain ⟨l, hl⟩ := spec_LessVecF_tot n s v.Heard
      simp only [decide_eq_true h1, decide_eq_true h2, cond_true, Option.bind_some, Bool.not_true, cond_false, hb, hs, hv, hl]
      cases v.Up <;> cases (b.2 == x2) <;> cases v.Has <;> cases l <;> exact ⟨_, rfl, by decide, by decide⟩
    · simp only [decide_eq_true h1, decide_eq_false h2, cond_true, Option.bind_some, Bool.not_false]
      exact ⟨_, rfl, by decide, by decide⟩
  · simp only [decide_eq_false h1, cond_false, Option.bind_some, Bool.not_false, cond_true]
    exact ⟨_, rfl, by decide, by decide⟩
theorem wrapU {k : Nat} (h : k ≤ 1099511627776) : IntKind.wrap .u64 (k : Int) = k := by
  show ((k : Int) % 18446744073709551616) = k
  omega
theorem impl_inF_eq (n : Nat) : impl_inF n = spec_l1InF n := rfl
theorem spec_l1InF_val (n : Nat) (a b c : Int) : spec_l1InF n a b c = some (decide (b ≤ a) && decide (a ≤ c)) := by
  unfold spec_l1InF
  by_cases h : a ≥ b
  · rw [decide_eq_true h]; rfl
  · rw [decide_eq_false h]; rfl
theorem spec_VtabOk_mask {p : Int} (h0 : 1 ≤ p) (h1 : p ≤ 6) : ∃ a : Int, 0 ≤ a ∧ a < 9223372036854775808 ∧ (IntKind.wrap .i64 ((IntKind.wrap .i64 (1 * 2 ^ min ((IntKind.wrap .u64 p)).toNat (IntKind.bits .i64))) - 1)) = a ∧ (IntKind.wrap .i64 ((IntKind.wrap .i64 (1 * 2 ^ min (p).toNat (IntKind.bits .i64))) - 1)) = a ∧ decide (0 ≤ (IntKind.wrap .u64 p)) = true ∧ decide (0 ≤ p) = true := by
  have hc : p = 1 ∨ p = 2 ∨ p = 3 ∨ p = 4 ∨ p = 5 ∨ p = 6 := by omega
  rcases hc with rfl | rfl | rfl | rfl | rfl | rfl
  · exact ⟨1, by decide, by decide, by decide, by decide, by decide, by decide⟩
  · exact ⟨3, by decide, by decide, by decide, by decide, by decide, by decide⟩
  · exact ⟨7, by decide, by decide, by decide, by decide, by decide, by decide⟩
  · exact ⟨15, by decide, by decide, by decide, by decide, by decide, by decide⟩
  · exact ⟨31, by decide, by decide, by decide, by decide, by decide, by decide⟩
  · exact ⟨63, by decide, by decide, by decide, by decide, by decide, by decide⟩
theorem spec_VtabOk_L4_both (n : Nat) (x0 : Vtab) (w0 : x0.wf) (x1 : Int) (hp0 : 1 ≤ x1) (hp1 : x1 ≤ 6) (h : x0.Rows.length ≤ 1048580) : ∀ (m k : Nat), k ≤ x0.Rows.length → x0.Rows.length < m + k → impl_VtabOk_L4 n m x0 x1 k = spec_VtabOk_L4 n m x0 x1 k ∧ Tot (spec_VtabOk_L4 n m x0 x1 k)
  | 0, k, h1, h2 => by omega
  | m + 1, k, h1, h2 => by
    rw [spec_VtabOk_L4, impl_VtabOk_L4]
    by_cases hk : k < x0.Rows.length
    · obtain ⟨ih1, o, ih2⟩ := spec_VtabOk_L4_both n x0 w0 x1 hp0 hp1 h m (k + 1) (by omega) (by omega)
      obtain ⟨a, ha0, ha1, ha2, ha3, ha4, ha5⟩ := spec_VtabOk_mask hp0 hp1
      have hk' : decide ((k : Int) < (x0.Rows.length : Int)) = true := decide_eq_true (by omega)
      have hv : x0.Rows[k] ∈ x0.Rows := List.getElem_mem hk
      have hi := idx_nat hk
      generalize x0.Rows[k] = v at hv hi
      have hw := w0.1.2 v hv
      have hin : impl_allPortsF n x1 = some a := by unfold impl_allPortsF; rw [ha5, ha3]; rfl
      simp only [hk', wrap_nat (by omega : k ≤ 1099511627776), hi, Option.bind_some, cond_true, ih1, ih2, hin, impl_inF_eq, spec_l1InF_val, ha2]
      have hbits := fun hm0 hm1 => bits_in (B := v.Bare) (M := v.Members) hw.2.2.1 hm0 hm1
      by_cases hm : 0 ≤ v.Members ∧ v.Members ≤ a
      · have hb := hbits hm.1 (by omega)
        simp only [decide_eq_true hm.1, decide_eq_true hm.2, Bool.and_self, Bool.not_true, cond_false]
        by_cases hz : IntKind.wrap .i64 (BitVec.ofInt (IntKind.bits .i64) v.Bare &&& ~~~BitVec.ofInt (IntKind.bits .i64) v.Members).toNat = 0
        · have h3 := hb.1 hz
          have hz' : ((IntKind.wrap .i64 (BitVec.ofInt (IntKind.bits .i64) v.Bare &&& ~~~BitVec.ofInt (IntKind.bits .i64) v.Members).toNat) != 0) = false := by rw [hz]; rfl
          have hy' : ((IntKind.wrap .i64 (BitVec.ofInt (IntKind.bits .i64) v.Bare &&& BitVec.ofInt (IntKind.bits .i64) v.Members).toNat) != v.Bare) = false := by rw [h3.2.2]; simp
          simp only [hz', hy', decide_eq_true h3.1, decide_eq_true (show v.Bare ≤ a by omega), Bool.and_self, Bool.not_true, cond_false]
          cases k with
          | zero => cases (decide (1 ≤ v.Id) && decide (v.Id ≤ 99)) <;> exact ⟨by trivial, Tot.of⟩
          | succ k =>
            have hw2 : IntKind.wrap .i64 (((k + 1 : Nat) : Int) - 1) = (k : Int) := by rw [wrap64 (by omega) (by omega)]; omega
            have hpos : decide (((k + 1 : Nat) : Int) > 0) = true := decide_eq_true (by omega)
            simp only [hw2, hpos, cond_true, idx_nat (show k < x0.Rows.length by omega), Option.bind_some]
            cases (decide (1 ≤ v.Id) && decide (v.Id ≤ 99)) <;> cases (decide ((x0.Rows[k]'(by omega)).Id ≥ v.Id)) <;> exact ⟨by trivial, Tot.of⟩
        · have hz' : ((IntKind.wrap .i64 (BitVec.ofInt (IntKind.bits .i64) v.Bare &&& ~~~BitVec.ofInt (IntKind.bits .i64) v.Members).toNat) != 0) = true := by simpa using hz
          have h3 : (decide (0 ≤ v.Bare) && decide (v.Bare ≤ a)) = false ∨ ((IntKind.wrap .i64 (BitVec.ofInt (IntKind.bits .i64) v.Bare &&& BitVec.ofInt (IntKind.bits .i64) v.Members).toNat) != v.Bare) = true := by
            by_cases hq : ((IntKind.wrap .i64 (BitVec.ofInt (IntKind.bits .i64) v.Bare &&& BitVec.ofInt (IntKind.bits .i64) v.Members).toNat) != v.Bare) = true
            · exact .inr hq
            · left
              simp at hq
              by_cases hr : 0 ≤ v.Bare ∧ v.Bare ≤ a
              · have hle := bits_le hw.2.2.1 hm.1 (by omega) hq
                exact absurd (hb.2 ⟨hle.1, hle.2, hq⟩) hz
              · simp only [Bool.and_eq_false_iff, decide_eq_false_iff_not]; omega
          simp only [hz', cond_true]
          have hspec : (bif !(decide (0 ≤ v.Bare) && decide (v.Bare ≤ a)) then some (Sum.inr false) else bif ((IntKind.wrap .i64 (BitVec.ofInt (IntKind.bits .i64) v.Bare &&& BitVec.ofInt (IntKind.bits .i64) v.Members).toNat) != v.Bare) then some (Sum.inr false) else (bif decide ((k : Int) > 0) then (idx x0.Rows (IntKind.wrap .i64 ((k : Int) - 1))).bind fun v13 => bif decide (v13.Id ≥ v.Id) then some (Sum.inr false) else some o else some o)) = (some (Sum.inr false) : Option (Unit ⊕ Bool)) := by
            rcases h3 with h3 | h3
            · rw [h3]; rfl
            · rw [h3]; cases (decide (0 ≤ v.Bare) && decide (v.Bare ≤ a)) <;> rfl
          rw [hspec]
          cases k with
          | zero => cases (decide (1 ≤ v.Id) && decide (v.Id ≤ 99)) <;> exact ⟨by trivial, Tot.of⟩
          | succ k =>
            have hw2 : IntKind.wrap .i64 (((k + 1 : Nat) : Int) - 1) = (k : Int) := by rw [wrap64 (by omega) (by omega)]; omega
            have hpos : decide (((k + 1 : Nat) : Int) > 0) = true := decide_eq_true (by omega)
            simp only [hw2, hpos, cond_true, idx_nat (show k < x0.Rows.length by omega), Option.bind_some]
            cases (decide (1 ≤ v.Id) && decide (v.Id ≤ 99)) <;> cases (decide ((x0.Rows[k]'(by omega)).Id ≥ v.Id)) <;> exact ⟨by trivial, Tot.of⟩
      · have hm' : (decide (0 ≤ v.Members) && decide (v.Members ≤ a)) = false := by
          simp only [Bool.and_eq_false_iff, decide_eq_false_iff_not]; omega
        simp only [hm', Bool.not_false, cond_true]
        cases k with
        | zero => cases (decide (1 ≤ v.Id) && decide (v.Id ≤ 99)) <;> exact ⟨by trivial, Tot.of⟩
        | succ k =>
          have hw2 : IntKind.wrap .i64 (((k + 1 : Nat) : Int) - 1) = (k : Int) := by rw [wrap64 (by omega) (by omega)]; omega
          have hpos : decide (((k + 1 : Nat) : Int) > 0) = true := decide_eq_true (by omega)
          simp only [hw2, hpos, cond_true, idx_nat (show k < x0.Rows.length by omega), Option.bind_some]
          cases (decide (1 ≤ v.Id) && decide (v.Id ≤ 99)) <;> cases (decide ((x0.Rows[k]'(by omega)).Id ≥ v.Id)) <;> exact ⟨by trivial, Tot.of⟩
    · have hk' : decide ((k : Int) < (x0.Rows.length : Int)) = false := decide_eq_false (by omega)
      rw [hk']
      exact ⟨by trivial, Tot.of⟩
theorem spec_VtabOk_L3_both (n : Nat) (x0 : Vtab) (h : x0.Rows.length ≤ 1048580) (hn : x0.Rows.length < n) (hq : x0.Pvid.length ≤ 1048580) : ∀ (m k : Nat), k ≤ x0.Pvid.length → x0.Pvid.length < m + k → impl_VtabOk_L3 n m x0 k = spec_VtabOk_L3 n m x0 k ∧ Tot (spec_VtabOk_L3 n m x0 k)
  | 0, k, h1, h2 => by omega
  | m + 1, k, h1, h2 => by
    rw [spec_VtabOk_L3, impl_VtabOk_L3]
    by_cases hk : k < x0.Pvid.length
    · obtain ⟨ih1, o, ih2⟩ := spec_VtabOk_L3_both n x0 h hn hq m (k + 1) (by omega) (by omega)
      have hk' : decide ((k : Int) < (x0.Pvid.length : Int)) = true := decide_eq_true (by omega)
      obtain ⟨r, hr, _⟩ := spec_RowAtF_ok n x0 x0.Pvid[k] h hn
      simp only [hk', wrap_nat (by omega : k ≤ 1099511627776), idx_nat hk, Option.bind_some, cond_true, ih1, ih2, impl_RowAtF_eq, hr]
      cases decide (r < 0) <;> exact ⟨by trivial, Tot.of⟩
    · have hk' : decide ((k : Int) < (x0.Pvid.length : Int)) = false := decide_eq_false (by omega)
      rw [hk']
      exact ⟨by trivial, Tot.of⟩
theorem spec_VtabOkF_both (n : Nat) (x0 : Vtab) (w0 : x0.wf) (x1 : Int) (h : x0.sz ≤ 1048580) (hn : x0.sz < n) : impl_VtabOkF n x0 x1 = spec_VtabOkF n x0 x1 ∧ Tot (spec_VtabOkF n x0 x1) := by
  have hs : x0.Rows.length + x0.Pvid.length = x0.sz := rfl
  unfold impl_VtabOkF spec_VtabOkF
  simp only [impl_inF_eq, spec_l1InF_val, Option.bind_some]
  by_cases hp : 1 ≤ x1 ∧ x1 ≤ 6
  · obtain ⟨a, ha0, ha1, ha2, ha3, ha4, ha5⟩ := spec_VtabOk_mask hp.1 hp.2
    obtain ⟨e1, o, e2⟩ := spec_VtabOk_L4_both n x0 w0 x1 hp.1 hp.2 (by omega) n 0 (by omega) (by omega)
    obtain ⟨f1, q, f2⟩ := spec_VtabOk_L3_both n x0 (by omega) (by omega) (by omega) n 0 (by omega) (by omega)
    have e1' : impl_VtabOk_L4 n n x0 x1 0 = some o := e1.trans e2
    have e2' : spec_VtabOk_L4 n n x0 x1 0 = some o := e2
    have f1' : impl_VtabOk_L3 n n x0 0 = some q := f1.trans f2
    have f2' : spec_VtabOk_L3 n n x0 0 = some q := f2
    simp only [decide_eq_true hp.1, decide_eq_true hp.2, Bool.and_self, Bool.not_true, cond_false, ha4, cond_true, e1', e2', Option.bind_some]
    cases o with
    | inl u =>
      simp only [impl_VtabOk_J1, spec_VtabOk_J1, f1', f2', Option.bind_some]
      cases q <;> exact ⟨rfl, Tot.bif (fun _ => .of) fun _ => Tot.bif (fun _ => .of) fun _ => .of⟩
    | inr r => exact ⟨rfl, Tot.bif (fun _ => .of) fun _ => Tot.bif (fun _ => .of) fun _ => .of⟩
  · have hp' : (decide (1 ≤ x1) && decide (x1 ≤ 6)) = false := by
      simp only [Bool.and_eq_false_iff, decide_eq_false_iff_not]; omega
    rw [hp']
    exact ⟨by trivial, Tot.of⟩
theorem laws_markVrowSF_ok (n : Nat) (xs : List Vrow) (b : Int) (h : xs.length ≤ 268435456) (hn : xs.length < n) (h0 : 0 ≤ b) (h1 : b + (3 : Nat) * xs.length ≤ 1099511627776) : laws_markVrowSF n xs b = some (b + (3 : Nat) * xs.length, markL (fun _ b => (⟨b, b + 1, b + 2⟩ : Vrow)) 3 xs b) := by
  have := mark_loop (L := laws_markVrowS_L2 n) (f := fun _ b => (⟨b, b + 1, b + 2⟩ : Vrow)) (c := 3) (fun m k ys b v hk hl hv h0 h1 => by
    rw [laws_markVrowS_L2, lt_true hk, idx_at hv]
    simp only [cond_true, Option.bind_some, idx_set hk, wrap64 (show -9223372036854775808 ≤ b + 1 by omega) (by omega), wrap64 (show -9223372036854775808 ≤ b + 1 + 1 by omega) (by omega), wrap64 (show -9223372036854775808 ≤ b + 1 + 1 + 1 by omega) (by omega), wrap_nat (show k ≤ 1099511627776 by omega)]
    rw [idx_set (by simpa using hk)]
    simp only [Option.bind_some, List.set_set, Int.toNat_natCast]
    rw [show b + 1 + 1 = b + 2 by omega, show b + 2 + 1 = b + (3 : Nat) by omega])
    (fun m ys b => by rw [laws_markVrowS_L2, lt_false]; rfl) xs n [] b (by simpa using h) h0 h1 hn
  unfold laws_markVrowSF
  simp only [List.length_nil, List.nil_append] at this
  rw [show laws_markVrowS_L2 n n 0 xs b = _ from this]
  rfl
theorem laws_markIntSF_ok (n : Nat) (xs : List Int) (b : Int) (h : xs.length ≤ 268435456) (hn : xs.length < n) (h0 : 0 ≤ b) (h1 : b + (1 : Nat) * xs.length ≤ 1099511627776) : laws_markIntSF n xs b = some (b + (1 : Nat) * xs.length, markL (fun _ b => b) 1 xs b) := by
  have := mark_loop (L := laws_markIntS_L2 n) (f := fun _ b => b) (c := 1) (fun m k ys b v hk hl hv h0 h1 => by
    rw [laws_markIntS_L2, lt_true hk, idx_at hv]
    simp only [cond_true, Option.bind_some, wrap64 (show -9223372036854775808 ≤ b + 1 by omega) (by omega), wrap_nat (show k ≤ 1099511627776 by omega), Int.toNat_natCast]
    rfl)
    (fun m ys b => by rw [laws_markIntS_L2, lt_false]; rfl) xs n [] b (by simpa using h) h0 h1 hn
  unfold laws_markIntSF
  simp only [List.length_nil, List.nil_append] at this
  rw [show laws_markIntS_L2 n n 0 xs b = _ from this]
  rfl
theorem laws_heldIntSF_ok (n : Nat) (xs : List Int) (b : Int) (h : xs.length ≤ 268435456) (hn : xs.length < n) (h0 : 0 ≤ b) (h1 : b + (1 : Nat) * xs.length ≤ 1099511627776) : laws_heldIntSF n (markL (fun _ b => b) 1 xs b) b = some (b + (1 : Nat) * xs.length) := by
  have := held_loop (L := laws_heldIntS_L2 n) (f := fun _ b => b) (c := 1) (fun m k ys b v hk hl hv h0 h1 => by
    rw [laws_heldIntS_L2, lt_true hk, idx_at hv]
    simp only [cond_true, Option.bind_some, bne_self_eq_false, cond_false, wrap64 (show -9223372036854775808 ≤ b + 1 by omega) (by omega), wrap_nat (show k ≤ 1099511627776 by omega)]
    rfl)
    (fun m ys b => by rw [laws_heldIntS_L2, lt_false]; rfl) xs n [] b (by simpa using h) h0 h1 hn
  unfold laws_heldIntSF
  simp only [List.length_nil, List.nil_append] at this
  rw [show laws_heldIntS_L2 n n (markL (fun _ b => b) 1 xs b) 0 b = _ from this]
  rfl
theorem listWf_sub {α : Type} {wf : α → Prop} {xs ys : List α} (h : listWf wf xs) (hs : ∀ y ∈ ys, y ∈ xs) (hl : ys.length ≤ xs.length) : listWf wf ys := ⟨Nat.le_trans hl h.1, fun y hy => h.2 y (hs y hy)⟩
theorem listWf_set {α : Type} {wf : α → Prop} {xs : List α} {i : Nat} {v : α} (h : listWf wf xs) (hv : wf v) : listWf wf (xs.set i v) := ⟨by rw [List.length_set]; exact h.1, fun y hy => by
  rcases List.mem_or_eq_of_mem_set hy with h1 | h1
  · exact h.2 y h1
  · rw [h1]; exact hv⟩
theorem laws_szFentSF_ok (n : Nat) {xs : List Fent} {b : Int} (h0 : 0 ≤ b) (h1 : b ≤ 1048576) (hl : xs.length ≤ maxLen) : ∃ r, laws_szFentSF n xs b = some r ∧ Lft b xs.length r := sz_step h0 h1 hl
theorem laws_toFentSF_eq (n : Nat) (xs : List Fent) (h : xs.length ≤ 1048576) (hn : xs.length < n) : laws_toFentSF n xs = some xs := by
  unfold laws_toFentSF
  rw [decide_eq_true (by omega : (0 : Int) ≤ (xs.length : Int)), decide_eq_true (by omega : (xs.length : Int) ≤ 268435456)]
  have := copy_loop (L := laws_toFentS_L2 n) (fun m xs i ys => rfl) xs (by omega) n 0 (List.replicate ((xs.length : Int)).toNat (⟨0, 0, 0, 0, false⟩ : Fent)) (by omega) (by omega) (by simp) rfl
  simp only [Bool.and_self, cond_true]
  rw [show (laws_toFentS_L2 n n xs 0 (List.replicate ((xs.length : Int)).toNat (⟨0, 0, 0, 0, false⟩ : Fent))) = _ from this]
  rfl
theorem laws_eqFentF_refl (n : Nat) (v : Fent) : laws_eqFentF n v v = some true := by simp [laws_eqFentF]
theorem laws_eqFentSF_refl (n : Nat) (xs : List Fent) (h : xs.length ≤ 268435456) (hn : xs.length < n) : laws_eqFentSF n xs xs = some true := by
  unfold laws_eqFentSF
  have := eq_loop (L := laws_eqFentS_L2 n) (f := laws_eqFentF n) (fun m xs ys i => rfl) xs (by omega) (fun v _ => laws_eqFentF_refl n v) n 0 (by omega) (by omega)
  simp only [bne_self_eq_false, cond_false]
  rw [show (laws_eqFentS_L2 n n xs xs 0) = _ from this]
  rfl
def Bridge.sz (x : Bridge) : Nat := x.Name.size + x.Ports.length + x.F.length + x.V.sz
theorem laws_szBridgeF_ok (n : Nat) {x : Bridge} {b : Int} (h0 : 0 ≤ b) (h1 : b ≤ 1048576) (hl : Bridge.wf x) : ∃ r, laws_szBridgeF n x b = some r ∧ Lft b x.sz r := by
  have hm : maxLen = 9223372036854775807 := by decide
  have hn := hl.2.1
  unfold laws_szBridgeF
  rw [wrap64 (by omega) (by omega)]
  by_cases h : b - (x.Name.size : Int) < 0
  · rw [decide_eq_true h]; exact ⟨_, rfl, .inl (by decide)⟩
  · rw [decide_eq_false h]
    obtain ⟨r1, e1, k1⟩ := laws_szPtSF_ok n (xs := x.Ports) (b := b - x.Name.size) (by omega) (by omega) hl.2.2.1.1
    simp only [cond_false, e1, Option.bind_some]
    rcases k1.neg with ⟨c1, c2⟩ | ⟨c1, c2, c3⟩
    · rw [c1]; exact ⟨_, rfl, .inl (by decide)⟩
    · rw [c1]
      obtain ⟨r2, e2, k2⟩ := laws_szFentSF_ok n (xs := x.F) c2 (by omega) hl.2.2.2.1.1
      simp only [cond_false, e2, Option.bind_some]
      rcases k2.neg with ⟨d1, d2⟩ | ⟨d1, d2, d3⟩
      · rw [d1]; exact ⟨_, rfl, .inl (by decide)⟩
      · rw [d1]
        obtain ⟨r3, e3, k3⟩ := laws_szVtabF_ok n (x := x.V) d2 (by omega) ⟨hl.2.2.2.2.1, hl.2.2.2.2.2.1, trivial⟩
        simp only [cond_false, e3, Option.bind_some]
        rcases k3.neg with ⟨f1, f2⟩ | ⟨f1, f2, f3⟩
        · rw [f1]; exact ⟨_, rfl, .inl (by decide)⟩
        · rw [f1]; exact ⟨_, rfl, .inr ⟨f2, by unfold Bridge.sz; omega⟩⟩
theorem laws_toBridgeF_eq (n : Nat) (x : Bridge) (h : x.sz ≤ 1048576) (hn : x.sz < n) : laws_toBridgeF n x = some x := by
  unfold Bridge.sz at h hn
  unfold laws_toBridgeF
  rw [laws_toPtSF_eq n x.Ports (by omega) (by omega), laws_toFentSF_eq n x.F (by omega) (by omega), laws_toVtabF_eq n x.V (by omega) (by omega)]
  rfl
theorem laws_eqBridgeF_refl (n : Nat) (x : Bridge) (h : x.sz ≤ 268435456) (hn : x.sz < n) : laws_eqBridgeF n x x = some true := by
  unfold Bridge.sz at h hn
  unfold laws_eqBridgeF
  rw [laws_eqPtSF_refl n x.Ports (by omega) (by omega), laws_eqFentSF_refl n x.F (by omega) (by omega), laws_eqVtabF_refl n x.V (by omega) (by omega)]
  simp
theorem laws_markPtSF_ok (n : Nat) (xs : List Pt) (b : Int) (h : xs.length ≤ 268435456) (hn : xs.length < n) (h0 : 0 ≤ b) (h1 : b + (8 : Nat) * xs.length ≤ 1099511627776) : laws_markPtSF n xs b = some (b + (8 : Nat) * xs.length, markL (fun _ b => (⟨Int.tmod b 3 == 0, b + 1, Int.tmod (b + 2) 3 == 0, ⟨b + 3, b + 4, b + 5, b + 6, b + 7⟩⟩ : Pt)) 8 xs b) := by
  have := mark_loop (L := laws_markPtS_L2 n) (f := fun _ b => (⟨Int.tmod b 3 == 0, b + 1, Int.tmod (b + 2) 3 == 0, ⟨b + 3, b + 4, b + 5, b + 6, b + 7⟩⟩ : Pt)) (c := 8) (fun m k ys b v hk hl hv h0 h1 => by
    rw [laws_markPtS_L2, lt_true hk, idx_at hv]
    simp (disch := omega) only [cond_true, Option.bind_some, List.set_set, idx_set' hk, wrap64, wrap_nat, Int.toNat_natCast, show decide ((3 : Int) ≠ 0) = true from rfl]
    simp only [Int.add_assoc, Int.reduceAdd, show ((8 : Nat) : Int) = 8 from rfl]
    rfl)
    (fun m ys b => by rw [laws_markPtS_L2, lt_false]; rfl) xs n [] b (by simpa using h) h0 h1 hn
  unfold laws_markPtSF
  simp only [List.length_nil, List.nil_append] at this
  rw [show laws_markPtS_L2 n n 0 xs b = _ from this]
  rfl
theorem laws_markFentSF_ok (n : Nat) (xs : List Fent) (b : Int) (h : xs.length ≤ 268435456) (hn : xs.length < n) (h0 : 0 ≤ b) (h1 : b + (5 : Nat) * xs.length ≤ 1099511627776) : laws_markFentSF n xs b = some (b + (5 : Nat) * xs.length, markL (fun _ b => (⟨b, b + 1, b + 2, b + 3, Int.tmod (b + 4) 3 == 0⟩ : Fent)) 5 xs b) := by
  have := mark_loop (L := laws_markFentS_L2 n) (f := fun _ b => (⟨b, b + 1, b + 2, b + 3, Int.tmod (b + 4) 3 == 0⟩ : Fent)) (c := 5) (fun m k ys b v hk hl hv h0 h1 => by
    rw [laws_markFentS_L2, lt_true hk, idx_at hv]
    simp (disch := omega) only [cond_true, Option.bind_some, List.set_set, idx_set' hk, wrap64, wrap_nat, Int.toNat_natCast, show decide ((3 : Int) ≠ 0) = true from rfl]
    simp only [Int.add_assoc, Int.reduceAdd, show ((5 : Nat) : Int) = 5 from rfl]
    rfl)
    (fun m ys b => by rw [laws_markFentS_L2, lt_false]; rfl) xs n [] b (by simpa using h) h0 h1 hn
  unfold laws_markFentSF
  simp only [List.length_nil, List.nil_append] at this
  rw [show laws_markFentS_L2 n n 0 xs b = _ from this]
  rfl
theorem impl_PtOkF_eq (n : Nat) : impl_PtOkF n = spec_PtOkF n := by
  funext v
  unfold impl_PtOkF spec_PtOkF
  rw [impl_inF_eq, impl_VecOkF_eq]
  obtain ⟨b, hb⟩ := spec_l1InF_tot n v.Cost 1 1000
  rw [hb]
  cases b <;> cases v.Up <;> cases v.Has <;> rfl
theorem spec_PtOkF_tot (n : Nat) (v : Pt) : Tot (spec_PtOkF n v) := by
  unfold spec_PtOkF
  repeat' first | exact Tot.of | refine Tot.bind (spec_l1InF_tot _ _ _ _) fun _ _ => ?_ | refine Tot.bind (spec_VecOkF_tot _ _) fun _ _ => ?_ | refine Tot.bif (fun _ => ?_) (fun _ => ?_)
theorem spec_l8EntF_tot (n : Nat) (v : Fent) : Tot (spec_l8EntF n v) := by
  unfold spec_l8EntF
  repeat' first | exact Tot.of | refine Tot.bind (spec_l1InF_tot _ _ _ _) fun _ _ => ?_ | refine Tot.bif (fun _ => ?_) (fun _ => ?_)
theorem impl_fentOkF_eq (n : Nat) : impl_fentOkF n = spec_l8EntF n := rfl
theorem impl_behindF_eq (n : Nat) (v u : Fent) : impl_behindF n u v.Tag v.Mac = spec_l8AheadF n v u.Tag u.Mac := by
  unfold impl_behindF spec_l8AheadF
  by_cases h1 : v.Tag = u.Tag
  · simp [h1]
  · have e1 : (v.Tag != u.Tag) = true := by simpa using h1
    have e2 : (u.Tag == v.Tag) = false := by simpa using fun e : u.Tag = v.Tag => h1 e.symm
    rw [e1, e2]
    by_cases h2 : v.Tag < u.Tag
    · rw [decide_eq_true h2]; rfl
    · rw [decide_eq_false h2]; rfl
theorem spec_l8AheadF_tot (n : Nat) (v : Fent) (a b : Int) : Tot (spec_l8AheadF n v a b) := Tot.bif (fun _ => .of) (fun _ => .of)
theorem spec_FdbOk_L2_both (n : Nat) (xs : List Fent) (h : xs.length ≤ 1048580) : ∀ (m k : Nat), k ≤ xs.length → xs.length < m + k → impl_FdbOk_L2 n m xs k = spec_FdbOk_L2 n m xs k ∧ Tot (spec_FdbOk_L2 n m xs k)
  | 0, k, h1, h2 => by omega
  | m + 1, k, h1, h2 => by
    rw [spec_FdbOk_L2, impl_FdbOk_L2]
    by_cases hk : k < xs.length
    · obtain ⟨ih1, o, ih2⟩ := spec_FdbOk_L2_both n xs h m (k + 1) (by omega) (by omega)
      rw [lt_true hk]
      obtain ⟨a, ha⟩ := spec_l8EntF_tot n xs[k]
      simp only [wrap_nat (by omega : k ≤ 1099511627776), idx_nat hk, Option.bind_some, cond_true, ih1, ih2, impl_fentOkF_eq, ha]
      cases k with
      | zero => cases a <;> exact ⟨by trivial, Tot.of⟩
      | succ k =>
        have hw2 : IntKind.wrap .i64 (((k + 1 : Nat) : Int) - 1) = (k : Int) := by rw [wrap64 (by omega) (by omega)]; omega
        have hpos : decide (((k + 1 : Nat) : Int) > 0) = true := decide_eq_true (by omega)
        obtain ⟨b, hb⟩ := spec_l8AheadF_tot n (xs[k]'(by omega)) xs[k + 1].Tag xs[k + 1].Mac
        simp only [hw2, hpos, cond_true, idx_nat (show k < xs.length by omega), Option.bind_some, impl_behindF_eq, hb]
        cases a <;> cases b <;> exact ⟨by trivial, Tot.of⟩
    · have he : k = xs.length := by omega
      rw [he, lt_false]
      exact ⟨rfl, Tot.of⟩
theorem spec_FdbOkF_both (n : Nat) (xs : List Fent) (h : xs.length ≤ 1048580) (hn : xs.length < n) : ∃ b, spec_FdbOkF n xs = some b ∧ impl_FdbOkF n xs = some b := by
  obtain ⟨e1, o, e2⟩ := spec_FdbOk_L2_both n xs h n 0 (by omega) (by omega)
  have e1' : impl_FdbOk_L2 n n xs 0 = some o := e1.trans e2
  have e2' : spec_FdbOk_L2 n n xs 0 = some o := e2
  unfold spec_FdbOkF impl_FdbOkF
  rw [e1', e2']
  cases o <;> exact ⟨_, rfl, rfl⟩
theorem impl_BridgeOk_L2_eq (n : Nat) : impl_BridgeOk_L2 n = spec_BridgeOk_L2 n := by
  funext m
  induction m with
  | zero => rfl
  | succ m ih => funext x i; simp only [impl_BridgeOk_L2, spec_BridgeOk_L2, ih, impl_PtOkF_eq]
theorem spec_BridgeOk_L2_tot (n : Nat) (x : Bridge) (h : x.Ports.length ≤ 1048580) : ∀ (m k : Nat), k ≤ x.Ports.length → x.Ports.length < m + k → Tot (spec_BridgeOk_L2 n m x k)
  | 0, k, h1, h2 => by omega
  | m + 1, k, h1, h2 => by
    rw [spec_BridgeOk_L2]
    refine Tot.step (fun hk => ?_) .of
    have ih := spec_BridgeOk_L2_tot n x h m (k + 1) (by omega) (by omega)
    rw [wrap_nat (by omega : k ≤ 1099511627776)]
    exact Tot.bind (idx_tot hk) fun _ _ => Tot.bind (spec_PtOkF_tot _ _) fun _ _ => Tot.bif (fun _ => .of) fun _ => ih
theorem spec_BridgeOkF_both (n : Nat) (x : Bridge) (wx : x.wf) (h : x.sz ≤ 1048580) (hn : x.sz < n) : ∃ b, spec_BridgeOkF n x = some b ∧ impl_BridgeOkF n x = some b := by
  have hs : x.Name.size + x.Ports.length + x.F.length + x.V.sz = x.sz := rfl
  obtain ⟨o, ho⟩ := spec_BridgeOk_L2_tot n x (by omega) n 0 (by omega) (by omega)
  have ho' : spec_BridgeOk_L2 n n x 0 = some o := ho
  obtain ⟨f, hf1, hf2⟩ := spec_FdbOkF_both n x.F (by omega) (by omega)
  obtain ⟨g, v, hv⟩ := spec_VtabOkF_both n x.V ⟨wx.2.2.2.2.1, wx.2.2.2.2.2.1, trivial⟩ (x.Ports.length : Int) (by omega) (by omega)
  unfold spec_BridgeOkF impl_BridgeOkF
  rw [impl_BridgeOk_L2_eq, ho', Option.bind_some, Option.bind_some]
  cases o with
  | inr r => exact ⟨_, rfl, rfl⟩
  | inl u =>
    simp only [spec_BridgeOk_J1, impl_BridgeOk_J1, impl_inF_eq, impl_isCountF, spec_l11CountsF, spec_l1InF_val, hf1, hf2, g, hv, Option.bind_some]
    have hname : decide ((x.Name.size : Int) > 10) = !decide ((x.Name.size : Int) ≤ 10) := by
      by_cases h : (x.Name.size : Int) ≤ 10
      · rw [decide_eq_true h, decide_eq_false (by omega)]; rfl
      · rw [decide_eq_false h, decide_eq_true (by omega)]; rfl
    rw [hname]
    generalize decide ((x.Name.size : Int) ≤ 10) = b1
    generalize (decide (1 ≤ x.Id) && decide (x.Id ≤ 99)) = b2
    generalize (decide (1 ≤ (x.Ports.length : Int)) && decide ((x.Ports.length : Int) ≤ 6)) = b3
    generalize (decide (0 ≤ x.Ticks) && decide (x.Ticks ≤ 1000000)) = b4
    generalize (decide (0 ≤ x.Parse) && decide (x.Parse ≤ 1000000)) = b5
    generalize (decide (0 ≤ x.Word) && decide (x.Word ≤ 1000000)) = b6
    generalize (decide (0 ≤ x.Drops) && decide (x.Drops ≤ 1000000)) = b7
    generalize (decide (0 ≤ x.Vers) && decide (x.Vers ≤ 1000000)) = b8
    clear hf1 hf2 g hv hname
    revert f v b1 b2 b3 b4 b5 b6 b7 b8
    decide +kernel
/-- The rows are in order. -/
def sortedFrom (xs : List Vrow) (k : Nat) : Prop := ∀ j (hj : j + 1 < xs.length), k ≤ j + 1 → xs[j].Id < xs[j + 1].Id
theorem spec_VtabOk_L4_sorted (n : Nat) (x0 : Vtab) (x1 : Int) (h : x0.Rows.length ≤ 1048580) : ∀ (m k : Nat) (o : Unit ⊕ Bool), k ≤ x0.Rows.length → spec_VtabOk_L4 n m x0 x1 k = some o → o = .inr false ∨ sortedFrom x0.Rows k
  | 0, k, o, h1, h2 => by cases h2
  | m + 1, k, o, h1, h2 => by
    rw [spec_VtabOk_L4] at h2
    by_cases hk : k < x0.Rows.length
    · rw [lt_true hk, idx_nat hk, wrap_nat (by omega)] at h2
      simp only [cond_true, Option.bind_some, spec_l1InF_val] at h2
      have rec' : ∀ o, spec_VtabOk_L4 n m x0 x1 ((k + 1 : Nat) : Int) = some o → (k = 0 ∨ ∃ hk0 : 0 < k, (x0.Rows[k - 1]'(by omega)).Id < x0.Rows[k].Id) → o = .inr false ∨ sortedFrom x0.Rows k := fun o ho hs => by
        rcases spec_VtabOk_L4_sorted n x0 x1 h m (k + 1) o (by omega) ho with e | e
        · exact .inl e
        · right
          intro j hj hkj
          by_cases hjk : k = j + 1
          · subst hjk
            rcases hs with hs | ⟨_, hs⟩
            · omega
            · simpa using hs
          · exact e j hj (by omega)
      revert h2
      cases (decide (1 ≤ x0.Rows[k].Id) && decide (x0.Rows[k].Id ≤ 99)) with
      | false => intro h2; left; exact (Option.some.inj h2).symm
      | true =>
        simp only [Bool.not_true, cond_false]
        cases (decide (0 ≤ x0.Rows[k].Members) && decide (x0.Rows[k].Members ≤ _)) with
        | false => intro h2; left; exact (Option.some.inj h2).symm
        | true =>
          simp only [Bool.not_true, cond_false]
          cases (decide (0 ≤ x0.Rows[k].Bare) && decide (x0.Rows[k].Bare ≤ _)) with
          | false => intro h2; left; exact (Option.some.inj h2).symm
          | true =>
            simp only [Bool.not_true, cond_false]
            cases ((IntKind.wrap .i64 (BitVec.ofInt (IntKind.bits .i64) x0.Rows[k].Bare &&& BitVec.ofInt (IntKind.bits .i64) x0.Rows[k].Members).toNat) != x0.Rows[k].Bare) with
            | true => intro h2; left; exact (Option.some.inj h2).symm
            | false =>
              simp only [cond_false]
              by_cases hk0 : 0 < k
              · have hw2 : IntKind.wrap .i64 ((k : Int) - 1) = ((k - 1 : Nat) : Int) := by rw [wrap64 (by omega) (by omega)]; omega
                rw [decide_eq_true (show (k : Int) > 0 by omega), hw2, idx_nat (show k - 1 < x0.Rows.length by omega)]
                simp only [cond_true, Option.bind_some]
                by_cases hge : (x0.Rows[k - 1]'(by omega)).Id ≥ x0.Rows[k].Id
                · rw [decide_eq_true hge]
                  intro h2; left; exact (Option.some.inj h2).symm
                · rw [decide_eq_false hge]
                  intro h2
                  exact rec' o h2 (.inr ⟨hk0, by omega⟩)
              · rw [decide_eq_false (show ¬ (k : Int) > 0 by omega)]
                intro h2
                exact rec' o h2 (.inl (by omega))
    · right
      intro j hj hkj
      omega
theorem spec_VtabOkF_sorted (n : Nat) (x : Vtab) (p : Int) (h : x.Rows.length ≤ 1048580) (hok : spec_VtabOkF n x p = some true) : sortedFrom x.Rows 0 := by
  unfold spec_VtabOkF at hok
  simp only [spec_l1InF_val, Option.bind_some] at hok
  revert hok
  cases (decide (1 ≤ p) && decide (p ≤ 6)) with
  | false => intro h; cases h
  | true =>
    simp only [Bool.not_true, cond_false]
    cases ((x.Pvid.length : Int) != p) with
    | true => intro h; cases h
    | false =>
      simp only [cond_false]
      cases (decide ((x.Rows.length : Int) > 6)) with
      | true => intro h; cases h
      | false =>
        simp only [cond_false]
        cases (decide (0 ≤ (IntKind.wrap .u64 p))) with
        | false => intro h; cases h
        | true =>
          simp only [cond_true]
          intro hok
          obtain ⟨o, ho, hm⟩ := bind_some hok
          rcases spec_VtabOk_L4_sorted n x p h n 0 o (by omega) ho with e | e
          · subst e; cases hm
          · exact e
/-- A row put in its place. -/
def insR (r : Vrow) : List Vrow → List Vrow
  | [] => [r]
  | v :: xs => if v.Id < r.Id then v :: insR r xs else if v.Id = r.Id then r :: xs else r :: v :: xs
theorem sorted_tail {v : Vrow} {xs : List Vrow} (h : sortedFrom (v :: xs) 0) : sortedFrom xs 0 := fun j hj _ => by
  have := h (j + 1) (by simpa using hj) (by omega)
  simpa using this
theorem sorted_gt : ∀ {xs : List Vrow} {v : Vrow}, sortedFrom (v :: xs) 0 → ∀ u ∈ xs, v.Id < u.Id
  | w :: xs, v, h, u, hu => by
    have h0 : v.Id < w.Id := by have := h 0 (by simp) (by omega); simpa using this
    rcases List.mem_cons.1 hu with e | hu
    · rw [e]; exact h0
    · have := sorted_gt (sorted_tail h) u hu
      omega
theorem insR_none (r : Vrow) : ∀ (xs : List Vrow), (∀ v ∈ xs, v.Id < r.Id) → insR r xs = xs ++ [r]
  | [], _ => rfl
  | v :: xs, h => by
    rw [insR, if_pos (h v (by simp)), insR_none r xs fun u hu => h u (by simp [hu])]
    rfl
/-- What is put, wherever it stands. -/
theorem insR_set (r : Vrow) : ∀ (xs : List Vrow) (k : Nat) (hk : k < xs.length), sortedFrom xs 0 → xs[k].Id = r.Id → insR r xs = xs.set k r
  | v :: xs, 0, hk, hs, he => by
    have he : v.Id = r.Id := he
    rw [insR, if_neg (by omega), if_pos he]
    rfl
  | v :: xs, k + 1, hk, hs, he => by
    have hk' : k < xs.length := by simpa using hk
    have he : xs[k].Id = r.Id := he
    have := sorted_gt hs xs[k] (List.getElem_mem hk')
    rw [insR, if_pos (by omega), insR_set r xs k hk' (sorted_tail hs) he]
    rfl
theorem insR_cut (r : Vrow) : ∀ (xs : List Vrow) (k : Nat) (hk : k ≤ xs.length), (∀ j (hj : j < xs.length), j < k → xs[j].Id < r.Id) → (∀ hj : k < xs.length, r.Id < xs[k].Id) → insR r xs = xs.take k ++ r :: xs.drop k
  | [], k, hk, h1, h2 => by
    have : k = 0 := by simpa using hk
    subst this; rfl
  | v :: xs, 0, hk, h1, h2 => by
    have := h2 (by simp)
    have this : r.Id < v.Id := this
    rw [insR, if_neg (by omega), if_neg (by omega)]
    rfl
  | v :: xs, k + 1, hk, h1, h2 => by
    have h0 := h1 0 (by simp) (by omega)
    have h0 : v.Id < r.Id := h0
    rw [insR, if_pos h0, insR_cut r xs k (by simpa using hk) (fun j hj hjk => by have := h1 (j + 1) (by simpa using hj) (by omega); simpa using this) (fun hj => by have := h2 (by simpa using hj); simpa using this)]
    rfl
/-- what BestVec's loop keeps -/
def BestInv (n : Nat) (x0 : Int) (x1 : List Pt) (k : Nat) (y2 y3 y4 y8 y9 : Int) : Prop :=
  ((y2 = -1 ∧ y8 = x0) ∨ (0 ≤ y2 ∧ y2 < k ∧ y3 = y8 ∧ y4 = y9 ∧ y8 < x0 ∧ ∃ v : Pt, idx x1 y2 = some v ∧ v.Up = true)) ∧
  ∀ (j : Nat) (v : Pt) (r : Vec), j < k → idx x1 (j : Int) = some v → v.Up = true → v.Has = true → spec_StepVecF n v.Heard v.Cost = some (r, true) → x0 ≤ r.Root ∨ (0 ≤ y2 ∧ (y8 < r.Root ∨ (y8 = r.Root ∧ y9 ≤ r.Cost)))
theorem BestInv.next {n : Nat} {x0 : Int} {x1 : List Pt} {k : Nat} {y2 y3 y4 y8 y9 : Int} (h : BestInv n x0 x1 k y2 y3 y4 y8 y9) (hk : ∀ v : Pt, idx x1 (k : Int) = some v → v.Up = true → v.Has = true → ∀ r : Vec, spec_StepVecF n v.Heard v.Cost = some (r, true) → x0 ≤ r.Root ∨ (0 ≤ y2 ∧ (y8 < r.Root ∨ (y8 = r.Root ∧ y9 ≤ r.Cost)))) : BestInv n x0 x1 (k + 1) y2 y3 y4 y8 y9 := by
  refine ⟨?_, fun j v r hj hv hu hh hs => ?_⟩
  · rcases h.1 with a | ⟨a, b, c⟩
    · exact .inl a
    · exact .inr ⟨a, by omega, c⟩
  · by_cases e : j = k
    · subst e; exact hk v hv hu hh r hs
    · exact h.2 j v r (by omega) hv hu hh hs
theorem spec_LessVecF_lt (n : Nat) (a b : Vec) {c : Bool} (h : spec_LessVecF n a b = some c) : (c = true → a.Root < b.Root ∨ (a.Root = b.Root ∧ a.Cost ≤ b.Cost)) ∧ (c = false → b.Root < a.Root ∨ (b.Root = a.Root ∧ b.Cost ≤ a.Cost)) := by
  unfold spec_LessVecF at h
  by_cases h1 : a.Root = b.Root
  · have e1 : (a.Root != b.Root) = false := by simp [h1]
    rw [e1, cond_false] at h
    by_cases h2 : a.Cost = b.Cost
    · exact ⟨fun _ => .inr ⟨h1, by omega⟩, fun _ => .inr ⟨h1.symm, by omega⟩⟩
    · have e2 : (a.Cost != b.Cost) = true := by simp [h2]
      rw [e2, cond_true] at h
      have h := Option.some.inj h
      refine ⟨fun hc => .inr ⟨h1, ?_⟩, fun hc => .inr ⟨h1.symm, ?_⟩⟩
      · have := of_decide_eq_true (h.trans hc); omega
      · have := of_decide_eq_false (h.trans hc); omega
  · have e1 : (a.Root != b.Root) = true := by simp [h1]
    rw [e1, cond_true] at h
    have h := Option.some.inj h
    refine ⟨fun hc => .inl (of_decide_eq_true (h.trans hc)), fun hc => .inl ?_⟩
    have := of_decide_eq_false (h.trans hc); omega
theorem spec_BestVec_L2_inv (n : Nat) (x0 : Int) (x1 : List Pt) (h : x1.length ≤ 1048576) : ∀ (m k : Nat) (y2 y3 y4 y5 y6 y7 y8 y9 y10 : Int), k ≤ x1.length → x1.length < m + k → BestInv n x0 x1 k y2 y3 y4 y8 y9 → ∃ z2 z8 z9 z10 z3 z4, spec_BestVec_L2 n m x0 x1 k y2 y3 y4 y5 y6 y7 y8 y9 y10 = some (.inl (z2, z8, z9, z10)) ∧ BestInv n x0 x1 x1.length z2 z3 z4 z8 z9
  | 0, k, y2, y3, y4, y5, y6, y7, y8, y9, y10, h1, h2, hi => by omega
  | m + 1, k, y2, y3, y4, y5, y6, y7, y8, y9, y10, h1, h2, hi => by
    rw [spec_BestVec_L2]
    by_cases hk : k < x1.length
    · have ih := fun y2 y3 y4 y5 y6 y7 y8 y9 y10 hi => spec_BestVec_L2_inv n x0 x1 h m (k + 1) y2 y3 y4 y5 y6 y7 y8 y9 y10 (by omega) (by omega) hi
      have hv := idx_nat hk
      have hg : ∀ w : Pt, idx x1 (k : Int) = some w → w = x1[k] := fun w e => Option.some.inj (e.symm.trans hv)
      simp only [lt_true hk, cond_true, hv, Option.bind_some, wrap_nat (by omega : k ≤ 1099511627776), spec_BestVec_J3]
      cases hu : x1[k].Up
      · simp only [Bool.not_false, cond_true]
        exact ih _ _ _ _ _ _ _ _ _ (hi.next fun w e u => by rw [hg w e, hu] at u; cases u)
      cases hh : x1[k].Has
      · simp only [Bool.not_false, Bool.not_true, cond_true, cond_false]
        exact ih _ _ _ _ _ _ _ _ _ (hi.next fun w e _ u => by rw [hg w e, hh] at u; cases u)
      obtain ⟨⟨r, ok⟩, hr⟩ := spec_StepVecF_tot n x1[k].Heard x1[k].Cost
      simp only [Bool.not_true, cond_false, hr, Option.bind_some]
      have hrr : ∀ w : Pt, idx x1 (k : Int) = some w → ∀ q : Vec, spec_StepVecF n w.Heard w.Cost = some (q, true) → q = r ∧ ok = true := fun w e q hq => by
        rw [hg w e, hr] at hq; cases hq; exact ⟨rfl, rfl⟩
      cases ok
      · simp only [cond_false]
        exact ih _ _ _ _ _ _ _ _ _ (hi.next fun w e _ _ q hq => by cases (hrr w e q hq).2)
      simp only [cond_true]
      by_cases hl : r.Root < x0
      · rw [decide_eq_true hl, cond_true]
        have hnew : (∀ (j : Nat) (v : Pt) (q : Vec), j < k → idx x1 (j : Int) = some v → v.Up = true → v.Has = true → spec_StepVecF n v.Heard v.Cost = some (q, true) → x0 ≤ q.Root ∨ (r.Root < q.Root ∨ (r.Root = q.Root ∧ r.Cost ≤ q.Cost))) → BestInv n x0 x1 (k + 1) k r.Root r.Cost r.Root r.Cost := fun ho => by
          refine ⟨.inr ⟨by omega, by omega, rfl, rfl, hl, _, hv, hu⟩, fun j v q hj e1 e2 e3 e4 => ?_⟩
          by_cases e : j = k
          · subst e; rw [(hrr v e1 q e4).1]; exact .inr ⟨by omega, .inr ⟨rfl, by omega⟩⟩
          · rcases ho j v q (by omega) e1 e2 e3 e4 with a | a
            · exact .inl a
            · exact .inr ⟨by omega, a⟩
        by_cases hp : y2 < 0
        · rw [decide_eq_true hp, cond_true]
          refine ih _ _ _ _ _ _ _ _ _ (hnew fun j v q e0 e1 e2 e3 e4 => ?_)
          rcases hi.2 j v q e0 e1 e2 e3 e4 with a | ⟨a, _⟩
          · exact .inl a
          · omega
        · rw [decide_eq_false hp, cond_false]
          obtain ⟨b, hb⟩ := spec_LessVecF_tot n r (⟨y3, y4, y5, y6, y7⟩ : Vec)
          have hlt := spec_LessVecF_lt n _ _ hb
          simp only [hb, Option.bind_some]
          rcases hi.1 with ⟨a, _⟩ | ⟨a1, a2, a3, a4, a5, a6⟩
          · omega
          subst a3 a4
          cases b
          · simp only [cond_false]
            refine ih _ _ _ _ _ _ _ _ _ (hi.next fun w e _ _ q hq => ?_)
            rw [(hrr w e q hq).1]
            exact .inr ⟨a1, hlt.2 rfl⟩
          · simp only [cond_true]
            refine ih _ _ _ _ _ _ _ _ _ (hnew fun j v q e0 e1 e2 e3 e4 => ?_)
            have hc := hlt.1 rfl
            simp only at hc
            rcases hi.2 j v q e0 e1 e2 e3 e4 with a | ⟨_, a⟩
            · exact .inl a
            · refine .inr ?_
              rcases a with a | ⟨a, a'⟩ <;> rcases hc with b | ⟨b, b'⟩
              · exact .inl (by omega)
              · exact .inl (by omega)
              · exact .inl (by omega)
              · exact .inr ⟨by omega, by omega⟩
      · rw [decide_eq_false hl, cond_false]
        exact ih _ _ _ _ _ _ _ _ _ (hi.next fun w e _ _ q hq => .inl (by rw [(hrr w e q hq).1]; omega))
    · have : k = x1.length := by omega
      subst this
      rw [lt_false, cond_false]
      exact ⟨_, _, _, _, _, _, rfl, hi⟩
theorem spec_BestVecF_inv (n : Nat) (x0 : Int) (x1 : List Pt) (h : x1.length ≤ 1048576) (hn : x1.length < n) : ∃ p a b c y3 y4, spec_BestVecF n x0 x1 = some ((⟨a, b, c, x0, 0⟩ : Vec), p) ∧ BestInv n x0 x1 x1.length p y3 y4 a b := by
  obtain ⟨z2, z8, z9, z10, z3, z4, e, i⟩ := spec_BestVec_L2_inv n x0 x1 h n 0 (-1) 0 0 0 0 0 x0 0 0 (by omega) (by omega) ⟨.inl ⟨rfl, rfl⟩, fun j _ _ hj => by omega⟩
  refine ⟨z2, z8, z9, z10, z3, z4, ?_, i⟩
  have e : spec_BestVec_L2 n n x0 x1 0 (-1) 0 0 0 0 0 x0 0 0 = some (.inl (z2, z8, z9, z10)) := e
  unfold spec_BestVecF
  rw [e]
  rfl
/-- what a port is for, of a port that is there -/
theorem spec_RoleOfF_at (n : Nat) (x0 : Int) (x1 : List Pt) (k : Nat) (h : x1.length ≤ 1048576) (hn : x1.length < n) (hk : k < x1.length) {b : Vec} {p : Int} (hb : spec_BestVecF n x0 x1 = some (b, p)) : ∃ r, spec_RoleOfF n x0 x1 k = some r ∧ 1 ≤ r ∧ r ≤ 4 ∧ (r = 4 ↔ x1[k].Up = false) ∧ (r = 1 ↔ (x1[k].Up = true ∧ p = k)) := by
  unfold spec_RoleOfF spec_l1InF
  rw [wrap64 (by omega) (by omega)]
  obtain ⟨s, hs⟩ := spec_SayVecF_tot n x0 x1 k h hn
  obtain ⟨l, hl⟩ := spec_LessVecF_tot n s x1[k].Heard
  simp only [decide_eq_true (show (k : Int) ≥ 0 by omega), decide_eq_true (show (k : Int) ≤ (x1.length : Int) - 1 by omega), cond_true, Option.bind_some, Bool.not_true, cond_false, idx_nat hk, hb, hs, hl]
  cases hu : x1[k].Up
  · exact ⟨4, rfl, by decide, by decide, by simp, by simp⟩
  · by_cases hp : p = k
    · have : (p == (k : Int)) = true := by simp [hp]
      rw [this]
      exact ⟨1, rfl, by decide, by decide, by simp, by simp [hp]⟩
    · have : (p == (k : Int)) = false := by simp [hp]
      rw [this]
      cases x1[k].Has <;> cases l <;> exact ⟨_, rfl, by decide, by decide, by simp, by simp [hp]⟩
theorem spec_VtabOk_L4_tot (n : Nat) (x0 : Vtab) (x1 : Int) (h : x0.Rows.length ≤ 1048580) : ∀ (m k : Nat), k ≤ x0.Rows.length → x0.Rows.length < m + k → Tot (spec_VtabOk_L4 n m x0 x1 k)
  | 0, k, h1, h2 => by omega
  | m + 1, k, h1, h2 => by
    rw [spec_VtabOk_L4]
    refine Tot.step (fun hk => ?_) .of
    have ih := spec_VtabOk_L4_tot n x0 x1 h m (k + 1) (by omega) (by omega)
    simp only [idx_nat hk, Option.bind_some, spec_l1InF_val, wrap_nat (by omega : k ≤ 1099511627776)]
    refine Tot.bif (fun _ => .of) fun _ => Tot.bif (fun _ => .of) fun _ => Tot.bif (fun _ => .of) fun _ => Tot.bif (fun _ => .of) fun _ => Tot.bif (fun hp => ?_) fun _ => ih
    have hp := of_decide_eq_true hp
    obtain ⟨v, hv, _⟩ := idx_of (xs := x0.Rows) (i := (k : Int) - 1) (by omega) (by omega)
    rw [wrap64 (by omega) (by omega), hv, Option.bind_some]
    exact Tot.bif (fun _ => .of) fun _ => ih
theorem spec_VtabOk_L3_tot (n : Nat) (x0 : Vtab) (h : x0.Rows.length ≤ 1048580) (hn : x0.Rows.length < n) (hq : x0.Pvid.length ≤ 1048580) : ∀ (m k : Nat), k ≤ x0.Pvid.length → x0.Pvid.length < m + k → Tot (spec_VtabOk_L3 n m x0 k)
  | 0, k, h1, h2 => by omega
  | m + 1, k, h1, h2 => by
    rw [spec_VtabOk_L3]
    refine Tot.step (fun hk => ?_) .of
    have ih := spec_VtabOk_L3_tot n x0 h hn hq m (k + 1) (by omega) (by omega)
    obtain ⟨r, hr, _⟩ := spec_RowAtF_ok n x0 x0.Pvid[k] h hn
    simp only [idx_nat hk, Option.bind_some, hr, wrap_nat (by omega : k ≤ 1099511627776)]
    exact Tot.bif (fun _ => .of) fun _ => ih
theorem spec_VtabOkF_tot (n : Nat) (x0 : Vtab) (p : Nat) (hp : p ≤ 1000000) (h : x0.sz ≤ 1048580) (hn : x0.sz < n) : Tot (spec_VtabOkF n x0 p) := by
  have hs : x0.Rows.length + x0.Pvid.length = x0.sz := rfl
  unfold spec_VtabOkF
  simp only [spec_l1InF_val, Option.bind_some]
  have hu : decide ((0 : Int) ≤ IntKind.wrap .u64 (p : Int)) = true := by rw [show IntKind.wrap .u64 (p : Int) = p from by show ((p : Int) % 18446744073709551616) = p; omega]; exact decide_eq_true (by omega)
  refine Tot.bif (fun _ => .of) fun _ => Tot.bif (fun _ => .of) fun _ => Tot.bif (fun _ => .of) fun _ => ?_
  rw [hu, cond_true]
  refine Tot.bind (spec_VtabOk_L4_tot n x0 p (by omega) n 0 (by omega) (by omega)) fun o _ => ?_
  cases o with
  | inr b => exact Tot.of
  | inl u =>
    show Tot (spec_VtabOk_J1 n x0)
    unfold spec_VtabOk_J1
    refine Tot.bind (spec_VtabOk_L3_tot n x0 (by omega) (by omega) (by omega) n 0 (by omega) (by omega)) fun o _ => ?_
    cases o <;> exact Tot.of
theorem spec_VtabOkF_len (n : Nat) (x : Vtab) (p : Int) (hok : spec_VtabOkF n x p = some true) : x.Rows.length ≤ 6 ∧ (x.Pvid.length : Int) = p := by
  unfold spec_VtabOkF at hok
  simp only [spec_l1InF_val, Option.bind_some] at hok
  revert hok
  cases (decide (1 ≤ p) && decide (p ≤ 6)) with
  | false => intro h; cases h
  | true =>
    simp only [Bool.not_true, cond_false]
    by_cases hp : (x.Pvid.length : Int) = p
    · have : ((x.Pvid.length : Int) != p) = false := by simp [hp]
      rw [this, cond_false]
      by_cases hr : (x.Rows.length : Int) > 6
      · rw [decide_eq_true hr]; intro h; cases h
      · exact fun _ => ⟨by omega, hp⟩
    · have : ((x.Pvid.length : Int) != p) = true := by simp [hp]
      rw [this]; intro h; cases h
/-- the bit of a port -/
def bitV (a : Int) (i : Nat) : Bool := (IntKind.wrap .i64 (BitVec.ofInt (IntKind.bits .i64) (Int.fdiv a (2 ^ min ((i : Int)).toNat (IntKind.bits .i64))) &&& BitVec.ofInt (IntKind.bits .i64) 1).toNat == 1)
theorem bitV_nine : ∀ a < 64, bitV ((a : Nat) : Int) 9 = false := by decide +kernel
theorem bifE {c : Bool} {x : Option Bool} (h : (bif c then x else some false) = some true) : c = true ∧ x = some true := by
  cases c with
  | true => exact ⟨rfl, h⟩
  | false => cases h
theorem scan_inv {L : Nat → Int → Option (Unit ⊕ Bool)} {N : Nat} {P : Nat → Prop} (h0 : ∀ k, L 0 k = none) (hs : ∀ m (k : Nat) o, k < N → L (m + 1) (k : Int) = some o → o = .inr false ∨ (P k ∧ L m ((k + 1 : Nat) : Int) = some o)) (he : ∀ m o, L (m + 1) (N : Int) = some o → o = .inl ()) :
    ∀ (m k : Nat) o, k ≤ N → L m (k : Int) = some o → o = .inr false ∨ (o = .inl () ∧ ∀ j, k ≤ j → j < N → P j)
  | 0, k, o, _, h => by rw [h0] at h; cases h
  | m + 1, k, o, hk, h => by
    by_cases hlt : k < N
    · rcases hs m k o hlt h with e | ⟨hp, h⟩
      · exact .inl e
      · rcases scan_inv h0 hs he m (k + 1) o (by omega) h with e | ⟨e, h2⟩
        · exact .inl e
        · refine .inr ⟨e, fun j hj hj2 => ?_⟩
          by_cases hjk : j = k
          · subst hjk; exact hp
          · exact h2 j (by omega) hj2
    · have : k = N := by omega
      subst this
      exact .inr ⟨he m o h, fun j hj hj2 => by omega⟩
theorem spec_BridgeOkF_ports (n : Nat) (x : Bridge) (hl : x.Ports.length ≤ 1048580) {o : Unit ⊕ Bool} (h : spec_BridgeOk_L2 n n x 0 = some o) : o = .inr false ∨ (o = .inl () ∧ ∀ j (hj : j < x.Ports.length), spec_PtOkF n x.Ports[j] = some true) := by
  rcases scan_inv (L := fun m k => spec_BridgeOk_L2 n m x k) (N := x.Ports.length) (P := fun j => ∀ hj : j < x.Ports.length, spec_PtOkF n x.Ports[j] = some true) (fun k => rfl) (fun m k o hk h => by
    simp only [spec_BridgeOk_L2] at h
    rw [lt_true hk, cond_true, idx_nat hk, Option.bind_some, wrap_nat (by omega : k ≤ 1099511627776)] at h
    obtain ⟨b, hb⟩ := spec_PtOkF_tot n x.Ports[k]
    rw [hb, Option.bind_some] at h
    cases b with
    | true => exact .inr ⟨fun _ => hb, h⟩
    | false => cases h; exact .inl rfl) (fun m o h => by
    simp only [spec_BridgeOk_L2] at h
    rw [lt_false] at h; cases h; rfl) n 0 o (by omega) h with e | ⟨e, h2⟩
  · exact .inl e
  · exact .inr ⟨e, fun j hj => h2 j (by omega) hj hj⟩
theorem spec_BridgeOkF_parts (n : Nat) (x : Bridge) (hl : x.Ports.length ≤ 1048580) (h : spec_BridgeOkF n x = some true) : 1 ≤ x.Ports.length ∧ x.Ports.length ≤ 6 ∧ 1 ≤ x.Id ∧ x.Id ≤ 99 ∧ x.Name.size ≤ 10 ∧ spec_FdbOkF n x.F = some true ∧ spec_VtabOkF n x.V (x.Ports.length : Int) = some true ∧
    (0 ≤ x.Ticks ∧ x.Ticks ≤ 1000000) ∧ (0 ≤ x.Parse ∧ x.Parse ≤ 1000000) ∧ (0 ≤ x.Word ∧ x.Word ≤ 1000000) ∧ (0 ≤ x.Drops ∧ x.Drops ≤ 1000000) ∧ (0 ≤ x.Vers ∧ x.Vers ≤ 1000000) ∧ ∀ j (hj : j < x.Ports.length), spec_PtOkF n x.Ports[j] = some true := by
  unfold spec_BridgeOkF at h
  obtain ⟨o, ho, h⟩ := bind_some h
  rcases spec_BridgeOkF_ports n x hl ho with rfl | ⟨rfl, hp⟩
  · cases h
  · simp only [spec_BridgeOk_J1, spec_l11CountsF, spec_l1InF_val, Option.bind_some] at h
    obtain ⟨h1, h⟩ := bifE h
    obtain ⟨h2, h⟩ := bifE h
    obtain ⟨h3, h⟩ := bifE h
    obtain ⟨b4, h4, h⟩ := bind_some h
    obtain ⟨rfl, h⟩ := bifE h
    obtain ⟨b5, h5, h⟩ := bind_some h
    obtain ⟨rfl, h⟩ := bifE h
    obtain ⟨b6, h6, h⟩ := bind_some h
    cases h
    obtain ⟨h7, h6⟩ := bifE h6
    obtain ⟨h8, h6⟩ := bifE h6
    obtain ⟨h9, h6⟩ := bifE h6
    obtain ⟨h10, h6⟩ := bifE h6
    have h11 := Option.some.inj h6
    simp only [Bool.and_eq_true, decide_eq_true_eq] at h1 h2 h3 h7 h8 h9 h10 h11
    exact ⟨by omega, by omega, h1.1, h1.2, by omega, h4, h5, h7, h8, h9, h10, h11, hp⟩
theorem filt_loop {α β : Type} {p : α → Bool} {L : Nat → Int → List α → Option (List α ⊕ β)} (xs : List α) (hx : xs.length ≤ 134217728)
    (h : ∀ m (k : Nat) (acc : List α) (hk : k < xs.length), acc.length ≤ k → L (m + 1) k acc = L m ((k + 1 : Nat) : Int) (acc ++ if p xs[k] then [xs[k]] else [])) (he : ∀ m (acc : List α), L (m + 1) (xs.length : Int) acc = some (.inl acc)) :
    ∀ (m k : Nat) (acc : List α), k ≤ xs.length → xs.length < m + k → acc.length ≤ k → L m k acc = some (.inl (acc ++ (xs.drop k).filter p))
  | 0, k, acc, h1, h2, h3 => by omega
  | m + 1, k, acc, h1, h2, h3 => by
    by_cases hk : k < xs.length
    · rw [h m k acc hk h3, filt_loop xs hx h he m (k + 1) _ (by omega) (by omega) (by split <;> simp <;> omega), List.drop_eq_getElem_cons hk, List.filter_cons, List.append_assoc]
      split <;> simp
    · have : k = xs.length := by omega
      subst this
      rw [he m acc]
      simp
theorem laws_toVecF_eq (n : Nat) (v : Vec) : laws_toVecF n v = some v := rfl
theorem spec_FdbOkF_inv (n : Nat) (xs : List Fent) (h : xs.length ≤ 1048580) (hok : spec_FdbOkF n xs = some true) : xs.length ≤ 12 ∧ (∀ j (hj : j < xs.length), spec_l8EntF n xs[j] = some true) ∧ ∀ j (hj : j + 1 < xs.length), spec_l8AheadF n xs[j] xs[j + 1].Tag xs[j + 1].Mac = some true := by
  unfold spec_FdbOkF at hok
  obtain ⟨o, ho, hok⟩ := bind_some hok
  rcases scan_inv (L := fun m k => spec_FdbOk_L2 n m xs k) (N := xs.length) (P := fun k => ∀ hk : k < xs.length, spec_l8EntF n xs[k] = some true ∧ ∀ j (e : k = j + 1), spec_l8AheadF n (xs[j]'(by omega)) xs[k].Tag xs[k].Mac = some true) (fun k => rfl) (fun m k o hk h => by
    simp only [spec_FdbOk_L2] at h
    rw [lt_true hk, cond_true, idx_nat hk, Option.bind_some, wrap_nat (by omega : k ≤ 1099511627776)] at h
    obtain ⟨b, hb⟩ := spec_l8EntF_tot n xs[k]
    rw [hb, Option.bind_some] at h
    cases b with
    | false => cases h; exact .inl rfl
    | true =>
      simp only [Bool.not_true, cond_false] at h
      cases k with
      | zero => exact .inr ⟨fun _ => ⟨hb, fun j e => by omega⟩, h⟩
      | succ k =>
        have hw2 : IntKind.wrap .i64 (((k + 1 : Nat) : Int) - 1) = (k : Int) := by rw [wrap64 (by omega) (by omega)]; omega
        have hpos : decide (((k + 1 : Nat) : Int) > 0) = true := decide_eq_true (by omega)
        rw [hpos, hw2, cond_true, idx_nat (show k < xs.length by omega), Option.bind_some, Option.bind_some, Option.bind_some] at h
        obtain ⟨c, hc⟩ := spec_l8AheadF_tot n (xs[k]'(by omega)) xs[k + 1].Tag xs[k + 1].Mac
        rw [hc, Option.bind_some] at h
        cases c with
        | false => cases h; exact .inl rfl
        | true => exact .inr ⟨fun _ => ⟨hb, fun j e => by obtain rfl : k = j := by omega
                                                          exact hc⟩, h⟩) (fun m o h => by
    simp only [spec_FdbOk_L2] at h
    rw [lt_false] at h; cases h; rfl) n 0 o (by omega) ho with rfl | ⟨rfl, hp⟩
  · cases hok
  · have h12 := of_decide_eq_true (Option.some.inj hok)
    exact ⟨by omega, fun j hj => (hp j (by omega) hj hj).1, fun j hj => (hp (j + 1) (by omega) hj hj).2 j rfl⟩
theorem spec_l8EntF_inv (n : Nat) (v : Fent) (h : spec_l8EntF n v = some true) : (1 ≤ v.Tag ∧ v.Tag ≤ 99) ∧ (1 ≤ v.Mac ∧ v.Mac ≤ 9999) ∧ (0 ≤ v.Port ∧ v.Port ≤ 7) ∧ (0 ≤ v.Age ∧ v.Age ≤ 4) ∧ (v.Static = true → v.Age = 0) := by
  unfold spec_l8EntF at h
  simp only [spec_l1InF_val, Option.bind_some] at h
  obtain ⟨h1, h⟩ := bifE h
  obtain ⟨h2, h⟩ := bifE h
  obtain ⟨h3, h⟩ := bifE h
  obtain ⟨h4, h⟩ := bifE h
  simp only [Bool.and_eq_true, decide_eq_true_eq] at h1 h2 h3 h4
  refine ⟨h1, h2, h3, h4, fun hs => ?_⟩
  rw [hs] at h
  simpa using h
theorem markV_loop {α β : Type} {L : Nat → Int → List α → Int → Option ((List α × Int) ⊕ β)} (w : α → Nat) (good : α → Prop)
    (h : ∀ (m k : Nat) (ys : List α) (b : Int) (v : α), k < ys.length → ys.length ≤ 268435456 → ys[k]? = some v → good v → 0 < b → b ≤ 274877906944 → ∃ v' c, b ≤ c ∧ c ≤ b + 16 * w v ∧ L (m + 1) k ys b = L m ((k + 1 : Nat) : Int) (ys.set k v') c)
    (hend : ∀ m (ys : List α) b, L (m + 1) (ys.length : Int) ys b = some (.inl (ys, b))) : ∀ (post : List α) (m : Nat) (pre : List α) (b : Int), (pre ++ post).length ≤ 268435456 → (∀ v ∈ post, good v) → 0 < b → b + 16 * sumSz w post ≤ 274877906944 → post.length < m →
      ∃ (zs : List α) (c : Int), b ≤ c ∧ c ≤ b + 16 * sumSz w post ∧ L m (pre.length : Int) (pre ++ post) b = some (.inl (zs, c))
  | [], m, pre, b, h1, h2, h3, h4, h5 => by
    obtain ⟨m, rfl⟩ : ∃ m', m = m' + 1 := ⟨m - 1, by have : 0 < m := h5; omega⟩
    refine ⟨pre, b, by omega, by simp only [sumSz]; omega, ?_⟩
    rw [List.append_nil, hend m pre b]
  | v :: post, m, pre, b, h1, h2, h3, h4, h5 => by
    obtain ⟨m, rfl⟩ : ∃ m', m = m' + 1 := ⟨m - 1, by simp only [List.length_cons] at h5; omega⟩
    simp only [sumSz] at h4
    obtain ⟨v', c, k1, k2, k3⟩ := h m pre.length (pre ++ v :: post) b v (by simp) h1 (by simp) (h2 v (by simp)) h3 (by omega)
    rw [set_append_len] at k3
    obtain ⟨zs, c', e1, e2, e3⟩ := markV_loop w good h hend post m (pre ++ [v']) c (by simpa using h1) (fun u hu => h2 u (by simp [hu])) (by omega) (by omega) (by simp only [List.length_cons] at h5; omega)
    refine ⟨zs, c', by omega, by simp only [sumSz]; omega, ?_⟩
    rw [k3]
    simpa using e3
theorem in_range_dec (n : Nat) (z : Int) (N : Nat) (h : N ≤ 1048600) : spec_l1InF n z 0 (IntKind.wrap .i64 ((N : Int) - 1)) = some (decide (0 ≤ z ∧ z < N)) := by
  rw [spec_l1InF_val, wrap64 (by omega) (by omega)]
  by_cases h : 0 ≤ z ∧ z < N
  · rw [decide_eq_true h, decide_eq_true h.1, decide_eq_true (by omega)]; rfl
  · rw [decide_eq_false h]
    congr 1
    simp only [Bool.and_eq_false_iff, decide_eq_false_iff_not]; omega
def metSet (met : List Bool) (z : Int) : Prop := 0 ≤ z ∧ met[z.toNat]? = some true
theorem idx_met {met : List Bool} {z : Int} (h0 : 0 ≤ z) (h1 : z < met.length) : ∃ b, idx met z = some b ∧ (metSet met z ↔ b = true) := by
  obtain ⟨j, rfl⟩ := Int.eq_ofNat_of_zero_le h0
  have hj : j < met.length := by omega
  refine ⟨met[j], idx_nat hj, ?_⟩
  simp [metSet, hj]
theorem met_set {met : List Bool} {i z : Int} (h0 : 0 ≤ i) (h1 : i < met.length) : metSet (met.set i.toNat true) z ↔ z = i ∨ metSet met z := by
  obtain ⟨j, rfl⟩ := Int.eq_ofNat_of_zero_le h0
  have hj : j < met.length := by omega
  unfold metSet
  simp only [Int.toNat_natCast]
  by_cases hz : z = (j : Int)
  · subst hz
    simp [hj]
  · constructor
    · rintro ⟨a, b⟩
      rw [List.getElem?_set_ne (by omega)] at b
      exact .inr ⟨a, b⟩
    · rintro (e | ⟨a, b⟩)
      · exact absurd e hz
      · exact ⟨a, by rw [List.getElem?_set_ne (by omega)]; exact b⟩
theorem count_set_true : ∀ (met : List Bool) (j : Nat), met[j]? = some false → (met.set j true).count true = met.count true + 1
  | [], j, h => by simp at h
  | b :: met, 0, h => by
    simp only [List.getElem?_cons_zero, Option.some.injEq] at h
    subst h
    simp
  | b :: met, j + 1, h => by
    simp only [List.getElem?_cons_succ] at h
    have := count_set_true met j h
    simp only [List.set_cons_succ, List.count_cons, this]
    omega
theorem set_true_same : ∀ (met : List Bool) (j : Nat), met[j]? = some true → met.set j true = met
  | [], j, h => by simp
  | b :: met, 0, h => by
    simp only [List.getElem?_cons_zero, Option.some.injEq] at h
    subst h; rfl
  | b :: met, j + 1, h => by
    simp only [List.getElem?_cons_succ] at h
    simp only [List.set_cons_succ, set_true_same met j h]
theorem impl_copyIntsF_eq (n : Nat) (xs : List Int) (h : xs.length ≤ 268435456) : impl_copyIntsF n xs = some xs := by
  unfold impl_copyIntsF
  rw [decide_eq_true (by simp; omega)]; rfl
theorem markH_loop {α β γ : Type} {L : Nat → Int → List α → Int → Option ((List α × Int) ⊕ β)} {H : Nat → List α → Int → Int → Option (Int ⊕ γ)} (w : α → Nat) (good : α → Prop)
    (h : ∀ (k : Nat) (ys : List α) (b : Int) (v : α), k < ys.length → ys.length ≤ 268435456 → ys[k]? = some v → good v → 0 < b → b ≤ 274877906944 → ∃ v' c, b ≤ c ∧ c ≤ b + 16 * w v ∧ (∀ m, L (m + 1) k ys b = L m ((k + 1 : Nat) : Int) (ys.set k v') c) ∧ ∀ m (ys' : List α), ys'.length ≤ 268435456 → k < ys'.length → ys'[k]? = some v' → H (m + 1) ys' k b = H m ys' ((k + 1 : Nat) : Int) c)
    (hend : ∀ m (ys : List α) b, L (m + 1) (ys.length : Int) ys b = some (.inl (ys, b))) (hendH : ∀ m (ys : List α) b, H (m + 1) ys (ys.length : Int) b = some (.inl b)) : ∀ (post pre : List α) (b : Int), (pre ++ post).length ≤ 268435456 → (∀ v ∈ post, good v) → 0 < b → b + 16 * sumSz w post ≤ 274877906944 →
      ∃ (zs : List α) (c : Int), zs.length = post.length ∧ b ≤ c ∧ c ≤ b + 16 * sumSz w post ∧ (∀ m, post.length < m → L m (pre.length : Int) (pre ++ post) b = some (.inl (pre ++ zs, c))) ∧ ∀ m, post.length < m → H m (pre ++ zs) (pre.length : Int) b = some (.inl c)
  | [], pre, b, h1, h2, h3, h4 => by
    refine ⟨[], b, rfl, by omega, by simp only [sumSz]; omega, fun m hm => ?_, fun m hm => ?_⟩
    · obtain ⟨m, rfl⟩ : ∃ m', m = m' + 1 := ⟨m - 1, by have : 0 < m := hm; omega⟩
      rw [List.append_nil, hend m pre b]
    · obtain ⟨m, rfl⟩ : ∃ m', m = m' + 1 := ⟨m - 1, by have : 0 < m := hm; omega⟩
      rw [List.append_nil, hendH m pre b]
  | v :: post, pre, b, h1, h2, h3, h4 => by
    simp only [sumSz] at h4
    obtain ⟨v', c, k1, k2, k3, k4⟩ := h pre.length (pre ++ v :: post) b v (by simp) h1 (by simp) (h2 v (by simp)) h3 (by omega)
    obtain ⟨zs, c', e0, e1, e2, e3, e4⟩ := markH_loop w good h hend hendH post (pre ++ [v']) c (by simpa using h1) (fun u hu => h2 u (by simp [hu])) (by omega) (by omega)
    refine ⟨v' :: zs, c', by simp [e0], by omega, by simp only [sumSz]; omega, fun m hm => ?_, fun m hm => ?_⟩
    · obtain ⟨m, rfl⟩ : ∃ m', m = m' + 1 := ⟨m - 1, by simp only [List.length_cons] at hm; omega⟩
      rw [k3 m, set_append_len]
      have := e3 m (by simp only [List.length_cons] at hm; omega)
      simpa using this
    · obtain ⟨m, rfl⟩ : ∃ m', m = m' + 1 := ⟨m - 1, by simp only [List.length_cons] at hm; omega⟩
      have hlen : (pre ++ v' :: zs).length ≤ 268435456 := by simp only [List.length_append, List.length_cons, e0] at h1 ⊢; omega
      rw [k4 m (pre ++ v' :: zs) hlen (by simp) (by simp)]
      have := e4 m (by simp only [List.length_cons] at hm; omega)
      simpa using this
def Bind.sz (x : Bind) : Nat := x.O.length + x.V.S.size + x.V.O.length
theorem laws_eqValF_refl (n : Nat) (v : Val) (h : v.O.length ≤ 268435456) (hn : v.O.length < n) : laws_eqValF n v v = some true := by
  simp [laws_eqValF, laws_eqIntSF_refl n v.O h hn]
theorem laws_eqBindF_refl (n : Nat) (v : Bind) (h : v.sz ≤ 268435456) (hn : v.sz < n) : laws_eqBindF n v v = some true := by
  have hs : v.O.length + v.V.S.size + v.V.O.length = v.sz := rfl
  simp [laws_eqBindF, laws_eqIntSF_refl n v.O (by omega) (by omega), laws_eqValF_refl n v.V (by omega) (by omega)]
/-- A number with its name. -/
def numB (o : List Int) (z : Int) : Bind := ⟨[1, 3, 1] ++ o, ⟨2, z, (⟨#[]⟩ : ByteArray), []⟩⟩
theorem spec_l17AddF_val (n : Nat) (acc : List Bind) (o : List Int) (z : Int) (h : o.length ≤ 100) (ha : acc.length ≤ 100000) : spec_l17AddF n acc o z = some (acc ++ [numB o z]) := by
  unfold spec_l17AddF spec_l17NameF spec_l3IntF
  rw [decide_eq_true (by simp; omega), cond_true, Option.bind_some, Option.bind_some, decide_eq_true (by simp; omega)]
  rfl
theorem impl_thingF_val (n : Nat) (v : Val) (o : List Int) (h : o.length ≤ 100) : impl_thingF n v o = some ⟨[1, 3, 1] ++ o, v⟩ := by
  unfold impl_thingF
  rw [decide_eq_true (by simp; omega)]
  rfl
theorem impl_portThingF_eq (n : Nat) : impl_portThingF n = spec_l17PortF n := by
  funext x c p
  unfold impl_portThingF spec_l17PortF impl_bitF
  rw [impl_RoleOfF_eq]
  congr 1
  congr 1
  funext v
  cases v.Up <;> rfl
theorem spec_MibList_ports (n : Nat) (x : Bridge) (c : Int) (hp : x.Ports.length ≤ 6) (hq : x.V.Pvid.length = x.Ports.length) (hn : 1000 < n) : ∀ (m k : Nat) (acc : List Bind), k ≤ x.Ports.length → x.Ports.length < m + k → acc.length + (x.Ports.length - k) ≤ 90000 → ∃ (zs : List Bind) (a1 a2 a3 : Int), spec_MibList_L10 n m x c k acc = some (.inl (a1, a2, zs)) ∧ impl_MibList_L11 n m x c k acc = some (.inl (a3, zs)) ∧ zs.length = acc.length + (x.Ports.length - k) ∧ ∀ v ∈ zs, v ∈ acc ∨ ∃ a b z, v = numB [2, a, b] z
  | 0, k, acc, h1, h2, h3 => by omega
  | m + 1, k, acc, h1, h2, h3 => by
    rw [spec_MibList_L10, impl_MibList_L11]
    by_cases hk : k < x.Ports.length
    · have ht : ∃ z, spec_l17PortF n x c k = some z := by
        unfold spec_l17PortF
        obtain ⟨r, hr, _⟩ := spec_RoleOfF_ok n x.Id x.Ports k (by omega) (by omega)
        rw [idx_nat hk, hr, idx_nat (show k < x.V.Pvid.length by omega)]
        simp only [Option.bind_some]
        exact Tot.bif (fun _ => Tot.bif (fun _ => .of) (fun _ => .of)) fun _ => Tot.bif (fun _ => .of) fun _ => Tot.bif (fun _ => .of) fun _ => .of
      obtain ⟨z, hz⟩ := ht
      rw [lt_true hk, cond_true, cond_true, impl_portThingF_eq, hz, Option.bind_some, Option.bind_some, wrap_nat (by omega : k ≤ 1099511627776), spec_l17AddF_val n acc _ z (by simp) (by omega)]
      unfold impl_numberF
      simp only [Option.bind_some, impl_thingF_val n _ [2, c, ((k + 1 : Nat) : Int)] (by simp)]
      rw [decide_eq_true (by simp; omega), cond_true]
      obtain ⟨zs, a1, a2, a3, e1, e2, e3, e4⟩ := spec_MibList_ports n x c hp hq hn m (k + 1) (acc ++ [numB [2, c, ((k + 1 : Nat) : Int)] z]) (by omega) (by omega) (by simp; omega)
      refine ⟨zs, a1, a2, a3, e1, e2, by rw [e3]; simp; omega, fun v hv => ?_⟩
      rcases e4 v hv with h | h
      · rcases List.mem_append.1 h with h | h
        · exact .inl h
        · exact .inr ⟨_, _, _, List.mem_singleton.1 h⟩
      · exact .inr h
    · have he : k = x.Ports.length := by omega
      subst he
      rw [lt_false]
      exact ⟨acc, _, _, _, rfl, rfl, by simp, fun v hv => .inl hv⟩
theorem spec_MibList_rows (n : Nat) (x : Bridge) (c : Int) (hc : c = 1 ∨ c = 2 ∨ c = 3) (hp : x.V.Rows.length ≤ 6) : ∀ (m k : Nat) (acc : List Bind), k ≤ x.V.Rows.length → x.V.Rows.length < m + k → acc.length + (x.V.Rows.length - k) ≤ 90000 → ∃ (zs : List Bind) (a1 a2 a3 : Int), spec_MibList_L7 n m x c k acc = some (.inl (a1, a2, zs)) ∧ impl_MibList_L8 n m x c k acc = some (.inl (a3, zs)) ∧ zs.length = acc.length + (x.V.Rows.length - k) ∧ ∀ v ∈ zs, v ∈ acc ∨ ∃ a b z, v = numB [3, a, b] z
  | 0, k, acc, h1, h2, h3 => by omega
  | m + 1, k, acc, h1, h2, h3 => by
    rw [spec_MibList_L7, impl_MibList_L8]
    by_cases hk : k < x.V.Rows.length
    · have ht : ∃ z, spec_l17RowF n x.V.Rows[k] c = some z ∧ idx [1, x.V.Rows[k].Members, x.V.Rows[k].Bare] (IntKind.wrap .i64 (c - 1)) = some z := by
        rcases hc with rfl | rfl | rfl <;> exact ⟨_, rfl, rfl⟩
      obtain ⟨z, hz, hz'⟩ := ht
      rw [lt_true hk, cond_true, cond_true, idx_nat hk]
      unfold impl_numberF
      simp only [Option.bind_some, hz, hz', wrap_nat (by omega : k ≤ 1099511627776), spec_l17AddF_val n acc [3, c, x.V.Rows[k].Id] z (by simp) (by omega), impl_thingF_val n _ [3, c, x.V.Rows[k].Id] (by simp)]
      rw [decide_eq_true (by simp; omega), cond_true]
      obtain ⟨zs, a1, a2, a3, e1, e2, e3, e4⟩ := spec_MibList_rows n x c hc hp m (k + 1) (acc ++ [numB [3, c, x.V.Rows[k].Id] z]) (by omega) (by omega) (by simp; omega)
      refine ⟨zs, a1, a2, a3, e1, e2, by rw [e3]; simp; omega, fun v hv => ?_⟩
      rcases e4 v hv with h | h
      · rcases List.mem_append.1 h with h | h
        · exact .inl h
        · exact .inr ⟨_, _, _, List.mem_singleton.1 h⟩
      · exact .inr h
    · have he : k = x.V.Rows.length := by omega
      subst he
      rw [lt_false]
      exact ⟨acc, _, _, _, rfl, rfl, by simp, fun v hv => .inl hv⟩
theorem spec_MibList_ents (n : Nat) (x : Bridge) (hp : x.F.length ≤ 12) (hpo : ∀ v ∈ x.F, 0 ≤ v.Port ∧ v.Port ≤ 7) : ∀ (m k : Nat) (acc : List Bind), k ≤ x.F.length → x.F.length < m + k → acc.length + (x.F.length - k) ≤ 90000 → ∃ (zs : List Bind), spec_MibList_L4 n m x k acc = some (.inl zs) ∧ impl_MibList_L5 n m x k acc = some (.inl zs) ∧ zs.length = acc.length + (x.F.length - k) ∧ ∀ v ∈ zs, v ∈ acc ∨ ∃ a b z, v = numB [4, 1, a, b] z
  | 0, k, acc, h1, h2, h3 => by omega
  | m + 1, k, acc, h1, h2, h3 => by
    rw [spec_MibList_L4, impl_MibList_L5]
    by_cases hk : k < x.F.length
    · rw [lt_true hk, cond_true, cond_true, idx_nat hk]
      unfold impl_numberF
      simp only [Option.bind_some, wrap_nat (by omega : k ≤ 1099511627776), spec_l17AddF_val n acc [4, 1, x.F[k].Tag, x.F[k].Mac] _ (by simp) (by omega), impl_thingF_val n _ [4, 1, x.F[k].Tag, x.F[k].Mac] (by simp)]
      rw [decide_eq_true (by simp; omega), cond_true]
      obtain ⟨zs, e1, e2, e3, e4⟩ := spec_MibList_ents n x hp hpo m (k + 1) (acc ++ [numB [4, 1, x.F[k].Tag, x.F[k].Mac] (IntKind.wrap .i64 (x.F[k].Port + 1))]) (by omega) (by omega) (by simp; omega)
      refine ⟨zs, e1, e2, by rw [e3]; simp; omega, fun v hv => ?_⟩
      rcases e4 v hv with h | h
      · rcases List.mem_append.1 h with h | h
        · exact .inl h
        · exact .inr ⟨_, _, _, List.mem_singleton.1 h⟩
      · exact .inr h
    · have he : k = x.F.length := by omega
      subst he
      rw [lt_false]
      exact ⟨acc, rfl, rfl, by simp, fun v hv => .inl hv⟩
/-- What stands in the list: numbers with short names, and the bridge's name. -/
def MibB (x : Bridge) (v : Bind) : Prop := v = ⟨[1, 3, 1] ++ [1, 1], ⟨4, 0, x.Name, []⟩⟩ ∨ ∃ o z, v = numB o z ∧ o.length ≤ 4
theorem spec_MibList_L8_ok (n : Nat) (x : Bridge) (hp : x.Ports.length ≤ 6) (hq : x.V.Pvid.length = x.Ports.length) (hn : 1000 < n) : ∀ (m d : Nat) (acc : List Bind), d ≤ 4 → d < m → acc.length + 6 * d ≤ 80000 → (∀ v ∈ acc, MibB x v) → ∃ zs : List Bind, spec_MibList_L8 n m x ((5 : Int) - d) acc = some (.inl zs) ∧ impl_MibList_L9 n m x ((5 : Int) - d) acc = some (.inl zs) ∧ zs.length ≤ acc.length + 6 * d ∧ ∀ v ∈ zs, MibB x v
  | 0, d, acc, h0, h1, h2, h3 => by omega
  | m + 1, d, acc, h0, h1, h2, h3 => by
    rw [spec_MibList_L8, impl_MibList_L9]
    cases d with
    | zero => exact ⟨acc, rfl, rfl, by simp, h3⟩
    | succ d =>
      rw [decide_eq_true (by omega), cond_true, cond_true]
      obtain ⟨zs, a1, a2, a3, e1, e2, e3, e4⟩ := spec_MibList_ports n x ((5 : Int) - ((d + 1 : Nat) : Int)) hp hq hn n 0 acc (by omega) (by omega) (by omega)
      rw [show spec_MibList_L10 n n x _ 0 acc = _ from e1, show impl_MibList_L11 n n x _ 0 acc = _ from e2]
      simp only [Option.bind_some, spec_MibList_J9, impl_MibList_J10]
      have hw : IntKind.wrap .i64 ((5 : Int) - ((d + 1 : Nat) : Int) + 1) = (5 : Int) - (d : Int) := by rw [wrap64 (by omega) (by omega)]; omega
      rw [hw]
      obtain ⟨us, f1, f2, f3, f4⟩ := spec_MibList_L8_ok n x hp hq hn m d zs (by omega) (by omega) (by omega) (fun v hv => by
        rcases e4 v hv with h | ⟨a, b, z, h⟩
        · exact h3 v h
        · exact .inr ⟨_, _, h, by simp⟩)
      exact ⟨us, f1, f2, by omega, f4⟩
theorem spec_MibList_L5_ok (n : Nat) (x : Bridge) (hp : x.V.Rows.length ≤ 6) (hn : 1000 < n) : ∀ (m d : Nat) (acc : List Bind), d ≤ 3 → d < m → acc.length + 6 * d ≤ 80000 → (∀ v ∈ acc, MibB x v) → ∃ zs : List Bind, spec_MibList_L5 n m x ((4 : Int) - d) acc = some (.inl zs) ∧ impl_MibList_L6 n m x ((4 : Int) - d) acc = some (.inl zs) ∧ zs.length ≤ acc.length + 6 * d ∧ ∀ v ∈ zs, MibB x v
  | 0, d, acc, h0, h1, h2, h3 => by omega
  | m + 1, d, acc, h0, h1, h2, h3 => by
    rw [spec_MibList_L5, impl_MibList_L6]
    cases d with
    | zero => exact ⟨acc, rfl, rfl, by simp, h3⟩
    | succ d =>
      rw [decide_eq_true (by omega), cond_true, cond_true]
      obtain ⟨zs, a1, a2, a3, e1, e2, e3, e4⟩ := spec_MibList_rows n x ((4 : Int) - ((d + 1 : Nat) : Int)) (by omega) hp n 0 acc (by omega) (by omega) (by omega)
      rw [show spec_MibList_L7 n n x _ 0 acc = _ from e1, show impl_MibList_L8 n n x _ 0 acc = _ from e2]
      simp only [Option.bind_some, spec_MibList_J6, impl_MibList_J7]
      have hw : IntKind.wrap .i64 ((4 : Int) - ((d + 1 : Nat) : Int) + 1) = (4 : Int) - (d : Int) := by rw [wrap64 (by omega) (by omega)]; omega
      rw [hw]
      obtain ⟨us, f1, f2, f3, f4⟩ := spec_MibList_L5_ok n x hp hn m d zs (by omega) (by omega) (by omega) (fun v hv => by
        rcases e4 v hv with h | ⟨a, b, z, h⟩
        · exact h3 v h
        · exact .inr ⟨_, _, h, by simp⟩)
      exact ⟨us, f1, f2, by omega, f4⟩
theorem impl_MibList_L12_val (n m : Nat) (x : Bridge) (v : Bind) : impl_MibList_L12 n (m + 5) x 0 [v] = some (.inl [v, numB [1, 2] x.Ticks, numB [1, 3] x.Parse, numB [1, 4] x.Word, numB [1, 5] x.Drops]) := by
  unfold impl_MibList_L12 impl_MibList_L12 impl_MibList_L12 impl_MibList_L12 impl_MibList_L12
  rfl
theorem spec_MibListF_both (n : Nat) (x : Bridge) (wx : x.wf) (hx : x.sz ≤ 1048576) (hn : 1048577 < n) : ∃ zs : List Bind, spec_MibListF n x = some zs ∧ impl_MibListF n x = some zs ∧ zs.length ≤ 60 ∧ ∀ v ∈ zs, v.O.length ≤ 7 ∧ v.V.O = [] ∧ v.V.S.size ≤ 10 := by
  have hs : x.Name.size + x.Ports.length + x.F.length + x.V.sz = x.sz := rfl
  have hs2 : x.V.Rows.length + x.V.Pvid.length = x.V.sz := rfl
  obtain ⟨b, h1, h2⟩ := spec_BridgeOkF_both n x wx (by omega) (by omega)
  unfold spec_MibListF impl_MibListF
  rw [h1, h2, Option.bind_some, Option.bind_some]
  cases b with
  | false => exact ⟨[], rfl, rfl, by simp, fun v hv => by simp at hv⟩
  | true =>
    obtain ⟨p1, p2, p3, p4, p5, p6, p7, p8, p9, p10, p11, p12, p13⟩ := spec_BridgeOkF_parts n x (by omega) h1
    obtain ⟨f1, f2, f3⟩ := spec_FdbOkF_inv n x.F (by omega) p6
    obtain ⟨v1, v2⟩ := spec_VtabOkF_len n x.V _ p7
    have hN : spec_l17NameF n [1, 1] = some ([1, 3, 1] ++ [1, 1]) := by unfold spec_l17NameF; rfl
    obtain ⟨m, hm⟩ : ∃ m, n = m + 5 := ⟨n - 5, by omega⟩
    have h12 : impl_MibList_L12 n n x 0 [⟨[1, 3, 1] ++ [1, 1], ⟨4, 0, x.Name, []⟩⟩] = some (.inl [⟨[1, 3, 1] ++ [1, 1], ⟨4, 0, x.Name, []⟩⟩, numB [1, 2] x.Ticks, numB [1, 3] x.Parse, numB [1, 4] x.Word, numB [1, 5] x.Drops]) := by
      have := impl_MibList_L12_val n m x ⟨[1, 3, 1] ++ [1, 1], ⟨4, 0, x.Name, []⟩⟩
      rw [← hm] at this
      exact this
    simp only [Bool.not_true, cond_false, hN, Option.bind_some, impl_thingF_val n _ [1, 1] (by simp), h12]
    rw [spec_l17AddF_val n _ [1, 2] _ (by simp) (by simp), Option.bind_some, spec_l17AddF_val n _ [1, 3] _ (by simp) (by simp), Option.bind_some, spec_l17AddF_val n _ [1, 4] _ (by simp) (by simp), Option.bind_some, spec_l17AddF_val n _ [1, 5] _ (by simp) (by simp), Option.bind_some]
    simp only [List.cons_append, List.nil_append]
    obtain ⟨z1, a1, a2, a3, a4⟩ := spec_MibList_L8_ok n x p2 (by omega) (by omega) n 4 [⟨[1, 3, 1, 1, 1], ⟨4, 0, x.Name, []⟩⟩, numB [1, 2] x.Ticks, numB [1, 3] x.Parse, numB [1, 4] x.Word, numB [1, 5] x.Drops] (by omega) (by omega) (by simp) (fun v hv => by
      simp only [List.mem_cons, List.not_mem_nil, or_false] at hv
      rcases hv with rfl | rfl | rfl | rfl | rfl
      · exact .inl rfl
      all_goals exact .inr ⟨_, _, rfl, by simp⟩)
    rw [show spec_MibList_L8 n n x 1 _ = _ from a1, impl_MibList_J1, show impl_MibList_L9 n n x 1 _ = _ from a2]
    simp only [Option.bind_some]
    simp only [List.length_cons, List.length_nil] at a3
    obtain ⟨z2, b1, b2, b3, b4⟩ := spec_MibList_L5_ok n x v1 (by omega) n 3 z1 (by omega) (by omega) (by omega) a4
    rw [spec_MibList_J1, impl_MibList_J2, show spec_MibList_L5 n n x 1 z1 = _ from b1, show impl_MibList_L6 n n x 1 z1 = _ from b2]
    simp only [Option.bind_some]
    obtain ⟨z3, c1, c2, c3, c4⟩ := spec_MibList_ents n x f1 (fun v hv => by
      obtain ⟨j, hj, rfl⟩ := List.getElem_of_mem hv
      exact (spec_l8EntF_inv n _ (f2 j hj)).2.2.1) n 0 z2 (by omega) (by omega) (by omega)
    rw [spec_MibList_J2, impl_MibList_J3, show spec_MibList_L4 n n x 0 z2 = _ from c1, show impl_MibList_L5 n n x 0 z2 = _ from c2]
    refine ⟨z3, rfl, rfl, by omega, fun v hv => ?_⟩
    have hb : MibB x v := by
      rcases c4 v hv with h | ⟨a, b, z, h⟩
      · exact b4 v h
      · exact .inr ⟨_, _, h, by simp⟩
    rcases hb with rfl | ⟨o, z, rfl, ho⟩
    · exact ⟨by simp, rfl, by simpa using p5⟩
    · refine ⟨by simp [numB]; omega, rfl, by simp only [numB]; decide⟩
theorem sum_le_of {α : Type} {w : α → Nat} {c : Nat} : ∀ {xs : List α}, (∀ v ∈ xs, w v ≤ c) → sumSz w xs ≤ c * xs.length
  | [], _ => by simp [sumSz]
  | x :: xs, h => by
    have h1 := sum_le_of (xs := xs) fun v hv => h v (by simp [hv])
    have h2 := h x (by simp)
    simp only [sumSz, List.length_cons, Nat.mul_succ]
    omega
theorem laws_markBridgeF_pos (n : Nat) (x : Bridge) (h : x.sz ≤ 268435456) (hn : x.sz < n) : ∃ (c : Int) (y : Bridge), 1 ≤ c ∧ c ≤ 1 + 17 * x.sz ∧ laws_markBridgeF n x 1 = some (c, y) := by
  have hs : x.Name.size + x.Ports.length + x.F.length + x.V.sz = x.sz := rfl
  have hs2 : x.V.Rows.length + x.V.Pvid.length = x.V.sz := rfl
  unfold laws_markBridgeF laws_markVtabF
  rw [laws_markPtSF_ok n x.Ports 1 (by omega) (by omega) (by omega) (by omega), Option.bind_some, laws_markFentSF_ok n x.F _ (by omega) (by omega) (by omega) (by simp only; omega), Option.bind_some, laws_markVrowSF_ok n x.V.Rows _ (by omega) (by omega) (by simp only; omega) (by simp only; omega), Option.bind_some, laws_markIntSF_ok n x.V.Pvid _ (by omega) (by omega) (by simp only; omega) (by simp only; omega)]
  exact ⟨_, _, by simp only; omega, by simp only; omega, rfl⟩
theorem laws_markValF_ok (n : Nat) (v : Val) (b : Int) (h : v.O.length ≤ 1048576) (hn : 1048577 < n) (h0 : 0 ≤ b) (h1 : b ≤ 549755813888) : ∃ (y : Val) (c : Int), b ≤ c ∧ laws_markValF n v b = some (c, y) ∧ laws_heldValF n y b = some c := by
  have m0 := laws_markIntSF_ok n v.O b (by omega) (by omega) (by omega) (by omega)
  have m1 := laws_heldIntSF_ok n v.O b (by omega) (by omega) (by omega) (by omega)
  refine ⟨⟨v.K, v.N, v.S, markL (fun _ b => b) 1 v.O b⟩, b + (1 : Nat) * v.O.length, by omega, ?_, ?_⟩
  · unfold laws_markValF; rw [m0]; rfl
  · unfold laws_heldValF
    simp only [m1, Option.bind_some, decide_eq_false (show ¬ (b + ((1 : Nat) : Int) * (v.O.length : Int) < 0) by omega), cond_false]
theorem laws_markBindF_ok (n : Nat) (v : Bind) (b : Int) (h : v.O.length ≤ 1048576) (h' : v.V.O.length ≤ 1048576) (hn : 1048577 < n) (h0 : 0 ≤ b) (h1 : b ≤ 274877906944) : ∃ (y : Bind) (c : Int), b ≤ c ∧ laws_markBindF n v b = some (c, y) ∧ laws_heldBindF n y b = some c := by
  have m0 := laws_markIntSF_ok n v.O b (by omega) (by omega) (by omega) (by omega)
  have m1 := laws_heldIntSF_ok n v.O b (by omega) (by omega) (by omega) (by omega)
  obtain ⟨y, c, k1, k2, k3⟩ := laws_markValF_ok n v.V (b + (1 : Nat) * v.O.length) h' hn (by omega) (by omega)
  refine ⟨⟨markL (fun _ b => b) 1 v.O b, y⟩, c, by omega, ?_, ?_⟩
  · unfold laws_markBindF; simp only [m0, Option.bind_some, k2]
  · unfold laws_heldBindF
    simp only [m1, Option.bind_some, k3, decide_eq_false (show ¬ (b + ((1 : Nat) : Int) * (v.O.length : Int) < 0) by omega), decide_eq_false (show ¬ c < 0 by omega), cond_false]
/-- A list out of which elements are taken, one behind the other. -/
def Holes {α : Type} (xs : List α) (k : Nat) (ys : List (Option α)) : Prop := ys.length = xs.length ∧ ∀ j, k ≤ j → ys[j]? = (xs[j]?).map some
theorem Holes.start {α : Type} (xs : List α) : Holes xs 0 (xs.map some) := ⟨by simp, fun j _ => by simp⟩
theorem Holes.get {α : Type} {xs : List α} {k : Nat} {ys : List (Option α)} (h : Holes xs k ys) (hk : k < xs.length) : idxO ys (k : Int) = some xs[k] := by
  have h1 := h.2 k (Nat.le_refl _)
  rw [List.getElem?_eq_getElem hk] at h1
  unfold idxO
  rw [idx_at h1]
  rfl
theorem Holes.next {α : Type} {xs : List α} {k : Nat} {ys : List (Option α)} (h : Holes xs k ys) : Holes xs (k + 1) (ys.set ((k : Int)).toNat none) := by
  refine ⟨by simp [h.1], fun j hj => ?_⟩
  rw [Int.toNat_natCast, List.getElem?_set_ne (by omega)]
  exact h.2 j (by omega)
theorem impl_LessOidF_eq (n : Nat) : impl_LessOidF n = spec_LessOidF n := by
  have : impl_LessOid_L2 n = spec_LessOid_L2 n := by
    funext m
    induction m with
    | zero => rfl
    | succ m ih => funext xs ys i; simp only [impl_LessOid_L2, spec_LessOid_L2, ih]
  funext xs ys
  unfold impl_LessOidF spec_LessOidF
  rw [this]
  rfl
theorem spec_LessOid_L2_tot (n : Nat) (xs ys : List Int) (h : xs.length ≤ 1048600) : ∀ (m k : Nat), k ≤ xs.length → xs.length < m + k → Tot (spec_LessOid_L2 n m xs ys k)
  | 0, k, h1, h2 => by omega
  | m + 1, k, h1, h2 => by
    rw [spec_LessOid_L2]
    refine Tot.step (fun hk => ?_) .of
    have ih := spec_LessOid_L2_tot n xs ys h m (k + 1) (by omega) (by omega)
    rw [wrap_nat (by omega : k ≤ 1099511627776)]
    refine Tot.bif (fun hy => ?_) (fun _ => .of)
    have hy' := of_decide_eq_true hy
    exact Tot.bind (idx_tot hk) fun _ _ => Tot.bind (idx_tot (by omega)) fun _ _ => Tot.bif (fun _ => Tot.bind (idx_tot hk) fun _ _ => Tot.bind (idx_tot (by omega)) fun _ _ => .of) fun _ => ih
theorem spec_LessOidF_tot (n : Nat) (xs ys : List Int) (h : xs.length ≤ 1048600) (hn : xs.length < n) : Tot (spec_LessOidF n xs ys) := by
  obtain ⟨o, ho⟩ := spec_LessOid_L2_tot n xs ys h n 0 (by omega) (by omega)
  unfold spec_LessOidF
  rw [show spec_LessOid_L2 n n xs ys 0 = _ from ho]
  cases o <;> exact .of
theorem spec_MibNext_L2_both (n : Nat) (xs : List Bind) (o : List Int) (h : xs.length ≤ 100000) (ho : o.length ≤ 1048576) (hn : 1048577 < n) : ∀ (m k : Nat) (ys : List (Option Bind)), k ≤ xs.length → xs.length < m + k → Holes xs k ys → ∃ r, spec_MibNext_L2 n m xs o k = some r ∧ impl_MibNext_L2 n m xs o k ys = some r ∧ (r = .inl () ∨ ∃ v ∈ xs, r = .inr v)
  | 0, k, ys, h1, h2, h3 => by omega
  | m + 1, k, ys, h1, h2, h3 => by
    rw [spec_MibNext_L2, impl_MibNext_L2]
    by_cases hk : k < xs.length
    · obtain ⟨b, b1⟩ := spec_LessOidF_tot n o xs[k].O (by omega) (by omega)
      rw [lt_true hk, cond_true, cond_true, idx_nat hk, h3.get hk, Option.bind_some, Option.bind_some, impl_LessOidF_eq, b1, Option.bind_some, Option.bind_some, wrap_nat (by omega : k ≤ 1099511627776)]
      cases b with
      | true => exact ⟨_, rfl, rfl, .inr ⟨xs[k], List.getElem_mem hk, rfl⟩⟩
      | false => exact spec_MibNext_L2_both n xs o h ho hn m (k + 1) _ (by omega) (by omega) h3.next
    · have he : k = xs.length := by omega
      subst he
      rw [lt_false]
      exact ⟨_, rfl, rfl, .inl rfl⟩
theorem spec_MibNextF_both (n : Nat) (x : Bridge) (o : List Int) (wx : x.wf) (hx : x.sz ≤ 1048576) (ho : o.length ≤ 1048576) (hn : 1048577 < n) : ∃ v : Bind, spec_MibNextF n x o = some v ∧ impl_MibNextF n x o = some v ∧ v.O.length ≤ 1048576 ∧ v.V.O = [] ∧ v.V.S.size ≤ 10 := by
  obtain ⟨zs, h1, h2, h3, h4⟩ := spec_MibListF_both n x wx hx hn
  obtain ⟨r, r1, r2, r3⟩ := spec_MibNext_L2_both n zs o (by omega) ho hn n 0 _ (by omega) (by omega) (Holes.start zs)
  unfold spec_MibNextF impl_MibNextF
  rw [h1, h2, Option.bind_some, Option.bind_some, show spec_MibNext_L2 n n zs o 0 = _ from r1, show impl_MibNext_L2 n n zs o 0 (zs.map some) = _ from r2]
  rcases r3 with rfl | ⟨v, hv, rfl⟩
  · simp only [Option.bind_some, spec_MibNext_J1, impl_MibNext_J1, impl_copyIntsF_eq n o (by omega), List.nil_append]
    rw [decide_eq_true (by simp; omega)]
    exact ⟨_, rfl, rfl, ho, rfl, Nat.le_of_ble_eq_true rfl⟩
  · obtain ⟨q1, q2, q3⟩ := h4 v hv
    exact ⟨_, rfl, rfl, by omega, q2, q3⟩
theorem laws_FnExactMibNext_plain (x0 : Bridge) (x1 : List Int) (w0 : x0.wf) (w1 : listWf intWf x1) : ∃ n, laws_FnExactMibNextF n x0 x1 = some true := by
  refine ⟨2097200, ?_⟩
  unfold laws_FnExactMibNextF
  by_cases hl : (x1.length : Int) > 1048576
  · rw [decide_eq_true hl]; rfl
  · obtain ⟨r, e, k⟩ := laws_szBridgeF_ok 2097200 (x := x0) (b := 1048576) (by decide) (by decide) w0
    simp only [decide_eq_false hl, cond_false, e, Option.bind_some]
    rcases k.neg with ⟨c1, _⟩ | ⟨c1, c2, c3⟩
    · rw [c1]; rfl
    · obtain ⟨v, h1, h2, h3, h4, h5⟩ := spec_MibNextF_both 2097200 x0 x1 w0 (by omega) (by omega) (by omega)
      have hv0 : v.V.O.length = 0 := by rw [h4]; rfl
      have hsz : v.sz = v.O.length + v.V.S.size + v.V.O.length := rfl
      obtain ⟨c, z, k1, k3, m1⟩ := laws_markBridgeF_pos 2097200 x0 (by omega) (by omega)
      have m0 := laws_markIntSF_ok 2097200 x1 c (by omega) (by omega) (by omega) (by omega)
      obtain ⟨z', c', k1', m1', m2'⟩ := laws_markBindF_ok 2097200 v 1 (by omega) (by omega) (by omega) (by omega) (by omega)
      simp only [c1, cond_false, laws_toBridgeF_eq 2097200 x0 (by omega) (by omega), laws_toIntSF_eq 2097200 x1 (by omega) (by omega), Option.bind_some, h1, h2, laws_eqBridgeF_refl 2097200 x0 (by omega) (by omega), laws_eqIntSF_refl 2097200 x1 (by omega) (by omega), laws_eqBindF_refl 2097200 v (by omega) (by omega), m1, m0, m1', m2', decide_eq_false (show ¬ (c + ((1 : Nat) : Int) * (x1.length : Int) < 0) by omega), decide_eq_false (show ¬ c' < 0 by omega), bne_self_eq_false, Bool.not_true]
end Go.Proofs.Ytjdedhklbdkeoaa.Tw
