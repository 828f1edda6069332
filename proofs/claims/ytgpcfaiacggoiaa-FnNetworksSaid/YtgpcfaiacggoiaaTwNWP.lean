/- What the functions answer, on plain data. -/
import Derived.Test.YtgpcfaiacggoiaaTwNW
import Derived.Test.YtgpcfaiacggoiaaTlPlain
set_option linter.unusedVariables false
set_option linter.unusedSimpArgs false
set_option maxRecDepth 100000
set_option maxHeartbeats 1000000
namespace Go.Proofs.Ytgpcfaiacggoiaa.Tw
open Go Go.TL Go.Proofs
def Vtab.sz (x : Vtab) : Nat := x.Rows.length + x.Pvid.length
theorem impl_RowAt_L2_eq (n : Nat) : impl_RowAt_L2 n = spec_RowAt_L2 n := by
  funext m
  induction m with
  | zero => rfl
  | succ m ih => funext x i y; simp only [impl_RowAt_L2, spec_RowAt_L2, ih]
theorem impl_RowAtF_eq (n : Nat) : impl_RowAtF n = spec_RowAtF n := by
  funext x i; simp only [impl_RowAtF, spec_RowAtF, impl_RowAt_L2_eq]; rfl
theorem spec_RowAtF_ok (n : Nat) (x : Vtab) (id : Int) (h : x.Rows.length ≤ 1048580) (hn : x.Rows.length < n) : ∃ r, spec_RowAtF n x id = some r ∧ (r = -1 ∧ (∀ v ∈ x.Rows, v.Id ≠ id) ∨ ∃ v, 0 ≤ r ∧ idx x.Rows r = some v ∧ v.Id = id) := by
  unfold spec_RowAtF
  have hf := find_loop (L := fun m xs i => spec_RowAt_L2 n m ⟨xs, x.Pvid⟩ id i) (p := fun i v => bif v.Id == id then some i else none) (fun m xs i => by
    show (bif _ then _ else _) = _
    congr 1
    congr 1
    funext v
    cases (v.Id == id) <;> rfl) x.Rows (by omega) n 0 (by omega) (by omega)
  rcases hf with ⟨e1, e2⟩ | ⟨j, hj, r, e1, e2, e3, e4⟩
  · rw [show spec_RowAt_L2 n n x id 0 = _ from e1]
    refine ⟨-1, rfl, .inl ⟨rfl, fun v hv => ?_⟩⟩
    obtain ⟨j, hj, rfl⟩ := List.getElem_of_mem hv
    have := e2 j hj (by omega)
    intro hid
    simp [hid] at this
  · rw [show spec_RowAt_L2 n n x id 0 = _ from e4]
    have hid : (x.Rows[j].Id == id) = true := by
      cases hc : (x.Rows[j].Id == id) with
      | true => rfl
      | false => rw [hc] at e2; cases e2
    rw [hid] at e2
    cases e2
    exact ⟨_, rfl, .inr ⟨_, by omega, idx_nat hj, by simpa using hid⟩⟩
theorem spec_l1InF_tot (n : Nat) (a b c : Int) : Tot (spec_l1InF n a b c) := Tot.bif (fun _ => .of) (fun _ => .of)
theorem wrapU {k : Nat} (h : k ≤ 1099511627776) : IntKind.wrap .u64 (k : Int) = k := by
  show ((k : Int) % 18446744073709551616) = k
  omega
theorem impl_inF_eq (n : Nat) : impl_inF n = spec_l1InF n := rfl
theorem spec_l1InF_val (n : Nat) (a b c : Int) : spec_l1InF n a b c = some (decide (b ≤ a) && decide (a ≤ c)) := by
  unfold spec_l1InF
  by_cases h : a ≥ b
  · rw [decide_eq_true h]; rfl
  · rw [decide_eq_false h]; rfl
theorem spec_VtabOk_mask {p : Int} (h0 : 1 ≤ p) (h1 : p ≤ 6) : ∃ a : Int, 0 ≤ a ∧ a < 9223372036854775808 ∧ (IntKind.wrap .i64 ((IntKind.wrap .i64 (1 * 2 ^ min ((IntKind.wrap .u64 p)).toNat (IntKind.bits .i64))) - 1)) = a ∧ (IntKind.wrap .i64 ((IntKind.wrap .i64 (1 * 2 ^ min (p).toNat (IntKind.bits .i64))) - 1)) = a ∧ decide (0 ≤ (IntKind.wrap .u64 p)) = true ∧ decide (0 ≤ p) = true := by
  have hc : p = 1 ∨ p = 2 ∨ p = 3 ∨ p = 4 ∨ p = 5 ∨ p = 6 := by omega
  rcases hc with rfl | rfl | rfl | rfl | rfl | rfl
  · exact ⟨1, by decide, by decide, by decide, by decide, by decide, by decide⟩
  · exact ⟨3, by decide, by decide, by decide, by decide, by decide, by decide⟩
  · exact ⟨7, by decide, by decide, by decide, by decide, by decide, by decide⟩
  · exact ⟨15, by decide, by decide, by decide, by decide, by decide, by decide⟩
  · exact ⟨31, by decide, by decide, by decide, by decide, by decide, by decide⟩
  · exact ⟨63, by decide, by decide, by decide, by decide, by decide, by decide⟩
theorem spec_VtabOk_L4_both (n : Nat) (x0 : Vtab) (w0 : x0.wf) (x1 : Int) (hp0 : 1 ≤ x1) (hp1 : x1 ≤ 6) (h : x0.Rows.length ≤ 1048580) : ∀ (m k : Nat), k ≤ x0.Rows.length → x0.Rows.length < m + k → impl_VtabOk_L4 n m x0 x1 k = spec_VtabOk_L4 n m x0 x1 k ∧ Tot (spec_VtabOk_L4 n m x0 x1 k)
  | 0, k, h1, h2 => by omega
  | m + 1, k, h1, h2 => by
    rw [spec_VtabOk_L4, impl_VtabOk_L4]
    by_cases hk : k < x0.Rows.length
    · obtain ⟨ih1, o, ih2⟩ := spec_VtabOk_L4_both n x0 w0 x1 hp0 hp1 h m (k + 1) (by omega) (by omega)
      obtain ⟨a, ha0, ha1, ha2, ha3, ha4, ha5⟩ := spec_VtabOk_mask hp0 hp1
      have hk' : decide ((k : Int) < (x0.Rows.length : Int)) = true := decide_eq_true (by omega)
      have hv : x0.Rows[k] ∈ x0.Rows := List.getElem_mem hk
      have hi := idx_nat hk
      generalize x0.Rows[k] = v at hv hi
      have hw := w0.1.2 v hv
      have hin : impl_allPortsF n x1 = some a := by unfold impl_allPortsF; rw [ha5, ha3]; rfl
      simp only [hk', wrap_nat (by omega : k ≤ 1099511627776), hi, Option.bind_some, cond_true, ih1, ih2, hin, impl_inF_eq, spec_l1InF_val, ha2]
      have hbits := fun hm0 hm1 => bits_in (B := v.Bare) (M := v.Members) hw.2.2.1 hm0 hm1
      by_cases hm : 0 ≤ v.Members ∧ v.Members ≤ a
      · have hb := hbits hm.1 (by omega)
        simp only [decide_eq_true hm.1, decide_eq_true hm.2, Bool.and_self, Bool.not_true, cond_false]
        by_cases hz : IntKind.wrap .i64 (BitVec.ofInt (IntKind.bits .i64) v.Bare &&& ~~~BitVec.ofInt (IntKind.bits .i64) v.Members).toNat = 0
        · have h3 := hb.1 hz
          have hz' : ((IntKind.wrap .i64 (BitVec.ofInt (IntKind.bits .i64) v.Bare &&& ~~~BitVec.ofInt (IntKind.bits .i64) v.Members).toNat) != 0) = false := by rw [hz]; rfl
          have hy' : ((IntKind.wrap .i64 (BitVec.ofInt (IntKind.bits .i64) v.Bare &&& BitVec.ofInt (IntKind.bits .i64) v.Members).toNat) != v.Bare) = false := by rw [h3.2.2]; simp
          simp only [hz', hy', decide_eq_true h3.1, decide_eq_true (show v.Bare ≤ a by omega), Bool.and_self, Bool.not_true, cond_false]
          cases k with
          | zero => cases (decide (1 ≤ v.Id) && decide (v.Id ≤ 99)) <;> exact ⟨by trivial, Tot.of⟩
          | succ k =>
            have hw2 : IntKind.wrap .i64 (((k + 1 : Nat) : Int) - 1) = (k : Int) := by rw [wrap64 (by omega) (by omega)]; omega
            have hpos : decide (((k + 1 : Nat) : Int) > 0) = true := decide_eq_true (by omega)
            simp only [hw2, hpos, cond_true, idx_nat (show k < x0.Rows.length by omega), Option.bind_some]
            cases (decide (1 ≤ v.Id) && decide (v.Id ≤ 99)) <;> cases (decide ((x0.Rows[k]'(by omega)).Id ≥ v.Id)) <;> exact ⟨by trivial, Tot.of⟩
        · have hz' : ((IntKind.wrap .i64 (BitVec.ofInt (IntKind.bits .i64) v.Bare &&& ~~~BitVec.ofInt (IntKind.bits .i64) v.Members).toNat) != 0) = true := by simpa using hz
          have h3 : (decide (0 ≤ v.Bare) && decide (v.Bare ≤ a)) = false ∨ ((IntKind.wrap .i64 (BitVec.ofInt (IntKind.bits .i64) v.Bare &&& BitVec.ofInt (IntKind.bits .i64) v.Members).toNat) != v.Bare) = true := by
            by_cases hq : ((IntKind.wrap .i64 (BitVec.ofInt (IntKind.bits .i64) v.Bare &&& BitVec.ofInt (IntKind.bits .i64) v.Members).toNat) != v.Bare) = true
            · exact .inr hq
            · left
              simp at hq
              by_cases hr : 0 ≤ v.Bare ∧ v.Bare ≤ a
              · have hle := bits_le hw.2.2.1 hm.1 (by omega) hq
                exact absurd (hb.2 ⟨hle.1, hle.2, hq⟩) hz
              · simp only [Bool.and_eq_false_iff, decide_eq_false_iff_not]; omega
          simp only [hz', cond_true]
          have hspec : (bif !(decide (0 ≤ v.Bare) && decide (v.Bare ≤ a)) then some (Sum.inr false) else bif ((IntKind.wrap .i64 (BitVec.ofInt (IntKind.bits .i64) v.Bare &&& BitVec.ofInt (IntKind.bits .i64) v.Members).toNat) != v.Bare) then some (Sum.inr false) else (bif decide ((k : Int) > 0) then (idx x0.Rows (IntKind.wrap .i64 ((k : Int) - 1))).bind fun v13 => bif decide (v13.Id ≥ v.Id) then some (Sum.inr false) else some o else some o)) = (some (Sum.inr false) : Option (Unit ⊕ Bool)) := by
            rcases h3 with h3 | h3
            · rw [h3]; rfl
            · rw [h3]; cases (decide (0 ≤ v.Bare) && decide (v.Bare ≤ a)) <;> rfl
          rw [hspec]
          cases k with
          | zero => cases (decide (1 ≤ v.Id) && decide (v.Id ≤ 99)) <;> exact ⟨by trivial, Tot.of⟩
          | succ k =>
            have hw2 : IntKind.wrap .i64 (((k + 1 : Nat) : Int) - 1) = (k : Int) := by rw [wrap64 (by omega) (by omega)]; omega
            have hpos : decide (((k + 1 : Nat) : Int) > 0) = true := decide_eq_true (by omega)
            simp only [hw2, hpos, cond_true, idx_nat (show k < x0.Rows.length by omega), Option.bind_some]
            cases (decide (1 ≤ v.Id) && decide (v.Id ≤ 99)) <;> cases (decide ((x0.Rows[k]'(by omega)).Id ≥ v.Id)) <;> exact ⟨by trivial, Tot.of⟩
      · have hm' : (decide (0 ≤ v.Members) && decide (v.Members ≤ a)) = false := by
          simp only [Bool.and_eq_false_iff, decide_eq_false_iff_not]; omega
        simp only [hm', Bool.not_false, cond_true]
        cases k with
        | zero => cases (decide (1 ≤ v.Id) && decide (v.Id ≤ 99)) <;> exact ⟨by trivial, Tot.of⟩
        | succ k =>
          have hw2 : IntKind.wrap .i64 (((k + 1 : Nat) : Int) - 1) = (k : Int) := by rw [wrap64 (by omega) (by omega)]; omega
          have hpos : decide (((k + 1 : Nat) : Int) > 0) = true := decide_eq_true (by omega)
          simp only [hw2, hpos, cond_true, idx_nat (show k < x0.Rows.length by omega), Option.bind_some]
          cases (decide (1 ≤ v.Id) && decide (v.Id ≤ 99)) <;> cases (decide ((x0.Rows[k]'(by omega)).Id ≥ v.Id)) <;> exact ⟨by trivial, Tot.of⟩
    · have hk' : decide ((k : Int) < (x0.Rows.length : Int)) = false := decide_eq_false (by omega)
      rw [hk']
      exact ⟨by trivial, Tot.of⟩
theorem spec_VtabOk_L3_both (n : Nat) (x0 : Vtab) (h : x0.Rows.length ≤ 1048580) (hn : x0.Rows.length < n) (hq : x0.Pvid.length ≤ 1048580) : ∀ (m k : Nat), k ≤ x0.Pvid.length → x0.Pvid.length < m + k → impl_VtabOk_L3 n m x0 k = spec_VtabOk_L3 n m x0 k ∧ Tot (spec_VtabOk_L3 n m x0 k)
  | 0, k, h1, h2 => by omega
  | m + 1, k, h1, h2 => by
    rw [spec_VtabOk_L3, impl_VtabOk_L3]
    by_cases hk : k < x0.Pvid.length
    · obtain ⟨ih1, o, ih2⟩ := spec_VtabOk_L3_both n x0 h hn hq m (k + 1) (by omega) (by omega)
      have hk' : decide ((k : Int) < (x0.Pvid.length : Int)) = true := decide_eq_true (by omega)
      obtain ⟨r, hr, _⟩ := spec_RowAtF_ok n x0 x0.Pvid[k] h hn
      simp only [hk', wrap_nat (by omega : k ≤ 1099511627776), idx_nat hk, Option.bind_some, cond_true, ih1, ih2, impl_RowAtF_eq, hr]
      cases decide (r < 0) <;> exact ⟨by trivial, Tot.of⟩
    · have hk' : decide ((k : Int) < (x0.Pvid.length : Int)) = false := decide_eq_false (by omega)
      rw [hk']
      exact ⟨by trivial, Tot.of⟩
theorem spec_VtabOkF_both (n : Nat) (x0 : Vtab) (w0 : x0.wf) (x1 : Int) (h : x0.sz ≤ 1048580) (hn : x0.sz < n) : impl_VtabOkF n x0 x1 = spec_VtabOkF n x0 x1 ∧ Tot (spec_VtabOkF n x0 x1) := by
  have hs : x0.Rows.length + x0.Pvid.length = x0.sz := rfl
  unfold impl_VtabOkF spec_VtabOkF
  simp only [impl_inF_eq, spec_l1InF_val, Option.bind_some]
  by_cases hp : 1 ≤ x1 ∧ x1 ≤ 6
  · obtain ⟨a, ha0, ha1, ha2, ha3, ha4, ha5⟩ := spec_VtabOk_mask hp.1 hp.2
    obtain ⟨e1, o, e2⟩ := spec_VtabOk_L4_both n x0 w0 x1 hp.1 hp.2 (by omega) n 0 (by omega) (by omega)
    obtain ⟨f1, q, f2⟩ := spec_VtabOk_L3_both n x0 (by omega) (by omega) (by omega) n 0 (by omega) (by omega)
    have e1' : impl_VtabOk_L4 n n x0 x1 0 = some o := e1.trans e2
    have e2' : spec_VtabOk_L4 n n x0 x1 0 = some o := e2
    have f1' : impl_VtabOk_L3 n n x0 0 = some q := f1.trans f2
    have f2' : spec_VtabOk_L3 n n x0 0 = some q := f2
    simp only [decide_eq_true hp.1, decide_eq_true hp.2, Bool.and_self, Bool.not_true, cond_false, ha4, cond_true, e1', e2', Option.bind_some]
    cases o with
    | inl u =>
      simp only [impl_VtabOk_J1, spec_VtabOk_J1, f1', f2', Option.bind_some]
      cases q <;> exact ⟨rfl, Tot.bif (fun _ => .of) fun _ => Tot.bif (fun _ => .of) fun _ => .of⟩
    | inr r => exact ⟨rfl, Tot.bif (fun _ => .of) fun _ => Tot.bif (fun _ => .of) fun _ => .of⟩
  · have hp' : (decide (1 ≤ x1) && decide (x1 ≤ 6)) = false := by
      simp only [Bool.and_eq_false_iff, decide_eq_false_iff_not]; omega
    rw [hp']
    exact ⟨by trivial, Tot.of⟩
theorem spec_l9CopyF_eq (n : Nat) (x : Vtab) (h : x.sz ≤ 268435456) : spec_l9CopyF n x = some x := by
  have hs : x.Rows.length + x.Pvid.length = x.sz := rfl
  unfold spec_l9CopyF
  simp only [List.length_nil, Nat.zero_add, decide_eq_true (show x.Rows.length ≤ 268435456 by omega), decide_eq_true (show x.Pvid.length ≤ 268435456 by omega), cond_true, List.nil_append]
theorem impl_copyVtabF_eq (n : Nat) (x : Vtab) (h : x.sz ≤ 268435456) : impl_copyVtabF n x = some x := by
  have hs : x.Rows.length + x.Pvid.length = x.sz := rfl
  unfold impl_copyVtabF impl_copyIntsF
  simp only [List.length_nil, Nat.zero_add, decide_eq_true (show x.Rows.length ≤ 268435456 by omega), decide_eq_true (show x.Pvid.length ≤ 268435456 by omega), cond_true, List.nil_append, Option.bind_some]
theorem turned_both (n : Nat) (x y : Vtab) (wx : x.wf) (wy : y.wf) (hp : y.Pvid.length = x.Pvid.length) (hx : x.sz ≤ 1048576) (hy : y.sz ≤ 1048577) (hn : 1048577 < n) : ∃ a b, spec_VtabOkF n x (x.Pvid.length : Int) = some a ∧ spec_VtabOkF n y (x.Pvid.length : Int) = some b ∧ spec_l9OrF n y x = some (bif b then (y, true) else (x, false)) ∧ impl_turnedF n x y = some (bif a && b then (y, true) else (x, false)) := by
  obtain ⟨e1, a, ha⟩ := spec_VtabOkF_both n x wx (x.Pvid.length : Int) (by omega) (by omega)
  obtain ⟨e2, b, hb⟩ := spec_VtabOkF_both n y wy (x.Pvid.length : Int) (by omega) (by omega)
  refine ⟨a, b, ha, hb, ?_, ?_⟩
  · unfold spec_l9OrF
    rw [hb, Option.bind_some, spec_l9CopyF_eq n x (by omega)]
    cases b <;> rfl
  · unfold impl_turnedF
    rw [e1, e2, ha, hb, impl_copyVtabF_eq n x (by omega)]
    cases a <;> cases b <;> rfl
theorem listWf_sub {α : Type} {wf : α → Prop} {xs ys : List α} (h : listWf wf xs) (hs : ∀ y ∈ ys, y ∈ xs) (hl : ys.length ≤ xs.length) : listWf wf ys := ⟨Nat.le_trans hl h.1, fun y hy => h.2 y (hs y hy)⟩
theorem spec_DropRowF_both (n : Nat) (x : Vtab) (id : Int) (wx : x.wf) (hx : x.sz ≤ 1048576) (hn : 1048577 < n) : ∃ y b, spec_DropRowF n x id = some (y, b) ∧ impl_DropRowF n x id = some (y, b) ∧ y.sz ≤ 1048576 := by
  have hs : x.Rows.length + x.Pvid.length = x.sz := rfl
  obtain ⟨r, hr, hk⟩ := spec_RowAtF_ok n x id (by omega) (by omega)
  obtain ⟨e1, a, ha⟩ := spec_VtabOkF_both n x wx (x.Pvid.length : Int) (by omega) (by omega)
  rcases hk with ⟨rfl, _⟩ | ⟨v, h0, hv, _⟩
  · refine ⟨x, false, ?_, ?_, hx⟩
    · simp only [spec_DropRowF, hr, ha, Option.bind_some, spec_l9CopyF_eq n x (by omega)]
      cases a <;> rfl
    · simp only [impl_DropRowF, impl_RowAtF_eq, hr, Option.bind_some, impl_copyVtabF_eq n x (by omega)]
      rfl
  · obtain ⟨g1, g2⟩ := idx_get hv
    have hlt : r.toNat < x.Rows.length := (List.getElem?_eq_some_iff.1 g2).1
    obtain ⟨k, rfl⟩ : ∃ k : Nat, r = k := ⟨r.toNat, by omega⟩
    simp only [Int.toNat_natCast] at hlt
    have hw : IntKind.wrap .i64 ((k : Int) + 1) = ((k + 1 : Nat) : Int) := wrap_nat (by omega)
    have hlist : (([] : List Vrow) ++ ((x.Rows.drop ((0 : Int)).toNat).take (((k : Int)).toNat - ((0 : Int)).toNat))) ++ ((x.Rows.drop ((((k + 1 : Nat) : Int))).toNat).take ((((x.Rows.length : Int) : Int)).toNat - ((((k + 1 : Nat) : Int))).toNat)) = x.Rows.take k ++ x.Rows.drop (k + 1) := by
      simp only [Int.toNat_natCast, List.nil_append, show ((0 : Int)).toNat = 0 from rfl, List.drop_zero, Nat.sub_zero]
      congr 1
      exact List.take_of_length_le (by simp)
    have wy : (⟨x.Rows.take k ++ x.Rows.drop (k + 1), x.Pvid⟩ : Vtab).wf := ⟨listWf_sub wx.1 (fun y hy => by
      rcases List.mem_append.1 hy with h | h
      · exact List.mem_of_mem_take h
      · exact List.mem_of_mem_drop h) (by simp; omega), wx.2⟩
    have hysz : (⟨x.Rows.take k ++ x.Rows.drop (k + 1), x.Pvid⟩ : Vtab).sz ≤ 1048576 := by
      show (x.Rows.take k ++ x.Rows.drop (k + 1)).length + x.Pvid.length ≤ 1048576
      simp; omega
    obtain ⟨a', b, f1, f2, f3, f4⟩ := turned_both n x _ wx wy rfl hx (by omega) hn
    rw [ha] at f1
    cases f1
    have hg1 : (decide ((0 : Int) ≤ 0) && (decide ((0 : Int) ≤ (k : Int)) && decide ((k : Int) ≤ (x.Rows.length : Int)))) = true := by
      rw [decide_eq_true (by omega : (0 : Int) ≤ (k : Int)), decide_eq_true (by omega : (k : Int) ≤ (x.Rows.length : Int))]; rfl
    have hg2 : (decide ((0 : Int) ≤ ((k + 1 : Nat) : Int)) && (decide ((((k + 1 : Nat) : Int) : Int) ≤ (x.Rows.length : Int)) && decide (((x.Rows.length : Int) : Int) ≤ (x.Rows.length : Int)))) = true := by
      rw [decide_eq_true (by omega : (0 : Int) ≤ ((k + 1 : Nat) : Int)), decide_eq_true (by omega : ((k + 1 : Nat) : Int) ≤ (x.Rows.length : Int)), decide_eq_true (Int.le_refl _)]; rfl
    have hg3 : decide (([] : List Vrow).length + ((x.Rows.drop ((0 : Int)).toNat).take (((k : Int)).toNat - ((0 : Int)).toNat)).length ≤ 268435456) = true := decide_eq_true (by simp; omega)
    have hg4 : decide ((([] : List Vrow) ++ ((x.Rows.drop ((0 : Int)).toNat).take (((k : Int)).toNat - ((0 : Int)).toNat))).length + ((x.Rows.drop ((((k + 1 : Nat) : Int))).toNat).take ((((x.Rows.length : Int) : Int)).toNat - ((((k + 1 : Nat) : Int))).toNat)).length ≤ 268435456) = true := decide_eq_true (by simp; omega)
    have hn0 : decide ((k : Int) < 0) = false := decide_eq_false (by omega)
    have hn1 : decide ((k : Int) ≥ 0) = true := decide_eq_true (by omega)
    refine ⟨(bif a && b then (⟨x.Rows.take k ++ x.Rows.drop (k + 1), x.Pvid⟩, true) else (x, false) : Vtab × Bool).1, (bif a && b then (⟨x.Rows.take k ++ x.Rows.drop (k + 1), x.Pvid⟩, true) else (x, false) : Vtab × Bool).2, ?_, ?_, ?_⟩
    · simp only [spec_DropRowF, hr, ha, Option.bind_some, spec_l9CopyF_eq n x (by omega), hn0, cond_false, hw, hg1, hg2, hg3, hg4, cond_true, hlist, f3]
      cases a <;> cases b <;> rfl
    · have hle : decide ((k : Int) ≤ (x.Rows.length : Int)) = true := decide_eq_true (by omega)
      have h00 : decide ((0 : Int) ≤ 0) = true := rfl
      simp only [impl_DropRowF, impl_withoutRowF, impl_RowAtF_eq, hr, Option.bind_some, impl_copyVtabF_eq n x (by omega), hn0, hn1, cond_false, hw, hle, h00, hg2, hg3, hg4, Bool.and_self, cond_true, hlist, f4]
    · cases a <;> cases b <;> first | exact hx | exact hysz
theorem listWf_set {α : Type} {wf : α → Prop} {xs : List α} {i : Nat} {v : α} (h : listWf wf xs) (hv : wf v) : listWf wf (xs.set i v) := ⟨by rw [List.length_set]; exact h.1, fun y hy => by
  rcases List.mem_or_eq_of_mem_set hy with h1 | h1
  · exact h.2 y h1
  · rw [h1]; exact hv⟩
def Src.ok (c : Src) : Prop := 0 ≤ c.i ∧ c.b.length ≤ 1099511627776
theorem and255 (z : Int) : ∃ v : Int, (IntKind.wrap .i64 (BitVec.ofInt (IntKind.bits .i64) z &&& BitVec.ofInt (IntKind.bits .i64) 255).toNat) = v ∧ 0 ≤ v ∧ v ≤ 255 := by
  have h : (BitVec.ofInt 64 z &&& BitVec.ofInt 64 255).toNat ≤ 255 := by
    rw [BitVec.toNat_and]
    exact Nat.le_trans Nat.and_le_right (by decide)
  refine ⟨((BitVec.ofInt 64 z &&& BitVec.ofInt 64 255).toNat : Int), ?_, by omega, by omega⟩
  exact wrap64 (z := ((BitVec.ofInt 64 z &&& BitVec.ofInt 64 255).toNat : Int)) (by omega) (by omega)
theorem spec_l1ByteF_ok (n : Nat) (c : Src) (h : c.ok) : ∃ v c', spec_l1ByteF n c = some (v, c') ∧ 0 ≤ v ∧ v ≤ 255 ∧ c'.ok := by
  unfold spec_l1ByteF
  rw [show decide ((0 : Int) ≤ 33) = true from rfl, show decide ((0 : Int) ≤ 47) = true from rfl]
  simp only [cond_true]
  by_cases hi : c.i < (c.b.length : Int)
  · obtain ⟨v, hv, _⟩ := idx_of (xs := c.b) h.1 hi
    rw [decide_eq_true hi, hv, wrap64 (z := c.i + 1) (by have := h.1; omega) (by have := h.2; omega)]
    obtain ⟨w, e, e1, e2⟩ := and255 (IntKind.wrap .i64 ((IntKind.wrap .i64 (BitVec.ofInt (IntKind.bits .i64) (IntKind.wrap .i64 (BitVec.ofInt (IntKind.bits .i64) (Int.fdiv (IntKind.wrap .i64 ((IntKind.wrap .i64 (c.h * 6364136223846793005)) + 1442695040888963407)) (2 ^ min ((33 : Int)).toNat (IntKind.bits .i64))) ^^^ BitVec.ofInt (IntKind.bits .i64) (Int.fdiv (IntKind.wrap .i64 ((IntKind.wrap .i64 (c.h * 6364136223846793005)) + 1442695040888963407)) (2 ^ min ((47 : Int)).toNat (IntKind.bits .i64)))).toNat) &&& BitVec.ofInt (IntKind.bits .i64) 255).toNat) + (IntKind.wrap .i64 v)))
    simp only [cond_true, Option.bind_some]
    exact ⟨_, _, rfl, by rw [e]; exact e1, by rw [e]; exact e2, by have := h.1; show 0 ≤ c.i + 1; omega, h.2⟩
  · rw [decide_eq_false hi]
    obtain ⟨w, e, e1, e2⟩ := and255 (IntKind.wrap .i64 (BitVec.ofInt (IntKind.bits .i64) (Int.fdiv (IntKind.wrap .i64 ((IntKind.wrap .i64 (c.h * 6364136223846793005)) + 1442695040888963407)) (2 ^ min ((33 : Int)).toNat (IntKind.bits .i64))) ^^^ BitVec.ofInt (IntKind.bits .i64) (Int.fdiv (IntKind.wrap .i64 ((IntKind.wrap .i64 (c.h * 6364136223846793005)) + 1442695040888963407)) (2 ^ min ((47 : Int)).toNat (IntKind.bits .i64)))).toNat)
    simp only [cond_false]
    exact ⟨_, _, rfl, by rw [e]; exact e1, by rw [e]; exact e2, h.1, h.2⟩
theorem tmod_in {v k : Int} (h0 : 0 ≤ v) (hk : 0 < k) : 0 ≤ Int.tmod v k ∧ Int.tmod v k < k := by
  rw [Int.tmod_eq_emod_of_nonneg h0]
  exact ⟨Int.emod_nonneg _ (by omega), Int.emod_lt_of_pos _ hk⟩
theorem spec_l1BelowF_ok (n : Nat) (c : Src) (k : Int) (h : c.ok) : ∃ v c', spec_l1BelowF n c k = some (v, c') ∧ 0 ≤ v ∧ (0 < k → v < k) ∧ c'.ok := by
  unfold spec_l1BelowF
  by_cases h1 : k ≤ 0
  · rw [decide_eq_true h1]
    exact ⟨0, c, rfl, by omega, fun h => by omega, h⟩
  · rw [decide_eq_false h1]
    have hne : decide ((k : Int) ≠ 0) = true := decide_eq_true (by omega)
    by_cases h2 : k ≤ 256
    · rw [decide_eq_true h2]
      obtain ⟨v, c', e, e1, e2, e3⟩ := spec_l1ByteF_ok n c h
      simp only [cond_true, cond_false, e, Option.bind_some, hne]
      obtain ⟨t1, t2⟩ := tmod_in e1 (show 0 < k by omega)
      exact ⟨_, _, rfl, t1, fun _ => t2, e3⟩
    · rw [decide_eq_false h2]
      obtain ⟨v1, c1, e, e1, e2, e3⟩ := spec_l1ByteF_ok n c h
      obtain ⟨v2, c2, f, f1, f2, f3⟩ := spec_l1ByteF_ok n c1 e3
      obtain ⟨v3, c3, g, g1, g2, g3⟩ := spec_l1ByteF_ok n c2 f3
      simp only [cond_false, e, f, g, Option.bind_some, hne, cond_true]
      simp (disch := omega) only [wrap64]
      obtain ⟨t1, t2⟩ := tmod_in (show 0 ≤ v1 * 65536 + v2 * 256 + v3 by omega) (show 0 < k by omega)
      exact ⟨_, _, rfl, t1, fun _ => t2, g3⟩
theorem spec_l1OnceF_ok (n : Nat) (c : Src) (k : Int) (h : c.ok) : ∃ v c', spec_l1OnceF n c k = some (v, c') ∧ c'.ok := by
  obtain ⟨v, c', e, _, _, e3⟩ := spec_l1BelowF_ok n c k h
  unfold spec_l1OnceF
  rw [e]
  exact ⟨_, _, rfl, e3⟩
theorem spec_l1IntF_ok (n : Nat) (c : Src) (xs : List Int) (h : c.ok) (hx : 0 < xs.length) : ∃ v c', spec_l1IntF n c xs = some (v, c') ∧ v ∈ xs ∧ c'.ok := by
  obtain ⟨v, c', e, e1, e2, e3⟩ := spec_l1BelowF_ok n c (xs.length : Int) h
  obtain ⟨u, hu, hm⟩ := idx_of (xs := xs) e1 (e2 (by omega))
  unfold spec_l1IntF
  simp only [e, hu, Option.bind_some]
  exact ⟨_, _, rfl, hm, e3⟩
theorem spec_l1New_L2_tot (n : Nat) (x0 : List Int) (h : x0.length ≤ 1048580) : ∀ (m k : Nat) (y : Int), k ≤ x0.length → x0.length < m + k → ∃ v, spec_l1New_L2 n m x0 k y = some (.inl v)
  | 0, k, y, h1, h2 => by omega
  | m + 1, k, y, h1, h2 => by
    rw [spec_l1New_L2]
    by_cases hk : k < x0.length
    · rw [lt_true hk, idx_nat hk, wrap_nat (by omega)]
      by_cases h4 : (k : Int) < 4000
      · rw [decide_eq_true h4]
        simp only [cond_true, Option.bind_some]
        exact spec_l1New_L2_tot n x0 h m (k + 1) _ (by omega) (by omega)
      · rw [decide_eq_false h4]
        exact ⟨_, rfl⟩
    · have he : k = x0.length := by omega
      rw [he, lt_false]
      exact ⟨_, rfl⟩
theorem spec_l1NewF_ok (n : Nat) (x0 : List Int) (h : x0.length ≤ 1048580) (hn : x0.length < n) : ∃ c, spec_l1NewF n x0 = some c ∧ c.ok := by
  obtain ⟨v, e⟩ := spec_l1New_L2_tot n x0 h n 0 (IntKind.wrap .i64 (762762 + (x0.length : Int))) (by omega) (by omega)
  unfold spec_l1NewF
  rw [show spec_l1New_L2 n n x0 0 (IntKind.wrap .i64 (762762 + (x0.length : Int))) = _ from e]
  exact ⟨_, rfl, by show (0 : Int) ≤ 0; omega, by show x0.length ≤ _; omega⟩
/-- The rows are in order. -/
def sortedFrom (xs : List Vrow) (k : Nat) : Prop := ∀ j (hj : j + 1 < xs.length), k ≤ j + 1 → xs[j].Id < xs[j + 1].Id
theorem spec_VtabOk_L4_sorted (n : Nat) (x0 : Vtab) (x1 : Int) (h : x0.Rows.length ≤ 1048580) : ∀ (m k : Nat) (o : Unit ⊕ Bool), k ≤ x0.Rows.length → spec_VtabOk_L4 n m x0 x1 k = some o → o = .inr false ∨ sortedFrom x0.Rows k
  | 0, k, o, h1, h2 => by cases h2
  | m + 1, k, o, h1, h2 => by
    rw [spec_VtabOk_L4] at h2
    by_cases hk : k < x0.Rows.length
    · rw [lt_true hk, idx_nat hk, wrap_nat (by omega)] at h2
      simp only [cond_true, Option.bind_some, spec_l1InF_val] at h2
      have rec' : ∀ o, spec_VtabOk_L4 n m x0 x1 ((k + 1 : Nat) : Int) = some o → (k = 0 ∨ ∃ hk0 : 0 < k, (x0.Rows[k - 1]'(by omega)).Id < x0.Rows[k].Id) → o = .inr false ∨ sortedFrom x0.Rows k := fun o ho hs => by
        rcases spec_VtabOk_L4_sorted n x0 x1 h m (k + 1) o (by omega) ho with e | e
        · exact .inl e
        · right
          intro j hj hkj
          by_cases hjk : k = j + 1
          · subst hjk
            rcases hs with hs | ⟨_, hs⟩
            · omega
            · simpa using hs
          · exact e j hj (by omega)
      revert h2
      cases (decide (1 ≤ x0.Rows[k].Id) && decide (x0.Rows[k].Id ≤ 99)) with
      | false => intro h2; left; exact (Option.some.inj h2).symm
      | true =>
        simp only [Bool.not_true, cond_false]
        cases (decide (0 ≤ x0.Rows[k].Members) && decide (x0.Rows[k].Members ≤ _)) with
        | false => intro h2; left; exact (Option.some.inj h2).symm
        | true =>
          simp only [Bool.not_true, cond_false]
          cases (decide (0 ≤ x0.Rows[k].Bare) && decide (x0.Rows[k].Bare ≤ _)) with
          | false => intro h2; left; exact (Option.some.inj h2).symm
          | true =>
            simp only [Bool.not_true, cond_false]
            cases ((IntKind.wrap .i64 (BitVec.ofInt (IntKind.bits .i64) x0.Rows[k].Bare &&& BitVec.ofInt (IntKind.bits .i64) x0.Rows[k].Members).toNat) != x0.Rows[k].Bare) with
            | true => intro h2; left; exact (Option.some.inj h2).symm
            | false =>
              simp only [cond_false]
              by_cases hk0 : 0 < k
              · have hw2 : IntKind.wrap .i64 ((k : Int) - 1) = ((k - 1 : Nat) : Int) := by rw [wrap64 (by omega) (by omega)]; omega
                rw [decide_eq_true (show (k : Int) > 0 by omega), hw2, idx_nat (show k - 1 < x0.Rows.length by omega)]
                simp only [cond_true, Option.bind_some]
                by_cases hge : (x0.Rows[k - 1]'(by omega)).Id ≥ x0.Rows[k].Id
                · rw [decide_eq_true hge]
                  intro h2; left; exact (Option.some.inj h2).symm
                · rw [decide_eq_false hge]
                  intro h2
                  exact rec' o h2 (.inr ⟨hk0, by omega⟩)
              · rw [decide_eq_false (show ¬ (k : Int) > 0 by omega)]
                intro h2
                exact rec' o h2 (.inl (by omega))
    · right
      intro j hj hkj
      omega
theorem spec_VtabOkF_sorted (n : Nat) (x : Vtab) (p : Int) (h : x.Rows.length ≤ 1048580) (hok : spec_VtabOkF n x p = some true) : sortedFrom x.Rows 0 := by
  unfold spec_VtabOkF at hok
  simp only [spec_l1InF_val, Option.bind_some] at hok
  revert hok
  cases (decide (1 ≤ p) && decide (p ≤ 6)) with
  | false => intro h; cases h
  | true =>
    simp only [Bool.not_true, cond_false]
    cases ((x.Pvid.length : Int) != p) with
    | true => intro h; cases h
    | false =>
      simp only [cond_false]
      cases (decide ((x.Rows.length : Int) > 6)) with
      | true => intro h; cases h
      | false =>
        simp only [cond_false]
        cases (decide (0 ≤ (IntKind.wrap .u64 p))) with
        | false => intro h; cases h
        | true =>
          simp only [cond_true]
          intro hok
          obtain ⟨o, ho, hm⟩ := bind_some hok
          rcases spec_VtabOk_L4_sorted n x p h n 0 o (by omega) ho with e | e
          · subst e; cases hm
          · exact e
/-- A row put in its place. -/
def insR (r : Vrow) : List Vrow → List Vrow
  | [] => [r]
  | v :: xs => if v.Id < r.Id then v :: insR r xs else if v.Id = r.Id then r :: xs else r :: v :: xs
theorem sorted_tail {v : Vrow} {xs : List Vrow} (h : sortedFrom (v :: xs) 0) : sortedFrom xs 0 := fun j hj _ => by
  have := h (j + 1) (by simpa using hj) (by omega)
  simpa using this
theorem sorted_gt : ∀ {xs : List Vrow} {v : Vrow}, sortedFrom (v :: xs) 0 → ∀ u ∈ xs, v.Id < u.Id
  | w :: xs, v, h, u, hu => by
    have h0 : v.Id < w.Id := by have := h 0 (by simp) (by omega); simpa using this
    rcases List.mem_cons.1 hu with e | hu
    · rw [e]; exact h0
    · have := sorted_gt (sorted_tail h) u hu
      omega
theorem insR_none (r : Vrow) : ∀ (xs : List Vrow), (∀ v ∈ xs, v.Id < r.Id) → insR r xs = xs ++ [r]
  | [], _ => rfl
  | v :: xs, h => by
    rw [insR, if_pos (h v (by simp)), insR_none r xs fun u hu => h u (by simp [hu])]
    rfl
/-- What is put, wherever it stands. -/
theorem insR_set (r : Vrow) : ∀ (xs : List Vrow) (k : Nat) (hk : k < xs.length), sortedFrom xs 0 → xs[k].Id = r.Id → insR r xs = xs.set k r
  | v :: xs, 0, hk, hs, he => by
    have he : v.Id = r.Id := he
    rw [insR, if_neg (by omega), if_pos he]
    rfl
  | v :: xs, k + 1, hk, hs, he => by
    have hk' : k < xs.length := by simpa using hk
    have he : xs[k].Id = r.Id := he
    have := sorted_gt hs xs[k] (List.getElem_mem hk')
    rw [insR, if_pos (by omega), insR_set r xs k hk' (sorted_tail hs) he]
    rfl
theorem insR_cut (r : Vrow) : ∀ (xs : List Vrow) (k : Nat) (hk : k ≤ xs.length), (∀ j (hj : j < xs.length), j < k → xs[j].Id < r.Id) → (∀ hj : k < xs.length, r.Id < xs[k].Id) → insR r xs = xs.take k ++ r :: xs.drop k
  | [], k, hk, h1, h2 => by
    have : k = 0 := by simpa using hk
    subst this; rfl
  | v :: xs, 0, hk, h1, h2 => by
    have := h2 (by simp)
    have this : r.Id < v.Id := this
    rw [insR, if_neg (by omega), if_neg (by omega)]
    rfl
  | v :: xs, k + 1, hk, h1, h2 => by
    have h0 := h1 0 (by simp) (by omega)
    have h0 : v.Id < r.Id := h0
    rw [insR, if_pos h0, insR_cut r xs k (by simpa using hk) (fun j hj hjk => by have := h1 (j + 1) (by simpa using hj) (by omega); simpa using this) (fun hj => by have := h2 (by simpa using hj); simpa using this)]
    rfl
/-- The spec's loop, from element k on. -/
theorem spec_l9Row_L2_done (n : Nat) (x0 : Vtab) (r : Vrow) (h : x0.Rows.length ≤ 1048580) : ∀ (m k : Nat) (acc : List Vrow), k ≤ x0.Rows.length → x0.Rows.length < m + k → acc.length ≤ 1048590 + k → (∀ j (hj : j < x0.Rows.length), k ≤ j → x0.Rows[j].Id ≠ r.Id) → spec_l9Row_L2 n m x0 r k true acc = some (.inl (true, acc ++ x0.Rows.drop k))
  | 0, k, acc, h1, h2, _, _ => by omega
  | m + 1, k, acc, h1, h2, h3, h4 => by
    rw [spec_l9Row_L2]
    by_cases hk : k < x0.Rows.length
    · have hne : (x0.Rows[k].Id != r.Id) = true := by simpa using h4 k hk (by omega)
      have hlen : decide (acc.length + [x0.Rows[k]].length ≤ 268435456) = true := decide_eq_true (by rw [List.length_singleton]; omega)
      simp only [lt_true hk, cond_true, Bool.not_true, cond_false, spec_l9Row_J3, idx_nat hk, Option.bind_some, hne, hlen, wrap_nat (by omega : k ≤ 1099511627776)]
      rw [spec_l9Row_L2_done n x0 r h m (k + 1) (acc ++ [x0.Rows[k]]) (by omega) (by omega) (by simp; omega) (fun j hj hkj => h4 j hj (by omega))]
      rw [List.drop_eq_getElem_cons hk]
      simp
    · have he : k = x0.Rows.length := by omega
      rw [he, lt_false]
      simp
theorem spec_l9Row_L2_ins (n : Nat) (x0 : Vtab) (r : Vrow) (h : x0.Rows.length ≤ 1048580) (hs : sortedFrom x0.Rows 0) : ∀ (m k : Nat) (acc : List Vrow), k ≤ x0.Rows.length → x0.Rows.length < m + k → acc.length ≤ 1048580 + k → ∃ d ys, spec_l9Row_L2 n m x0 r k false acc = some (.inl (d, ys)) ∧ (bif d then ys else ys ++ [r]) = acc ++ insR r (x0.Rows.drop k) ∧ ys.length + k ≤ acc.length + x0.Rows.length + 1
  | 0, k, acc, h1, h2, _ => by omega
  | m + 1, k, acc, h1, h2, h3 => by
    rw [spec_l9Row_L2]
    by_cases hk : k < x0.Rows.length
    · have hdrop := List.drop_eq_getElem_cons hk
      by_cases hge : x0.Rows[k].Id ≥ r.Id
      · have hlen : decide (acc.length + [r].length ≤ 268435456) = true := decide_eq_true (by rw [List.length_singleton]; omega)
        simp only [lt_true hk, cond_true, Bool.not_false, idx_nat hk, Option.bind_some, decide_eq_true hge, hlen, spec_l9Row_J3, wrap_nat (by omega : k ≤ 1099511627776)]
        have hgt : ∀ j (hj : j < x0.Rows.length), k + 1 ≤ j → x0.Rows[j].Id ≠ r.Id := fun j hj hkj => by
          have : x0.Rows[k].Id < x0.Rows[j].Id := by
            have hs' : sortedFrom (x0.Rows[k] :: x0.Rows.drop (k + 1)) 0 := by
              rw [← hdrop]
              intro i hi _
              have := hs (k + i) (by simp at hi; omega) (by omega)
              simpa [List.getElem_drop, Nat.add_assoc] using this
            refine sorted_gt hs' _ ?_
            have : x0.Rows[j] = (x0.Rows.drop (k + 1))[j - (k + 1)]'(by simp; omega) := by
              rw [List.getElem_drop]; congr 1; omega
            rw [this]
            exact List.getElem_mem _
          omega
        by_cases heq : x0.Rows[k].Id = r.Id
        · have hne : (x0.Rows[k].Id != r.Id) = false := by simpa using heq
          rw [hne]
          simp only [cond_false]
          rw [spec_l9Row_L2_done n x0 r h m (k + 1) (acc ++ [r]) (by omega) (by omega) (by simp; omega) hgt]
          refine ⟨true, _, rfl, ?_, by simp; omega⟩
          rw [hdrop, insR, if_neg (by omega), if_pos heq]
          simp
        · have hne : (x0.Rows[k].Id != r.Id) = true := by simpa using heq
          have hlen2 : decide ((acc ++ [r]).length + [x0.Rows[k]].length ≤ 268435456) = true := decide_eq_true (by simp; omega)
          rw [hne]
          simp only [cond_true, hlen2]
          rw [spec_l9Row_L2_done n x0 r h m (k + 1) ((acc ++ [r]) ++ [x0.Rows[k]]) (by omega) (by omega) (by simp; omega) hgt]
          refine ⟨true, _, rfl, ?_, by simp; omega⟩
          rw [hdrop, insR, if_neg (by omega), if_neg heq]
          simp
      · have hne : (x0.Rows[k].Id != r.Id) = true := by simp; omega
        have hlen : decide (acc.length + [x0.Rows[k]].length ≤ 268435456) = true := decide_eq_true (by rw [List.length_singleton]; omega)
        simp only [lt_true hk, cond_true, Bool.not_false, idx_nat hk, Option.bind_some, decide_eq_false hge, cond_false, hne, hlen, spec_l9Row_J3, wrap_nat (by omega : k ≤ 1099511627776)]
        obtain ⟨d, ys, e1, e2, e3⟩ := spec_l9Row_L2_ins n x0 r h hs m (k + 1) (acc ++ [x0.Rows[k]]) (by omega) (by omega) (by simp; omega)
        refine ⟨d, ys, e1, ?_, ?_⟩
        · rw [e2, hdrop, insR, if_pos (by omega)]
          simp
        · simp at e3; omega
    · have he : k = x0.Rows.length := by omega
      rw [he, lt_false]
      refine ⟨false, acc, rfl, ?_, by omega⟩
      simp [insR]
theorem spec_l9RowF_eq (n : Nat) (x : Vtab) (r : Vrow) (h : x.sz ≤ 1048576) (hn : x.sz < n) (hs : sortedFrom x.Rows 0) : spec_l9RowF n x r = some ⟨insR r x.Rows, x.Pvid⟩ := by
  have hsz : x.Rows.length + x.Pvid.length = x.sz := rfl
  obtain ⟨d, ys, e1, e2, e3⟩ := spec_l9Row_L2_ins n x r (by omega) hs n 0 [] (by omega) (by omega) (by simp)
  unfold spec_l9RowF
  rw [decide_eq_true (show ([] : List Int).length + x.Pvid.length ≤ 268435456 by simp; omega)]
  simp only [cond_true]
  rw [show spec_l9Row_L2 n n x r 0 false ([] : List Vrow) = _ from e1]
  simp only [List.drop_zero, List.nil_append] at e2
  simp only [List.length_nil] at e3
  simp only [Option.bind_some, spec_l9Row_J1, List.nil_append]
  cases d with
  | true =>
    simp only [cond_true] at e2
    rw [e2]; rfl
  | false =>
    simp only [cond_false] at e2
    rw [decide_eq_true (show ys.length + [r].length ≤ 268435456 by simp; omega), e2]; rfl
theorem impl_withRow_L2_ok (n : Nat) (x0 : Vtab) (r : Vrow) (h : x0.Rows.length ≤ 1048580) : ∀ (m k : Nat), k ≤ x0.Rows.length → x0.Rows.length < m + k → (∀ j (hj : j < x0.Rows.length), j < k → x0.Rows[j].Id ≤ r.Id) → ∃ q : Nat, impl_withRow_L2 n m x0 r k = some (.inl (q : Int)) ∧ q ≤ x0.Rows.length ∧ (∀ j (hj : j < x0.Rows.length), j < q → x0.Rows[j].Id ≤ r.Id) ∧ (∀ hq : q < x0.Rows.length, r.Id < x0.Rows[q].Id)
  | 0, k, h1, h2, _ => by omega
  | m + 1, k, h1, h2, h3 => by
    rw [impl_withRow_L2]
    by_cases hk : k < x0.Rows.length
    · rw [lt_true hk, idx_nat hk, wrap_nat (by omega)]
      simp only [cond_true, Option.bind_some]
      by_cases hle : x0.Rows[k].Id ≤ r.Id
      · rw [decide_eq_true hle]
        exact impl_withRow_L2_ok n x0 r h m (k + 1) (by omega) (by omega) (fun j hj hjk => by
          by_cases e : j = k
          · subst e; exact hle
          · exact h3 j hj (by omega))
      · rw [decide_eq_false hle]
        exact ⟨k, rfl, by omega, h3, fun _ => by omega⟩
    · have he : k = x0.Rows.length := by omega
      rw [he, lt_false]
      exact ⟨x0.Rows.length, rfl, by omega, fun j hj _ => h3 j hj (by omega), fun hq => by omega⟩
theorem impl_withRowF_ok (n : Nat) (x : Vtab) (r : Vrow) (wx : x.wf) (wr : r.wf) (h : x.sz ≤ 1048576) (hn : x.sz < n) : ∃ y : Vtab, impl_withRowF n x r = some y ∧ y.wf ∧ y.Pvid = x.Pvid ∧ y.sz ≤ 1048577 ∧ (sortedFrom x.Rows 0 → y = ⟨insR r x.Rows, x.Pvid⟩) := by
  have hsz : x.Rows.length + x.Pvid.length = x.sz := rfl
  obtain ⟨i, hi, hk⟩ := spec_RowAtF_ok n x r.Id (by omega) (by omega)
  unfold impl_withRowF
  simp only [impl_copyVtabF_eq n x (by omega), impl_RowAtF_eq, hi, Option.bind_some]
  rcases hk with ⟨rfl, hno⟩ | ⟨v, h0, hv, hid⟩
  · obtain ⟨q, e1, e2, e3, e4⟩ := impl_withRow_L2_ok n x r (by omega) n 0 (by omega) (by omega) (fun j hj hj0 => by omega)
    rw [show decide ((-1 : Int) ≥ 0) = false from rfl]
    simp only [cond_false]
    rw [show impl_withRow_L2 n n x r 0 = _ from e1]
    simp only [Option.bind_some, impl_withRow_J1]
    have hlist : (((([] : List Vrow) ++ ((x.Rows.drop ((0 : Int)).toNat).take (((q : Int)).toNat - ((0 : Int)).toNat))) ++ [r]) ++ ((x.Rows.drop ((q : Int)).toNat).take ((((x.Rows.length : Int) : Int)).toNat - ((q : Int)).toNat))) = x.Rows.take q ++ r :: x.Rows.drop q := by
      simp only [Int.toNat_natCast, List.nil_append, show ((0 : Int)).toNat = 0 from rfl, List.drop_zero, Nat.sub_zero]
      rw [List.take_of_length_le (l := x.Rows.drop q) (by simp)]
      simp
    have g1 : (decide ((0 : Int) ≤ 0) && (decide ((0 : Int) ≤ (q : Int)) && decide ((q : Int) ≤ (x.Rows.length : Int)))) = true := by
      rw [decide_eq_true (by omega : (0 : Int) ≤ (q : Int)), decide_eq_true (by omega : (q : Int) ≤ (x.Rows.length : Int))]; rfl
    have g2 : (decide ((0 : Int) ≤ (q : Int)) && (decide ((q : Int) ≤ (x.Rows.length : Int)) && decide (((x.Rows.length : Int) : Int) ≤ (x.Rows.length : Int)))) = true := by
      rw [decide_eq_true (by omega : (0 : Int) ≤ (q : Int)), decide_eq_true (by omega : (q : Int) ≤ (x.Rows.length : Int)), decide_eq_true (Int.le_refl _)]; rfl
    have g3 : decide (([] : List Vrow).length + ((x.Rows.drop ((0 : Int)).toNat).take (((q : Int)).toNat - ((0 : Int)).toNat)).length ≤ 268435456) = true := decide_eq_true (by simp; omega)
    have g4 : decide ((([] : List Vrow) ++ ((x.Rows.drop ((0 : Int)).toNat).take (((q : Int)).toNat - ((0 : Int)).toNat))).length + [r].length ≤ 268435456) = true := decide_eq_true (by simp; omega)
    have g5 : decide (((([] : List Vrow) ++ ((x.Rows.drop ((0 : Int)).toNat).take (((q : Int)).toNat - ((0 : Int)).toNat))) ++ [r]).length + ((x.Rows.drop ((q : Int)).toNat).take ((((x.Rows.length : Int) : Int)).toNat - ((q : Int)).toNat)).length ≤ 268435456) = true := decide_eq_true (by simp; omega)
    refine ⟨⟨x.Rows.take q ++ r :: x.Rows.drop q, x.Pvid⟩, ?_, ?_, rfl, ?_, fun hs => ?_⟩
    · rw [g1]
      simp only [cond_true, g3, g4, g5, hlist]
      rw [g2]
      rfl
    · refine ⟨⟨?_, fun y hy => ?_⟩, wx.2⟩
      · have := wx.1.1
        have hm : maxLen = 9223372036854775807 := by decide
        simp; omega
      · rcases List.mem_append.1 hy with h | h
        · exact wx.1.2 y (List.mem_of_mem_take h)
        · rcases List.mem_cons.1 h with e | h
          · rw [e]; exact wr
          · exact wx.1.2 y (List.mem_of_mem_drop h)
    · show (x.Rows.take q ++ r :: x.Rows.drop q).length + x.Pvid.length ≤ 1048577
      simp; omega
    · rw [insR_cut r x.Rows q e2 (fun j hj hjq => by
        have := e3 j hj hjq
        have := hno x.Rows[j] (List.getElem_mem hj)
        omega) e4]
  · obtain ⟨g1, g2⟩ := idx_get hv
    have hlt : i.toNat < x.Rows.length := (List.getElem?_eq_some_iff.1 g2).1
    rw [decide_eq_true (show i ≥ 0 from h0), hv]
    refine ⟨⟨x.Rows.set i.toNat r, x.Pvid⟩, rfl, ⟨listWf_set wx.1 wr, wx.2⟩, rfl, ?_, fun hs => ?_⟩
    · show (x.Rows.set i.toNat r).length + x.Pvid.length ≤ 1048577
      rw [List.length_set]; omega
    · rw [insR_set r x.Rows i.toNat hlt hs (by
        have := (List.getElem?_eq_some_iff.1 g2).2
        rw [this]; exact hid)]
theorem spec_PutRowF_both (n : Nat) (x : Vtab) (r : Vrow) (wx : x.wf) (wr : r.wf) (hx : x.sz ≤ 1048576) (hn : 1048577 < n) : ∃ y b, spec_PutRowF n x r = some (y, b) ∧ impl_PutRowF n x r = some (y, b) ∧ y.sz ≤ 1048577 := by
  obtain ⟨y, h1, h2, h3, h4, h5⟩ := impl_withRowF_ok n x r wx wr hx (by omega)
  obtain ⟨a, b, f1, f2, f3, f4⟩ := turned_both n x y wx h2 (by rw [h3]) hx h4 hn
  have hi : impl_PutRowF n x r = some (bif a && b then (y, true) else (x, false)) := by
    simp only [impl_PutRowF, h1, f4, Option.bind_some]
  cases a with
  | false =>
    refine ⟨x, false, ?_, hi, by omega⟩
    simp only [spec_PutRowF, f1, Option.bind_some, spec_l9CopyF_eq n x (by omega)]
    rfl
  | true =>
    have hs := spec_VtabOkF_sorted n x _ (by have : x.Rows.length + x.Pvid.length = x.sz := rfl; omega) f1
    have he := h5 hs
    refine ⟨(bif b then (y, true) else (x, false) : Vtab × Bool).1, (bif b then (y, true) else (x, false) : Vtab × Bool).2, ?_, ?_, ?_⟩
    · simp only [spec_PutRowF, f1, Option.bind_some, Bool.not_true, cond_false, spec_l9RowF_eq n x r hx (by omega) hs, ← he, f3]
    · rw [hi]; cases b <;> rfl
    · cases b <;> first | exact h4 | (show x.sz ≤ 1048577; omega)
theorem spec_VtabOk_L4_tot (n : Nat) (x0 : Vtab) (x1 : Int) (h : x0.Rows.length ≤ 1048580) : ∀ (m k : Nat), k ≤ x0.Rows.length → x0.Rows.length < m + k → Tot (spec_VtabOk_L4 n m x0 x1 k)
  | 0, k, h1, h2 => by omega
  | m + 1, k, h1, h2 => by
    rw [spec_VtabOk_L4]
    refine Tot.step (fun hk => ?_) .of
    have ih := spec_VtabOk_L4_tot n x0 x1 h m (k + 1) (by omega) (by omega)
    simp only [idx_nat hk, Option.bind_some, spec_l1InF_val, wrap_nat (by omega : k ≤ 1099511627776)]
    refine Tot.bif (fun _ => .of) fun _ => Tot.bif (fun _ => .of) fun _ => Tot.bif (fun _ => .of) fun _ => Tot.bif (fun _ => .of) fun _ => Tot.bif (fun hp => ?_) fun _ => ih
    have hp := of_decide_eq_true hp
    obtain ⟨v, hv, _⟩ := idx_of (xs := x0.Rows) (i := (k : Int) - 1) (by omega) (by omega)
    rw [wrap64 (by omega) (by omega), hv, Option.bind_some]
    exact Tot.bif (fun _ => .of) fun _ => ih
theorem spec_VtabOk_L3_tot (n : Nat) (x0 : Vtab) (h : x0.Rows.length ≤ 1048580) (hn : x0.Rows.length < n) (hq : x0.Pvid.length ≤ 1048580) : ∀ (m k : Nat), k ≤ x0.Pvid.length → x0.Pvid.length < m + k → Tot (spec_VtabOk_L3 n m x0 k)
  | 0, k, h1, h2 => by omega
  | m + 1, k, h1, h2 => by
    rw [spec_VtabOk_L3]
    refine Tot.step (fun hk => ?_) .of
    have ih := spec_VtabOk_L3_tot n x0 h hn hq m (k + 1) (by omega) (by omega)
    obtain ⟨r, hr, _⟩ := spec_RowAtF_ok n x0 x0.Pvid[k] h hn
    simp only [idx_nat hk, Option.bind_some, hr, wrap_nat (by omega : k ≤ 1099511627776)]
    exact Tot.bif (fun _ => .of) fun _ => ih
theorem spec_VtabOkF_tot (n : Nat) (x0 : Vtab) (p : Nat) (hp : p ≤ 1000000) (h : x0.sz ≤ 1048580) (hn : x0.sz < n) : Tot (spec_VtabOkF n x0 p) := by
  have hs : x0.Rows.length + x0.Pvid.length = x0.sz := rfl
  unfold spec_VtabOkF
  simp only [spec_l1InF_val, Option.bind_some]
  have hu : decide ((0 : Int) ≤ IntKind.wrap .u64 (p : Int)) = true := by rw [show IntKind.wrap .u64 (p : Int) = p from by show ((p : Int) % 18446744073709551616) = p; omega]; exact decide_eq_true (by omega)
  refine Tot.bif (fun _ => .of) fun _ => Tot.bif (fun _ => .of) fun _ => Tot.bif (fun _ => .of) fun _ => ?_
  rw [hu, cond_true]
  refine Tot.bind (spec_VtabOk_L4_tot n x0 p (by omega) n 0 (by omega) (by omega)) fun o _ => ?_
  cases o with
  | inr b => exact Tot.of
  | inl u =>
    show Tot (spec_VtabOk_J1 n x0)
    unfold spec_VtabOk_J1
    refine Tot.bind (spec_VtabOk_L3_tot n x0 (by omega) (by omega) (by omega) n 0 (by omega) (by omega)) fun o _ => ?_
    cases o <;> exact Tot.of
theorem spec_VtabOkF_len (n : Nat) (x : Vtab) (p : Int) (hok : spec_VtabOkF n x p = some true) : x.Rows.length ≤ 6 ∧ (x.Pvid.length : Int) = p := by
  unfold spec_VtabOkF at hok
  simp only [spec_l1InF_val, Option.bind_some] at hok
  revert hok
  cases (decide (1 ≤ p) && decide (p ≤ 6)) with
  | false => intro h; cases h
  | true =>
    simp only [Bool.not_true, cond_false]
    by_cases hp : (x.Pvid.length : Int) = p
    · have : ((x.Pvid.length : Int) != p) = false := by simp [hp]
      rw [this, cond_false]
      by_cases hr : (x.Rows.length : Int) > 6
      · rw [decide_eq_true hr]; intro h; cases h
      · exact fun _ => ⟨by omega, hp⟩
    · have : ((x.Pvid.length : Int) != p) = true := by simp [hp]
      rw [this]; intro h; cases h
/-- a table that is drawn: right, and with few bits -/
def VtG (n p : Nat) (x : Vtab) : Prop := x.wf ∧ x.Pvid.length = p ∧ x.Rows.length ≤ 6 ∧ spec_VtabOkF n x p = some true ∧ ∀ r ∈ x.Rows, 0 ≤ r.Bare ∧ r.Bare ≤ 63
theorem VtG.sz {n p : Nat} {x : Vtab} (h : VtG n p x) : x.sz ≤ 6 + p := by
  have hs : x.Rows.length + x.Pvid.length = x.sz := rfl
  have := h.2.1; have := h.2.2.1; omega
theorem spec_l9OrF_gt (n p : Nat) (hp : p ≤ 1000) (x y : Vtab) (hx : VtG n p x) (wy : y.wf) (hy : y.Pvid.length = p) (hl : y.Rows.length ≤ 1000) (hb : ∀ r ∈ y.Rows, 0 ≤ r.Bare ∧ r.Bare ≤ 63) (hn : 1048577 < n) : ∃ r b, spec_l9OrF n y x = some (r, b) ∧ VtG n p r := by
  have hs : y.Rows.length + y.Pvid.length = y.sz := rfl
  have hxs := hx.sz
  obtain ⟨b, e⟩ := spec_VtabOkF_tot n y p (by omega) (by omega) (by omega)
  unfold spec_l9OrF
  rw [hx.2.1, e, Option.bind_some, spec_l9CopyF_eq n x (by omega)]
  cases b
  · exact ⟨x, false, rfl, hx⟩
  · exact ⟨y, true, rfl, wy, hy, (spec_VtabOkF_len n y p e).1, e, hb⟩
theorem spec_SetPvidF_gt (n p : Nat) (hp : p ≤ 1000) (x : Vtab) (hx : VtG n p x) (i id : Int) (wi : intWf id) (hn : 1048577 < n) : ∃ r b, spec_SetPvidF n x i id = some (r, b) ∧ VtG n p r := by
  have hxs := hx.sz
  have hpl := hx.2.1
  have hw : IntKind.wrap .i64 ((p : Int) - 1) = (p : Int) - 1 := wrap64 (by omega) (by omega)
  unfold spec_SetPvidF
  simp only [hpl, hx.2.2.2.1, Option.bind_some, Bool.not_true, cond_false, spec_l1InF_val, hw, spec_l9CopyF_eq n x (by omega)]
  by_cases hi : 0 ≤ i ∧ i ≤ (p : Int) - 1
  · obtain ⟨v, hv, _⟩ := idx_of (xs := x.Pvid) hi.1 (by omega)
    obtain ⟨r, b, e, g⟩ := spec_l9OrF_gt n p hp x ⟨x.Rows, x.Pvid.set i.toNat id⟩ hx ⟨hx.1.1, listWf_set hx.1.2.1 wi, trivial⟩ (by simp [hpl]) (by have := hx.2.2.1; show x.Rows.length ≤ 1000; omega) hx.2.2.2.2 hn
    rw [decide_eq_true hi.1, decide_eq_true hi.2]
    simp only [Bool.and_self, Bool.not_true, cond_false, hv, Option.bind_some, e]
    exact ⟨r, b, rfl, g⟩
  · have hp' : (decide (0 ≤ i) && decide (i ≤ (p : Int) - 1)) = false := by
      simp only [Bool.and_eq_false_iff, decide_eq_false_iff_not]; omega
    rw [hp']
    exact ⟨x, false, rfl, hx⟩
theorem spec_DropRowF_gt (n p : Nat) (hp : p ≤ 1000) (x : Vtab) (hx : VtG n p x) (id : Int) (hn : 1048577 < n) : ∃ r b, spec_DropRowF n x id = some (r, b) ∧ VtG n p r := by
  have hxs := hx.sz
  have hpl := hx.2.1
  have h6 := hx.2.2.1
  obtain ⟨r, hr, hk⟩ := spec_RowAtF_ok n x id (by omega) (by omega)
  rcases hk with ⟨rfl, _⟩ | ⟨v, h0, hv, _⟩
  · refine ⟨x, false, ?_, hx⟩
    simp only [spec_DropRowF, hr, hpl, hx.2.2.2.1, Option.bind_some, spec_l9CopyF_eq n x (by omega)]
    rfl
  · obtain ⟨g1, g2⟩ := idx_get hv
    have hlt : r.toNat < x.Rows.length := (List.getElem?_eq_some_iff.1 g2).1
    obtain ⟨k, rfl⟩ : ∃ k : Nat, r = k := ⟨r.toNat, by omega⟩
    simp only [Int.toNat_natCast] at hlt
    have hw : IntKind.wrap .i64 ((k : Int) + 1) = ((k + 1 : Nat) : Int) := wrap_nat (by omega)
    have hlist : (([] : List Vrow) ++ ((x.Rows.drop ((0 : Int)).toNat).take (((k : Int)).toNat - ((0 : Int)).toNat))) ++ ((x.Rows.drop ((((k + 1 : Nat) : Int))).toNat).take ((((x.Rows.length : Int) : Int)).toNat - ((((k + 1 : Nat) : Int))).toNat)) = x.Rows.take k ++ x.Rows.drop (k + 1) := by
      simp only [Int.toNat_natCast, List.nil_append, show ((0 : Int)).toNat = 0 from rfl, List.drop_zero, Nat.sub_zero]
      congr 1
      exact List.take_of_length_le (by simp)
    have hmem : ∀ y ∈ x.Rows.take k ++ x.Rows.drop (k + 1), y ∈ x.Rows := fun y hy => by
      rcases List.mem_append.1 hy with h | h
      · exact List.mem_of_mem_take h
      · exact List.mem_of_mem_drop h
    obtain ⟨y, b, e, g⟩ := spec_l9OrF_gt n p hp x ⟨x.Rows.take k ++ x.Rows.drop (k + 1), x.Pvid⟩ hx ⟨listWf_sub hx.1.1 hmem (by simp; omega), hx.1.2⟩ hpl (by show (x.Rows.take k ++ x.Rows.drop (k + 1)).length ≤ 1000; simp; omega) (fun r hr => hx.2.2.2.2 r (hmem r hr)) hn
    have hg1 : (decide ((0 : Int) ≤ 0) && (decide ((0 : Int) ≤ (k : Int)) && decide ((k : Int) ≤ (x.Rows.length : Int)))) = true := by
      rw [decide_eq_true (by omega : (0 : Int) ≤ (k : Int)), decide_eq_true (by omega : (k : Int) ≤ (x.Rows.length : Int))]; rfl
    have hg2 : (decide ((0 : Int) ≤ ((k + 1 : Nat) : Int)) && (decide ((((k + 1 : Nat) : Int) : Int) ≤ (x.Rows.length : Int)) && decide (((x.Rows.length : Int) : Int) ≤ (x.Rows.length : Int)))) = true := by
      rw [decide_eq_true (by omega : (0 : Int) ≤ ((k + 1 : Nat) : Int)), decide_eq_true (by omega : ((k + 1 : Nat) : Int) ≤ (x.Rows.length : Int)), decide_eq_true (Int.le_refl _)]; rfl
    have hg3 : decide (([] : List Vrow).length + ((x.Rows.drop ((0 : Int)).toNat).take (((k : Int)).toNat - ((0 : Int)).toNat)).length ≤ 268435456) = true := decide_eq_true (by simp; omega)
    have hg4 : decide ((([] : List Vrow) ++ ((x.Rows.drop ((0 : Int)).toNat).take (((k : Int)).toNat - ((0 : Int)).toNat))).length + ((x.Rows.drop ((((k + 1 : Nat) : Int))).toNat).take ((((x.Rows.length : Int) : Int)).toNat - ((((k + 1 : Nat) : Int))).toNat)).length ≤ 268435456) = true := decide_eq_true (by simp; omega)
    have hn0 : decide ((k : Int) < 0) = false := decide_eq_false (by omega)
    refine ⟨y, b, ?_, g⟩
    simp only [spec_DropRowF, hr, hpl, hx.2.2.2.1, Option.bind_some, Bool.not_true, spec_l9CopyF_eq n x (by omega), hn0, cond_false, hw, hg1, hg2, hg3, hg4, cond_true, hlist, e]
/-- a row is put: whatever the table, something comes -/
theorem spec_l9Row_L2_any (n : Nat) (x0 : Vtab) (r : Vrow) (h : x0.Rows.length ≤ 1000) : ∀ (m k : Nat) (d : Bool) (acc : List Vrow), k ≤ x0.Rows.length → x0.Rows.length < m + k → acc.length ≤ 2 * k → (∀ v ∈ acc, v = r ∨ v ∈ x0.Rows) → ∃ d' acc', spec_l9Row_L2 n m x0 r k d acc = some (.inl (d', acc')) ∧ acc'.length ≤ 2 * x0.Rows.length ∧ (∀ v ∈ acc', v = r ∨ v ∈ x0.Rows)
  | 0, k, d, acc, h1, h2, _, _ => by omega
  | m + 1, k, d, acc, h1, h2, h3, h4 => by
    rw [spec_l9Row_L2]
    by_cases hk : k < x0.Rows.length
    · have ih := fun d acc h3 h4 => spec_l9Row_L2_any n x0 r h m (k + 1) d acc (by omega) (by omega) h3 h4
      have hmem : x0.Rows[k] ∈ x0.Rows := List.getElem_mem hk
      have hj : ∀ b1 b2 b3 (d : Bool) (acc : List Vrow), acc.length ≤ 2 * k + 1 → (∀ v ∈ acc, v = r ∨ v ∈ x0.Rows) → ∃ d' acc', spec_l9Row_J3 n (fun v => spec_l9Row_L2 n m x0 r v.1 v.2.1 v.2.2) x0 r k b1 b2 b3 d acc = some (.inl (d', acc')) ∧ acc'.length ≤ 2 * x0.Rows.length ∧ (∀ v ∈ acc', v = r ∨ v ∈ x0.Rows) := fun b1 b2 b3 d acc hl ha => by
        have hlen : decide (acc.length + [x0.Rows[k]].length ≤ 268435456) = true := decide_eq_true (by rw [List.length_singleton]; omega)
        simp only [spec_l9Row_J3, idx_nat hk, Option.bind_some, hlen, cond_true, wrap_nat (by omega : k ≤ 1099511627776)]
        cases (x0.Rows[k].Id != r.Id)
        · exact ih d acc (by omega) ha
        · refine ih d _ (by simp; omega) fun v hv => ?_
          rcases List.mem_append.1 hv with a | a
          · exact ha v a
          · rw [List.mem_singleton.1 a]; exact .inr hmem
      have hlen : decide (acc.length + [r].length ≤ 268435456) = true := decide_eq_true (by rw [List.length_singleton]; omega)
      simp only [lt_true hk, cond_true, idx_nat hk, Option.bind_some, hlen]
      cases d
      · simp only [Bool.not_false, cond_true]
        cases (decide (x0.Rows[k].Id ≥ r.Id))
        · simp only [cond_false]; exact hj _ _ _ _ _ (by omega) h4
        · simp only [cond_true]
          refine hj _ _ _ _ _ (by simp; omega) fun v hv => ?_
          rcases List.mem_append.1 hv with a | a
          · exact h4 v a
          · exact .inl (List.mem_singleton.1 a)
      · simp only [Bool.not_true, cond_false]; exact hj _ _ _ _ _ (by omega) h4
    · have he : k = x0.Rows.length := by omega
      subst he
      rw [lt_false, cond_false]
      exact ⟨d, acc, rfl, h3, h4⟩
theorem spec_l9RowF_any (n : Nat) (x : Vtab) (r : Vrow) (h : x.Rows.length ≤ 1000) (hq : x.Pvid.length ≤ 1000) (hn : 1000 < n) : ∃ y, spec_l9RowF n x r = some y ∧ y.Pvid = x.Pvid ∧ y.Rows.length ≤ 2 * x.Rows.length + 1 ∧ (∀ v ∈ y.Rows, v = r ∨ v ∈ x.Rows) := by
  obtain ⟨d, acc, e, h1, h2⟩ := spec_l9Row_L2_any n x r h n 0 false [] (by omega) (by omega) (by simp) (by simp)
  have e : spec_l9Row_L2 n n x r 0 false ([] : List Vrow) = some (.inl (d, acc)) := e
  unfold spec_l9RowF
  rw [decide_eq_true (by simp; omega), cond_true, e, Option.bind_some]
  simp only [spec_l9Row_J1, List.nil_append]
  have hlen : decide (acc.length + [r].length ≤ 268435456) = true := decide_eq_true (by rw [List.length_singleton]; omega)
  rw [hlen]
  cases d
  · refine ⟨_, rfl, rfl, by simp; omega, fun v hv => ?_⟩
    rcases List.mem_append.1 hv with a | a
    · exact h2 v a
    · exact .inl (List.mem_singleton.1 a)
  · exact ⟨_, rfl, rfl, by simp; omega, h2⟩
theorem rows_wf {xs ys : List Vrow} {r : Vrow} (hx : listWf Vrow.wf xs) (wr : r.wf) (hl : ys.length ≤ 4000) (h : ∀ v ∈ ys, v = r ∨ v ∈ xs) : listWf Vrow.wf ys := ⟨Nat.le_trans hl (by decide), fun v hv => by
  rcases h v hv with a | a
  · rw [a]; exact wr
  · exact hx.2 v a⟩
theorem spec_PutRowF_gt (n p : Nat) (hp : p ≤ 1000) (x : Vtab) (hx : VtG n p x) (r : Vrow) (wr : r.wf) (hr : 0 ≤ r.Bare ∧ r.Bare ≤ 63) (hn : 1048577 < n) : ∃ y b, spec_PutRowF n x r = some (y, b) ∧ VtG n p y := by
  have hxs := hx.sz
  have hpl := hx.2.1
  have h6 := hx.2.2.1
  obtain ⟨z, e, e1, e2, e3⟩ := spec_l9RowF_any n x r (by omega) (by omega) (by omega)
  have wz : z.wf := ⟨rows_wf hx.1.1 wr (by omega) e3, by rw [e1]; exact hx.1.2.1, trivial⟩
  obtain ⟨y, b, f, g⟩ := spec_l9OrF_gt n p hp x z hx wz (by rw [e1]; exact hpl) (by omega) (fun v hv => by
    rcases e3 v hv with a | a
    · rw [a]; exact hr
    · exact hx.2.2.2.2 v a) hn
  refine ⟨y, b, ?_, g⟩
  simp only [spec_PutRowF, hpl, hx.2.2.2.1, Option.bind_some, Bool.not_true, cond_false, e, f]
theorem small_and : ∀ a < 64, ∀ b < 64, IntKind.wrap .i64 (BitVec.ofInt (IntKind.bits .i64) ((a : Nat) : Int) &&& BitVec.ofInt (IntKind.bits .i64) ((b : Nat) : Int)).toNat = ((a &&& b : Nat) : Int) := by decide +kernel
theorem small_all : ∀ p < 7, IntKind.wrap .u64 ((p : Nat) : Int) = p ∧ IntKind.wrap .i64 ((IntKind.wrap .i64 ((IntKind.wrap .i64 (1 * 2 ^ min (((IntKind.wrap .u64 ((p : Nat) : Int)) : Int)).toNat (IntKind.bits .i64))) - 1)) + 1) = ((2 ^ p : Nat) : Int) ∧ (IntKind.wrap .i64 ((IntKind.wrap .i64 (1 * 2 ^ min (((IntKind.wrap .u64 ((p : Nat) : Int)) : Int)).toNat (IntKind.bits .i64))) - 1)) = ((2 ^ p - 1 : Nat) : Int) ∧ 1 ≤ 2 ^ p ∧ 2 ^ p ≤ 64 := by decide +kernel
theorem intWf_small {z : Int} (h0 : -1000000 ≤ z) (h1 : z ≤ 1000000) : intWf z := by
  show (Lit.int .i64 z).wf = true
  simp [Lit.wf, show IntKind.wrap .i64 z = z from wrap64 (by omega) (by omega)]
  exact ⟨by show (-9223372036854775808 : Int) ≤ z; omega, by omega⟩
theorem spec_l9Row2F_ok (n p : Nat) (hp : p < 7) (c : Src) (h : c.ok) : ∃ v c', spec_l9Row2F n c p = some (v, c') ∧ v.wf ∧ 0 ≤ v.Bare ∧ v.Bare ≤ 63 ∧ c'.ok := by
  obtain ⟨s1, s2, s3, s4, s5⟩ := small_all p hp
  obtain ⟨v1, c1, e1, a1, b1, g1⟩ := spec_l1BelowF_ok n c ((2 ^ p : Nat) : Int) h
  obtain ⟨v2, c2, e2, a2, g2⟩ := spec_l1IntF_ok n c1 [1, 2, 3, 2] g1 (by decide)
  obtain ⟨v3, c3, e3, a3, b3, g3⟩ := spec_l1BelowF_ok n c2 ((2 ^ p : Nat) : Int) g2
  have b1 := b1 (by omega)
  have b3 := b3 (by omega)
  obtain ⟨x, rfl⟩ : ∃ x : Nat, v1 = x := ⟨v1.toNat, by omega⟩
  obtain ⟨y, rfl⟩ : ∃ y : Nat, v3 = y := ⟨v3.toNat, by omega⟩
  have hand := small_and x (by omega) y (by omega)
  have hle : x &&& y ≤ x := Nat.and_le_left
  have hu : decide ((0 : Int) ≤ IntKind.wrap .u64 ((p : Nat) : Int)) = true := decide_eq_true (by rw [s1]; omega)
  unfold spec_l9Row2F
  simp only [s2, hu, cond_true, e1, e2, e3, Option.bind_some, hand]
  have w1 : intWf v2 := by
    simp only [List.mem_cons, List.not_mem_nil, or_false] at a2
    refine intWf_small ?_ ?_ <;> rcases a2 with a | a | a | a <;> omega
  have w2 : intWf ((x : Nat) : Int) := intWf_small (by omega) (by omega)
  have w3 : intWf ((x &&& y : Nat) : Int) := intWf_small (by omega) (by omega)
  refine ⟨_, _, rfl, ⟨w1, w2, w3, trivial⟩, ?_, ?_, g3⟩
  · show (0 : Int) ≤ ((x &&& y : Nat) : Int); omega
  · show ((x &&& y : Nat) : Int) ≤ 63; omega
theorem spec_VtabNew_L2_ok (n p : Nat) (hp : p ≤ 1000) : ∀ (m k : Nat) (acc : List Int), k ≤ p → p < m + k → acc = List.replicate k 1 → spec_VtabNew_L2 n m p k acc = some (.inl (List.replicate p 1))
  | 0, k, acc, h1, h2, h3 => by omega
  | m + 1, k, acc, h1, h2, h3 => by
    rw [spec_VtabNew_L2]
    by_cases hk : k < p
    · have hlen : decide (acc.length + [(1 : Int)].length ≤ 268435456) = true := decide_eq_true (by rw [List.length_singleton, h3]; simp; omega)
      simp only [lt_true hk, cond_true, wrap_nat (by omega : k ≤ 1099511627776)]
      refine Eq.trans (congrArg (fun b => cond b _ none) hlen) ?_
      exact spec_VtabNew_L2_ok n p hp m (k + 1) (acc ++ [1]) (by omega) (by omega) (by rw [h3, ← List.replicate_succ'])
    · have he : k = p := by omega
      subst he
      rw [lt_false, cond_false, h3]
theorem spec_VtabNewF_eq (n p : Nat) (h0 : 1 ≤ p) (h1 : p < 7) (hn : 1000 < n) : spec_VtabNewF n p = some ⟨[⟨1, ((2 ^ p - 1 : Nat) : Int), ((2 ^ p - 1 : Nat) : Int)⟩], List.replicate p 1⟩ := by
  obtain ⟨s1, s2, s3, s4, s5⟩ := small_all p h1
  have e := spec_VtabNew_L2_ok n p (by omega) n 0 [] (by omega) (by omega) rfl
  have e : spec_VtabNew_L2 n n p 0 ([] : List Int) = some (.inl (List.replicate p 1)) := e
  unfold spec_VtabNewF
  have hu : decide ((0 : Int) ≤ IntKind.wrap .u64 ((p : Nat) : Int)) = true := decide_eq_true (by rw [s1]; omega)
  simp only [spec_l1InF_val, Option.bind_some, decide_eq_true (show (1 : Int) ≤ (p : Int) by omega), decide_eq_true (show (p : Int) ≤ 6 by omega), Bool.and_self, Bool.not_true, cond_false, hu, cond_true, e, spec_VtabNew_J1, s3]
theorem new_ok : ∀ p < 7, 1 ≤ p → spec_VtabOkF 1048580 ⟨[⟨1, ((2 ^ p - 1 : Nat) : Int), ((2 ^ p - 1 : Nat) : Int)⟩], List.replicate p 1⟩ ((p : Nat) : Int) = some true := by decide +kernel
theorem new_gt (p : Nat) (h0 : 1 ≤ p) (h1 : p < 7) : ∃ v, spec_VtabNewF 1048580 p = some v ∧ VtG 1048580 p v := by
  obtain ⟨s1, s2, s3, s4, s5⟩ := small_all p h1
  have w : intWf ((2 ^ p - 1 : Nat) : Int) := intWf_small (by omega) (by omega)
  refine ⟨_, spec_VtabNewF_eq 1048580 p h0 h1 (by omega), ⟨⟨by show 1 ≤ maxLen; decide, fun v hv => ?_⟩, ⟨by rw [List.length_replicate]; exact Nat.le_trans (Nat.le_of_lt h1) (by decide), fun v hv => ?_⟩, trivial⟩, List.length_replicate, by show 1 ≤ 6; decide, new_ok p h1 h0, fun v hv => ?_⟩
  · rw [List.mem_singleton.1 hv]; have w1 : intWf 1 := intWf_small (by decide) (by decide)
    exact ⟨w1, w, w, trivial⟩
  · rw [(List.mem_replicate.1 hv).2]; exact intWf_small (by decide) (by decide)
  · rw [List.mem_singleton.1 hv]
    have h : (0 : Int) ≤ ((2 ^ p - 1 : Nat) : Int) ∧ ((2 ^ p - 1 : Nat) : Int) ≤ 63 := by omega
    exact h
theorem spec_l9Draw_L2_ok (p : Nat) (h0 : 1 ≤ p) (h7 : p < 7) : ∀ (m k : Nat) (c : Src) (v : Vtab), k < m → k ≤ 1000 → c.ok → VtG 1048580 p v → ∃ (c' : Src) (v' : Vtab), spec_l9Draw_L2 1048580 m p k c.b c.i c.h v.Rows v.Pvid = some (.inl (c'.b, c'.i, c'.h, v'.Rows, v'.Pvid)) ∧ c'.ok ∧ VtG 1048580 p v'
  | 0, k, c, v, h1, h2, h3, h4 => by omega
  | m + 1, k, c, v, h1, h2, h3, h4 => by
    rw [spec_l9Draw_L2]
    by_cases hk : 0 < k
    · obtain ⟨j, rfl⟩ : ∃ j, k = j + 1 := ⟨k - 1, by omega⟩
      have hw : IntKind.wrap .i64 (((j + 1 : Nat) : Int) - 1) = (j : Nat) := by rw [wrap64 (by omega) (by omega)]; omega
      have ih := fun c v h3 h4 => spec_l9Draw_L2_ok p h0 h7 m j c v (by omega) (by omega) h3 h4
      obtain ⟨v1, c1, e1, a1, b1, g1⟩ := spec_l1BelowF_ok 1048580 c 4 h3
      obtain ⟨v2, c2, e2, a2, b2, g2⟩ := spec_l1BelowF_ok 1048580 c1 (p : Int) g1
      obtain ⟨v3, c3, e3, a3, b3, g3⟩ := spec_l1BelowF_ok 1048580 c2 3 g2
      obtain ⟨v4, c4, e4, a4, b4, g4⟩ := spec_l1BelowF_ok 1048580 c1 2 g1
      obtain ⟨v5, c5, e5, w5, p5, q5, g5⟩ := spec_l9Row2F_ok 1048580 p h7 c1 g1
      have b3 := b3 (by decide)
      have b4 := b4 (by decide)
      obtain ⟨y2, d2, f2, k2⟩ := spec_SetPvidF_gt 1048580 p (by omega) v h4 v2 (1 + v3) (intWf_small (by omega) (by omega)) (by omega)
      obtain ⟨y4, d4, f4, k4⟩ := spec_DropRowF_gt 1048580 p (by omega) v h4 (2 + v4) (by omega)
      obtain ⟨y5, d5, f5, k5⟩ := spec_PutRowF_gt 1048580 p (by omega) v h4 v5 w5 ⟨p5, q5⟩ (by omega)
      have hpos : decide (((j + 1 : Nat) : Int) > 0) = true := decide_eq_true (by omega)
      simp only [hpos, cond_true, e1, Option.bind_some, e2, e3, e4, e5, hw, wrap64 (show -9223372036854775808 ≤ 1 + v3 by omega) (by omega), wrap64 (show -9223372036854775808 ≤ 2 + v4 by omega) (by omega), f2, f4, f5]
      cases (v1 == 0)
      · cases (v1 == 1)
        · exact ih c5 y5 g5 k5
        · exact ih c4 y4 g4 k4
      · exact ih c3 y2 g3 k2
    · have : k = 0 := by omega
      subst this
      exact ⟨c, v, rfl, h3, h4⟩
theorem spec_l9DrawF_ok (p : Nat) (h0 : 1 ≤ p) (h7 : p < 7) (c : Src) (h : c.ok) : ∃ v c', spec_l9DrawF 1048580 c p = some (v, c') ∧ VtG 1048580 p v ∧ c'.ok := by
  obtain ⟨v0, e0, g0⟩ := new_gt p h0 h7
  obtain ⟨v1, c1, e1, a1, b1, g1⟩ := spec_l1BelowF_ok 1048580 c 6 h
  have b1 := b1 (by decide)
  obtain ⟨k, rfl⟩ : ∃ k : Nat, v1 = k := ⟨v1.toNat, by omega⟩
  obtain ⟨c', v', e, g, g'⟩ := spec_l9Draw_L2_ok p h0 h7 1048580 k c1 v0 (by omega) (by omega) g1 g0
  unfold spec_l9DrawF
  rw [e0, Option.bind_some, e1, Option.bind_some, e]
  exact ⟨v', c', rfl, g', g⟩
/-- any table that is drawn, bent or not -/
def VtB (x : Vtab) : Prop := x.wf ∧ 1 ≤ x.Pvid.length ∧ x.Pvid.length ≤ 6 ∧ x.Rows.length ≤ 1000 ∧ ∀ r ∈ x.Rows, 0 ≤ r.Bare ∧ r.Bare ≤ 63
theorem spec_l9Any_L2_ok : ∀ (m k : Nat) (v : Vtab), k ≤ 6 → 6 < m + k → VtB v → v.Rows.length * 2 ^ (6 - k) + 2 ^ (6 - k) ≤ 1000 → ∃ (v' : Vtab), spec_l9Any_L2 1048580 m k v.Rows v.Pvid = some (.inl (v'.Rows, v'.Pvid)) ∧ VtB v'
  | 0, k, v, h1, h2, h3, h4 => by omega
  | m + 1, k, v, h1, h2, h3, h4 => by
    rw [spec_l9Any_L2]
    by_cases hk : k < 6
    · have hp : 2 ^ (6 - k) = 2 * 2 ^ (6 - (k + 1)) := by rw [← Nat.pow_succ']; congr 1; omega
      have hpos : 1 ≤ 2 ^ (6 - (k + 1)) := Nat.pos_of_ne_zero (by simp)
      obtain ⟨y, e, e1, e2, e3⟩ := spec_l9RowF_any 1048580 (⟨v.Rows, v.Pvid⟩ : Vtab) (⟨IntKind.wrap .i64 (10 + (k : Int)), 0, 0⟩ : Vrow) h3.2.2.2.1 (Nat.le_trans h3.2.2.1 (by decide)) (by omega)
      have e2 : y.Rows.length ≤ 2 * v.Rows.length + 1 := e2
      have e1 : y.Pvid = v.Pvid := e1
      have hle : y.Rows.length * 2 ^ (6 - (k + 1)) + 2 ^ (6 - (k + 1)) ≤ 1000 := by
        refine Nat.le_trans ?_ h4
        rw [hp]
        have := Nat.mul_le_mul_right (2 ^ (6 - (k + 1))) e2
        have h5 : (2 * v.Rows.length + 1) * 2 ^ (6 - (k + 1)) = v.Rows.length * (2 * 2 ^ (6 - (k + 1))) + 2 ^ (6 - (k + 1)) := by
          rw [Nat.add_mul, Nat.one_mul, Nat.mul_comm 2 v.Rows.length, Nat.mul_assoc]
        omega
      have hl : y.Rows.length ≤ 1000 := by
        have := Nat.mul_le_mul_left y.Rows.length hpos
        omega
      have wr : Vrow.wf (⟨IntKind.wrap .i64 (10 + (k : Int)), 0, 0⟩ : Vrow) := by
        rw [wrap64 (by omega) (by omega)]
        have w0 : intWf 0 := intWf_small (by decide) (by decide)
        exact ⟨intWf_small (by show (-1000000 : Int) ≤ 10 + (k : Int); omega) (by show 10 + (k : Int) ≤ 1000000; omega), w0, w0, trivial⟩
      have gy : VtB y := ⟨⟨rows_wf h3.1.1 wr (by omega) e3, by rw [e1]; exact h3.1.2.1, trivial⟩, by rw [e1]; exact h3.2.1, by rw [e1]; exact h3.2.2.1, hl, fun r hr => by
        rcases e3 r hr with a | a
        · rw [a]; exact (show (0 : Int) ≤ 0 ∧ (0 : Int) ≤ 63 by decide)
        · exact h3.2.2.2.2 r a⟩
      simp only [decide_eq_true (show (k : Int) < 6 by omega), cond_true, e, Option.bind_some, wrap_nat (by omega : k ≤ 1099511627776)]
      exact spec_l9Any_L2_ok m (k + 1) y (by omega) (by omega) gy hle
    · have : k = 6 := by omega
      subst this
      exact ⟨v, rfl, h3⟩
theorem spec_l9AnyF_ok (c : Src) (h : c.ok) : ∃ v p c', spec_l9AnyF 1048580 c = some (v, p, c') ∧ VtB v ∧ intWf p ∧ c'.ok := by
  obtain ⟨v1, c1, e1, a1, b1, g1⟩ := spec_l1BelowF_ok 1048580 c 4 h
  have b1 := b1 (by decide)
  obtain ⟨k, rfl⟩ : ∃ k : Nat, v1 = k := ⟨v1.toNat, by omega⟩
  have hw : IntKind.wrap .i64 (1 + (k : Int)) = ((k + 1 : Nat) : Int) := by rw [wrap64 (by omega) (by omega)]; omega
  obtain ⟨v, c2, e2, gv, g2⟩ := spec_l9DrawF_ok (k + 1) (by omega) (by omega) c1 g1
  have hl := gv.2.1
  have h6 := gv.2.2.1
  have bv : VtB v := ⟨gv.1, by omega, by omega, by omega, gv.2.2.2.2⟩
  have wk : intWf ((k + 1 : Nat) : Int) := intWf_small (by omega) (by omega)
  obtain ⟨v3, c3, e3, a3, b3, g3⟩ := spec_l1BelowF_ok 1048580 c2 12 g2
  obtain ⟨v4, c4, e4, a4, g4⟩ := spec_l1IntF_ok 1048580 c3 [0, 1, 9, 100] g3 (by decide)
  obtain ⟨v5, c5, e5, a5, g5⟩ := spec_l1IntF_ok 1048580 c4 [(-1), 0, 1, 64] g4 (by decide)
  obtain ⟨v6, c6, e6, a6, b6, g6⟩ := spec_l1BelowF_ok 1048580 c5 3 g5
  have b6 := b6 (by decide)
  obtain ⟨v7, c7, e7, a7, g7⟩ := spec_l1IntF_ok 1048580 c3 [0, 7] g3 (by decide)
  obtain ⟨v8, c8, e8, a8, g8⟩ := spec_l1IntF_ok 1048580 c3 [0, 6, 7] g3 (by decide)
  obtain ⟨u, hu, _⟩ := idx_of (xs := v.Pvid) (i := 0) (by omega) (by omega)
  obtain ⟨z, ez, bz⟩ := spec_l9Any_L2_ok 1048580 0 v (by omega) (by omega) bv (by show v.Rows.length * 64 + 64 ≤ 1000; omega)
  have ez : spec_l9Any_L2 1048580 1048580 0 v.Rows v.Pvid = some (.inl (z.Rows, z.Pvid)) := ez
  simp only [List.mem_cons, List.not_mem_nil, or_false] at a4 a5 a7 a8
  have w4 : intWf v4 := by refine intWf_small ?_ ?_ <;> rcases a4 with a | a | a | a <;> omega
  have w5 : intWf v5 := by refine intWf_small ?_ ?_ <;> rcases a5 with a | a | a | a <;> omega
  have w6 : intWf v6 := intWf_small (by omega) (by omega)
  have w7 : intWf v7 := by refine intWf_small ?_ ?_ <;> rcases a7 with a | a <;> omega
  have w8 : intWf v8 := by refine intWf_small ?_ ?_ <;> rcases a8 with a | a | a <;> omega
  have hlen : decide (v.Rows.length + [(⟨v4, v5, v6⟩ : Vrow)].length ≤ 268435456) = true := decide_eq_true (by rw [List.length_singleton]; omega)
  unfold spec_l9AnyF
  simp only [e1, Option.bind_some, hw, e2, e3, e4, e5, e6, e7, e8, hu, hlen, cond_true, ez, spec_l9Any_J1]
  cases (v3 == 0)
  · cases (v3 == 1)
    · cases (v3 == 2)
      · cases (v3 == 3)
        · exact ⟨_, _, _, rfl, bv, wk, g3⟩
        · exact ⟨_, _, _, rfl, bz, wk, g3⟩
      · exact ⟨_, _, _, rfl, bv, w8, g8⟩
    · exact ⟨_, _, _, rfl, ⟨⟨bv.1.1, listWf_set bv.1.2.1 w7, trivial⟩, by show 1 ≤ (v.Pvid.set ((0 : Int)).toNat v7).length; rw [List.length_set]; omega, by show (v.Pvid.set ((0 : Int)).toNat v7).length ≤ 6; rw [List.length_set]; omega, bv.2.2.2⟩, wk, g7⟩
  · refine ⟨_, _, _, rfl, ⟨⟨rows_wf bv.1.1 (r := ⟨v4, v5, v6⟩) ⟨w4, w5, w6, trivial⟩ (by show (v.Rows ++ [_]).length ≤ 4000; simp; omega) fun r hr => ?_, bv.1.2⟩, bv.2.1, bv.2.2.1, by show (v.Rows ++ [_]).length ≤ 1000; simp; omega, fun r hr => ?_⟩, wk, g6⟩
    · rcases List.mem_append.1 hr with a | a
      · exact .inr a
      · exact .inl (List.mem_singleton.1 a)
    · rcases List.mem_append.1 hr with a | a
      · exact bv.2.2.2.2 r a
      · rw [List.mem_singleton.1 a]; exact ⟨a6, by show v6 ≤ 63; omega⟩
theorem spec_l9TabF_ok (c : Src) (h : c.ok) : ∃ v c', spec_l9TabF 1048580 c = some (v, c') ∧ VtB v ∧ c'.ok := by
  obtain ⟨v, p, c', e, g1, g2, g3⟩ := spec_l9AnyF_ok c h
  exact ⟨v, c', by unfold spec_l9TabF; rw [e]; rfl, g1, g3⟩
/-- the bit of a port -/
def bitV (a : Int) (i : Nat) : Bool := (IntKind.wrap .i64 (BitVec.ofInt (IntKind.bits .i64) (Int.fdiv a (2 ^ min ((i : Int)).toNat (IntKind.bits .i64))) &&& BitVec.ofInt (IntKind.bits .i64) 1).toNat == 1)
theorem bitV_nine : ∀ a < 64, bitV ((a : Nat) : Int) 9 = false := by decide +kernel
theorem laws_sameIntsF_refl (n : Nat) (xs : List Int) (h : xs.length ≤ 268435456) (hn : xs.length < n) : laws_sameIntsF n xs xs = some true := by
  unfold laws_sameIntsF
  have := eq_loop (L := laws_sameInts_L2 n) (f := fun a b => some (a == b)) (fun m xs ys i => rfl) xs (by omega) (fun v _ => by simp) n 0 (by omega) (by omega)
  simp only [bne_self_eq_false, cond_false]
  rw [show (laws_sameInts_L2 n n xs xs 0) = _ from this]
  rfl
theorem laws_sameVtabF_refl (n : Nat) (x : Vtab) (h : x.sz ≤ 268435456) (hn : x.sz < n) : laws_sameVtabF n x x = some true := by
  unfold Vtab.sz at h hn
  unfold laws_sameVtabF
  have := eq_loop (L := fun m xs ys i => laws_sameVtab_L2 n m ⟨xs, x.Pvid⟩ ⟨ys, x.Pvid⟩ i) (f := fun v u : Vrow => some ((v.Id == u.Id) && ((v.Members == u.Members) && ((v.Bare == u.Bare) && true)))) (fun m xs ys i => rfl) x.Rows (by omega) (fun v _ => by simp) n 0 (by omega) (by omega)
  simp only [bne_self_eq_false, cond_false, laws_sameIntsF_refl n x.Pvid (by omega) (by omega), Option.bind_some, Bool.not_true]
  rw [show (laws_sameVtab_L2 n n x x 0) = _ from this]
  rfl
theorem idx_lt {α : Type} {xs : List α} {i : Int} {v : α} (h : idx xs i = some v) : 0 ≤ i ∧ i < xs.length := by
  obtain ⟨g1, g2⟩ := idx_get h
  have := (List.getElem?_eq_some_iff.1 g2).1
  omega
theorem bifE {c : Bool} {x : Option Bool} (h : (bif c then x else some false) = some true) : c = true ∧ x = some true := by
  cases c with
  | true => exact ⟨rfl, h⟩
  | false => cases h
theorem scan_inv {L : Nat → Int → Option (Unit ⊕ Bool)} {N : Nat} {P : Nat → Prop} (h0 : ∀ k, L 0 k = none) (hs : ∀ m (k : Nat) o, k < N → L (m + 1) (k : Int) = some o → o = .inr false ∨ (P k ∧ L m ((k + 1 : Nat) : Int) = some o)) (he : ∀ m o, L (m + 1) (N : Int) = some o → o = .inl ()) :
    ∀ (m k : Nat) o, k ≤ N → L m (k : Int) = some o → o = .inr false ∨ (o = .inl () ∧ ∀ j, k ≤ j → j < N → P j)
  | 0, k, o, _, h => by rw [h0] at h; cases h
  | m + 1, k, o, hk, h => by
    by_cases hlt : k < N
    · rcases hs m k o hlt h with e | ⟨hp, h⟩
      · exact .inl e
      · rcases scan_inv h0 hs he m (k + 1) o (by omega) h with e | ⟨e, h2⟩
        · exact .inl e
        · refine .inr ⟨e, fun j hj hj2 => ?_⟩
          by_cases hjk : j = k
          · subst hjk; exact hp
          · exact h2 j (by omega) hj2
    · have : k = N := by omega
      subst this
      exact .inr ⟨he m o h, fun j hj hj2 => by omega⟩
theorem filt_loop {α β : Type} {p : α → Bool} {L : Nat → Int → List α → Option (List α ⊕ β)} (xs : List α) (hx : xs.length ≤ 134217728)
    (h : ∀ m (k : Nat) (acc : List α) (hk : k < xs.length), acc.length ≤ k → L (m + 1) k acc = L m ((k + 1 : Nat) : Int) (acc ++ if p xs[k] then [xs[k]] else [])) (he : ∀ m (acc : List α), L (m + 1) (xs.length : Int) acc = some (.inl acc)) :
    ∀ (m k : Nat) (acc : List α), k ≤ xs.length → xs.length < m + k → acc.length ≤ k → L m k acc = some (.inl (acc ++ (xs.drop k).filter p))
  | 0, k, acc, h1, h2, h3 => by omega
  | m + 1, k, acc, h1, h2, h3 => by
    by_cases hk : k < xs.length
    · rw [h m k acc hk h3, filt_loop xs hx h he m (k + 1) _ (by omega) (by omega) (by split <;> simp <;> omega), List.drop_eq_getElem_cons hk, List.filter_cons, List.append_assoc]
      split <;> simp
    · have : k = xs.length := by omega
      subst this
      rw [he m acc]
      simp
theorem markV_loop {α β : Type} {L : Nat → Int → List α → Int → Option ((List α × Int) ⊕ β)} (w : α → Nat) (good : α → Prop)
    (h : ∀ (m k : Nat) (ys : List α) (b : Int) (v : α), k < ys.length → ys.length ≤ 268435456 → ys[k]? = some v → good v → 0 < b → b ≤ 274877906944 → ∃ v' c, b ≤ c ∧ c ≤ b + 16 * w v ∧ L (m + 1) k ys b = L m ((k + 1 : Nat) : Int) (ys.set k v') c)
    (hend : ∀ m (ys : List α) b, L (m + 1) (ys.length : Int) ys b = some (.inl (ys, b))) : ∀ (post : List α) (m : Nat) (pre : List α) (b : Int), (pre ++ post).length ≤ 268435456 → (∀ v ∈ post, good v) → 0 < b → b + 16 * sumSz w post ≤ 274877906944 → post.length < m →
      ∃ (zs : List α) (c : Int), b ≤ c ∧ c ≤ b + 16 * sumSz w post ∧ L m (pre.length : Int) (pre ++ post) b = some (.inl (zs, c))
  | [], m, pre, b, h1, h2, h3, h4, h5 => by
    obtain ⟨m, rfl⟩ : ∃ m', m = m' + 1 := ⟨m - 1, by have : 0 < m := h5; omega⟩
    refine ⟨pre, b, by omega, by simp only [sumSz]; omega, ?_⟩
    rw [List.append_nil, hend m pre b]
  | v :: post, m, pre, b, h1, h2, h3, h4, h5 => by
    obtain ⟨m, rfl⟩ : ∃ m', m = m' + 1 := ⟨m - 1, by simp only [List.length_cons] at h5; omega⟩
    simp only [sumSz] at h4
    obtain ⟨v', c, k1, k2, k3⟩ := h m pre.length (pre ++ v :: post) b v (by simp) h1 (by simp) (h2 v (by simp)) h3 (by omega)
    rw [set_append_len] at k3
    obtain ⟨zs, c', e1, e2, e3⟩ := markV_loop w good h hend post m (pre ++ [v']) c (by simpa using h1) (fun u hu => h2 u (by simp [hu])) (by omega) (by omega) (by simp only [List.length_cons] at h5; omega)
    refine ⟨zs, c', by omega, by simp only [sumSz]; omega, ?_⟩
    rw [k3]
    simpa using e3
theorem scan_any {L : Nat → Int → Option (Unit ⊕ Bool)} {xs : List Int} {z : Int} (hx : xs.length ≤ 1099511627776) (hs : ∀ m (k : Nat) (hk : k < xs.length), L (m + 1) (k : Int) = bif (xs[k] == z) then some (.inr true) else L m ((k + 1 : Nat) : Int)) (he : ∀ m, L (m + 1) (xs.length : Int) = some (.inl ())) :
    ∀ (m k : Nat), k ≤ xs.length → xs.length < m + k → L m (k : Int) = some (if z ∈ xs.drop k then .inr true else .inl ())
  | 0, k, h1, h2 => by omega
  | m + 1, k, h1, h2 => by
    by_cases hk : k < xs.length
    · rw [hs m k hk, scan_any hx hs he m (k + 1) (by omega) (by omega), List.drop_eq_getElem_cons hk]
      by_cases hz : xs[k] = z
      · have : (xs[k] == z) = true := by simpa using hz
        rw [this, cond_true, if_pos (by rw [hz]; simp)]
      · have : (xs[k] == z) = false := by simpa using hz
        rw [this, cond_false]
        have : (z ∈ xs[k] :: xs.drop (k + 1)) ↔ z ∈ xs.drop (k + 1) := by
          rw [List.mem_cons]; exact ⟨fun h => h.resolve_left (fun e => hz e.symm), .inr⟩
        simp only [this]
    · have : k = xs.length := by omega
      subst this
      rw [he m]; simp
theorem in_range_dec (n : Nat) (z : Int) (N : Nat) (h : N ≤ 1048600) : spec_l1InF n z 0 (IntKind.wrap .i64 ((N : Int) - 1)) = some (decide (0 ≤ z ∧ z < N)) := by
  rw [spec_l1InF_val, wrap64 (by omega) (by omega)]
  by_cases h : 0 ≤ z ∧ z < N
  · rw [decide_eq_true h, decide_eq_true h.1, decide_eq_true (by omega)]; rfl
  · rw [decide_eq_false h]
    congr 1
    simp only [Bool.and_eq_false_iff, decide_eq_false_iff_not]; omega
def metSet (met : List Bool) (z : Int) : Prop := 0 ≤ z ∧ met[z.toNat]? = some true
theorem idx_met {met : List Bool} {z : Int} (h0 : 0 ≤ z) (h1 : z < met.length) : ∃ b, idx met z = some b ∧ (metSet met z ↔ b = true) := by
  obtain ⟨j, rfl⟩ := Int.eq_ofNat_of_zero_le h0
  have hj : j < met.length := by omega
  refine ⟨met[j], idx_nat hj, ?_⟩
  simp [metSet, hj]
theorem met_set {met : List Bool} {i z : Int} (h0 : 0 ≤ i) (h1 : i < met.length) : metSet (met.set i.toNat true) z ↔ z = i ∨ metSet met z := by
  obtain ⟨j, rfl⟩ := Int.eq_ofNat_of_zero_le h0
  have hj : j < met.length := by omega
  unfold metSet
  simp only [Int.toNat_natCast]
  by_cases hz : z = (j : Int)
  · subst hz
    simp [hj]
  · constructor
    · rintro ⟨a, b⟩
      rw [List.getElem?_set_ne (by omega)] at b
      exact .inr ⟨a, b⟩
    · rintro (e | ⟨a, b⟩)
      · exact absurd e hz
      · exact ⟨a, by rw [List.getElem?_set_ne (by omega)]; exact b⟩
theorem count_set_true : ∀ (met : List Bool) (j : Nat), met[j]? = some false → (met.set j true).count true = met.count true + 1
  | [], j, h => by simp at h
  | b :: met, 0, h => by
    simp only [List.getElem?_cons_zero, Option.some.injEq] at h
    subst h
    simp
  | b :: met, j + 1, h => by
    simp only [List.getElem?_cons_succ] at h
    have := count_set_true met j h
    simp only [List.set_cons_succ, List.count_cons, this]
    omega
theorem set_true_same : ∀ (met : List Bool) (j : Nat), met[j]? = some true → met.set j true = met
  | [], j, h => by simp
  | b :: met, 0, h => by
    simp only [List.getElem?_cons_zero, Option.some.injEq] at h
    subst h; rfl
  | b :: met, j + 1, h => by
    simp only [List.getElem?_cons_succ] at h
    simp only [List.set_cons_succ, set_true_same met j h]
theorem impl_copyIntsF_eq (n : Nat) (xs : List Int) (h : xs.length ≤ 268435456) : impl_copyIntsF n xs = some xs := by
  unfold impl_copyIntsF
  rw [decide_eq_true (by simp; omega)]; rfl
theorem check_loop {α : Type} {L : Nat → Int → Option (α ⊕ Bool)} {N : Nat} {P : Nat → Prop} (hs : ∀ m (k : Nat), k < N → (P k ∧ L (m + 1) (k : Int) = L m ((k + 1 : Nat) : Int)) ∨ (¬ P k ∧ L (m + 1) (k : Int) = some (.inr false))) (he : ∀ m, ∃ a, L (m + 1) (N : Int) = some (.inl a)) :
    ∀ (m k : Nat), k ≤ N → N < m + k → (∃ a, L m (k : Int) = some (.inl a) ∧ ∀ j, k ≤ j → j < N → P j) ∨ (L m (k : Int) = some (.inr false) ∧ ¬ ∀ j, k ≤ j → j < N → P j)
  | 0, k, h1, h2 => by omega
  | m + 1, k, h1, h2 => by
    by_cases hk : k < N
    · rcases hs m k hk with ⟨hp, e⟩ | ⟨hp, e⟩
      · rcases check_loop hs he m (k + 1) (by omega) (by omega) with ⟨a, h3, h4⟩ | ⟨h3, h4⟩
        · refine .inl ⟨a, e.trans h3, fun j hj hj2 => ?_⟩
          by_cases hjk : j = k
          · subst hjk; exact hp
          · exact h4 j (by omega) hj2
        · exact .inr ⟨e.trans h3, fun h => h4 fun j hj hj2 => h j (by omega) hj2⟩
      · exact .inr ⟨e, fun h => hp (h k (Nat.le_refl _) hk)⟩
    · have : k = N := by omega
      subst this
      obtain ⟨a, ha⟩ := he m
      exact .inl ⟨a, ha, fun j hj hj2 => by omega⟩
theorem markH_loop {α β γ : Type} {L : Nat → Int → List α → Int → Option ((List α × Int) ⊕ β)} {H : Nat → List α → Int → Int → Option (Int ⊕ γ)} (w : α → Nat) (good : α → Prop)
    (h : ∀ (k : Nat) (ys : List α) (b : Int) (v : α), k < ys.length → ys.length ≤ 268435456 → ys[k]? = some v → good v → 0 < b → b ≤ 274877906944 → ∃ v' c, b ≤ c ∧ c ≤ b + 16 * w v ∧ (∀ m, L (m + 1) k ys b = L m ((k + 1 : Nat) : Int) (ys.set k v') c) ∧ ∀ m (ys' : List α), ys'.length ≤ 268435456 → k < ys'.length → ys'[k]? = some v' → H (m + 1) ys' k b = H m ys' ((k + 1 : Nat) : Int) c)
    (hend : ∀ m (ys : List α) b, L (m + 1) (ys.length : Int) ys b = some (.inl (ys, b))) (hendH : ∀ m (ys : List α) b, H (m + 1) ys (ys.length : Int) b = some (.inl b)) : ∀ (post pre : List α) (b : Int), (pre ++ post).length ≤ 268435456 → (∀ v ∈ post, good v) → 0 < b → b + 16 * sumSz w post ≤ 274877906944 →
      ∃ (zs : List α) (c : Int), zs.length = post.length ∧ b ≤ c ∧ c ≤ b + 16 * sumSz w post ∧ (∀ m, post.length < m → L m (pre.length : Int) (pre ++ post) b = some (.inl (pre ++ zs, c))) ∧ ∀ m, post.length < m → H m (pre ++ zs) (pre.length : Int) b = some (.inl c)
  | [], pre, b, h1, h2, h3, h4 => by
    refine ⟨[], b, rfl, by omega, by simp only [sumSz]; omega, fun m hm => ?_, fun m hm => ?_⟩
    · obtain ⟨m, rfl⟩ : ∃ m', m = m' + 1 := ⟨m - 1, by have : 0 < m := hm; omega⟩
      rw [List.append_nil, hend m pre b]
    · obtain ⟨m, rfl⟩ : ∃ m', m = m' + 1 := ⟨m - 1, by have : 0 < m := hm; omega⟩
      rw [List.append_nil, hendH m pre b]
  | v :: post, pre, b, h1, h2, h3, h4 => by
    simp only [sumSz] at h4
    obtain ⟨v', c, k1, k2, k3, k4⟩ := h pre.length (pre ++ v :: post) b v (by simp) h1 (by simp) (h2 v (by simp)) h3 (by omega)
    obtain ⟨zs, c', e0, e1, e2, e3, e4⟩ := markH_loop w good h hend hendH post (pre ++ [v']) c (by simpa using h1) (fun u hu => h2 u (by simp [hu])) (by omega) (by omega)
    refine ⟨v' :: zs, c', by simp [e0], by omega, by simp only [sumSz]; omega, fun m hm => ?_, fun m hm => ?_⟩
    · obtain ⟨m, rfl⟩ : ∃ m', m = m' + 1 := ⟨m - 1, by simp only [List.length_cons] at hm; omega⟩
      rw [k3 m, set_append_len]
      have := e3 m (by simp only [List.length_cons] at hm; omega)
      simpa using this
    · obtain ⟨m, rfl⟩ : ∃ m', m = m' + 1 := ⟨m - 1, by simp only [List.length_cons] at hm; omega⟩
      have hlen : (pre ++ v' :: zs).length ≤ 268435456 := by simp only [List.length_append, List.length_cons, e0] at h1 ⊢; omega
      rw [k4 m (pre ++ v' :: zs) hlen (by simp) (by simp)]
      have := e4 m (by simp only [List.length_cons] at hm; omega)
      simpa using this
theorem sum_le_of {α : Type} {w : α → Nat} {c : Nat} : ∀ {xs : List α}, (∀ v ∈ xs, w v ≤ c) → sumSz w xs ≤ c * xs.length
  | [], _ => by simp [sumSz]
  | x :: xs, h => by
    have h1 := sum_le_of (xs := xs) fun v hv => h v (by simp [hv])
    have h2 := h x (by simp)
    simp only [sumSz, List.length_cons, Nat.mul_succ]
    omega
/-- A list out of which elements are taken, one behind the other. -/
def Holes {α : Type} (xs : List α) (k : Nat) (ys : List (Option α)) : Prop := ys.length = xs.length ∧ ∀ j, k ≤ j → ys[j]? = (xs[j]?).map some
theorem Holes.start {α : Type} (xs : List α) : Holes xs 0 (xs.map some) := ⟨by simp, fun j _ => by simp⟩
theorem Holes.get {α : Type} {xs : List α} {k : Nat} {ys : List (Option α)} (h : Holes xs k ys) (hk : k < xs.length) : idxO ys (k : Int) = some xs[k] := by
  have h1 := h.2 k (Nat.le_refl _)
  rw [List.getElem?_eq_getElem hk] at h1
  unfold idxO
  rw [idx_at h1]
  rfl
theorem Holes.next {α : Type} {xs : List α} {k : Nat} {ys : List (Option α)} (h : Holes xs k ys) : Holes xs (k + 1) (ys.set ((k : Int)).toNat none) := by
  refine ⟨by simp [h.1], fun j hj => ?_⟩
  rw [Int.toNat_natCast, List.getElem?_set_ne (by omega)]
  exact h.2 j (by omega)
theorem VtB.sz {v : Vtab} (h : VtB v) : v.sz ≤ 1006 := by
  have h1 := h.2.2.1
  have h2 := h.2.2.2.1
  show v.Rows.length + v.Pvid.length ≤ 1006
  omega
def maskV (p : Int) : Int := IntKind.wrap .i64 ((IntKind.wrap .i64 (1 * 2 ^ min (((IntKind.wrap .u64 p) : Int)).toNat (IntKind.bits .i64))) - 1)
def rowB (p : Int) (v : Vrow) : Bool := (decide (1 ≤ v.Id) && decide (v.Id ≤ 99)) && ((decide (0 ≤ v.Members) && decide (v.Members ≤ maskV p)) && ((decide (0 ≤ v.Bare) && decide (v.Bare ≤ maskV p)) && ((IntKind.wrap .i64 (BitVec.ofInt (IntKind.bits .i64) v.Bare &&& BitVec.ofInt (IntKind.bits .i64) v.Members).toNat) == v.Bare)))
theorem spec_VtabOk_L4_step (n : Nat) (x : Vtab) (p : Int) (h : x.Rows.length ≤ 1048580) (m k : Nat) (hk : k < x.Rows.length) :
    ((∀ hk : k < x.Rows.length, rowB p x.Rows[k] = true ∧ ∀ i (e : k = i + 1), (x.Rows[i]'(by omega)).Id < x.Rows[k].Id) ∧ spec_VtabOk_L4 n (m + 1) x p k = spec_VtabOk_L4 n m x p ((k + 1 : Nat) : Int)) ∨
    (¬ (∀ hk : k < x.Rows.length, rowB p x.Rows[k] = true ∧ ∀ i (e : k = i + 1), (x.Rows[i]'(by omega)).Id < x.Rows[k].Id) ∧ spec_VtabOk_L4 n (m + 1) x p k = some (.inr false)) := by
  rw [spec_VtabOk_L4, lt_true hk, cond_true, idx_nat hk, Option.bind_some]
  simp only [spec_l1InF_val, Option.bind_some, wrap_nat (by omega : k ≤ 1099511627776)]
  have hrow : rowB p x.Rows[k] = ((decide (1 ≤ x.Rows[k].Id) && decide (x.Rows[k].Id ≤ 99)) && ((decide (0 ≤ x.Rows[k].Members) && decide (x.Rows[k].Members ≤ maskV p)) && ((decide (0 ≤ x.Rows[k].Bare) && decide (x.Rows[k].Bare ≤ maskV p)) && ((IntKind.wrap .i64 (BitVec.ofInt (IntKind.bits .i64) x.Rows[k].Bare &&& BitVec.ofInt (IntKind.bits .i64) x.Rows[k].Members).toNat) == x.Rows[k].Bare)))) := rfl
  have hb : ∀ a b : Int, (a != b) = !(a == b) := fun a b => rfl
  unfold maskV at hrow
  rw [hb]
  generalize (decide (1 ≤ x.Rows[k].Id) && decide (x.Rows[k].Id ≤ 99)) = b1 at hrow ⊢
  generalize (decide (0 ≤ x.Rows[k].Members) && decide (x.Rows[k].Members ≤ IntKind.wrap .i64 ((IntKind.wrap .i64 (1 * 2 ^ min (((IntKind.wrap .u64 p) : Int)).toNat (IntKind.bits .i64))) - 1))) = b2 at hrow ⊢
  generalize (decide (0 ≤ x.Rows[k].Bare) && decide (x.Rows[k].Bare ≤ IntKind.wrap .i64 ((IntKind.wrap .i64 (1 * 2 ^ min (((IntKind.wrap .u64 p) : Int)).toNat (IntKind.bits .i64))) - 1))) = b3 at hrow ⊢
  generalize ((IntKind.wrap .i64 (BitVec.ofInt (IntKind.bits .i64) x.Rows[k].Bare &&& BitVec.ofInt (IntKind.bits .i64) x.Rows[k].Members).toNat) == x.Rows[k].Bare) = b4 at hrow ⊢
  have bad : (b1 && (b2 && (b3 && b4))) = false → ¬ (∀ hk : k < x.Rows.length, rowB p x.Rows[k] = true ∧ ∀ i (e : k = i + 1), (x.Rows[i]'(by omega)).Id < x.Rows[k].Id) := fun e hc => by
    have := (hc hk).1
    rw [hrow, e] at this
    cases this
  cases b1 with
  | false => exact .inr ⟨bad rfl, rfl⟩
  | true =>
    cases b2 with
    | false => exact .inr ⟨bad rfl, rfl⟩
    | true =>
      cases b3 with
      | false => exact .inr ⟨bad rfl, rfl⟩
      | true =>
        cases b4 with
        | false => exact .inr ⟨bad rfl, rfl⟩
        | true =>
          simp only [Bool.not_true, cond_false]
          cases k with
          | zero => exact .inl ⟨fun _ => ⟨hrow, fun i e => by omega⟩, rfl⟩
          | succ k =>
            have hw2 : IntKind.wrap .i64 (((k + 1 : Nat) : Int) - 1) = (k : Int) := by rw [wrap64 (by omega) (by omega)]; omega
            rw [decide_eq_true (show ((k + 1 : Nat) : Int) > 0 by omega), cond_true, hw2, idx_nat (show k < x.Rows.length by omega), Option.bind_some]
            by_cases hge : (x.Rows[k]'(by omega)).Id ≥ x.Rows[k + 1].Id
            · exact .inr ⟨fun hc => by have := (hc hk).2 k rfl; omega, by rw [decide_eq_true hge]; rfl⟩
            · refine .inl ⟨fun _ => ⟨hrow, fun i e => ?_⟩, by rw [decide_eq_false hge]; rfl⟩
              obtain rfl : k = i := by omega
              omega
theorem spec_VtabOkF_iff (n : Nat) (x : Vtab) (p : Int) (h : x.Rows.length ≤ 1048580) (hn : x.Rows.length < n) (hq : x.Pvid.length ≤ 1048580) (hqn : x.Pvid.length < n) (h0 : 0 ≤ p) (h1 : p ≤ 1099511627776) : spec_VtabOkF n x p = some true ↔
    (1 ≤ p ∧ p ≤ 6) ∧ (x.Pvid.length : Int) = p ∧ x.Rows.length ≤ 6 ∧ (∀ j (hj : j < x.Rows.length), rowB p x.Rows[j] = true) ∧ sortedFrom x.Rows 0 ∧ ∀ q ∈ x.Pvid, ∃ v ∈ x.Rows, v.Id = q := by
  obtain ⟨k, rfl⟩ := Int.eq_ofNat_of_zero_le h0
  unfold spec_VtabOkF
  rw [spec_l1InF_val, Option.bind_some, wrapU (show k ≤ 1099511627776 by omega), decide_eq_true (show (0 : Int) ≤ (k : Int) by omega), cond_true]
  by_cases hp : 1 ≤ (k : Int) ∧ (k : Int) ≤ 6
  · rw [decide_eq_true hp.1, decide_eq_true hp.2]
    simp only [Bool.and_self, Bool.not_true, cond_false]
    by_cases hl : (x.Pvid.length : Int) = k
    · rw [show ((x.Pvid.length : Int) != (k : Int)) = false from by simpa using hl, cond_false]
      by_cases h6 : x.Rows.length ≤ 6
      · rw [decide_eq_false (show ¬ (x.Rows.length : Int) > 6 by omega), cond_false]
        rcases check_loop (L := fun m j => spec_VtabOk_L4 n m x k j) (N := x.Rows.length) (P := fun k_1 => ∀ hk : k_1 < x.Rows.length, rowB (k : Int) x.Rows[k_1] = true ∧ ∀ i (e : k_1 = i + 1), (x.Rows[i]'(by omega)).Id < x.Rows[k_1].Id) (fun m j hj => spec_VtabOk_L4_step n x k h m j hj) (fun m => ⟨(), by simp only [spec_VtabOk_L4]; rw [lt_false]; rfl⟩) n 0 (by omega) (by omega) with ⟨a, e, pp⟩ | ⟨e, pp⟩
        · rw [show spec_VtabOk_L4 n n x k 0 = _ from e, Option.bind_some]
          simp only [spec_VtabOk_J1]
          have hs : sortedFrom x.Rows 0 := fun j hj _ => (pp (j + 1) (by omega) hj hj).2 j rfl
          rcases check_loop (L := fun m j => spec_VtabOk_L3 n m x j) (N := x.Pvid.length) (P := fun j => ∀ hj : j < x.Pvid.length, ∃ v ∈ x.Rows, v.Id = x.Pvid[j]) (fun m j hj => by
            simp only [spec_VtabOk_L3]
            rw [lt_true hj, cond_true, idx_nat hj, Option.bind_some, wrap_nat (by omega : j ≤ 1099511627776)]
            obtain ⟨r, hr, hk⟩ := spec_RowAtF_ok n x x.Pvid[j] h hn
            rw [hr, Option.bind_some]
            rcases hk with ⟨rfl, hno⟩ | ⟨v, hr0, hv, he⟩
            · exact .inr ⟨fun hc => by obtain ⟨v, hv, he⟩ := hc hj; exact hno v hv he, rfl⟩
            · exact .inl ⟨fun _ => ⟨v, List.mem_of_getElem? (idx_get hv).2, he⟩, by rw [decide_eq_false (show ¬ r < 0 by omega)]; rfl⟩) (fun m => ⟨(), by simp only [spec_VtabOk_L3]; rw [lt_false]; rfl⟩) n 0 (by omega) (by omega) with ⟨a3, e3, p3⟩ | ⟨e3, p3⟩
          · rw [show spec_VtabOk_L3 n n x 0 = _ from e3, Option.bind_some]
            refine ⟨fun _ => ⟨hp, hl, h6, fun j hj => (pp j (by omega) hj hj).1, hs, fun q hq' => ?_⟩, fun _ => rfl⟩
            obtain ⟨j, hj, rfl⟩ := List.getElem_of_mem hq'
            exact p3 j (by omega) hj hj
          · rw [show spec_VtabOk_L3 n n x 0 = _ from e3, Option.bind_some]
            exact ⟨fun hc => (by cases hc), fun hc => absurd (fun j _ hj _ => hc.2.2.2.2.2 _ (List.getElem_mem hj)) p3⟩
        · rw [show spec_VtabOk_L4 n n x k 0 = _ from e, Option.bind_some]
          refine ⟨fun hc => (by cases hc), fun hc => absurd (fun j _ hj _ => ⟨hc.2.2.2.1 j hj, fun i e => ?_⟩) pp⟩
          subst e
          exact hc.2.2.2.2.1 i hj (by omega)
      · rw [decide_eq_true (show (x.Rows.length : Int) > 6 by omega)]
        exact ⟨fun hc => (by cases hc), fun hc => absurd hc.2.2.1 h6⟩
    · rw [show ((x.Pvid.length : Int) != (k : Int)) = true from by simpa using hl]
      exact ⟨fun hc => (by cases hc), fun hc => absurd hc.2.1 hl⟩
  · have : (decide (1 ≤ (k : Int)) && decide ((k : Int) ≤ 6)) = false := by
      simp only [Bool.and_eq_false_iff, decide_eq_false_iff_not]; omega
    rw [this]
    exact ⟨fun hc => (by cases hc), fun hc => absurd hc.1 hp⟩
theorem insR_mem (r : Vrow) : ∀ (xs : List Vrow), r ∈ insR r xs
  | [] => by simp [insR]
  | v :: xs => by
    unfold insR
    split
    · exact List.mem_cons_of_mem _ (insR_mem r xs)
    · split <;> simp
theorem sorted_lt : ∀ {xs : List Vrow} (h : sortedFrom xs 0) (i j : Nat) (hij : i < j) (hj : j < xs.length), (xs[i]'(by omega)).Id < xs[j].Id
  | xs, h, i, j, hij, hj => by
    induction j with
    | zero => omega
    | succ j ih =>
      have h1 := h j hj (by omega)
      by_cases e : i = j
      · subst e; exact h1
      · have := ih (by omega) (by omega); omega
/-- Rows in order: one of an Id. -/
theorem sorted_one {xs : List Vrow} (h : sortedFrom xs 0) {u v : Vrow} (hu : u ∈ xs) (hv : v ∈ xs) (e : u.Id = v.Id) : u = v := by
  obtain ⟨i, hi, rfl⟩ := List.getElem_of_mem hu
  obtain ⟨j, hj, rfl⟩ := List.getElem_of_mem hv
  by_cases hij : i = j
  · subst hij; rfl
  · by_cases hlt : i < j
    · have := sorted_lt h i j hlt hj; omega
    · have := sorted_lt h j i (by omega) hi; omega
theorem sorted_without {xs : List Vrow} (h : sortedFrom xs 0) (k : Nat) (hk : k < xs.length) : sortedFrom (xs.take k ++ xs.drop (k + 1)) 0 ∧ (∀ v, v ∈ xs.take k ++ xs.drop (k + 1) ↔ v ∈ xs ∧ v.Id ≠ xs[k].Id) := by
  have hget : ∀ j (hj : j < (xs.take k ++ xs.drop (k + 1)).length), ∃ i, ∃ hi : i < xs.length, (xs.take k ++ xs.drop (k + 1))[j] = xs[i] ∧ i = if j < k then j else j + 1 := fun j hj => by
    simp only [List.length_append, List.length_take, List.length_drop] at hj
    by_cases hjk : j < k
    · refine ⟨j, by omega, ?_, by rw [if_pos hjk]⟩
      rw [List.getElem_append_left (by simp; omega), List.getElem_take]
    · refine ⟨j + 1, by omega, ?_, by rw [if_neg hjk]⟩
      rw [List.getElem_append_right (by simp; omega), List.getElem_drop]
      congr 1
      simp only [List.length_take]
      omega
  refine ⟨fun j hj _ => ?_, fun v => ?_⟩
  · obtain ⟨i1, h1, e1, f1⟩ := hget j (by omega)
    obtain ⟨i2, h2, e2, f2⟩ := hget (j + 1) hj
    rw [e1, e2]
    refine sorted_lt h i1 i2 ?_ h2
    split at f1 <;> split at f2 <;> omega
  · constructor
    · intro hv
      obtain ⟨j, hj, rfl⟩ := List.getElem_of_mem hv
      obtain ⟨i, hi, e, f⟩ := hget j hj
      rw [e]
      refine ⟨List.getElem_mem hi, fun he => ?_⟩
      have hne : i ≠ k := by split at f <;> omega
      by_cases hlt : i < k
      · have := sorted_lt h i k hlt hk; omega
      · have := sorted_lt h k i (by omega) hi; omega
    · rintro ⟨hv, hne⟩
      obtain ⟨i, hi, rfl⟩ := List.getElem_of_mem hv
      have hik : i ≠ k := fun e => hne (by subst e; rfl)
      by_cases hlt : i < k
      · refine List.mem_append_left _ ?_
        have : (xs.take k)[i]? = some xs[i] := by rw [List.getElem?_take, if_pos hlt]; exact List.getElem?_eq_getElem _
        exact List.mem_of_getElem? this
      · refine List.mem_append_right _ ?_
        have : (xs.drop (k + 1))[i - (k + 1)]? = some xs[i] := by rw [List.getElem?_drop, show k + 1 + (i - (k + 1)) = i by omega]; exact List.getElem?_eq_getElem _
        exact List.mem_of_getElem? this
/-- What putting a row gives. -/
theorem spec_PutRowF_what (n : Nat) (x : Vtab) (r : Vrow) (wx : x.wf) (wr : r.wf) (hx : x.sz ≤ 1048576) (hn : 1048577 < n) : ∃ y b, spec_PutRowF n x r = some (y, b) ∧ impl_PutRowF n x r = some (y, b) ∧ y.sz ≤ 1048577 ∧ y.wf ∧ y.Pvid = x.Pvid ∧ (b = false → y = x) ∧ (b = true → spec_VtabOkF n y (x.Pvid.length : Int) = some true ∧ r ∈ y.Rows) := by
  have hs : x.Rows.length + x.Pvid.length = x.sz := rfl
  obtain ⟨y, h1, h2, h3, h4, h5⟩ := impl_withRowF_ok n x r wx wr hx (by omega)
  obtain ⟨a, b, f1, f2, f3, f4⟩ := turned_both n x y wx h2 (by rw [h3]) hx h4 hn
  have hi : impl_PutRowF n x r = some (bif a && b then (y, true) else (x, false)) := by
    simp only [impl_PutRowF, h1, f4, Option.bind_some]
  cases a with
  | false =>
    refine ⟨x, false, ?_, by rw [hi]; rfl, by omega, wx, rfl, fun _ => rfl, fun h => by cases h⟩
    simp only [spec_PutRowF, f1, Option.bind_some, spec_l9CopyF_eq n x (by omega)]
    rfl
  | true =>
    have hsr := spec_VtabOkF_sorted n x _ (by omega) f1
    have hy := h5 hsr
    have hsp : spec_PutRowF n x r = some (bif b then (y, true) else (x, false)) := by
      simp only [spec_PutRowF, f1, Option.bind_some, spec_l9RowF_eq n x r hx (by omega) hsr, ← hy, f3]
      rfl
    cases b with
    | false => exact ⟨x, false, by rw [hsp]; rfl, by rw [hi]; rfl, by omega, wx, rfl, fun _ => rfl, fun h => by cases h⟩
    | true =>
      refine ⟨y, true, by rw [hsp]; rfl, by rw [hi]; rfl, h4, h2, h3, fun h => (by cases h), fun _ => ⟨f2, ?_⟩⟩
      rw [hy]; exact insR_mem r _
theorem impl_DropRowF_what (n : Nat) (x : Vtab) (id : Int) (wx : x.wf) (hx : x.sz ≤ 1048577) (hn : 1048577 < n) {k : Nat} (hk : k < x.Rows.length) (hid : x.Rows[k].Id = id) (hr : spec_RowAtF n x id = some (k : Int)) (hok : spec_VtabOkF n x (x.Pvid.length : Int) = some true) : ∃ b, spec_VtabOkF n ⟨x.Rows.take k ++ x.Rows.drop (k + 1), x.Pvid⟩ (x.Pvid.length : Int) = some b ∧ impl_DropRowF n x id = some (bif b then (⟨x.Rows.take k ++ x.Rows.drop (k + 1), x.Pvid⟩, true) else (x, false)) := by
  have hs : x.Rows.length + x.Pvid.length = x.sz := rfl
  have hlen := spec_VtabOkF_len n x _ hok
  have hx' : x.sz ≤ 1048576 := by
    have := (spec_VtabOkF_iff n x _ (by omega) (by omega) (by omega) (by omega) (by omega) (by omega)).1 hok
    omega
  have hw : IntKind.wrap .i64 ((k : Int) + 1) = ((k + 1 : Nat) : Int) := wrap_nat (by omega)
  have hlist : (([] : List Vrow) ++ ((x.Rows.drop ((0 : Int)).toNat).take (((k : Int)).toNat - ((0 : Int)).toNat))) ++ ((x.Rows.drop ((((k + 1 : Nat) : Int))).toNat).take ((((x.Rows.length : Int) : Int)).toNat - ((((k + 1 : Nat) : Int))).toNat)) = x.Rows.take k ++ x.Rows.drop (k + 1) := by
    simp only [Int.toNat_natCast, List.nil_append, show ((0 : Int)).toNat = 0 from rfl, List.drop_zero, Nat.sub_zero]
    congr 1
    exact List.take_of_length_le (by simp)
  have wy : (⟨x.Rows.take k ++ x.Rows.drop (k + 1), x.Pvid⟩ : Vtab).wf := ⟨listWf_sub wx.1 (fun y hy => by
    rcases List.mem_append.1 hy with h | h
    · exact List.mem_of_mem_take h
    · exact List.mem_of_mem_drop h) (by simp; omega), wx.2⟩
  have hysz : (⟨x.Rows.take k ++ x.Rows.drop (k + 1), x.Pvid⟩ : Vtab).sz ≤ 1048576 := by
    show (x.Rows.take k ++ x.Rows.drop (k + 1)).length + x.Pvid.length ≤ 1048576
    simp; omega
  obtain ⟨a', b, f1, f2, f3, f4⟩ := turned_both n x _ wx wy rfl hx' (by omega) hn
  rw [hok] at f1
  cases f1
  refine ⟨b, f2, ?_⟩
  have hg2 : (decide ((0 : Int) ≤ ((k + 1 : Nat) : Int)) && (decide ((((k + 1 : Nat) : Int) : Int) ≤ (x.Rows.length : Int)) && decide (((x.Rows.length : Int) : Int) ≤ (x.Rows.length : Int)))) = true := by
    rw [decide_eq_true (by omega : (0 : Int) ≤ ((k + 1 : Nat) : Int)), decide_eq_true (by omega : ((k + 1 : Nat) : Int) ≤ (x.Rows.length : Int)), decide_eq_true (Int.le_refl _)]; rfl
  have hg3 : decide (([] : List Vrow).length + ((x.Rows.drop ((0 : Int)).toNat).take (((k : Int)).toNat - ((0 : Int)).toNat)).length ≤ 268435456) = true := decide_eq_true (by simp; omega)
  have hg4 : decide ((([] : List Vrow) ++ ((x.Rows.drop ((0 : Int)).toNat).take (((k : Int)).toNat - ((0 : Int)).toNat))).length + ((x.Rows.drop ((((k + 1 : Nat) : Int))).toNat).take ((((x.Rows.length : Int) : Int)).toNat - ((((k + 1 : Nat) : Int))).toNat)).length ≤ 268435456) = true := decide_eq_true (by simp; omega)
  have hn0 : decide ((k : Int) < 0) = false := decide_eq_false (by omega)
  have hn1 : decide ((k : Int) ≥ 0) = true := decide_eq_true (by omega)
  have hle : decide ((k : Int) ≤ (x.Rows.length : Int)) = true := decide_eq_true (by omega)
  have h00 : decide ((0 : Int) ≤ 0) = true := rfl
  simp only [impl_DropRowF, impl_withoutRowF, impl_RowAtF_eq, hr, Option.bind_some, impl_copyVtabF_eq n x (by omega), hn0, hn1, cond_false, hw, hle, h00, hg2, hg3, hg4, Bool.and_self, cond_true, hlist, f4, Bool.true_and]
theorem laws_hasF_val (n : Nat) (xs : List Int) (z : Int) (h : xs.length ≤ 1048600) (hn : xs.length < n) : laws_hasF n xs z = some (decide (z ∈ xs)) := by
  have := scan_any (L := fun m k => laws_has_L2 n m xs z k) (xs := xs) (z := z) (by omega) (fun m k hk => by
    simp only [laws_has_L2]
    rw [lt_true hk, cond_true, idx_nat hk, Option.bind_some, wrap_nat (by omega : k ≤ 1099511627776)]) (fun m => by simp only [laws_has_L2]; rw [lt_false]; rfl) n 0 (by omega) (by omega)
  unfold laws_hasF
  rw [show laws_has_L2 n n xs z 0 = _ from this]
  by_cases hz : z ∈ xs
  · simp [hz]
  · simp [hz, laws_has_J1]
theorem laws_FnNetworks_plain (x0 : List Int) (w0 : listWf byteWf x0) : ∃ n, laws_FnNetworksF n x0 = some true := by
  refine ⟨1048580, ?_⟩
  simp only [laws_FnNetworksF, laws_bigF, Option.bind_some]
  by_cases hb : (x0.length : Int) > 1048576
  · rw [decide_eq_true hb]; rfl
  · rw [decide_eq_false hb]
    obtain ⟨c, e, g⟩ := spec_l1NewF_ok 1048580 x0 (by omega) (by omega)
    obtain ⟨v, c2, e2, b2, g2⟩ := spec_l9TabF_ok c g
    have draw : ∃ r : Vrow, spec_DrawPutRowF 1048580 x0 = some (v, r) ∧ r.wf := by
      obtain ⟨a3, c3, e3, l3, l3', g3⟩ := spec_l1BelowF_ok 1048580 c2 4 g2
      have l3' := l3' (by omega)
      obtain ⟨k, rfl⟩ := Int.eq_ofNat_of_zero_le l3
      have hw : IntKind.wrap .i64 (1 + (k : Int)) = ((k + 1 : Nat) : Int) := by rw [wrap64 (by omega) (by omega)]; omega
      obtain ⟨r4, c4, e4, w4, _, _, g4⟩ := spec_l9Row2F_ok 1048580 (k + 1) (by omega) c3 g3
      obtain ⟨a5, c5, e5, g5⟩ := spec_l1OnceF_ok 1048580 c4 6 g4
      simp only [spec_DrawPutRowF, e, e2, e3, hw, e4, e5, Option.bind_some]
      cases a5 with
      | false => exact ⟨r4, rfl, w4⟩
      | true =>
        obtain ⟨a6, c6, e6, m6, g6⟩ := spec_l1IntF_ok 1048580 c5 [0, 99, 100] g5 (by decide)
        obtain ⟨a7, c7, e7, m7, g7⟩ := spec_l1IntF_ok 1048580 c6 [(-1), 1, 64] g6 (by decide)
        obtain ⟨a8, c8, e8, l8, l8', g8⟩ := spec_l1BelowF_ok 1048580 c7 4 g7
        have l8' := l8' (by omega)
        simp only [List.mem_cons, List.not_mem_nil, or_false] at m6 m7
        simp only [cond_true, e6, e7, e8, Option.bind_some]
        exact ⟨_, rfl, intWf_small (by simp only; omega) (by simp only; omega), intWf_small (by simp only; omega) (by simp only; omega), intWf_small (by simp only; omega) (by simp only; omega), trivial⟩
    obtain ⟨r, hd, wr⟩ := draw
    have hv := b2.sz
    obtain ⟨y, b, h1, h2, h3, h4, h5, h6, h7⟩ := spec_PutRowF_what 1048580 v r b2.1 wr (by omega) (by omega)
    simp only [cond_false, hd, h1, h2, Option.bind_some, beq_self_eq_true, Bool.not_true, laws_sameVtabF_refl 1048580 y (by omega) (by omega)]
    cases b with
    | false =>
      rw [h6 rfl]
      simp only [Bool.not_false, laws_FnNetworks_J1, cond_true, beq_self_eq_true, laws_sameVtabF_refl 1048580 v (by omega) (by omega), Option.bind_some]
    | true =>
      obtain ⟨q1, q2⟩ := h7 rfl
      have hys : y.Rows.length + y.Pvid.length = y.sz := rfl
      have hpl : y.Pvid.length = v.Pvid.length := by rw [h5]
      rw [← hpl] at q1
      obtain ⟨i1, i2, i3, i4, i5, i6⟩ := (spec_VtabOkF_iff 1048580 y (y.Pvid.length : Int) (by omega) (by omega) (by omega) (by omega) (by omega) (by omega)).1 q1
      obtain ⟨z, hz, hk⟩ := spec_RowAtF_ok 1048580 y r.Id (by omega) (by omega)
      rcases hk with ⟨_, hno⟩ | ⟨u, z0, hu, hid⟩
      · exact absurd rfl (hno r q2)
      · have hmem : u ∈ y.Rows := List.mem_of_getElem? (idx_get hu).2
        obtain rfl := sorted_one i5 hmem q2 hid
        obtain ⟨k, rfl⟩ := Int.eq_ofNat_of_zero_le z0
        have hkl : k < y.Rows.length := by have := (idx_lt hu).2; omega
        have huk : y.Rows[k] = u := by rw [idx_nat hkl] at hu; exact Option.some.inj hu
        obtain ⟨b', p1, p2⟩ := impl_DropRowF_what 1048580 y u.Id h4 (by omega) (by omega) hkl (by rw [huk]) hz q1
        have hok : impl_VtabOkF 1048580 y (v.Pvid.length : Int) = some true := by
          rw [← hpl, (spec_VtabOkF_both 1048580 y h4 _ (by omega) (by omega)).1]; exact q1
        obtain ⟨s1, s2⟩ := sorted_without i5 k hkl
        simp only [Bool.not_true, laws_FnNetworks_J1, cond_false, impl_RowAtF_eq, hz, p2, Option.bind_some, decide_eq_false (show ¬ ((k : Nat) : Int) < 0 by omega), hu, beq_self_eq_true, Bool.and_self, hok]
        cases b' with
        | true =>
          simp only [cond_true]
          have hwl : (y.Rows.take k ++ y.Rows.drop (k + 1)).length ≤ y.Rows.length := by simp; omega
          obtain ⟨z', hz', hk'⟩ := spec_RowAtF_ok 1048580 ⟨y.Rows.take k ++ y.Rows.drop (k + 1), y.Pvid⟩ u.Id (by simp only; omega) (by simp only; omega)
          have : z' = -1 := by
            rcases hk' with ⟨e, _⟩ | ⟨w, _, hw, he⟩
            · exact e
            · have := (s2 w).1 (List.mem_of_getElem? (idx_get hw).2)
              exact absurd (he.trans (by rw [huk])) this.2
          subst this
          have wz : (⟨y.Rows.take k ++ y.Rows.drop (k + 1), y.Pvid⟩ : Vtab).wf := ⟨listWf_sub h4.1 (fun w hw => ((s2 w).1 hw).1) hwl, h4.2⟩
          have hsz : (⟨y.Rows.take k ++ y.Rows.drop (k + 1), y.Pvid⟩ : Vtab).sz ≤ 1048580 := by show (y.Rows.take k ++ y.Rows.drop (k + 1)).length + y.Pvid.length ≤ 1048580; omega
          have hok2 : impl_VtabOkF 1048580 ⟨y.Rows.take k ++ y.Rows.drop (k + 1), y.Pvid⟩ (v.Pvid.length : Int) = some true := by
            rw [← hpl, (spec_VtabOkF_both 1048580 _ wz _ hsz (by show (y.Rows.take k ++ y.Rows.drop (k + 1)).length + y.Pvid.length < 1048580; omega)).1]; exact p1
          simp only [hz', Option.bind_some, beq_self_eq_true, cond_true, hok2]
        | false =>
          have hhas : u.Id ∈ y.Pvid := by
            refine Classical.byContradiction fun hno => ?_
            have : spec_VtabOkF 1048580 ⟨y.Rows.take k ++ y.Rows.drop (k + 1), y.Pvid⟩ (y.Pvid.length : Int) = some true := by
              have hwl : (y.Rows.take k ++ y.Rows.drop (k + 1)).length ≤ y.Rows.length := by simp; omega
              refine (spec_VtabOkF_iff 1048580 ⟨y.Rows.take k ++ y.Rows.drop (k + 1), y.Pvid⟩ (y.Pvid.length : Int) (by simp only; omega) (by simp only; omega) (by simp only; omega) (by simp only; omega) (by omega) (by omega)).2 ⟨i1, rfl, by simp only; omega, fun j hj => ?_, s1, fun q hq => ?_⟩
              · have hm := ((s2 _).1 (List.getElem_mem hj)).1
                obtain ⟨i, hi, he⟩ := List.getElem_of_mem hm
                simp only
                rw [← he]; exact i4 i hi
              · obtain ⟨w, hw, he⟩ := i6 q hq
                exact ⟨w, (s2 w).2 ⟨hw, fun hc => hno (by rw [huk] at hc; rw [← hc, he]; exact hq)⟩, he⟩
            rw [this] at p1
            cases p1
          simp only [cond_false, laws_hasF_val 1048580 y.Pvid u.Id (by omega) (by omega), decide_eq_true hhas, Option.bind_some, cond_true, laws_sameVtabF_refl 1048580 y (by omega) (by omega)]
end Go.Proofs.Ytgpcfaiacggoiaa.Tw
