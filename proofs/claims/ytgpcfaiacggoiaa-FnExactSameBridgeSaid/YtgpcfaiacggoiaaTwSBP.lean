/- What the functions answer, on plain data. -/
import Derived.Test.YtgpcfaiacggoiaaTwSB
import Derived.Test.YtgpcfaiacggoiaaTlPlain
set_option linter.unusedVariables false
set_option linter.unusedSimpArgs false
set_option maxRecDepth 100000
set_option maxHeartbeats 1000000
namespace Go.Proofs.Ytgpcfaiacggoiaa.Tw
open Go Go.TL Go.Proofs
def Vtab.sz (x : Vtab) : Nat := x.Rows.length + x.Pvid.length
theorem laws_szIntSF_ok (n : Nat) {xs : List Int} {b : Int} (h0 : 0 ≤ b) (h1 : b ≤ 1048576) (hl : xs.length ≤ maxLen) : ∃ r, laws_szIntSF n xs b = some r ∧ Lft b xs.length r := sz_step h0 h1 hl
theorem laws_szVrowSF_ok (n : Nat) {xs : List Vrow} {b : Int} (h0 : 0 ≤ b) (h1 : b ≤ 1048576) (hl : xs.length ≤ maxLen) : ∃ r, laws_szVrowSF n xs b = some r ∧ Lft b xs.length r := sz_step h0 h1 hl
theorem laws_szVtabF_ok (n : Nat) {x : Vtab} {b : Int} (h0 : 0 ≤ b) (h1 : b ≤ 1048576) (hl : Vtab.wf x) : ∃ r, laws_szVtabF n x b = some r ∧ Lft b x.sz r := by
  obtain ⟨r1, e1, k1⟩ := laws_szVrowSF_ok n h0 h1 hl.1.1
  simp only [laws_szVtabF, e1, Option.bind_some]
  rcases k1.neg with ⟨c1, c2⟩ | ⟨c1, c2, c3⟩
  · rw [c1]; exact ⟨_, rfl, .inl (by decide)⟩
  · rw [c1]
    obtain ⟨r2, e2, k2⟩ := laws_szIntSF_ok n c2 (by omega) hl.2.1.1
    simp only [e2, Option.bind_some, cond_false]
    rcases k2.neg with ⟨d1, d2⟩ | ⟨d1, d2, d3⟩
    · rw [d1]; exact ⟨_, rfl, .inl (by decide)⟩
    · rw [d1]; exact ⟨_, rfl, .inr ⟨d2, by unfold Vtab.sz; omega⟩⟩
theorem laws_toIntSF_eq (n : Nat) (xs : List Int) (h : xs.length ≤ 268435456) (hn : xs.length < n) : laws_toIntSF n xs = some xs := by
  unfold laws_toIntSF
  rw [decide_eq_true (by omega : (0 : Int) ≤ (xs.length : Int)), decide_eq_true (by omega : (xs.length : Int) ≤ 268435456)]
  have := copy_loop (L := laws_toIntS_L2 n) (fun m xs i ys => rfl) xs (by omega) n 0 (List.replicate ((xs.length : Int)).toNat 0) (by omega) (by omega) (by simp) rfl
  simp only [Bool.and_self, cond_true]
  rw [show (laws_toIntS_L2 n n xs 0 (List.replicate ((xs.length : Int)).toNat 0)) = _ from this]
  rfl
theorem laws_toVrowSF_eq (n : Nat) (xs : List Vrow) (h : xs.length ≤ 1048576) (hn : xs.length < n) : laws_toVrowSF n xs = some xs := by
  unfold laws_toVrowSF
  rw [decide_eq_true (by omega : (0 : Int) ≤ (xs.length : Int)), decide_eq_true (by omega : (xs.length : Int) ≤ 268435456)]
  have := copy_loop (L := laws_toVrowS_L2 n) (fun m xs i ys => rfl) xs (by omega) n 0 (List.replicate ((xs.length : Int)).toNat (⟨0, 0, 0⟩ : Vrow)) (by omega) (by omega) (by simp) rfl
  simp only [Bool.and_self, cond_true]
  rw [show (laws_toVrowS_L2 n n xs 0 (List.replicate ((xs.length : Int)).toNat (⟨0, 0, 0⟩ : Vrow))) = _ from this]
  rfl
theorem laws_toVtabF_eq (n : Nat) (x : Vtab) (h : x.sz ≤ 1048576) (hn : x.sz < n) : laws_toVtabF n x = some x := by
  unfold Vtab.sz at h hn
  unfold laws_toVtabF
  rw [laws_toVrowSF_eq n x.Rows (by omega) (by omega), laws_toIntSF_eq n x.Pvid (by omega) (by omega)]
  rfl
theorem laws_eqIntSF_refl (n : Nat) (xs : List Int) (h : xs.length ≤ 268435456) (hn : xs.length < n) : laws_eqIntSF n xs xs = some true := by
  unfold laws_eqIntSF
  have := eq_loop (L := laws_eqIntS_L2 n) (f := fun a b => some (a == b)) (fun m xs ys i => rfl) xs (by omega) (fun v _ => by simp) n 0 (by omega) (by omega)
  simp only [bne_self_eq_false, cond_false]
  rw [show (laws_eqIntS_L2 n n xs xs 0) = _ from this]
  rfl
theorem laws_eqVrowF_refl (n : Nat) (v : Vrow) : laws_eqVrowF n v v = some true := by simp [laws_eqVrowF]
theorem laws_eqVrowSF_refl (n : Nat) (xs : List Vrow) (h : xs.length ≤ 268435456) (hn : xs.length < n) : laws_eqVrowSF n xs xs = some true := by
  unfold laws_eqVrowSF
  have := eq_loop (L := laws_eqVrowS_L2 n) (f := laws_eqVrowF n) (fun m xs ys i => rfl) xs (by omega) (fun v _ => laws_eqVrowF_refl n v) n 0 (by omega) (by omega)
  simp only [bne_self_eq_false, cond_false]
  rw [show (laws_eqVrowS_L2 n n xs xs 0) = _ from this]
  rfl
theorem laws_eqVtabF_refl (n : Nat) (x : Vtab) (h : x.sz ≤ 268435456) (hn : x.sz < n) : laws_eqVtabF n x x = some true := by
  unfold Vtab.sz at h hn
  unfold laws_eqVtabF
  rw [laws_eqVrowSF_refl n x.Rows (by omega) (by omega), laws_eqIntSF_refl n x.Pvid (by omega) (by omega)]
  rfl
theorem laws_szPtSF_ok (n : Nat) {xs : List Pt} {b : Int} (h0 : 0 ≤ b) (h1 : b ≤ 1048576) (hl : xs.length ≤ maxLen) : ∃ r, laws_szPtSF n xs b = some r ∧ Lft b xs.length r := sz_step h0 h1 hl
theorem laws_toPtSF_eq (n : Nat) (xs : List Pt) (h : xs.length ≤ 1048576) (hn : xs.length < n) : laws_toPtSF n xs = some xs := by
  unfold laws_toPtSF
  rw [decide_eq_true (by omega : (0 : Int) ≤ (xs.length : Int)), decide_eq_true (by omega : (xs.length : Int) ≤ 268435456)]
  have := copy_loop (L := laws_toPtS_L2 n) (fun m xs i ys => rfl) xs (by omega) n 0 (List.replicate ((xs.length : Int)).toNat (⟨false, 0, false, (⟨0, 0, 0, 0, 0⟩ : Vec)⟩ : Pt)) (by omega) (by omega) (by simp) rfl
  simp only [Bool.and_self, cond_true]
  rw [show (laws_toPtS_L2 n n xs 0 (List.replicate ((xs.length : Int)).toNat (⟨false, 0, false, (⟨0, 0, 0, 0, 0⟩ : Vec)⟩ : Pt))) = _ from this]
  rfl
theorem laws_eqVecF_refl (n : Nat) (v : Vec) : laws_eqVecF n v v = some true := by simp [laws_eqVecF]
theorem laws_eqPtF_refl (n : Nat) (v : Pt) : laws_eqPtF n v v = some true := by simp [laws_eqPtF, laws_eqVecF_refl]
theorem laws_eqPtSF_refl (n : Nat) (xs : List Pt) (h : xs.length ≤ 268435456) (hn : xs.length < n) : laws_eqPtSF n xs xs = some true := by
  unfold laws_eqPtSF
  have := eq_loop (L := laws_eqPtS_L2 n) (f := laws_eqPtF n) (fun m xs ys i => rfl) xs (by omega) (fun v _ => laws_eqPtF_refl n v) n 0 (by omega) (by omega)
  simp only [bne_self_eq_false, cond_false]
  rw [show (laws_eqPtS_L2 n n xs xs 0) = _ from this]
  rfl
theorem laws_eqVecF_same (n : Nat) (v u : Vec) (h : v = u) : laws_eqVecF n v u = some true := by rw [h]; exact laws_eqVecF_refl n u
theorem listWf_sub {α : Type} {wf : α → Prop} {xs ys : List α} (h : listWf wf xs) (hs : ∀ y ∈ ys, y ∈ xs) (hl : ys.length ≤ xs.length) : listWf wf ys := ⟨Nat.le_trans hl h.1, fun y hy => h.2 y (hs y hy)⟩
theorem listWf_set {α : Type} {wf : α → Prop} {xs : List α} {i : Nat} {v : α} (h : listWf wf xs) (hv : wf v) : listWf wf (xs.set i v) := ⟨by rw [List.length_set]; exact h.1, fun y hy => by
  rcases List.mem_or_eq_of_mem_set hy with h1 | h1
  · exact h.2 y h1
  · rw [h1]; exact hv⟩
theorem laws_szFentSF_ok (n : Nat) {xs : List Fent} {b : Int} (h0 : 0 ≤ b) (h1 : b ≤ 1048576) (hl : xs.length ≤ maxLen) : ∃ r, laws_szFentSF n xs b = some r ∧ Lft b xs.length r := sz_step h0 h1 hl
theorem laws_toFentSF_eq (n : Nat) (xs : List Fent) (h : xs.length ≤ 1048576) (hn : xs.length < n) : laws_toFentSF n xs = some xs := by
  unfold laws_toFentSF
  rw [decide_eq_true (by omega : (0 : Int) ≤ (xs.length : Int)), decide_eq_true (by omega : (xs.length : Int) ≤ 268435456)]
  have := copy_loop (L := laws_toFentS_L2 n) (fun m xs i ys => rfl) xs (by omega) n 0 (List.replicate ((xs.length : Int)).toNat (⟨0, 0, 0, 0, false⟩ : Fent)) (by omega) (by omega) (by simp) rfl
  simp only [Bool.and_self, cond_true]
  rw [show (laws_toFentS_L2 n n xs 0 (List.replicate ((xs.length : Int)).toNat (⟨0, 0, 0, 0, false⟩ : Fent))) = _ from this]
  rfl
theorem laws_eqFentF_refl (n : Nat) (v : Fent) : laws_eqFentF n v v = some true := by simp [laws_eqFentF]
theorem laws_eqFentSF_refl (n : Nat) (xs : List Fent) (h : xs.length ≤ 268435456) (hn : xs.length < n) : laws_eqFentSF n xs xs = some true := by
  unfold laws_eqFentSF
  have := eq_loop (L := laws_eqFentS_L2 n) (f := laws_eqFentF n) (fun m xs ys i => rfl) xs (by omega) (fun v _ => laws_eqFentF_refl n v) n 0 (by omega) (by omega)
  simp only [bne_self_eq_false, cond_false]
  rw [show (laws_eqFentS_L2 n n xs xs 0) = _ from this]
  rfl
def Bridge.sz (x : Bridge) : Nat := x.Name.size + x.Ports.length + x.F.length + x.V.sz
theorem laws_szBridgeF_ok (n : Nat) {x : Bridge} {b : Int} (h0 : 0 ≤ b) (h1 : b ≤ 1048576) (hl : Bridge.wf x) : ∃ r, laws_szBridgeF n x b = some r ∧ Lft b x.sz r := by
  have hm : maxLen = 9223372036854775807 := by decide
  have hn := hl.2.1
  unfold laws_szBridgeF
  rw [wrap64 (by omega) (by omega)]
  by_cases h : b - (x.Name.size : Int) < 0
  · rw [decide_eq_true h]; exact ⟨_, rfl, .inl (by decide)⟩
  · rw [decide_eq_false h]
    obtain ⟨r1, e1, k1⟩ := laws_szPtSF_ok n (xs := x.Ports) (b := b - x.Name.size) (by omega) (by omega) hl.2.2.1.1
    simp only [cond_false, e1, Option.bind_some]
    rcases k1.neg with ⟨c1, c2⟩ | ⟨c1, c2, c3⟩
    · rw [c1]; exact ⟨_, rfl, .inl (by decide)⟩
    · rw [c1]
      obtain ⟨r2, e2, k2⟩ := laws_szFentSF_ok n (xs := x.F) c2 (by omega) hl.2.2.2.1.1
      simp only [cond_false, e2, Option.bind_some]
      rcases k2.neg with ⟨d1, d2⟩ | ⟨d1, d2, d3⟩
      · rw [d1]; exact ⟨_, rfl, .inl (by decide)⟩
      · rw [d1]
        obtain ⟨r3, e3, k3⟩ := laws_szVtabF_ok n (x := x.V) d2 (by omega) ⟨hl.2.2.2.2.1, hl.2.2.2.2.2.1, trivial⟩
        simp only [cond_false, e3, Option.bind_some]
        rcases k3.neg with ⟨f1, f2⟩ | ⟨f1, f2, f3⟩
        · rw [f1]; exact ⟨_, rfl, .inl (by decide)⟩
        · rw [f1]; exact ⟨_, rfl, .inr ⟨f2, by unfold Bridge.sz; omega⟩⟩
theorem laws_toBridgeF_eq (n : Nat) (x : Bridge) (h : x.sz ≤ 1048576) (hn : x.sz < n) : laws_toBridgeF n x = some x := by
  unfold Bridge.sz at h hn
  unfold laws_toBridgeF
  rw [laws_toPtSF_eq n x.Ports (by omega) (by omega), laws_toFentSF_eq n x.F (by omega) (by omega), laws_toVtabF_eq n x.V (by omega) (by omega)]
  rfl
theorem laws_eqBridgeF_refl (n : Nat) (x : Bridge) (h : x.sz ≤ 268435456) (hn : x.sz < n) : laws_eqBridgeF n x x = some true := by
  unfold Bridge.sz at h hn
  unfold laws_eqBridgeF
  rw [laws_eqPtSF_refl n x.Ports (by omega) (by omega), laws_eqFentSF_refl n x.F (by omega) (by omega), laws_eqVtabF_refl n x.V (by omega) (by omega)]
  simp
theorem impl_SameOid_L2_eq (n : Nat) : impl_SameOid_L2 n = spec_SameOid_L2 n := by
  funext m
  induction m with
  | zero => rfl
  | succ m ih => funext x y i; simp only [impl_SameOid_L2, spec_SameOid_L2, ih]
theorem spec_SameOidF_both (n : Nat) (xs ys : List Int) (h : xs.length ≤ 1048580) (hn : xs.length < n) : ∃ o, spec_SameOidF n xs ys = some o ∧ impl_SameOidF n xs ys = some o ∧ (xs.length ≠ ys.length → o = false) := by
  unfold spec_SameOidF impl_SameOidF
  rw [impl_SameOid_L2_eq]
  by_cases hl : xs.length = ys.length
  · have := all_loop (L := fun m i => spec_SameOid_L2 n m xs ys i) (t := fun k => match xs[k]?, ys[k]? with
      | some v, some u => v == u
      | _, _ => false) (fun m k hk => by
      show spec_SameOid_L2 n (m + 1) xs ys k = _
      rw [spec_SameOid_L2, lt_true hk, idx_nat hk, idx_nat (show k < ys.length by omega), wrap_nat (by omega)]
      simp only [cond_true, Option.bind_some, List.getElem?_eq_getElem hk, List.getElem?_eq_getElem (show k < ys.length by omega), bne]) (fun m => by show spec_SameOid_L2 n (m + 1) xs ys _ = _; rw [spec_SameOid_L2, lt_false]; rfl) xs.length n 0 (by omega) (by omega)
    rw [show spec_SameOid_L2 n n xs ys 0 = _ from this]
    have hne : ((xs.length : Int) != (ys.length : Int)) = false := by simp [hl]
    rw [hne]
    generalize allT _ _ _ = b
    cases b <;> exact ⟨_, rfl, rfl, fun h => absurd hl h⟩
  · have hne : ((xs.length : Int) != (ys.length : Int)) = true := by simp; omega
    rw [hne]
    exact ⟨false, rfl, rfl, fun _ => rfl⟩
theorem spec_SameBridgeF_both (n : Nat) (x y : Bridge) (hx : x.sz ≤ 1048576) (hn : 1048577 ≤ n) : ∃ b, spec_SameBridgeF n x y = some b ∧ impl_SameBridgeF n x y = some b := by
  unfold Bridge.sz Vtab.sz at hx
  let tP : Nat → Bool := fun k => match x.Ports[k]?, y.Ports[k]? with
    | some v, some u => ((v.Up == u.Up) && ((v.Cost == u.Cost) && ((v.Has == u.Has) && (((v.Heard.Root == u.Heard.Root) && ((v.Heard.Cost == u.Heard.Cost) && ((v.Heard.Hops == u.Heard.Hops) && ((v.Heard.Bridge == u.Heard.Bridge) && ((v.Heard.Port == u.Heard.Port) && true))))) && true))))
    | _, _ => false
  let tF : Nat → Bool := fun k => match x.F[k]?, y.F[k]? with
    | some v, some u => ((v.Tag == u.Tag) && ((v.Mac == u.Mac) && ((v.Port == u.Port) && ((v.Age == u.Age) && ((v.Static == u.Static) && true)))))
    | _, _ => false
  let tR : Nat → Bool := fun k => match x.V.Rows[k]?, y.V.Rows[k]? with
    | some v, some u => ((v.Id == u.Id) && ((v.Members == u.Members) && ((v.Bare == u.Bare) && true)))
    | _, _ => false
  let tO : Nat → Bool := fun k => match x.V.Pvid[k]?, y.V.Pvid[k]? with
    | some v, some u => v == u
    | _, _ => false
  by_cases hP : x.Ports.length = y.Ports.length
  · by_cases hF : x.F.length = y.F.length
    · by_cases hR : x.V.Rows.length = y.V.Rows.length
      · by_cases hO : x.V.Pvid.length = y.V.Pvid.length
        · have sP : spec_SameBridge_L6 n n x y 0 = some (bif allT tP x.Ports.length 0 then .inl () else .inr false) := all_loop (L := fun m i => spec_SameBridge_L6 n m x y i) (t := tP) (fun m k hk => by
            show spec_SameBridge_L6 n (m + 1) x y k = _
            rw [spec_SameBridge_L6, lt_true hk, idx_nat hk, idx_nat (show k < y.Ports.length by omega), wrap_nat (by omega)]
            simp only [cond_true, Option.bind_some, tP, List.getElem?_eq_getElem hk, List.getElem?_eq_getElem (show k < y.Ports.length by omega)]) (fun m => by show spec_SameBridge_L6 n (m + 1) x y _ = _; rw [spec_SameBridge_L6, lt_false]; rfl) x.Ports.length n 0 (by omega) (by omega)
          have sF : spec_SameBridge_L5 n n x y 0 = some (bif allT tF x.F.length 0 then .inl () else .inr false) := all_loop (L := fun m i => spec_SameBridge_L5 n m x y i) (t := tF) (fun m k hk => by
            show spec_SameBridge_L5 n (m + 1) x y k = _
            rw [spec_SameBridge_L5, lt_true hk, idx_nat hk, idx_nat (show k < y.F.length by omega), wrap_nat (by omega)]
            simp only [cond_true, Option.bind_some, tF, List.getElem?_eq_getElem hk, List.getElem?_eq_getElem (show k < y.F.length by omega)]) (fun m => by show spec_SameBridge_L5 n (m + 1) x y _ = _; rw [spec_SameBridge_L5, lt_false]; rfl) x.F.length n 0 (by omega) (by omega)
          have sR : spec_SameBridge_L4 n n x y 0 = some (bif allT tR x.V.Rows.length 0 then .inl () else .inr false) := all_loop (L := fun m i => spec_SameBridge_L4 n m x y i) (t := tR) (fun m k hk => by
            show spec_SameBridge_L4 n (m + 1) x y k = _
            rw [spec_SameBridge_L4, lt_true hk, idx_nat hk, idx_nat (show k < y.V.Rows.length by omega), wrap_nat (by omega)]
            simp only [cond_true, Option.bind_some, tR, List.getElem?_eq_getElem hk, List.getElem?_eq_getElem (show k < y.V.Rows.length by omega)]) (fun m => by show spec_SameBridge_L4 n (m + 1) x y _ = _; rw [spec_SameBridge_L4, lt_false]; rfl) x.V.Rows.length n 0 (by omega) (by omega)
          have iP : impl_SameBridge_L4 n n x y 0 = some (bif allT tP x.Ports.length 0 then .inl () else .inr false) := all_loop (L := fun m i => impl_SameBridge_L4 n m x y i) (t := tP) (fun m k hk => by
            show impl_SameBridge_L4 n (m + 1) x y k = _
            rw [impl_SameBridge_L4, lt_true hk, idx_nat hk, idx_nat (show k < y.Ports.length by omega), wrap_nat (by omega)]
            simp only [cond_true, Option.bind_some, tP, List.getElem?_eq_getElem hk, List.getElem?_eq_getElem (show k < y.Ports.length by omega)]) (fun m => by show impl_SameBridge_L4 n (m + 1) x y _ = _; rw [impl_SameBridge_L4, lt_false]; rfl) x.Ports.length n 0 (by omega) (by omega)
          have iF : impl_SameBridge_L3 n n x y 0 = some (bif allT tF x.F.length 0 then .inl () else .inr false) := all_loop (L := fun m i => impl_SameBridge_L3 n m x y i) (t := tF) (fun m k hk => by
            show impl_SameBridge_L3 n (m + 1) x y k = _
            rw [impl_SameBridge_L3, lt_true hk, idx_nat hk, idx_nat (show k < y.F.length by omega), wrap_nat (by omega)]
            simp only [cond_true, Option.bind_some, tF, List.getElem?_eq_getElem hk, List.getElem?_eq_getElem (show k < y.F.length by omega)]) (fun m => by show impl_SameBridge_L3 n (m + 1) x y _ = _; rw [impl_SameBridge_L3, lt_false]; rfl) x.F.length n 0 (by omega) (by omega)
          have iR : impl_sameRows_L2 n n x.V.Rows y.V.Rows 0 = some (bif allT tR x.V.Rows.length 0 then .inl () else .inr false) := all_loop (L := fun m i => impl_sameRows_L2 n m x.V.Rows y.V.Rows i) (t := tR) (fun m k hk => by
            show impl_sameRows_L2 n (m + 1) x.V.Rows y.V.Rows k = _
            rw [impl_sameRows_L2, lt_true hk, idx_nat hk, idx_nat (show k < y.V.Rows.length by omega), wrap_nat (by omega)]
            simp only [cond_true, Option.bind_some, tR, List.getElem?_eq_getElem hk, List.getElem?_eq_getElem (show k < y.V.Rows.length by omega)]) (fun m => by show impl_sameRows_L2 n (m + 1) x.V.Rows y.V.Rows _ = _; rw [impl_sameRows_L2, lt_false]; rfl) x.V.Rows.length n 0 (by omega) (by omega)
          obtain ⟨o, ho1, ho2, ho4⟩ := spec_SameOidF_both n x.V.Pvid y.V.Pvid (by omega) (by omega)
          unfold spec_SameBridgeF impl_SameBridgeF impl_sameRowsF
          simp only [hP, hF, hR, bne_self_eq_false, cond_false, sP, sF, sR, iP, iF, iR, ho1, ho2, Option.bind_some, spec_SameBridge_J1, spec_SameBridge_J2, impl_SameBridge_J1, impl_SameBridge_J2, hP ▸ sP, hF ▸ sF, hR ▸ sR]
          generalize allT tP _ 0 = a
          generalize allT tF _ 0 = b
          generalize allT tR _ 0 = c
          simp only [bne]
          generalize (x.Id == y.Id) = b1
          generalize (x.Name.toList == y.Name.toList) = b2
          generalize (x.Ticks == y.Ticks) = b3
          generalize (x.Parse == y.Parse) = b4
          generalize (x.Word == y.Word) = b5
          generalize (x.Drops == y.Drops) = b6
          generalize (x.Vers == y.Vers) = b7
          unfold impl_sameRows_J1 spec_SameBridge_J3
          clear sP sF sR iP iF iR ho1 ho2 ho4
          clear_value tP tF tR tO
          revert a b c o b1 b2 b3 b4 b5 b6 b7
          decide +kernel
        · obtain ⟨o, ho1, ho2, ho3⟩ := spec_SameOidF_both n x.V.Pvid y.V.Pvid (by omega) (by omega)
          rw [ho3 hO] at ho1 ho2
          have iR : ∃ c, impl_sameRows_L2 n n x.V.Rows y.V.Rows 0 = some c := ⟨_, all_loop (L := fun m i => impl_sameRows_L2 n m x.V.Rows y.V.Rows i) (t := tR) (fun m k hk => by
            show impl_sameRows_L2 n (m + 1) x.V.Rows y.V.Rows k = _
            rw [impl_sameRows_L2, lt_true hk, idx_nat hk, idx_nat (show k < y.V.Rows.length by omega), wrap_nat (by omega)]
            simp only [cond_true, Option.bind_some, tR, List.getElem?_eq_getElem hk, List.getElem?_eq_getElem (show k < y.V.Rows.length by omega)]) (fun m => by show impl_sameRows_L2 n (m + 1) x.V.Rows y.V.Rows _ = _; rw [impl_sameRows_L2, lt_false]; rfl) x.V.Rows.length n 0 (by omega) (by omega)⟩
          obtain ⟨c, iR⟩ := iR
          refine ⟨false, ?_, ?_⟩
          · unfold spec_SameBridgeF
            simp only [ho1, Option.bind_some, Bool.not_false, cond_true]
            cases (x.Id != y.Id) <;> cases (x.Name.toList == y.Name.toList) <;> cases (x.Ticks != y.Ticks) <;> cases (x.Parse != y.Parse) <;> cases (x.Word != y.Word) <;> cases (x.Drops != y.Drops) <;> cases (x.Vers != y.Vers) <;> cases ((x.Ports.length : Int) != (y.Ports.length : Int)) <;> cases ((x.F.length : Int) != (y.F.length : Int)) <;> cases ((x.V.Rows.length : Int) != (y.V.Rows.length : Int)) <;> rfl
          · unfold impl_SameBridgeF impl_sameRowsF
            simp only [hP, hF, hR, bne_self_eq_false, cond_false, iR, ho2, Option.bind_some, Bool.not_false, cond_true]
            cases (x.Id != y.Id) <;> cases (x.Name.toList == y.Name.toList) <;> cases c with
            | inl u => rfl
            | inr r => cases r <;> rfl
      · have ne : ((x.V.Rows.length : Int) != (y.V.Rows.length : Int)) = true := by simp; omega
        refine ⟨false, ?_, ?_⟩
        · unfold spec_SameBridgeF
          simp only [ne, cond_true]
          cases (x.Id != y.Id) <;> cases (x.Name.toList == y.Name.toList) <;> cases (x.Ticks != y.Ticks) <;> cases (x.Parse != y.Parse) <;> cases (x.Word != y.Word) <;> cases (x.Drops != y.Drops) <;> cases (x.Vers != y.Vers) <;> cases ((x.Ports.length : Int) != (y.Ports.length : Int)) <;> cases ((x.F.length : Int) != (y.F.length : Int)) <;> rfl
        · unfold impl_SameBridgeF impl_sameRowsF
          simp only [ne, cond_true]
          cases (x.Id != y.Id) <;> cases (x.Name.toList == y.Name.toList) <;> cases ((x.Ports.length : Int) != (y.Ports.length : Int)) <;> cases ((x.F.length : Int) != (y.F.length : Int)) <;> rfl
    · have ne : ((x.F.length : Int) != (y.F.length : Int)) = true := by simp; omega
      refine ⟨false, ?_, ?_⟩
      · unfold spec_SameBridgeF
        simp only [ne, cond_true]
        cases (x.Id != y.Id) <;> cases (x.Name.toList == y.Name.toList) <;> cases (x.Ticks != y.Ticks) <;> cases (x.Parse != y.Parse) <;> cases (x.Word != y.Word) <;> cases (x.Drops != y.Drops) <;> cases (x.Vers != y.Vers) <;> cases ((x.Ports.length : Int) != (y.Ports.length : Int)) <;> rfl
      · unfold impl_SameBridgeF
        simp only [ne, cond_true]
        cases (x.Id != y.Id) <;> cases (x.Name.toList == y.Name.toList) <;> cases ((x.Ports.length : Int) != (y.Ports.length : Int)) <;> rfl
  · have ne : ((x.Ports.length : Int) != (y.Ports.length : Int)) = true := by simp; omega
    refine ⟨false, ?_, ?_⟩
    · unfold spec_SameBridgeF
      simp only [ne, cond_true]
      cases (x.Id != y.Id) <;> cases (x.Name.toList == y.Name.toList) <;> cases (x.Ticks != y.Ticks) <;> cases (x.Parse != y.Parse) <;> cases (x.Word != y.Word) <;> cases (x.Drops != y.Drops) <;> cases (x.Vers != y.Vers) <;> rfl
    · unfold impl_SameBridgeF
      simp only [ne, cond_true]
      cases (x.Id != y.Id) <;> cases (x.Name.toList == y.Name.toList) <;> rfl
theorem laws_FnExactSameBridge_plain (x0 x1 : Bridge) (w0 : x0.wf) (w1 : x1.wf) : ∃ n, laws_FnExactSameBridgeF n x0 x1 = some true := by
  refine ⟨1048580, ?_⟩
  obtain ⟨r, e, k⟩ := laws_szBridgeF_ok 1048580 (x := x0) (b := 1048576) (by decide) (by decide) w0
  simp only [laws_FnExactSameBridgeF, e, Option.bind_some]
  rcases k.neg with ⟨c1, _⟩ | ⟨c1, c2, c3⟩
  · rw [c1]; rfl
  · obtain ⟨r', e', k'⟩ := laws_szBridgeF_ok 1048580 (x := x1) (b := r) c2 (by omega) w1
    simp only [c1, cond_false, e', Option.bind_some]
    rcases k'.neg with ⟨d1, _⟩ | ⟨d1, d2, d3⟩
    · rw [d1]; rfl
    · obtain ⟨b, h1, h2⟩ := spec_SameBridgeF_both 1048580 x0 x1 (by omega) (by omega)
      simp only [d1, cond_false, laws_toBridgeF_eq 1048580 x0 (by omega) (by omega), laws_toBridgeF_eq 1048580 x1 (by omega) (by omega), Option.bind_some, h1, h2, beq_self_eq_true, laws_eqBridgeF_refl 1048580 x0 (by omega) (by omega), laws_eqBridgeF_refl 1048580 x1 (by omega) (by omega), Bool.not_true]
end Go.Proofs.Ytgpcfaiacggoiaa.Tw
