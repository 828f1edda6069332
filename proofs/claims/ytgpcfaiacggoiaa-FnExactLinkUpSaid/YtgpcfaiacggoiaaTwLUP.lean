/- What the functions answer, on plain data. -/
import Derived.Test.YtgpcfaiacggoiaaTwLU
import Derived.Test.YtgpcfaiacggoiaaTlPlain
set_option linter.unusedVariables false
set_option linter.unusedSimpArgs false
set_option maxRecDepth 100000
set_option maxHeartbeats 1000000
namespace Go.Proofs.Ytgpcfaiacggoiaa.Tw
open Go Go.TL Go.Proofs
def Vtab.sz (x : Vtab) : Nat := x.Rows.length + x.Pvid.length
theorem laws_szIntSF_ok (n : Nat) {xs : List Int} {b : Int} (h0 : 0 ≤ b) (h1 : b ≤ 1048576) (hl : xs.length ≤ maxLen) : ∃ r, laws_szIntSF n xs b = some r ∧ Lft b xs.length r := sz_step h0 h1 hl
theorem laws_szVrowSF_ok (n : Nat) {xs : List Vrow} {b : Int} (h0 : 0 ≤ b) (h1 : b ≤ 1048576) (hl : xs.length ≤ maxLen) : ∃ r, laws_szVrowSF n xs b = some r ∧ Lft b xs.length r := sz_step h0 h1 hl
theorem laws_szVtabF_ok (n : Nat) {x : Vtab} {b : Int} (h0 : 0 ≤ b) (h1 : b ≤ 1048576) (hl : Vtab.wf x) : ∃ r, laws_szVtabF n x b = some r ∧ Lft b x.sz r := by
  obtain ⟨r1, e1, k1⟩ := laws_szVrowSF_ok n h0 h1 hl.1.1
  simp only [laws_szVtabF, e1, Option.bind_some]
  rcases k1.neg with ⟨c1, c2⟩ | ⟨c1, c2, c3⟩
  · rw [c1]; exact ⟨_, rfl, .inl (by decide)⟩
  · rw [c1]
    obtain ⟨r2, e2, k2⟩ := laws_szIntSF_ok n c2 (by omega) hl.2.1.1
    simp only [e2, Option.bind_some, cond_false]
    rcases k2.neg with ⟨d1, d2⟩ | ⟨d1, d2, d3⟩
    · rw [d1]; exact ⟨_, rfl, .inl (by decide)⟩
    · rw [d1]; exact ⟨_, rfl, .inr ⟨d2, by unfold Vtab.sz; omega⟩⟩
theorem laws_toIntSF_eq (n : Nat) (xs : List Int) (h : xs.length ≤ 268435456) (hn : xs.length < n) : laws_toIntSF n xs = some xs := by
  unfold laws_toIntSF
  rw [decide_eq_true (by omega : (0 : Int) ≤ (xs.length : Int)), decide_eq_true (by omega : (xs.length : Int) ≤ 268435456)]
  have := copy_loop (L := laws_toIntS_L2 n) (fun m xs i ys => rfl) xs (by omega) n 0 (List.replicate ((xs.length : Int)).toNat 0) (by omega) (by omega) (by simp) rfl
  simp only [Bool.and_self, cond_true]
  rw [show (laws_toIntS_L2 n n xs 0 (List.replicate ((xs.length : Int)).toNat 0)) = _ from this]
  rfl
theorem laws_toVrowSF_eq (n : Nat) (xs : List Vrow) (h : xs.length ≤ 1048576) (hn : xs.length < n) : laws_toVrowSF n xs = some xs := by
  unfold laws_toVrowSF
  rw [decide_eq_true (by omega : (0 : Int) ≤ (xs.length : Int)), decide_eq_true (by omega : (xs.length : Int) ≤ 268435456)]
  have := copy_loop (L := laws_toVrowS_L2 n) (fun m xs i ys => rfl) xs (by omega) n 0 (List.replicate ((xs.length : Int)).toNat (⟨0, 0, 0⟩ : Vrow)) (by omega) (by omega) (by simp) rfl
  simp only [Bool.and_self, cond_true]
  rw [show (laws_toVrowS_L2 n n xs 0 (List.replicate ((xs.length : Int)).toNat (⟨0, 0, 0⟩ : Vrow))) = _ from this]
  rfl
theorem laws_toVtabF_eq (n : Nat) (x : Vtab) (h : x.sz ≤ 1048576) (hn : x.sz < n) : laws_toVtabF n x = some x := by
  unfold Vtab.sz at h hn
  unfold laws_toVtabF
  rw [laws_toVrowSF_eq n x.Rows (by omega) (by omega), laws_toIntSF_eq n x.Pvid (by omega) (by omega)]
  rfl
theorem laws_eqIntSF_refl (n : Nat) (xs : List Int) (h : xs.length ≤ 268435456) (hn : xs.length < n) : laws_eqIntSF n xs xs = some true := by
  unfold laws_eqIntSF
  have := eq_loop (L := laws_eqIntS_L2 n) (f := fun a b => some (a == b)) (fun m xs ys i => rfl) xs (by omega) (fun v _ => by simp) n 0 (by omega) (by omega)
  simp only [bne_self_eq_false, cond_false]
  rw [show (laws_eqIntS_L2 n n xs xs 0) = _ from this]
  rfl
theorem laws_eqVrowF_refl (n : Nat) (v : Vrow) : laws_eqVrowF n v v = some true := by simp [laws_eqVrowF]
theorem laws_eqVrowSF_refl (n : Nat) (xs : List Vrow) (h : xs.length ≤ 268435456) (hn : xs.length < n) : laws_eqVrowSF n xs xs = some true := by
  unfold laws_eqVrowSF
  have := eq_loop (L := laws_eqVrowS_L2 n) (f := laws_eqVrowF n) (fun m xs ys i => rfl) xs (by omega) (fun v _ => laws_eqVrowF_refl n v) n 0 (by omega) (by omega)
  simp only [bne_self_eq_false, cond_false]
  rw [show (laws_eqVrowS_L2 n n xs xs 0) = _ from this]
  rfl
theorem laws_eqVtabF_refl (n : Nat) (x : Vtab) (h : x.sz ≤ 268435456) (hn : x.sz < n) : laws_eqVtabF n x x = some true := by
  unfold Vtab.sz at h hn
  unfold laws_eqVtabF
  rw [laws_eqVrowSF_refl n x.Rows (by omega) (by omega), laws_eqIntSF_refl n x.Pvid (by omega) (by omega)]
  rfl
theorem laws_szPtSF_ok (n : Nat) {xs : List Pt} {b : Int} (h0 : 0 ≤ b) (h1 : b ≤ 1048576) (hl : xs.length ≤ maxLen) : ∃ r, laws_szPtSF n xs b = some r ∧ Lft b xs.length r := sz_step h0 h1 hl
theorem laws_toPtSF_eq (n : Nat) (xs : List Pt) (h : xs.length ≤ 1048576) (hn : xs.length < n) : laws_toPtSF n xs = some xs := by
  unfold laws_toPtSF
  rw [decide_eq_true (by omega : (0 : Int) ≤ (xs.length : Int)), decide_eq_true (by omega : (xs.length : Int) ≤ 268435456)]
  have := copy_loop (L := laws_toPtS_L2 n) (fun m xs i ys => rfl) xs (by omega) n 0 (List.replicate ((xs.length : Int)).toNat (⟨false, 0, false, (⟨0, 0, 0, 0, 0⟩ : Vec)⟩ : Pt)) (by omega) (by omega) (by simp) rfl
  simp only [Bool.and_self, cond_true]
  rw [show (laws_toPtS_L2 n n xs 0 (List.replicate ((xs.length : Int)).toNat (⟨false, 0, false, (⟨0, 0, 0, 0, 0⟩ : Vec)⟩ : Pt))) = _ from this]
  rfl
theorem laws_eqVecF_refl (n : Nat) (v : Vec) : laws_eqVecF n v v = some true := by simp [laws_eqVecF]
theorem laws_eqPtF_refl (n : Nat) (v : Pt) : laws_eqPtF n v v = some true := by simp [laws_eqPtF, laws_eqVecF_refl]
theorem laws_eqPtSF_refl (n : Nat) (xs : List Pt) (h : xs.length ≤ 268435456) (hn : xs.length < n) : laws_eqPtSF n xs xs = some true := by
  unfold laws_eqPtSF
  have := eq_loop (L := laws_eqPtS_L2 n) (f := laws_eqPtF n) (fun m xs ys i => rfl) xs (by omega) (fun v _ => laws_eqPtF_refl n v) n 0 (by omega) (by omega)
  simp only [bne_self_eq_false, cond_false]
  rw [show (laws_eqPtS_L2 n n xs xs 0) = _ from this]
  rfl
theorem spec_l1InF_tot (n : Nat) (a b c : Int) : Tot (spec_l1InF n a b c) := Tot.bif (fun _ => .of) (fun _ => .of)
theorem laws_eqVecF_same (n : Nat) (v u : Vec) (h : v = u) : laws_eqVecF n v u = some true := by rw [h]; exact laws_eqVecF_refl n u
theorem impl_inF_eq (n : Nat) : impl_inF n = spec_l1InF n := rfl
theorem spec_l1InF_val (n : Nat) (a b c : Int) : spec_l1InF n a b c = some (decide (b ≤ a) && decide (a ≤ c)) := by
  unfold spec_l1InF
  by_cases h : a ≥ b
  · rw [decide_eq_true h]; rfl
  · rw [decide_eq_false h]; rfl
theorem listWf_sub {α : Type} {wf : α → Prop} {xs ys : List α} (h : listWf wf xs) (hs : ∀ y ∈ ys, y ∈ xs) (hl : ys.length ≤ xs.length) : listWf wf ys := ⟨Nat.le_trans hl h.1, fun y hy => h.2 y (hs y hy)⟩
theorem listWf_set {α : Type} {wf : α → Prop} {xs : List α} {i : Nat} {v : α} (h : listWf wf xs) (hv : wf v) : listWf wf (xs.set i v) := ⟨by rw [List.length_set]; exact h.1, fun y hy => by
  rcases List.mem_or_eq_of_mem_set hy with h1 | h1
  · exact h.2 y h1
  · rw [h1]; exact hv⟩
theorem laws_szFentSF_ok (n : Nat) {xs : List Fent} {b : Int} (h0 : 0 ≤ b) (h1 : b ≤ 1048576) (hl : xs.length ≤ maxLen) : ∃ r, laws_szFentSF n xs b = some r ∧ Lft b xs.length r := sz_step h0 h1 hl
theorem laws_toFentSF_eq (n : Nat) (xs : List Fent) (h : xs.length ≤ 1048576) (hn : xs.length < n) : laws_toFentSF n xs = some xs := by
  unfold laws_toFentSF
  rw [decide_eq_true (by omega : (0 : Int) ≤ (xs.length : Int)), decide_eq_true (by omega : (xs.length : Int) ≤ 268435456)]
  have := copy_loop (L := laws_toFentS_L2 n) (fun m xs i ys => rfl) xs (by omega) n 0 (List.replicate ((xs.length : Int)).toNat (⟨0, 0, 0, 0, false⟩ : Fent)) (by omega) (by omega) (by simp) rfl
  simp only [Bool.and_self, cond_true]
  rw [show (laws_toFentS_L2 n n xs 0 (List.replicate ((xs.length : Int)).toNat (⟨0, 0, 0, 0, false⟩ : Fent))) = _ from this]
  rfl
theorem laws_eqFentF_refl (n : Nat) (v : Fent) : laws_eqFentF n v v = some true := by simp [laws_eqFentF]
theorem laws_eqFentSF_refl (n : Nat) (xs : List Fent) (h : xs.length ≤ 268435456) (hn : xs.length < n) : laws_eqFentSF n xs xs = some true := by
  unfold laws_eqFentSF
  have := eq_loop (L := laws_eqFentS_L2 n) (f := laws_eqFentF n) (fun m xs ys i => rfl) xs (by omega) (fun v _ => laws_eqFentF_refl n v) n 0 (by omega) (by omega)
  simp only [bne_self_eq_false, cond_false]
  rw [show (laws_eqFentS_L2 n n xs xs 0) = _ from this]
  rfl
def Bridge.sz (x : Bridge) : Nat := x.Name.size + x.Ports.length + x.F.length + x.V.sz
theorem laws_szBridgeF_ok (n : Nat) {x : Bridge} {b : Int} (h0 : 0 ≤ b) (h1 : b ≤ 1048576) (hl : Bridge.wf x) : ∃ r, laws_szBridgeF n x b = some r ∧ Lft b x.sz r := by
  have hm : maxLen = 9223372036854775807 := by decide
  have hn := hl.2.1
  unfold laws_szBridgeF
  rw [wrap64 (by omega) (by omega)]
  by_cases h : b - (x.Name.size : Int) < 0
  · rw [decide_eq_true h]; exact ⟨_, rfl, .inl (by decide)⟩
  · rw [decide_eq_false h]
    obtain ⟨r1, e1, k1⟩ := laws_szPtSF_ok n (xs := x.Ports) (b := b - x.Name.size) (by omega) (by omega) hl.2.2.1.1
    simp only [cond_false, e1, Option.bind_some]
    rcases k1.neg with ⟨c1, c2⟩ | ⟨c1, c2, c3⟩
    · rw [c1]; exact ⟨_, rfl, .inl (by decide)⟩
    · rw [c1]
      obtain ⟨r2, e2, k2⟩ := laws_szFentSF_ok n (xs := x.F) c2 (by omega) hl.2.2.2.1.1
      simp only [cond_false, e2, Option.bind_some]
      rcases k2.neg with ⟨d1, d2⟩ | ⟨d1, d2, d3⟩
      · rw [d1]; exact ⟨_, rfl, .inl (by decide)⟩
      · rw [d1]
        obtain ⟨r3, e3, k3⟩ := laws_szVtabF_ok n (x := x.V) d2 (by omega) ⟨hl.2.2.2.2.1, hl.2.2.2.2.2.1, trivial⟩
        simp only [cond_false, e3, Option.bind_some]
        rcases k3.neg with ⟨f1, f2⟩ | ⟨f1, f2, f3⟩
        · rw [f1]; exact ⟨_, rfl, .inl (by decide)⟩
        · rw [f1]; exact ⟨_, rfl, .inr ⟨f2, by unfold Bridge.sz; omega⟩⟩
theorem laws_toBridgeF_eq (n : Nat) (x : Bridge) (h : x.sz ≤ 1048576) (hn : x.sz < n) : laws_toBridgeF n x = some x := by
  unfold Bridge.sz at h hn
  unfold laws_toBridgeF
  rw [laws_toPtSF_eq n x.Ports (by omega) (by omega), laws_toFentSF_eq n x.F (by omega) (by omega), laws_toVtabF_eq n x.V (by omega) (by omega)]
  rfl
theorem laws_eqBridgeF_refl (n : Nat) (x : Bridge) (h : x.sz ≤ 268435456) (hn : x.sz < n) : laws_eqBridgeF n x x = some true := by
  unfold Bridge.sz at h hn
  unfold laws_eqBridgeF
  rw [laws_eqPtSF_refl n x.Ports (by omega) (by omega), laws_eqFentSF_refl n x.F (by omega) (by omega), laws_eqVtabF_refl n x.V (by omega) (by omega)]
  simp
theorem laws_szLinkSF_ok (n : Nat) {xs : List Link} {b : Int} (h0 : 0 ≤ b) (h1 : b ≤ 1048576) (hl : xs.length ≤ maxLen) : ∃ r, laws_szLinkSF n xs b = some r ∧ Lft b xs.length r := sz_step h0 h1 hl
theorem laws_szSaySF_ok (n : Nat) {xs : List Say} {b : Int} (h0 : 0 ≤ b) (h1 : b ≤ 1048576) (hl : xs.length ≤ maxLen) : ∃ r, laws_szSaySF n xs b = some r ∧ Lft b xs.length r := sz_step h0 h1 hl
theorem laws_szBridgeSF_ok (n : Nat) {xs : List Bridge} {b : Int} (h0 : 0 ≤ b) (h1 : b ≤ 1048576) (hn : 1048576 < n) (hl : listWf Bridge.wf xs) : ∃ r, laws_szBridgeSF n xs b = some r ∧ Lft b (xs.length + sumSz Bridge.sz xs) r := by
  obtain ⟨r0, e0, k0⟩ := sz_step h0 h1 hl.1
  unfold laws_szBridgeSF
  have hm : maxLen = 9223372036854775807 := by decide
  have hlen := hl.1
  rw [wrap64 (by omega) (by omega)] at e0 ⊢
  by_cases h : b - (xs.length : Int) < 0
  · rw [decide_eq_true h]; exact ⟨_, rfl, .inl (by decide)⟩
  · rw [decide_eq_false h]
    obtain ⟨o, f1, f2⟩ := sz_loop (L := fun m xs i b => laws_szBridgeS_L2 n m xs i b) (g := fun v b => laws_szBridgeF n v b) (sz := Bridge.sz) (fun m xs i b => rfl) xs (by omega) (fun v hv b h0 h1 => laws_szBridgeF_ok n h0 h1 (hl.2 v hv)) n 0 (b - xs.length) (by omega) (by omega) (by omega) (by omega)
    simp only [cond_false]
    rw [show laws_szBridgeS_L2 n n xs 0 (b - (xs.length : Int)) = _ from f1]
    rcases f2 with rfl | ⟨r, rfl, f3, f4⟩
    · exact ⟨_, rfl, .inl (by decide)⟩
    · exact ⟨_, rfl, .inr ⟨f3, by simp only [List.drop_zero] at f4; omega⟩⟩
def Net.sz (x : Net) : Nat := (x.Bridges.length + sumSz Bridge.sz x.Bridges) + x.Links.length + x.Said.length
theorem laws_szNetF_ok (n : Nat) {x : Net} {b : Int} (h0 : 0 ≤ b) (h1 : b ≤ 1048576) (hn : 1048576 < n) (hl : Net.wf x) : ∃ r, laws_szNetF n x b = some r ∧ Lft b x.sz r := by
  obtain ⟨r1, e1, k1⟩ := laws_szBridgeSF_ok n h0 h1 hn hl.1
  simp only [laws_szNetF, e1, Option.bind_some]
  rcases k1.neg with ⟨c1, c2⟩ | ⟨c1, c2, c3⟩
  · rw [c1]; exact ⟨_, rfl, .inl (by decide)⟩
  · rw [c1]
    obtain ⟨r2, e2, k2⟩ := laws_szLinkSF_ok n (xs := x.Links) c2 (by omega) hl.2.1.1
    simp only [e2, Option.bind_some, cond_false]
    rcases k2.neg with ⟨d1, d2⟩ | ⟨d1, d2, d3⟩
    · rw [d1]; exact ⟨_, rfl, .inl (by decide)⟩
    · rw [d1]
      obtain ⟨r3, e3, k3⟩ := laws_szSaySF_ok n (xs := x.Said) d2 (by omega) hl.2.2.1.1
      simp only [e3, Option.bind_some, cond_false]
      rcases k3.neg with ⟨f1, f2⟩ | ⟨f1, f2, f3⟩
      · rw [f1]; exact ⟨_, rfl, .inl (by decide)⟩
      · rw [f1]; exact ⟨_, rfl, .inr ⟨f2, by unfold Net.sz; omega⟩⟩
theorem laws_toLinkSF_eq (n : Nat) (xs : List Link) (h : xs.length ≤ 1048576) (hn : xs.length < n) : laws_toLinkSF n xs = some xs := by
  unfold laws_toLinkSF
  rw [decide_eq_true (by omega : (0 : Int) ≤ (xs.length : Int)), decide_eq_true (by omega : (xs.length : Int) ≤ 268435456)]
  have := copyF_loop (L := laws_toLinkS_L2 n) (f := laws_toLinkF n) (fun m xs i ys => rfl) xs (by omega) (fun v _ => rfl) n 0 (List.replicate ((xs.length : Int)).toNat (⟨0, 0, 0, 0⟩ : Link)) (by omega) (by omega) (by simp) rfl
  simp only [Bool.and_self, cond_true]
  rw [show (laws_toLinkS_L2 n n xs 0 (List.replicate ((xs.length : Int)).toNat (⟨0, 0, 0, 0⟩ : Link))) = _ from this]
  rfl
theorem laws_toSaySF_eq (n : Nat) (xs : List Say) (h : xs.length ≤ 1048576) (hn : xs.length < n) : laws_toSaySF n xs = some xs := by
  unfold laws_toSaySF
  rw [decide_eq_true (by omega : (0 : Int) ≤ (xs.length : Int)), decide_eq_true (by omega : (xs.length : Int) ≤ 268435456)]
  have := copyF_loop (L := laws_toSayS_L2 n) (f := laws_toSayF n) (fun m xs i ys => rfl) xs (by omega) (fun v _ => rfl) n 0 (List.replicate ((xs.length : Int)).toNat (⟨0, false, (⟨0, 0, 0, 0, 0⟩ : Vec)⟩ : Say)) (by omega) (by omega) (by simp) rfl
  simp only [Bool.and_self, cond_true]
  rw [show (laws_toSayS_L2 n n xs 0 (List.replicate ((xs.length : Int)).toNat (⟨0, false, (⟨0, 0, 0, 0, 0⟩ : Vec)⟩ : Say))) = _ from this]
  rfl
theorem laws_toBridgeSF_eq (n : Nat) (xs : List Bridge) (h : xs.length + sumSz Bridge.sz xs ≤ 1048576) (hn : 1048576 < n) : laws_toBridgeSF n xs = some xs := by
  unfold laws_toBridgeSF
  rw [decide_eq_true (by omega : (0 : Int) ≤ (xs.length : Int)), decide_eq_true (by omega : (xs.length : Int) ≤ 268435456)]
  have := copyF_loop (L := laws_toBridgeS_L2 n) (f := laws_toBridgeF n) (fun m xs i ys => rfl) xs (by omega) (fun v hv => by have := sumSz_mem (sz := Bridge.sz) hv; exact laws_toBridgeF_eq n v (by omega) (by omega)) n 0 (List.replicate ((xs.length : Int)).toNat (⟨0, (⟨#[]⟩ : ByteArray), ([] : List Pt), ([] : List Fent), (⟨([] : List Vrow), ([] : List Int)⟩ : Vtab), 0, 0, 0, 0, 0⟩ : Bridge)) (by omega) (by omega) (by simp) rfl
  simp only [Bool.and_self, cond_true]
  rw [show (laws_toBridgeS_L2 n n xs 0 (List.replicate ((xs.length : Int)).toNat (⟨0, (⟨#[]⟩ : ByteArray), ([] : List Pt), ([] : List Fent), (⟨([] : List Vrow), ([] : List Int)⟩ : Vtab), 0, 0, 0, 0, 0⟩ : Bridge))) = _ from this]
  rfl
theorem laws_toNetF_eq (n : Nat) (x : Net) (h : x.sz ≤ 1048576) (hn : 1048576 < n) : laws_toNetF n x = some x := by
  unfold Net.sz at h
  unfold laws_toNetF
  rw [laws_toBridgeSF_eq n x.Bridges (by omega) (by omega), laws_toLinkSF_eq n x.Links (by omega) (by omega), laws_toSaySF_eq n x.Said (by omega) (by omega)]
  rfl
theorem laws_eqLinkF_refl (n : Nat) (v : Link) : laws_eqLinkF n v v = some true := by simp [laws_eqLinkF]
theorem laws_eqLinkSF_refl (n : Nat) (xs : List Link) (h : xs.length ≤ 268435456) (hn : xs.length < n) : laws_eqLinkSF n xs xs = some true := by
  unfold laws_eqLinkSF
  have := eq_loop (L := laws_eqLinkS_L2 n) (f := laws_eqLinkF n) (fun m xs ys i => rfl) xs (by omega) (fun v _ => laws_eqLinkF_refl n v) n 0 (by omega) (by omega)
  simp only [bne_self_eq_false, cond_false]
  rw [show (laws_eqLinkS_L2 n n xs xs 0) = _ from this]
  rfl
theorem laws_eqSayF_refl (n : Nat) (v : Say) : laws_eqSayF n v v = some true := by simp [laws_eqSayF, laws_eqVecF_refl]
theorem laws_eqSaySF_refl (n : Nat) (xs : List Say) (h : xs.length ≤ 268435456) (hn : xs.length < n) : laws_eqSaySF n xs xs = some true := by
  unfold laws_eqSaySF
  have := eq_loop (L := laws_eqSayS_L2 n) (f := laws_eqSayF n) (fun m xs ys i => rfl) xs (by omega) (fun v _ => laws_eqSayF_refl n v) n 0 (by omega) (by omega)
  simp only [bne_self_eq_false, cond_false]
  rw [show (laws_eqSayS_L2 n n xs xs 0) = _ from this]
  rfl
theorem laws_eqBridgeSF_refl (n : Nat) (xs : List Bridge) (h : xs.length + sumSz Bridge.sz xs ≤ 268435456) (hn : xs.length + sumSz Bridge.sz xs < n) : laws_eqBridgeSF n xs xs = some true := by
  unfold laws_eqBridgeSF
  have := eq_loop (L := laws_eqBridgeS_L2 n) (f := laws_eqBridgeF n) (fun m xs ys i => rfl) xs (by omega) (fun v hv => by have := sumSz_mem (sz := Bridge.sz) hv; exact laws_eqBridgeF_refl n v (by omega) (by omega)) n 0 (by omega) (by omega)
  simp only [bne_self_eq_false, cond_false]
  rw [show (laws_eqBridgeS_L2 n n xs xs 0) = _ from this]
  rfl
theorem laws_eqNetF_refl (n : Nat) (x : Net) (h : x.sz ≤ 268435456) (hn : x.sz < n) : laws_eqNetF n x x = some true := by
  unfold Net.sz at h hn
  unfold laws_eqNetF
  rw [laws_eqBridgeSF_refl n x.Bridges (by omega) (by omega), laws_eqLinkSF_refl n x.Links (by omega) (by omega), laws_eqSaySF_refl n x.Said (by omega) (by omega)]
  rfl
theorem impl_portAtF_ok (n : Nat) (x : Net) (i j : Int) (wx : x.wf) (h : x.Bridges.length ≤ 1048580) : ∃ p b, impl_portAtF n x i j = some (p, b) ∧ spec_l13UpF n x i j = some (b && p.Up) := by
  have hw : IntKind.wrap .i64 ((x.Bridges.length : Int) - 1) = (x.Bridges.length : Int) - 1 := wrap64 (by omega) (by omega)
  unfold impl_portAtF spec_l13UpF
  simp only [impl_inF_eq, spec_l1InF_val, hw, Option.bind_some]
  by_cases hi : 0 ≤ i ∧ i ≤ (x.Bridges.length : Int) - 1
  · obtain ⟨v, hv, hm⟩ := idx_of (xs := x.Bridges) hi.1 (by omega)
    have hl := (wx.1.2 v hm).2.2.1.1
    have hmx : maxLen = 9223372036854775807 := by decide
    have hw2 : IntKind.wrap .i64 ((v.Ports.length : Int) - 1) = (v.Ports.length : Int) - 1 := wrap64 (by omega) (by omega)
    simp only [decide_eq_true hi.1, decide_eq_true hi.2, Bool.and_self, Bool.not_true, cond_false, cond_true, hv, Option.bind_some, hw2]
    by_cases hj : 0 ≤ j ∧ j ≤ (v.Ports.length : Int) - 1
    · obtain ⟨p, hp, _⟩ := idx_of (xs := v.Ports) hj.1 (by omega)
      simp only [decide_eq_true hj.1, decide_eq_true hj.2, Bool.and_self, Bool.not_true, cond_false, cond_true, hp, Option.bind_some]
      exact ⟨p, true, rfl, by simp⟩
    · have hj' : (decide (0 ≤ j) && decide (j ≤ (v.Ports.length : Int) - 1)) = false := by
        simp only [Bool.and_eq_false_iff, decide_eq_false_iff_not]; omega
      simp only [hj', Bool.not_false, cond_true, cond_false]
      exact ⟨_, false, rfl, rfl⟩
  · have hi' : (decide (0 ≤ i) && decide (i ≤ (x.Bridges.length : Int) - 1)) = false := by
      simp only [Bool.and_eq_false_iff, decide_eq_false_iff_not]; omega
    simp only [hi', Bool.not_false, cond_true, cond_false]
    exact ⟨_, false, rfl, rfl⟩
theorem spec_LinkUpF_both (n : Nat) (x : Net) (i : Int) (wx : x.wf) (h : x.sz ≤ 1048580) : ∃ b, spec_LinkUpF n x i = some b ∧ impl_LinkUpF n x i = some b := by
  unfold Net.sz at h
  have hw : IntKind.wrap .i64 ((x.Links.length : Int) - 1) = (x.Links.length : Int) - 1 := wrap64 (by omega) (by omega)
  unfold spec_LinkUpF impl_LinkUpF
  simp only [impl_inF_eq, spec_l1InF_val, hw, Option.bind_some]
  by_cases hi : 0 ≤ i ∧ i ≤ (x.Links.length : Int) - 1
  · obtain ⟨v, hv, hm⟩ := idx_of (xs := x.Links) hi.1 (by omega)
    obtain ⟨p, b, h1, h2⟩ := impl_portAtF_ok n x v.A v.P wx (by omega)
    obtain ⟨p', b', h1', h2'⟩ := impl_portAtF_ok n x v.B v.Q wx (by omega)
    simp only [decide_eq_true hi.1, decide_eq_true hi.2, Bool.and_self, Bool.not_true, cond_false, hv, Option.bind_some, h1, h2, h1', h2']
    cases b <;> cases b' <;> cases p.Up <;> cases p'.Up <;> exact ⟨_, rfl, rfl⟩
  · have hi' : (decide (0 ≤ i) && decide (i ≤ (x.Links.length : Int) - 1)) = false := by
      simp only [Bool.and_eq_false_iff, decide_eq_false_iff_not]; omega
    simp only [hi', Bool.not_false, cond_true]
    exact ⟨_, rfl, rfl⟩
theorem laws_FnExactLinkUp_plain (x0 : Net) (x1 : Int) (w0 : x0.wf) (w1 : intWf x1) : ∃ n, laws_FnExactLinkUpF n x0 x1 = some true := by
  refine ⟨1048580, ?_⟩
  obtain ⟨r, e, k⟩ := laws_szNetF_ok 1048580 (x := x0) (b := 1048576) (by decide) (by decide) (by decide) w0
  simp only [laws_FnExactLinkUpF, e, Option.bind_some]
  rcases k.neg with ⟨c1, _⟩ | ⟨c1, c2, c3⟩
  · rw [c1]; rfl
  · obtain ⟨b, h1, h2⟩ := spec_LinkUpF_both 1048580 x0 x1 w0 (by omega)
    simp only [c1, cond_false, laws_toNetF_eq 1048580 x0 (by omega) (by omega), Option.bind_some, h1, h2, beq_self_eq_true, laws_eqNetF_refl 1048580 x0 (by omega) (by omega), Bool.not_true]
end Go.Proofs.Ytgpcfaiacggoiaa.Tw
