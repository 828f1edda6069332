/- What the functions answer, on plain data. -/
import Derived.Test.YtjdedhklbdkeoaaTwLO
import Derived.Test.YtjdedhklbdkeoaaTlPlain
set_option linter.unusedVariables false
set_option linter.unusedSimpArgs false
set_option maxRecDepth 100000
set_option maxHeartbeats 1000000
namespace Go.Proofs.Ytjdedhklbdkeoaa.Tw
open Go Go.TL Go.Proofs
def Vtab.sz (x : Vtab) : Nat := x.Rows.length + x.Pvid.length
theorem laws_szIntSF_ok (n : Nat) {xs : List Int} {b : Int} (h0 : 0 ≤ b) (h1 : b ≤ 1048576) (hl : xs.length ≤ maxLen) : ∃ r, laws_szIntSF n xs b = some r ∧ Lft b xs.length r := sz_step h0 h1 hl
theorem laws_szVrowSF_ok (n : Nat) {xs : List Vrow} {b : Int} (h0 : 0 ≤ b) (h1 : b ≤ 1048576) (hl : xs.length ≤ maxLen) : ∃ r, laws_szVrowSF n xs b = some r ∧ Lft b xs.length r := sz_step h0 h1 hl
theorem laws_szVtabF_ok (n : Nat) {x : Vtab} {b : Int} (h0 : 0 ≤ b) (h1 : b ≤ 1048576) (hl : Vtab.wf x) : ∃ r, laws_szVtabF n x b = some r ∧ Lft b x.sz r := by
  obtain ⟨r1, e1, k1⟩ := laws_szVrowSF_ok n h0 h1 hl.1.1
  simp only [laws_szVtabF, e1, Option.bind_some]
  rcases k1.neg with ⟨c1, c2⟩ | ⟨c1, c2, c3⟩
  · rw [c1]; exact ⟨_, rfl, .inl (by decide)⟩
  · rw [c1]
    obtain ⟨r2, e2, k2⟩ := laws_szIntSF_ok n c2 (by omega) hl.2.1.1
    simp only [e2, Option.bind_some, cond_false]
    rcases k2.neg with ⟨d1, d2⟩ | ⟨d1, d2, d3⟩
    · rw [d1]; exact ⟨_, rfl, .inl (by decide)⟩
    · rw [d1]; exact ⟨_, rfl, .inr ⟨d2, by unfold Vtab.sz; omega⟩⟩
theorem laws_toIntSF_eq (n : Nat) (xs : List Int) (h : xs.length ≤ 268435456) (hn : xs.length < n) : laws_toIntSF n xs = some xs := by
  unfold laws_toIntSF
  rw [decide_eq_true (by omega : (0 : Int) ≤ (xs.length : Int)), decide_eq_true (by omega : (xs.length : Int) ≤ 268435456)]
  have := copy_loop (L := laws_toIntS_L2 n) (fun m xs i ys => rfl) xs (by omega) n 0 (List.replicate ((xs.length : Int)).toNat 0) (by omega) (by omega) (by simp) rfl
  simp only [Bool.and_self, cond_true]
  rw [show (laws_toIntS_L2 n n xs 0 (List.replicate ((xs.length : Int)).toNat 0)) = _ from this]
  rfl
theorem laws_toVrowSF_eq (n : Nat) (xs : List Vrow) (h : xs.length ≤ 1048576) (hn : xs.length < n) : laws_toVrowSF n xs = some xs := by
  unfold laws_toVrowSF
  rw [decide_eq_true (by omega : (0 : Int) ≤ (xs.length : Int)), decide_eq_true (by omega : (xs.length : Int) ≤ 268435456)]
  have := copy_loop (L := laws_toVrowS_L2 n) (fun m xs i ys => rfl) xs (by omega) n 0 (List.replicate ((xs.length : Int)).toNat (⟨0, 0, 0⟩ : Vrow)) (by omega) (by omega) (by simp) rfl
  simp only [Bool.and_self, cond_true]
  rw [show (laws_toVrowS_L2 n n xs 0 (List.replicate ((xs.length : Int)).toNat (⟨0, 0, 0⟩ : Vrow))) = _ from this]
  rfl
theorem laws_toVtabF_eq (n : Nat) (x : Vtab) (h : x.sz ≤ 1048576) (hn : x.sz < n) : laws_toVtabF n x = some x := by
  unfold Vtab.sz at h hn
  unfold laws_toVtabF
  rw [laws_toVrowSF_eq n x.Rows (by omega) (by omega), laws_toIntSF_eq n x.Pvid (by omega) (by omega)]
  rfl
theorem laws_eqIntSF_refl (n : Nat) (xs : List Int) (h : xs.length ≤ 268435456) (hn : xs.length < n) : laws_eqIntSF n xs xs = some true := by
  unfold laws_eqIntSF
  have := eq_loop (L := laws_eqIntS_L2 n) (f := fun a b => some (a == b)) (fun m xs ys i => rfl) xs (by omega) (fun v _ => by simp) n 0 (by omega) (by omega)
  simp only [bne_self_eq_false, cond_false]
  rw [show (laws_eqIntS_L2 n n xs xs 0) = _ from this]
  rfl
theorem laws_eqVrowF_refl (n : Nat) (v : Vrow) : laws_eqVrowF n v v = some true := by simp [laws_eqVrowF]
theorem laws_eqVrowSF_refl (n : Nat) (xs : List Vrow) (h : xs.length ≤ 268435456) (hn : xs.length < n) : laws_eqVrowSF n xs xs = some true := by
  unfold laws_eqVrowSF
  have := eq_loop (L := laws_eqVrowS_L2 n) (f := laws_eqVrowF n) (fun m xs ys i => rfl) xs (by omega) (fun v _ => laws_eqVrowF_refl n v) n 0 (by omega) (by omega)
  simp only [bne_self_eq_false, cond_false]
  rw [show (laws_eqVrowS_L2 n n xs xs 0) = _ from this]
  rfl
theorem laws_eqVtabF_refl (n : Nat) (x : Vtab) (h : x.sz ≤ 268435456) (hn : x.sz < n) : laws_eqVtabF n x x = some true := by
  unfold Vtab.sz at h hn
  unfold laws_eqVtabF
  rw [laws_eqVrowSF_refl n x.Rows (by omega) (by omega), laws_eqIntSF_refl n x.Pvid (by omega) (by omega)]
  rfl
theorem laws_szPtSF_ok (n : Nat) {xs : List Pt} {b : Int} (h0 : 0 ≤ b) (h1 : b ≤ 1048576) (hl : xs.length ≤ maxLen) : ∃ r, laws_szPtSF n xs b = some r ∧ Lft b xs.length r := sz_step h0 h1 hl
theorem laws_toPtSF_eq (n : Nat) (xs : List Pt) (h : xs.length ≤ 1048576) (hn : xs.length < n) : laws_toPtSF n xs = some xs := by
  unfold laws_toPtSF
  rw [decide_eq_true (by omega : (0 : Int) ≤ (xs.length : Int)), decide_eq_true (by omega : (xs.length : Int) ≤ 268435456)]
  have := copy_loop (L := laws_toPtS_L2 n) (fun m xs i ys => rfl) xs (by omega) n 0 (List.replicate ((xs.length : Int)).toNat (⟨false, 0, false, (⟨0, 0, 0, 0, 0⟩ : Vec)⟩ : Pt)) (by omega) (by omega) (by simp) rfl
  simp only [Bool.and_self, cond_true]
  rw [show (laws_toPtS_L2 n n xs 0 (List.replicate ((xs.length : Int)).toNat (⟨false, 0, false, (⟨0, 0, 0, 0, 0⟩ : Vec)⟩ : Pt))) = _ from this]
  rfl
theorem laws_eqVecF_refl (n : Nat) (v : Vec) : laws_eqVecF n v v = some true := by simp [laws_eqVecF]
theorem laws_eqPtF_refl (n : Nat) (v : Pt) : laws_eqPtF n v v = some true := by simp [laws_eqPtF, laws_eqVecF_refl]
theorem laws_eqPtSF_refl (n : Nat) (xs : List Pt) (h : xs.length ≤ 268435456) (hn : xs.length < n) : laws_eqPtSF n xs xs = some true := by
  unfold laws_eqPtSF
  have := eq_loop (L := laws_eqPtS_L2 n) (f := laws_eqPtF n) (fun m xs ys i => rfl) xs (by omega) (fun v _ => laws_eqPtF_refl n v) n 0 (by omega) (by omega)
  simp only [bne_self_eq_false, cond_false]
  rw [show (laws_eqPtS_L2 n n xs xs 0) = _ from this]
  rfl
theorem spec_l1InF_tot (n : Nat) (a b c : Int) : Tot (spec_l1InF n a b c) := Tot.bif (fun _ => .of) (fun _ => .of)
theorem laws_eqVecF_same (n : Nat) (v u : Vec) (h : v = u) : laws_eqVecF n v u = some true := by rw [h]; exact laws_eqVecF_refl n u
theorem wrapU {k : Nat} (h : k ≤ 1099511627776) : IntKind.wrap .u64 (k : Int) = k := by
  show ((k : Int) % 18446744073709551616) = k
  omega
theorem impl_inF_eq (n : Nat) : impl_inF n = spec_l1InF n := rfl
theorem spec_l1InF_val (n : Nat) (a b c : Int) : spec_l1InF n a b c = some (decide (b ≤ a) && decide (a ≤ c)) := by
  unfold spec_l1InF
  by_cases h : a ≥ b
  · rw [decide_eq_true h]; rfl
  · rw [decide_eq_false h]; rfl
theorem listWf_sub {α : Type} {wf : α → Prop} {xs ys : List α} (h : listWf wf xs) (hs : ∀ y ∈ ys, y ∈ xs) (hl : ys.length ≤ xs.length) : listWf wf ys := ⟨Nat.le_trans hl h.1, fun y hy => h.2 y (hs y hy)⟩
theorem listWf_set {α : Type} {wf : α → Prop} {xs : List α} {i : Nat} {v : α} (h : listWf wf xs) (hv : wf v) : listWf wf (xs.set i v) := ⟨by rw [List.length_set]; exact h.1, fun y hy => by
  rcases List.mem_or_eq_of_mem_set hy with h1 | h1
  · exact h.2 y h1
  · rw [h1]; exact hv⟩
theorem laws_szFentSF_ok (n : Nat) {xs : List Fent} {b : Int} (h0 : 0 ≤ b) (h1 : b ≤ 1048576) (hl : xs.length ≤ maxLen) : ∃ r, laws_szFentSF n xs b = some r ∧ Lft b xs.length r := sz_step h0 h1 hl
theorem laws_toFentSF_eq (n : Nat) (xs : List Fent) (h : xs.length ≤ 1048576) (hn : xs.length < n) : laws_toFentSF n xs = some xs := by
  unfold laws_toFentSF
  rw [decide_eq_true (by omega : (0 : Int) ≤ (xs.length : Int)), decide_eq_true (by omega : (xs.length : Int) ≤ 268435456)]
  have := copy_loop (L := laws_toFentS_L2 n) (fun m xs i ys => rfl) xs (by omega) n 0 (List.replicate ((xs.length : Int)).toNat (⟨0, 0, 0, 0, false⟩ : Fent)) (by omega) (by omega) (by simp) rfl
  simp only [Bool.and_self, cond_true]
  rw [show (laws_toFentS_L2 n n xs 0 (List.replicate ((xs.length : Int)).toNat (⟨0, 0, 0, 0, false⟩ : Fent))) = _ from this]
  rfl
theorem laws_eqFentF_refl (n : Nat) (v : Fent) : laws_eqFentF n v v = some true := by simp [laws_eqFentF]
theorem laws_eqFentSF_refl (n : Nat) (xs : List Fent) (h : xs.length ≤ 268435456) (hn : xs.length < n) : laws_eqFentSF n xs xs = some true := by
  unfold laws_eqFentSF
  have := eq_loop (L := laws_eqFentS_L2 n) (f := laws_eqFentF n) (fun m xs ys i => rfl) xs (by omega) (fun v _ => laws_eqFentF_refl n v) n 0 (by omega) (by omega)
  simp only [bne_self_eq_false, cond_false]
  rw [show (laws_eqFentS_L2 n n xs xs 0) = _ from this]
  rfl
def Bridge.sz (x : Bridge) : Nat := x.Name.size + x.Ports.length + x.F.length + x.V.sz
theorem laws_szBridgeF_ok (n : Nat) {x : Bridge} {b : Int} (h0 : 0 ≤ b) (h1 : b ≤ 1048576) (hl : Bridge.wf x) : ∃ r, laws_szBridgeF n x b = some r ∧ Lft b x.sz r := by
  have hm : maxLen = 9223372036854775807 := by decide
  have hn := hl.2.1
  unfold laws_szBridgeF
  rw [wrap64 (by omega) (by omega)]
  by_cases h : b - (x.Name.size : Int) < 0
  · rw [decide_eq_true h]; exact ⟨_, rfl, .inl (by decide)⟩
  · rw [decide_eq_false h]
    obtain ⟨r1, e1, k1⟩ := laws_szPtSF_ok n (xs := x.Ports) (b := b - x.Name.size) (by omega) (by omega) hl.2.2.1.1
    simp only [cond_false, e1, Option.bind_some]
    rcases k1.neg with ⟨c1, c2⟩ | ⟨c1, c2, c3⟩
    · rw [c1]; exact ⟨_, rfl, .inl (by decide)⟩
    · rw [c1]
      obtain ⟨r2, e2, k2⟩ := laws_szFentSF_ok n (xs := x.F) c2 (by omega) hl.2.2.2.1.1
      simp only [cond_false, e2, Option.bind_some]
      rcases k2.neg with ⟨d1, d2⟩ | ⟨d1, d2, d3⟩
      · rw [d1]; exact ⟨_, rfl, .inl (by decide)⟩
      · rw [d1]
        obtain ⟨r3, e3, k3⟩ := laws_szVtabF_ok n (x := x.V) d2 (by omega) ⟨hl.2.2.2.2.1, hl.2.2.2.2.2.1, trivial⟩
        simp only [cond_false, e3, Option.bind_some]
        rcases k3.neg with ⟨f1, f2⟩ | ⟨f1, f2, f3⟩
        · rw [f1]; exact ⟨_, rfl, .inl (by decide)⟩
        · rw [f1]; exact ⟨_, rfl, .inr ⟨f2, by unfold Bridge.sz; omega⟩⟩
theorem laws_toBridgeF_eq (n : Nat) (x : Bridge) (h : x.sz ≤ 1048576) (hn : x.sz < n) : laws_toBridgeF n x = some x := by
  unfold Bridge.sz at h hn
  unfold laws_toBridgeF
  rw [laws_toPtSF_eq n x.Ports (by omega) (by omega), laws_toFentSF_eq n x.F (by omega) (by omega), laws_toVtabF_eq n x.V (by omega) (by omega)]
  rfl
theorem laws_eqBridgeF_refl (n : Nat) (x : Bridge) (h : x.sz ≤ 268435456) (hn : x.sz < n) : laws_eqBridgeF n x x = some true := by
  unfold Bridge.sz at h hn
  unfold laws_eqBridgeF
  rw [laws_eqPtSF_refl n x.Ports (by omega) (by omega), laws_eqFentSF_refl n x.F (by omega) (by omega), laws_eqVtabF_refl n x.V (by omega) (by omega)]
  simp
theorem laws_szLinkSF_ok (n : Nat) {xs : List Link} {b : Int} (h0 : 0 ≤ b) (h1 : b ≤ 1048576) (hl : xs.length ≤ maxLen) : ∃ r, laws_szLinkSF n xs b = some r ∧ Lft b xs.length r := sz_step h0 h1 hl
theorem laws_szSaySF_ok (n : Nat) {xs : List Say} {b : Int} (h0 : 0 ≤ b) (h1 : b ≤ 1048576) (hl : xs.length ≤ maxLen) : ∃ r, laws_szSaySF n xs b = some r ∧ Lft b xs.length r := sz_step h0 h1 hl
theorem laws_szBridgeSF_ok (n : Nat) {xs : List Bridge} {b : Int} (h0 : 0 ≤ b) (h1 : b ≤ 1048576) (hn : 1048576 < n) (hl : listWf Bridge.wf xs) : ∃ r, laws_szBridgeSF n xs b = some r ∧ Lft b (xs.length + sumSz Bridge.sz xs) r := by
  obtain ⟨r0, e0, k0⟩ := sz_step h0 h1 hl.1
  unfold laws_szBridgeSF
  have hm : maxLen = 9223372036854775807 := by decide
  have hlen := hl.1
  rw [wrap64 (by omega) (by omega)] at e0 ⊢
  by_cases h : b - (xs.length : Int) < 0
  · rw [decide_eq_true h]; exact ⟨_, rfl, .inl (by decide)⟩
  · rw [decide_eq_false h]
    obtain ⟨o, f1, f2⟩ := sz_loop (L := fun m xs i b => laws_szBridgeS_L2 n m xs i b) (g := fun v b => laws_szBridgeF n v b) (sz := Bridge.sz) (fun m xs i b => rfl) xs (by omega) (fun v hv b h0 h1 => laws_szBridgeF_ok n h0 h1 (hl.2 v hv)) n 0 (b - xs.length) (by omega) (by omega) (by omega) (by omega)
    simp only [cond_false]
    rw [show laws_szBridgeS_L2 n n xs 0 (b - (xs.length : Int)) = _ from f1]
    rcases f2 with rfl | ⟨r, rfl, f3, f4⟩
    · exact ⟨_, rfl, .inl (by decide)⟩
    · exact ⟨_, rfl, .inr ⟨f3, by simp only [List.drop_zero] at f4; omega⟩⟩
def Net.sz (x : Net) : Nat := (x.Bridges.length + sumSz Bridge.sz x.Bridges) + x.Links.length + x.Said.length
theorem laws_szNetF_ok (n : Nat) {x : Net} {b : Int} (h0 : 0 ≤ b) (h1 : b ≤ 1048576) (hn : 1048576 < n) (hl : Net.wf x) : ∃ r, laws_szNetF n x b = some r ∧ Lft b x.sz r := by
  obtain ⟨r1, e1, k1⟩ := laws_szBridgeSF_ok n h0 h1 hn hl.1
  simp only [laws_szNetF, e1, Option.bind_some]
  rcases k1.neg with ⟨c1, c2⟩ | ⟨c1, c2, c3⟩
  · rw [c1]; exact ⟨_, rfl, .inl (by decide)⟩
  · rw [c1]
    obtain ⟨r2, e2, k2⟩ := laws_szLinkSF_ok n (xs := x.Links) c2 (by omega) hl.2.1.1
    simp only [e2, Option.bind_some, cond_false]
    rcases k2.neg with ⟨d1, d2⟩ | ⟨d1, d2, d3⟩
    · rw [d1]; exact ⟨_, rfl, .inl (by decide)⟩
    · rw [d1]
      obtain ⟨r3, e3, k3⟩ := laws_szSaySF_ok n (xs := x.Said) d2 (by omega) hl.2.2.1.1
      simp only [e3, Option.bind_some, cond_false]
      rcases k3.neg with ⟨f1, f2⟩ | ⟨f1, f2, f3⟩
      · rw [f1]; exact ⟨_, rfl, .inl (by decide)⟩
      · rw [f1]; exact ⟨_, rfl, .inr ⟨f2, by unfold Net.sz; omega⟩⟩
theorem laws_toLinkSF_eq (n : Nat) (xs : List Link) (h : xs.length ≤ 1048576) (hn : xs.length < n) : laws_toLinkSF n xs = some xs := by
  unfold laws_toLinkSF
  rw [decide_eq_true (by omega : (0 : Int) ≤ (xs.length : Int)), decide_eq_true (by omega : (xs.length : Int) ≤ 268435456)]
  have := copyF_loop (L := laws_toLinkS_L2 n) (f := laws_toLinkF n) (fun m xs i ys => rfl) xs (by omega) (fun v _ => rfl) n 0 (List.replicate ((xs.length : Int)).toNat (⟨0, 0, 0, 0⟩ : Link)) (by omega) (by omega) (by simp) rfl
  simp only [Bool.and_self, cond_true]
  rw [show (laws_toLinkS_L2 n n xs 0 (List.replicate ((xs.length : Int)).toNat (⟨0, 0, 0, 0⟩ : Link))) = _ from this]
  rfl
theorem laws_toSaySF_eq (n : Nat) (xs : List Say) (h : xs.length ≤ 1048576) (hn : xs.length < n) : laws_toSaySF n xs = some xs := by
  unfold laws_toSaySF
  rw [decide_eq_true (by omega : (0 : Int) ≤ (xs.length : Int)), decide_eq_true (by omega : (xs.length : Int) ≤ 268435456)]
  have := copyF_loop (L := laws_toSayS_L2 n) (f := laws_toSayF n) (fun m xs i ys => rfl) xs (by omega) (fun v _ => rfl) n 0 (List.replicate ((xs.length : Int)).toNat (⟨0, false, (⟨0, 0, 0, 0, 0⟩ : Vec)⟩ : Say)) (by omega) (by omega) (by simp) rfl
  simp only [Bool.and_self, cond_true]
  rw [show (laws_toSayS_L2 n n xs 0 (List.replicate ((xs.length : Int)).toNat (⟨0, false, (⟨0, 0, 0, 0, 0⟩ : Vec)⟩ : Say))) = _ from this]
  rfl
theorem laws_toBridgeSF_eq (n : Nat) (xs : List Bridge) (h : xs.length + sumSz Bridge.sz xs ≤ 1048576) (hn : 1048576 < n) : laws_toBridgeSF n xs = some xs := by
  unfold laws_toBridgeSF
  rw [decide_eq_true (by omega : (0 : Int) ≤ (xs.length : Int)), decide_eq_true (by omega : (xs.length : Int) ≤ 268435456)]
  have := copyF_loop (L := laws_toBridgeS_L2 n) (f := laws_toBridgeF n) (fun m xs i ys => rfl) xs (by omega) (fun v hv => by have := sumSz_mem (sz := Bridge.sz) hv; exact laws_toBridgeF_eq n v (by omega) (by omega)) n 0 (List.replicate ((xs.length : Int)).toNat (⟨0, (⟨#[]⟩ : ByteArray), ([] : List Pt), ([] : List Fent), (⟨([] : List Vrow), ([] : List Int)⟩ : Vtab), 0, 0, 0, 0, 0⟩ : Bridge)) (by omega) (by omega) (by simp) rfl
  simp only [Bool.and_self, cond_true]
  rw [show (laws_toBridgeS_L2 n n xs 0 (List.replicate ((xs.length : Int)).toNat (⟨0, (⟨#[]⟩ : ByteArray), ([] : List Pt), ([] : List Fent), (⟨([] : List Vrow), ([] : List Int)⟩ : Vtab), 0, 0, 0, 0, 0⟩ : Bridge))) = _ from this]
  rfl
theorem laws_toNetF_eq (n : Nat) (x : Net) (h : x.sz ≤ 1048576) (hn : 1048576 < n) : laws_toNetF n x = some x := by
  unfold Net.sz at h
  unfold laws_toNetF
  rw [laws_toBridgeSF_eq n x.Bridges (by omega) (by omega), laws_toLinkSF_eq n x.Links (by omega) (by omega), laws_toSaySF_eq n x.Said (by omega) (by omega)]
  rfl
theorem laws_eqLinkF_refl (n : Nat) (v : Link) : laws_eqLinkF n v v = some true := by simp [laws_eqLinkF]
theorem laws_eqLinkSF_refl (n : Nat) (xs : List Link) (h : xs.length ≤ 268435456) (hn : xs.length < n) : laws_eqLinkSF n xs xs = some true := by
  unfold laws_eqLinkSF
  have := eq_loop (L := laws_eqLinkS_L2 n) (f := laws_eqLinkF n) (fun m xs ys i => rfl) xs (by omega) (fun v _ => laws_eqLinkF_refl n v) n 0 (by omega) (by omega)
  simp only [bne_self_eq_false, cond_false]
  rw [show (laws_eqLinkS_L2 n n xs xs 0) = _ from this]
  rfl
theorem laws_eqSayF_refl (n : Nat) (v : Say) : laws_eqSayF n v v = some true := by simp [laws_eqSayF, laws_eqVecF_refl]
theorem laws_eqSaySF_refl (n : Nat) (xs : List Say) (h : xs.length ≤ 268435456) (hn : xs.length < n) : laws_eqSaySF n xs xs = some true := by
  unfold laws_eqSaySF
  have := eq_loop (L := laws_eqSayS_L2 n) (f := laws_eqSayF n) (fun m xs ys i => rfl) xs (by omega) (fun v _ => laws_eqSayF_refl n v) n 0 (by omega) (by omega)
  simp only [bne_self_eq_false, cond_false]
  rw [show (laws_eqSayS_L2 n n xs xs 0) = _ from this]
  rfl
theorem laws_eqBridgeSF_refl (n : Nat) (xs : List Bridge) (h : xs.length + sumSz Bridge.sz xs ≤ 268435456) (hn : xs.length + sumSz Bridge.sz xs < n) : laws_eqBridgeSF n xs xs = some true := by
  unfold laws_eqBridgeSF
  have := eq_loop (L := laws_eqBridgeS_L2 n) (f := laws_eqBridgeF n) (fun m xs ys i => rfl) xs (by omega) (fun v hv => by have := sumSz_mem (sz := Bridge.sz) hv; exact laws_eqBridgeF_refl n v (by omega) (by omega)) n 0 (by omega) (by omega)
  simp only [bne_self_eq_false, cond_false]
  rw [show (laws_eqBridgeS_L2 n n xs xs 0) = _ from this]
  rfl
theorem laws_eqNetF_refl (n : Nat) (x : Net) (h : x.sz ≤ 268435456) (hn : x.sz < n) : laws_eqNetF n x x = some true := by
  unfold Net.sz at h hn
  unfold laws_eqNetF
  rw [laws_eqBridgeSF_refl n x.Bridges (by omega) (by omega), laws_eqLinkSF_refl n x.Links (by omega) (by omega), laws_eqSaySF_refl n x.Said (by omega) (by omega)]
  rfl
/-- the bit of a port -/
def bitV (a : Int) (i : Nat) : Bool := (IntKind.wrap .i64 (BitVec.ofInt (IntKind.bits .i64) (Int.fdiv a (2 ^ min ((i : Int)).toNat (IntKind.bits .i64))) &&& BitVec.ofInt (IntKind.bits .i64) 1).toNat == 1)
theorem bitV_nine : ∀ a < 64, bitV ((a : Nat) : Int) 9 = false := by decide +kernel
theorem ports_le {x : Net} {a : Bridge} (h : x.sz ≤ 1048576) (ha : a ∈ x.Bridges) : a.sz ≤ x.sz := by
  have := sumSz_mem (sz := Bridge.sz) ha
  unfold Net.sz
  omega
theorem idx_lt {α : Type} {xs : List α} {i : Int} {v : α} (h : idx xs i = some v) : 0 ≤ i ∧ i < xs.length := by
  obtain ⟨g1, g2⟩ := idx_get h
  have := (List.getElem?_eq_some_iff.1 g2).1
  omega
theorem bifE {c : Bool} {x : Option Bool} (h : (bif c then x else some false) = some true) : c = true ∧ x = some true := by
  cases c with
  | true => exact ⟨rfl, h⟩
  | false => cases h
theorem scan_inv {L : Nat → Int → Option (Unit ⊕ Bool)} {N : Nat} {P : Nat → Prop} (h0 : ∀ k, L 0 k = none) (hs : ∀ m (k : Nat) o, k < N → L (m + 1) (k : Int) = some o → o = .inr false ∨ (P k ∧ L m ((k + 1 : Nat) : Int) = some o)) (he : ∀ m o, L (m + 1) (N : Int) = some o → o = .inl ()) :
    ∀ (m k : Nat) o, k ≤ N → L m (k : Int) = some o → o = .inr false ∨ (o = .inl () ∧ ∀ j, k ≤ j → j < N → P j)
  | 0, k, o, _, h => by rw [h0] at h; cases h
  | m + 1, k, o, hk, h => by
    by_cases hlt : k < N
    · rcases hs m k o hlt h with e | ⟨hp, h⟩
      · exact .inl e
      · rcases scan_inv h0 hs he m (k + 1) o (by omega) h with e | ⟨e, h2⟩
        · exact .inl e
        · refine .inr ⟨e, fun j hj hj2 => ?_⟩
          by_cases hjk : j = k
          · subst hjk; exact hp
          · exact h2 j (by omega) hj2
    · have : k = N := by omega
      subst this
      exact .inr ⟨he m o h, fun j hj hj2 => by omega⟩
theorem filt_loop {α β : Type} {p : α → Bool} {L : Nat → Int → List α → Option (List α ⊕ β)} (xs : List α) (hx : xs.length ≤ 134217728)
    (h : ∀ m (k : Nat) (acc : List α) (hk : k < xs.length), acc.length ≤ k → L (m + 1) k acc = L m ((k + 1 : Nat) : Int) (acc ++ if p xs[k] then [xs[k]] else [])) (he : ∀ m (acc : List α), L (m + 1) (xs.length : Int) acc = some (.inl acc)) :
    ∀ (m k : Nat) (acc : List α), k ≤ xs.length → xs.length < m + k → acc.length ≤ k → L m k acc = some (.inl (acc ++ (xs.drop k).filter p))
  | 0, k, acc, h1, h2, h3 => by omega
  | m + 1, k, acc, h1, h2, h3 => by
    by_cases hk : k < xs.length
    · rw [h m k acc hk h3, filt_loop xs hx h he m (k + 1) _ (by omega) (by omega) (by split <;> simp <;> omega), List.drop_eq_getElem_cons hk, List.filter_cons, List.append_assoc]
      split <;> simp
    · have : k = xs.length := by omega
      subst this
      rw [he m acc]
      simp
theorem laws_toVecF_eq (n : Nat) (v : Vec) : laws_toVecF n v = some v := rfl
theorem markV_loop {α β : Type} {L : Nat → Int → List α → Int → Option ((List α × Int) ⊕ β)} (w : α → Nat) (good : α → Prop)
    (h : ∀ (m k : Nat) (ys : List α) (b : Int) (v : α), k < ys.length → ys.length ≤ 268435456 → ys[k]? = some v → good v → 0 < b → b ≤ 274877906944 → ∃ v' c, b ≤ c ∧ c ≤ b + 16 * w v ∧ L (m + 1) k ys b = L m ((k + 1 : Nat) : Int) (ys.set k v') c)
    (hend : ∀ m (ys : List α) b, L (m + 1) (ys.length : Int) ys b = some (.inl (ys, b))) : ∀ (post : List α) (m : Nat) (pre : List α) (b : Int), (pre ++ post).length ≤ 268435456 → (∀ v ∈ post, good v) → 0 < b → b + 16 * sumSz w post ≤ 274877906944 → post.length < m →
      ∃ (zs : List α) (c : Int), b ≤ c ∧ c ≤ b + 16 * sumSz w post ∧ L m (pre.length : Int) (pre ++ post) b = some (.inl (zs, c))
  | [], m, pre, b, h1, h2, h3, h4, h5 => by
    obtain ⟨m, rfl⟩ : ∃ m', m = m' + 1 := ⟨m - 1, by have : 0 < m := h5; omega⟩
    refine ⟨pre, b, by omega, by simp only [sumSz]; omega, ?_⟩
    rw [List.append_nil, hend m pre b]
  | v :: post, m, pre, b, h1, h2, h3, h4, h5 => by
    obtain ⟨m, rfl⟩ : ∃ m', m = m' + 1 := ⟨m - 1, by simp only [List.length_cons] at h5; omega⟩
    simp only [sumSz] at h4
    obtain ⟨v', c, k1, k2, k3⟩ := h m pre.length (pre ++ v :: post) b v (by simp) h1 (by simp) (h2 v (by simp)) h3 (by omega)
    rw [set_append_len] at k3
    obtain ⟨zs, c', e1, e2, e3⟩ := markV_loop w good h hend post m (pre ++ [v']) c (by simpa using h1) (fun u hu => h2 u (by simp [hu])) (by omega) (by omega) (by simp only [List.length_cons] at h5; omega)
    refine ⟨zs, c', by omega, by simp only [sumSz]; omega, ?_⟩
    rw [k3]
    simpa using e3
theorem scan_any {L : Nat → Int → Option (Unit ⊕ Bool)} {xs : List Int} {z : Int} (hx : xs.length ≤ 1099511627776) (hs : ∀ m (k : Nat) (hk : k < xs.length), L (m + 1) (k : Int) = bif (xs[k] == z) then some (.inr true) else L m ((k + 1 : Nat) : Int)) (he : ∀ m, L (m + 1) (xs.length : Int) = some (.inl ())) :
    ∀ (m k : Nat), k ≤ xs.length → xs.length < m + k → L m (k : Int) = some (if z ∈ xs.drop k then .inr true else .inl ())
  | 0, k, h1, h2 => by omega
  | m + 1, k, h1, h2 => by
    by_cases hk : k < xs.length
    · rw [hs m k hk, scan_any hx hs he m (k + 1) (by omega) (by omega), List.drop_eq_getElem_cons hk]
      by_cases hz : xs[k] = z
      · have : (xs[k] == z) = true := by simpa using hz
        rw [this, cond_true, if_pos (by rw [hz]; simp)]
      · have : (xs[k] == z) = false := by simpa using hz
        rw [this, cond_false]
        have : (z ∈ xs[k] :: xs.drop (k + 1)) ↔ z ∈ xs.drop (k + 1) := by
          rw [List.mem_cons]; exact ⟨fun h => h.resolve_left (fun e => hz e.symm), .inr⟩
        simp only [this]
    · have : k = xs.length := by omega
      subst this
      rw [he m]; simp
theorem spec_l15HasF_val (n : Nat) (xs : List Int) (z : Int) (h : xs.length ≤ 1048600) (hn : xs.length < n) : spec_l15HasF n xs z = some (decide (z ∈ xs)) := by
  have := scan_any (L := fun m k => spec_l15Has_L2 n m xs z k) (xs := xs) (z := z) (by omega) (fun m k hk => by
    simp only [spec_l15Has_L2]
    rw [lt_true hk, cond_true, idx_nat hk, Option.bind_some, wrap_nat (by omega : k ≤ 1099511627776)]) (fun m => by simp only [spec_l15Has_L2]; rw [lt_false]; rfl) n 0 (by omega) (by omega)
  unfold spec_l15HasF
  rw [show spec_l15Has_L2 n n xs z 0 = _ from this]
  by_cases hz : z ∈ xs
  · simp [hz]
  · simp [hz, spec_l15Has_J1]
theorem impl_hasIntF_val (n : Nat) (xs : List Int) (z : Int) (h : xs.length ≤ 1048600) (hn : xs.length < n) : impl_hasIntF n xs z = some (decide (z ∈ xs)) := by
  have := scan_any (L := fun m k => impl_hasInt_L2 n m xs z k) (xs := xs) (z := z) (by omega) (fun m k hk => by
    simp only [impl_hasInt_L2]
    rw [lt_true hk, cond_true, idx_nat hk, Option.bind_some, wrap_nat (by omega : k ≤ 1099511627776)]) (fun m => by simp only [impl_hasInt_L2]; rw [lt_false]; rfl) n 0 (by omega) (by omega)
  unfold impl_hasIntF
  rw [show impl_hasInt_L2 n n xs z 0 = _ from this]
  by_cases hz : z ∈ xs
  · simp [hz]
  · simp [hz, impl_hasInt_J1]
theorem nodup_le : ∀ (N : Nat) (xs : List Int), xs.Nodup → (∀ z ∈ xs, 0 ≤ z ∧ z < N) → xs.length ≤ N
  | 0, xs, h, hr => by
    cases xs with
    | nil => simp
    | cons z xs => have := hr z (by simp); omega
  | N + 1, xs, h, hr => by
    have h1 := nodup_le N (xs.erase (N : Int)) (h.erase _) (fun z hz => by
      have hz' := (h.mem_erase_iff).1 hz
      have := hr z hz'.2
      have := hz'.1
      omega)
    have := List.length_erase (a := (N : Int)) (l := xs)
    split at this <;> omega
theorem nodup_sub_len : ∀ (xs ys : List Int), xs.Nodup → (∀ z ∈ xs, z ∈ ys) → xs.length ≤ ys.length
  | [], ys, _, _ => by simp
  | x :: xs, ys, h, hs => by
    have hx := hs x (by simp)
    have h1 := nodup_sub_len xs (ys.erase x) (List.nodup_cons.1 h).2 (fun z hz => (List.mem_erase_of_ne (fun e => (List.nodup_cons.1 h).1 (by rw [← e]; exact hz))).2 (hs z (by simp [hz])))
    have h2 := List.length_erase_of_mem hx
    have h3 := List.length_pos_of_mem hx
    simp only [List.length_cons]
    omega
/-- A set of bridges that links do not leave. -/
def ClosedBy (x : Net) (l : List Int) (k : Nat) (S : Int → Prop) : Prop := ∀ (j : Nat) z lk, k ≤ j → l[j]? = some z → idx x.Links z = some lk → 0 ≤ lk.A → lk.A < x.Bridges.length → 0 ≤ lk.B → lk.B < x.Bridges.length → (S lk.A ↔ S lk.B)
def GoodS (N : Nat) (ys : List Int) : Prop := ys.Nodup ∧ ∀ z ∈ ys, 0 ≤ z ∧ z < N
def addE (N : Nat) (ys : List Int) (a b : Int) : List Int := if a ∈ ys ∧ b ∉ ys ∧ 0 ≤ b ∧ b < N then ys ++ [b] else ys
theorem addE_good {N : Nat} {ys : List Int} {a b : Int} (h : GoodS N ys) : GoodS N (addE N ys a b) := by
  unfold addE
  split
  · rename_i hc
    refine ⟨?_, fun z hz => ?_⟩
    · rw [List.nodup_append]
      exact ⟨h.1, by simp, fun x hx y hy => by obtain rfl := List.mem_singleton.1 hy; exact fun e => hc.2.1 (e ▸ hx)⟩
    · rcases List.mem_append.1 hz with hz | hz
      · exact h.2 z hz
      · obtain rfl := List.mem_singleton.1 hz
        exact hc.2.2
  · exact h
theorem addE_sub {N : Nat} {ys : List Int} {a b z : Int} (h : z ∈ ys) : z ∈ addE N ys a b := by
  unfold addE; split
  · exact List.mem_append_left _ h
  · exact h
theorem addE_min {N : Nat} {ys : List Int} {a b : Int} {S : Int → Prop} (hy : ∀ z ∈ ys, S z) (hs : 0 ≤ b → b < N → a ∈ ys → S b) : ∀ z ∈ addE N ys a b, S z := by
  unfold addE; split
  · rename_i hc
    intro z hz
    rcases List.mem_append.1 hz with hz | hz
    · exact hy z hz
    · obtain rfl := List.mem_singleton.1 hz
      exact hs hc.2.2.1 hc.2.2.2 hc.1
  · exact hy
theorem addE_len {N : Nat} {ys : List Int} {a b : Int} : ys.length ≤ (addE N ys a b).length ∧ ((addE N ys a b).length = ys.length → addE N ys a b = ys ∧ (0 ≤ b → b < N → a ∈ ys → b ∈ ys)) := by
  unfold addE; split
  · exact ⟨by simp, fun h => by simp at h⟩
  · rename_i hc
    exact ⟨Nat.le_refl _, fun _ => ⟨rfl, fun h0 h1 ha => Classical.byContradiction fun hb => hc ⟨ha, hb, h0, h1⟩⟩⟩
theorem in_range_dec (n : Nat) (z : Int) (N : Nat) (h : N ≤ 1048600) : spec_l1InF n z 0 (IntKind.wrap .i64 ((N : Int) - 1)) = some (decide (0 ≤ z ∧ z < N)) := by
  rw [spec_l1InF_val, wrap64 (by omega) (by omega)]
  by_cases h : 0 ≤ z ∧ z < N
  · rw [decide_eq_true h, decide_eq_true h.1, decide_eq_true (by omega)]; rfl
  · rw [decide_eq_false h]
    congr 1
    simp only [Bool.and_eq_false_iff, decide_eq_false_iff_not]; omega
theorem spec_l15More_J3_val (n : Nat) (k : Int × List Int → Option (List Int ⊕ List Int)) (lk : Link) (x : Net) (y2 : Int) (q1 q2 q3 q4 q5 : Bool) (ys : List Int) (h : ys.length ≤ 1048590) (hn : 1048600 < n) (hN : x.Bridges.length ≤ 1048600) : spec_l15More_J3 n k lk x y2 q1 q2 q3 q4 q5 ys = k (IntKind.wrap .i64 (y2 + 1), addE x.Bridges.length ys lk.B lk.A) := by
  unfold spec_l15More_J3 addE
  simp only [spec_l15HasF_val n ys _ (by omega : ys.length ≤ 1048600) (by omega), in_range_dec n _ _ hN, Option.bind_some]
  have hg : decide (ys.length + [lk.A].length ≤ 268435456) = true := decide_eq_true (by simp; omega)
  simp only [spec_l15More_J4, hg, cond_true]
  by_cases h1 : lk.B ∈ ys
  · by_cases h2 : lk.A ∈ ys
    · simp [h1, h2]
    · by_cases h3 : 0 ≤ lk.A ∧ lk.A < x.Bridges.length
      · rw [if_pos ⟨h1, h2, h3⟩]; simp [h1, h2, h3]
      · rw [if_neg (fun hc => h3 hc.2.2)]; simp [h1, h2, h3]
  · simp [h1]
theorem spec_l15More_step (n m : Nat) (x : Net) (l : List Int) (k : Nat) (ys : List Int) (hk : k < l.length) (hl : l.length ≤ 1048600) (h : ys.length ≤ 1048580) (hn : 1048600 < n) (hN : x.Bridges.length ≤ 1048600) (hK : x.Links.length ≤ 1048600) :
    spec_l15More_L2 n (m + 1) x l k ys = spec_l15More_L2 n m x l ((k + 1 : Nat) : Int) (match idx x.Links l[k] with | some lk => addE x.Bridges.length (addE x.Bridges.length ys lk.A lk.B) lk.B lk.A | none => ys) := by
  rw [spec_l15More_L2, lt_true hk, cond_true, idx_nat hk, Option.bind_some, in_range_dec n _ _ hK, Option.bind_some, wrap_nat (by omega : k ≤ 1099511627776)]
  by_cases hr : 0 ≤ l[k] ∧ l[k] < x.Links.length
  · obtain ⟨j, hj⟩ := Int.eq_ofNat_of_zero_le hr.1
    have hi : idx x.Links l[k] = some (x.Links[j]'(by omega)) := by rw [hj]; exact idx_nat (by omega)
    generalize x.Links[j]'(by omega) = lk at hi
    have hg : decide (ys.length + [lk.B].length ≤ 268435456) = true := decide_eq_true (by simp; omega)
    have hlen : (ys ++ [lk.B]).length ≤ 1048590 := by simp; omega
    rw [decide_eq_true hr, hi]
    simp only [Bool.not_true, cond_false, Option.bind_some, hi, spec_l15HasF_val n ys _ (by omega : ys.length ≤ 1048600) (by omega), in_range_dec n _ _ hN, spec_l15More_J5, hg, cond_true]
    simp only [spec_l15More_J3_val n _ lk x _ _ _ _ _ _ ys (by omega) hn hN, spec_l15More_J3_val n _ lk x _ _ _ _ _ _ _ hlen hn hN, wrap_nat (by omega : k ≤ 1099511627776)]
    by_cases h1 : lk.A ∈ ys
    · by_cases h2 : lk.B ∈ ys
      · have e : addE x.Bridges.length ys lk.A lk.B = ys := by unfold addE; rw [if_neg (fun hc => hc.2.1 h2)]
        rw [e]; simp [h1, h2]
      · by_cases h3 : 0 ≤ lk.B ∧ lk.B < x.Bridges.length
        · have e : addE x.Bridges.length ys lk.A lk.B = ys ++ [lk.B] := by unfold addE; rw [if_pos ⟨h1, h2, h3⟩]
          rw [e]; simp [h1, h2, h3]
        · have e : addE x.Bridges.length ys lk.A lk.B = ys := by unfold addE; rw [if_neg (fun hc => h3 hc.2.2)]
          rw [e]; simp [h1, h2, h3]
    · have e : addE x.Bridges.length ys lk.A lk.B = ys := by unfold addE; rw [if_neg (fun hc => h1 hc.1)]
      rw [e]; simp [h1]
  · have hi : idx x.Links l[k] = none := by
      cases hc : idx x.Links l[k] with
      | none => rfl
      | some v => have := idx_lt hc; omega
    rw [decide_eq_false hr, hi]
    rfl
theorem spec_l15More_L2_ok (n : Nat) (x : Net) (l : List Int) (hl : l.length ≤ 1048600) (hn : 1048600 < n) (hN : x.Bridges.length ≤ 1048576) (hK : x.Links.length ≤ 1048600) : ∀ (m k : Nat) (ys : List Int), k ≤ l.length → l.length < m + k → GoodS x.Bridges.length ys →
    ∃ zs, spec_l15More_L2 n m x l k ys = some (.inl zs) ∧ GoodS x.Bridges.length zs ∧ (∀ z ∈ ys, z ∈ zs) ∧ (∀ S : Int → Prop, ClosedBy x l k S → (∀ z ∈ ys, S z) → ∀ z ∈ zs, S z) ∧ ys.length ≤ zs.length ∧ (zs.length = ys.length → zs = ys ∧ ClosedBy x l k (· ∈ ys))
  | 0, k, ys, h1, h2, h3 => by omega
  | m + 1, k, ys, h1, h2, h3 => by
    have hlen := nodup_le _ _ h3.1 h3.2
    by_cases hk : k < l.length
    · rw [spec_l15More_step n m x l k ys hk hl (by omega) hn (by omega) hK]
      have hget : l[k]? = some l[k] := List.getElem?_eq_getElem hk
      cases hi : idx x.Links l[k] with
      | none =>
        obtain ⟨zs, e1, e2, e3, e4, e5, e6⟩ := spec_l15More_L2_ok n x l hl hn hN hK m (k + 1) ys (by omega) (by omega) h3
        refine ⟨zs, e1, e2, e3, fun S hS => e4 S fun j z lk hj => hS j z lk (by omega), e5, fun e => ⟨(e6 e).1, fun j z lk hj hz hlk => ?_⟩⟩
        by_cases hjk : j = k
        · subst hjk; rw [hget] at hz; cases hz; rw [hi] at hlk; cases hlk
        · exact (e6 e).2 j z lk (by omega) hz hlk
      | some lk =>
        have g1 := addE_good (a := lk.A) (b := lk.B) h3
        have g2 := addE_good (a := lk.B) (b := lk.A) g1
        obtain ⟨zs, e1, e2, e3, e4, e5, e6⟩ := spec_l15More_L2_ok n x l hl hn hN hK m (k + 1) _ (by omega) (by omega) g2
        have l1 := addE_len (N := x.Bridges.length) (ys := ys) (a := lk.A) (b := lk.B)
        have l2 := addE_len (N := x.Bridges.length) (ys := addE x.Bridges.length ys lk.A lk.B) (a := lk.B) (b := lk.A)
        refine ⟨zs, e1, e2, fun z hz => e3 z (addE_sub (addE_sub hz)), fun S hS hy => e4 S (fun j z lk hj => hS j z lk (by omega)) (addE_min (addE_min hy fun b0 b1 ha => ?_) fun a0 a1 hb => ?_), by omega, fun e => ?_⟩
        · have hr := h3.2 _ ha
          exact (hS k _ lk (Nat.le_refl _) hget hi hr.1 hr.2 b0 b1).1 (hy _ ha)
        · have hr := g1.2 _ hb
          refine (hS k _ lk (Nat.le_refl _) hget hi a0 a1 hr.1 hr.2).2 (addE_min hy (fun b0 b1 ha => ?_) _ hb)
          have hr := h3.2 _ ha
          exact (hS k _ lk (Nat.le_refl _) hget hi hr.1 hr.2 b0 b1).1 (hy _ ha)
        · obtain ⟨k1, k2⟩ := l1.2 (by omega)
          rw [k1] at l2 e5 e6
          obtain ⟨k3, k4⟩ := l2.2 (by omega)
          rw [k3] at e5 e6
          obtain ⟨k5, k6⟩ := e6 (by omega)
          refine ⟨k5, fun j z lk' hj hz hlk a0 a1 b0 b1 => ?_⟩
          by_cases hjk : j = k
          · subst hjk; rw [hget] at hz; cases hz; rw [hi] at hlk; cases hlk
            exact ⟨fun ha => k2 b0 b1 ha, fun hb => k4 a0 a1 hb⟩
          · exact k6 j z lk' (by omega) hz hlk a0 a1 b0 b1
    · have he : k = l.length := by omega
      subst he
      refine ⟨ys, by rw [spec_l15More_L2, lt_false]; rfl, h3, fun z h => h, fun S _ h => h, Nat.le_refl _, fun _ => ⟨rfl, fun j z lk hj hz => ?_⟩⟩
      rw [List.getElem?_eq_none (by omega)] at hz; cases hz
theorem spec_l15MoreF_ok (n : Nat) (x : Net) (l : List Int) (hl : l.length ≤ 1048590) (hn : 1048600 < n) (hN : x.Bridges.length ≤ 1048576) (hK : x.Links.length ≤ 1048600) (ys : List Int) (h3 : GoodS x.Bridges.length ys) :
    ∃ zs, spec_l15MoreF n x l ys = some zs ∧ GoodS x.Bridges.length zs ∧ (∀ z ∈ ys, z ∈ zs) ∧ (∀ S : Int → Prop, ClosedBy x l 0 S → (∀ z ∈ ys, S z) → ∀ z ∈ zs, S z) ∧ ys.length ≤ zs.length ∧ (zs.length = ys.length → zs = ys ∧ ClosedBy x l 0 (· ∈ ys)) := by
  have hlen := nodup_le _ _ h3.1 h3.2
  obtain ⟨zs, e1, e2⟩ := spec_l15More_L2_ok n x l (by omega) hn hN hK n 0 ys (by omega) (by omega) h3
  refine ⟨zs, ?_, e2⟩
  unfold spec_l15MoreF
  rw [decide_eq_true (by simp; omega), cond_true, List.nil_append, show spec_l15More_L2 n n x l 0 ys = _ from e1]
  rfl
theorem spec_Joined_L4_ok (n : Nat) (x : Net) (l : List Int) (hl : l.length ≤ 1048590) (hn : 1048600 < n) (hN : x.Bridges.length ≤ 1048576) (hK : x.Links.length ≤ 1048600) : ∀ (m k : Nat) (ys : List Int), k ≤ x.Bridges.length → x.Bridges.length < m + k → GoodS x.Bridges.length ys → (k < ys.length ∨ ClosedBy x l 0 (· ∈ ys)) →
    ∃ zs, spec_Joined_L4 n m x l k ys = some (.inl zs) ∧ GoodS x.Bridges.length zs ∧ (∀ z ∈ ys, z ∈ zs) ∧ (∀ S : Int → Prop, ClosedBy x l 0 S → (∀ z ∈ ys, S z) → ∀ z ∈ zs, S z) ∧ ClosedBy x l 0 (· ∈ zs)
  | 0, k, ys, h1, h2, h3, h4 => by omega
  | m + 1, k, ys, h1, h2, h3, h4 => by
    have hlen := nodup_le _ _ h3.1 h3.2
    rw [spec_Joined_L4]
    by_cases hk : k < x.Bridges.length
    · obtain ⟨zs, e1, e2, e3, e4, e5, e6⟩ := spec_l15MoreF_ok n x l hl hn hN hK ys h3
      rw [lt_true hk, cond_true, e1, Option.bind_some, wrap_nat (by omega : k ≤ 1099511627776)]
      obtain ⟨us, f1, f2, f3, f4, f5⟩ := spec_Joined_L4_ok n x l hl hn hN hK m (k + 1) zs (by omega) (by omega) e2 (by
        by_cases he : zs.length = ys.length
        · obtain ⟨g1, g2⟩ := e6 he
          rw [g1]; exact .inr g2
        · rcases h4 with h4 | h4
          · exact .inl (by omega)
          · exact absurd (by
              have hle := nodup_le _ _ e2.1 e2.2
              have hsub : ∀ z ∈ zs, z ∈ ys := e4 (· ∈ ys) h4 (fun z h => h)
              have : zs.length ≤ ys.length := by
                exact nodup_sub_len zs ys e2.1 hsub
              omega) he)
      exact ⟨us, f1, f2, fun z hz => f3 z (e3 z hz), fun S hS hy => f4 S hS (e4 S hS hy), f5⟩
    · have he : k = x.Bridges.length := by omega
      subst he
      rw [lt_false]
      exact ⟨ys, rfl, h3, fun z h => h, fun S _ h => h, h4.resolve_left (by omega)⟩
def metSet (met : List Bool) (z : Int) : Prop := 0 ≤ z ∧ met[z.toNat]? = some true
theorem idx_met {met : List Bool} {z : Int} (h0 : 0 ≤ z) (h1 : z < met.length) : ∃ b, idx met z = some b ∧ (metSet met z ↔ b = true) := by
  obtain ⟨j, rfl⟩ := Int.eq_ofNat_of_zero_le h0
  have hj : j < met.length := by omega
  refine ⟨met[j], idx_nat hj, ?_⟩
  simp [metSet, hj]
theorem met_set {met : List Bool} {i z : Int} (h0 : 0 ≤ i) (h1 : i < met.length) : metSet (met.set i.toNat true) z ↔ z = i ∨ metSet met z := by
  obtain ⟨j, rfl⟩ := Int.eq_ofNat_of_zero_le h0
  have hj : j < met.length := by omega
  unfold metSet
  simp only [Int.toNat_natCast]
  by_cases hz : z = (j : Int)
  · subst hz
    simp [hj]
  · constructor
    · rintro ⟨a, b⟩
      rw [List.getElem?_set_ne (by omega)] at b
      exact .inr ⟨a, b⟩
    · rintro (e | ⟨a, b⟩)
      · exact absurd e hz
      · exact ⟨a, by rw [List.getElem?_set_ne (by omega)]; exact b⟩
theorem count_set_true : ∀ (met : List Bool) (j : Nat), met[j]? = some false → (met.set j true).count true = met.count true + 1
  | [], j, h => by simp at h
  | b :: met, 0, h => by
    simp only [List.getElem?_cons_zero, Option.some.injEq] at h
    subst h
    simp
  | b :: met, j + 1, h => by
    simp only [List.getElem?_cons_succ] at h
    have := count_set_true met j h
    simp only [List.set_cons_succ, List.count_cons, this]
    omega
theorem set_true_same : ∀ (met : List Bool) (j : Nat), met[j]? = some true → met.set j true = met
  | [], j, h => by simp
  | b :: met, 0, h => by
    simp only [List.getElem?_cons_zero, Option.some.injEq] at h
    subst h; rfl
  | b :: met, j + 1, h => by
    simp only [List.getElem?_cons_succ] at h
    simp only [List.set_cons_succ, set_true_same met j h]
theorem impl_Joined_L6_ok (n : Nat) (x : Net) (l : List Int) (hl : l.length ≤ 1048590) (hN : x.Bridges.length ≤ 1048576) (hK : x.Links.length ≤ 1048600) : ∀ (m k : Nat) (more : Bool) (met : List Bool), k ≤ l.length → l.length < m + k → met.length = x.Bridges.length →
    ∃ (z : Int) (more' : Bool) (met' : List Bool), impl_Joined_L6 n m x l k more met = some (.inl (z, more', met')) ∧ met'.length = x.Bridges.length ∧ (∀ z, metSet met z → metSet met' z) ∧ (∀ S : Int → Prop, ClosedBy x l k S → (∀ z, metSet met z → S z) → ∀ z, metSet met' z → S z) ∧ met.count true ≤ met'.count true ∧
      (more = true → more' = true) ∧ (more' = true → more = true ∨ met.count true < met'.count true) ∧ (more' = false → met' = met ∧ ClosedBy x l k (metSet met))
  | 0, k, more, met, h1, h2, h3 => by omega
  | m + 1, k, more, met, h1, h2, h3 => by
    rw [impl_Joined_L6]
    by_cases hk : k < l.length
    · have hget : l[k]? = some l[k] := List.getElem?_eq_getElem hk
      rw [lt_true hk, cond_true, idx_nat hk, Option.bind_some, impl_inF_eq, in_range_dec n _ _ hK, Option.bind_some, wrap_nat (by omega : k ≤ 1099511627776)]
      have skip : (∀ lk, idx x.Links l[k] = some lk → 0 ≤ lk.A → lk.A < x.Bridges.length → 0 ≤ lk.B → lk.B < x.Bridges.length → (metSet met lk.A ↔ metSet met lk.B)) → ∃ (z : Int) (more' : Bool) (met' : List Bool), impl_Joined_L6 n m x l ((k + 1 : Nat) : Int) more met = some (.inl (z, more', met')) ∧ met'.length = x.Bridges.length ∧ (∀ z, metSet met z → metSet met' z) ∧ (∀ S : Int → Prop, ClosedBy x l k S → (∀ z, metSet met z → S z) → ∀ z, metSet met' z → S z) ∧ met.count true ≤ met'.count true ∧
          (more = true → more' = true) ∧ (more' = true → more = true ∨ met.count true < met'.count true) ∧ (more' = false → met' = met ∧ ClosedBy x l k (metSet met)) := by
        intro hc
        obtain ⟨z, mo, met', e1, e2, e3, e4, e5, e8, e6, e7⟩ := impl_Joined_L6_ok n x l hl hN hK m (k + 1) more met (by omega) (by omega) h3
        refine ⟨z, mo, met', e1, e2, e3, fun S hS => e4 S fun j z lk hj => hS j z lk (by omega), e5, e8, e6, fun hf => ⟨(e7 hf).1, fun j z lk hj hz hlk a0 a1 b0 b1 => ?_⟩⟩
        by_cases hjk : j = k
        · subst hjk; rw [hget] at hz; cases hz; exact hc lk hlk a0 a1 b0 b1
        · exact (e7 hf).2 j z lk (by omega) hz hlk a0 a1 b0 b1
      by_cases hr : 0 ≤ l[k] ∧ l[k] < x.Links.length
      · obtain ⟨j, hj⟩ := Int.eq_ofNat_of_zero_le hr.1
        have hi : idx x.Links l[k] = some (x.Links[j]'(by omega)) := by rw [hj]; exact idx_nat (by omega)
        generalize x.Links[j]'(by omega) = lk at hi
        rw [decide_eq_true hr, hi]
        simp only [Bool.not_true, cond_false, Option.bind_some, in_range_dec n _ _ (show met.length ≤ 1048600 by omega)]
        by_cases hA : 0 ≤ lk.A ∧ lk.A < met.length
        · by_cases hB : 0 ≤ lk.B ∧ lk.B < met.length
          · obtain ⟨a, ha, ha2⟩ := idx_met hA.1 hA.2
            obtain ⟨b, hb, hb2⟩ := idx_met hB.1 hB.2
            rw [decide_eq_true hA, decide_eq_true hB]
            simp only [cond_true, Option.bind_some, ha, hb, impl_Joined_J7]
            by_cases hab : a = b
            · subst hab
              simp only [beq_self_eq_true, Bool.not_true, cond_false, wrap_nat (by omega : k ≤ 1099511627776)]
              exact skip fun lk' hlk' _ _ _ _ => by rw [hi] at hlk'; cases hlk'; rw [ha2, hb2]
            · have : (!(a == b)) = true := by simpa using hab
              obtain ⟨a', ha'⟩ : ∃ c, idx (met.set lk.A.toNat true) lk.B = some c := by
                obtain ⟨c, hc, _⟩ := idx_met (met := met.set lk.A.toNat true) hB.1 (by simpa using hB.2)
                exact ⟨c, hc⟩
              rw [this]
              simp only [cond_true, Option.bind_some, ha', wrap_nat (by omega : k ≤ 1099511627776)]
              obtain ⟨z, mo, met', e1, e2, e3, e4, e5, e8, e6, e7⟩ := impl_Joined_L6_ok n x l hl hN hK m (k + 1) true ((met.set lk.A.toNat true).set lk.B.toNat true) (by omega) (by omega) (by simpa using h3)
              have hcnt : met.count true < ((met.set lk.A.toNat true).set lk.B.toNat true).count true := by
                obtain ⟨jA, eA⟩ := Int.eq_ofNat_of_zero_le hA.1
                obtain ⟨jB, eB⟩ := Int.eq_ofNat_of_zero_le hB.1
                have gA := (idx_get ha).2
                have gB := (idx_get hb).2
                rw [eA] at gA; rw [eB] at gB
                rw [eA, eB]
                simp only [Int.toNat_natCast] at gA gB ⊢
                cases a with
                | true =>
                  cases b with
                  | true => exact absurd rfl hab
                  | false =>
                    rw [set_true_same met jA gA, count_set_true met jB gB]; omega
                | false =>
                  cases b with
                  | false => exact absurd rfl hab
                  | true =>
                    have hne : jA ≠ jB := fun e => by subst e; rw [gA] at gB; cases gB
                    rw [set_true_same _ jB (by rw [List.getElem?_set_ne hne]; exact gB), count_set_true met jA gA]; omega
              have hmem : ∀ z, metSet met z → metSet ((met.set lk.A.toNat true).set lk.B.toNat true) z := fun z hz => (met_set hB.1 (by simpa using hB.2)).2 (.inr ((met_set hA.1 hA.2).2 (.inr hz)))
              refine ⟨z, mo, met', e1, e2, fun z hz => e3 z (hmem z hz), fun S hS hy => e4 S (fun j z lk hj => hS j z lk (by omega)) (fun z hz => ?_), by omega, fun _ => e8 rfl, fun _ => .inr (by omega), fun hf => ?_⟩
              · have hcl := hS k _ lk (Nat.le_refl _) hget hi hA.1 (by omega) hB.1 (by omega)
                have hany : S lk.A ∧ S lk.B := by
                  cases a with
                  | true => have := hy _ (ha2.2 rfl); exact ⟨this, hcl.1 this⟩
                  | false =>
                    cases b with
                    | false => exact absurd rfl hab
                    | true => have := hy _ (hb2.2 rfl); exact ⟨hcl.2 this, this⟩
                rcases (met_set hB.1 (by simpa using hB.2)).1 hz with e | hz
                · subst e; exact hany.2
                · rcases (met_set hA.1 hA.2).1 hz with e | hz
                  · subst e; exact hany.1
                  · exact hy z hz
              · rw [e8 rfl] at hf; cases hf
          · rw [decide_eq_true hA, decide_eq_false hB]
            simp only [cond_true, cond_false, Option.bind_some, impl_Joined_J7, wrap_nat (by omega : k ≤ 1099511627776)]
            exact skip fun lk' hlk' _ _ b0 b1 => by rw [hi] at hlk'; cases hlk'; exact absurd ⟨b0, by omega⟩ hB
        · rw [decide_eq_false hA]
          simp only [cond_false, Option.bind_some, impl_Joined_J7, wrap_nat (by omega : k ≤ 1099511627776)]
          exact skip fun lk' hlk' a0 a1 _ _ => by rw [hi] at hlk'; cases hlk'; exact absurd ⟨a0, by omega⟩ hA
      · rw [decide_eq_false hr]
        simp only [Bool.not_false, cond_true]
        exact skip fun lk hlk => by have := idx_lt hlk; exact absurd ⟨this.1, by omega⟩ hr
    · have he : k = l.length := by omega
      subst he
      rw [lt_false]
      refine ⟨_, more, met, rfl, h3, fun z h => h, fun S _ h => h, Nat.le_refl _, fun h => h, fun h => .inl h, fun _ => ⟨rfl, fun j z lk hj hz => ?_⟩⟩
      rw [List.getElem?_eq_none (by omega)] at hz; cases hz
theorem impl_Joined_L4_ok (n : Nat) (x : Net) (l : List Int) (hl : l.length ≤ 1048590) (hn : 1048600 < n) (hN : x.Bridges.length ≤ 1048576) (hK : x.Links.length ≤ 1048600) : ∀ (m : Nat) (more : Bool) (met : List Bool), x.Bridges.length + 2 ≤ m + met.count true + (if more then 0 else 1) → met.length = x.Bridges.length → (more = false → ClosedBy x l 0 (metSet met)) →
    ∃ met' : List Bool, impl_Joined_L4 n m x l more met = some (.inl met') ∧ met'.length = x.Bridges.length ∧ (∀ z, metSet met z → metSet met' z) ∧ (∀ S : Int → Prop, ClosedBy x l 0 S → (∀ z, metSet met z → S z) → ∀ z, metSet met' z → S z) ∧ ClosedBy x l 0 (metSet met')
  | 0, more, met, h1, h2, h3 => by
    have := List.count_le_length (a := true) (l := met)
    split at h1 <;> omega
  | m + 1, more, met, h1, h2, h3 => by
    rw [impl_Joined_L4]
    cases more with
    | false => exact ⟨met, rfl, h2, fun z h => h, fun S _ h => h, h3 rfl⟩
    | true =>
      obtain ⟨z, mo, met', e1, e2, e3, e4, e5, e8, e6, e7⟩ := impl_Joined_L6_ok n x l hl hN hK n 0 false met (by omega) (by omega) h2
      rw [cond_true, show impl_Joined_L6 n n x l 0 false met = _ from e1, Option.bind_some]
      simp only [impl_Joined_J5]
      simp only [if_true] at h1
      obtain ⟨us, f1, f2, f3, f4, f5⟩ := impl_Joined_L4_ok n x l hl hn hN hK m mo met' (by
        cases mo with
        | true => have := (e6 rfl).resolve_left (by simp); simp only [if_true]; omega
        | false => simp only [Bool.false_eq_true, if_false]; omega) e2 (fun hf => by have := e7 hf; rw [this.1]; exact this.2)
      exact ⟨us, f1, f2, fun z hz => f3 z (e3 z hz), fun S hS hy => f4 S hS (e4 S hS hy), f5⟩
theorem spec_Joined_L3_val (n : Nat) (x : Net) (ys : List Int) (hy : ys.length ≤ 1048590) (hn : 1048600 < n) (hN : x.Bridges.length ≤ 1048576) : ∀ (m k : Nat) (acc : List Int), k ≤ x.Bridges.length → x.Bridges.length < m + k → acc.length ≤ k → spec_Joined_L3 n m x ys k acc = some (.inl (acc ++ ((List.range' k (x.Bridges.length - k)).filter fun j : Nat => decide ((j : Int) ∈ ys)).map fun j : Nat => (j : Int)))
  | 0, k, acc, h1, h2, h3 => by omega
  | m + 1, k, acc, h1, h2, h3 => by
    rw [spec_Joined_L3]
    by_cases hk : k < x.Bridges.length
    · have hr : List.range' k (x.Bridges.length - k) = k :: List.range' (k + 1) (x.Bridges.length - (k + 1)) := by
        rw [show x.Bridges.length - k = (x.Bridges.length - (k + 1)) + 1 by omega, List.range'_succ]
      rw [lt_true hk, cond_true, spec_l15HasF_val n ys _ (by omega) (by omega), Option.bind_some, show decide (acc.length + [(k : Int)].length ≤ 268435456) = true from decide_eq_true (by simp; omega), cond_true, wrap_nat (by omega : k ≤ 1099511627776), hr]
      by_cases hm : (k : Int) ∈ ys
      · rw [decide_eq_true hm, cond_true, spec_Joined_L3_val n x ys hy hn hN m (k + 1) _ (by omega) (by omega) (by simp; omega)]
        simp [hm]
      · rw [decide_eq_false hm, cond_false, spec_Joined_L3_val n x ys hy hn hN m (k + 1) _ (by omega) (by omega) (by omega)]
        simp [hm]
    · have he : k = x.Bridges.length := by omega
      subst he
      rw [lt_false]; simp
theorem impl_Joined_L3_val (n : Nat) (met : List Bool) (hN : met.length ≤ 1048576) : ∀ (m k : Nat) (acc : List Int), k ≤ met.length → met.length < m + k → acc.length ≤ k → impl_Joined_L3 n m met k acc = some (.inl (acc ++ ((List.range' k (met.length - k)).filter fun j : Nat => met[j]? == some true).map fun j : Nat => (j : Int)))
  | 0, k, acc, h1, h2, h3 => by omega
  | m + 1, k, acc, h1, h2, h3 => by
    rw [impl_Joined_L3]
    by_cases hk : k < met.length
    · have hr : List.range' k (met.length - k) = k :: List.range' (k + 1) (met.length - (k + 1)) := by
        rw [show met.length - k = (met.length - (k + 1)) + 1 by omega, List.range'_succ]
      rw [lt_true hk, cond_true, idx_nat hk, Option.bind_some, decide_eq_true (by simp; omega), cond_true, wrap_nat (by omega : k ≤ 1099511627776), hr]
      cases hm : met[k] with
      | true =>
        rw [cond_true, impl_Joined_L3_val n met hN m (k + 1) _ (by omega) (by omega) (by simp; omega)]
        simp [hm, hk]
      | false =>
        rw [cond_false, impl_Joined_L3_val n met hN m (k + 1) _ (by omega) (by omega) (by omega)]
        simp [hm, hk]
    · have he : k = met.length := by omega
      subst he
      rw [lt_false]; simp
theorem spec_JoinedF_both (n : Nat) (x : Net) (b : Int) (l : List Int) (hx : x.sz ≤ 1048576) (hl : l.length ≤ 1048590) (hn : 1048700 < n) : ∃ zs, spec_JoinedF n x b l = some zs ∧ impl_JoinedF n x b l = some zs ∧ zs.length ≤ x.Bridges.length := by
  have hs : (x.Bridges.length + sumSz Bridge.sz x.Bridges) + x.Links.length + x.Said.length = x.sz := rfl
  unfold spec_JoinedF impl_JoinedF
  rw [impl_inF_eq, in_range_dec n b _ (show x.Bridges.length ≤ 1048600 by omega), Option.bind_some, Option.bind_some]
  by_cases hb : 0 ≤ b ∧ b < x.Bridges.length
  · rw [decide_eq_true hb]
    simp only [Bool.not_true, cond_false, Int.toNat_natCast]
    obtain ⟨j, rfl⟩ := Int.eq_ofNat_of_zero_le hb.1
    have hj : j < x.Bridges.length := by omega
    have hrep : (List.replicate x.Bridges.length false).length = x.Bridges.length := List.length_replicate ..
    have hg : (decide (0 ≤ (x.Bridges.length : Int)) && decide ((x.Bridges.length : Int) ≤ 268435456)) = true := by
      rw [decide_eq_true (by omega), decide_eq_true (by omega)]; rfl
    obtain ⟨ys, e1, e2, e3, e4, e5⟩ := spec_Joined_L4_ok n x l hl (by omega) (by omega) (by omega) n 0 [(j : Int)] (by omega) (by omega) ⟨by simp, fun z hz => by obtain rfl := List.mem_singleton.1 hz; exact hb⟩ (.inl (by simp))
    have hset : ∀ z, metSet ((List.replicate x.Bridges.length false).set ((j : Int)).toNat true) z ↔ z = (j : Int) := fun z => by
      rw [met_set hb.1 (by rw [hrep]; exact hb.2)]
      refine or_iff_left ?_
      rintro ⟨h0, h1⟩
      rw [List.getElem?_replicate] at h1
      split at h1 <;> simp at h1
    obtain ⟨met, f1, f2, f3, f4, f5⟩ := impl_Joined_L4_ok n x l hl (by omega) (by omega) (by omega) n true ((List.replicate x.Bridges.length false).set ((j : Int)).toNat true) (by simp only [if_true]; omega) (by rw [List.length_set, hrep]) (fun h => by cases h)
    have hle := nodup_le _ _ e2.1 e2.2
    rw [show spec_Joined_L4 n n x l 0 [(j : Int)] = _ from e1, hg, idx_nat (by rw [hrep]; exact hj)]
    simp only [cond_true, Option.bind_some, f1, spec_Joined_J1, impl_Joined_J1]
    rw [show spec_Joined_L3 n n x ys 0 [] = _ from spec_Joined_L3_val n x ys (by omega) (by omega) (by omega) n 0 [] (by omega) (by omega) (by simp), show impl_Joined_L3 n n met 0 [] = _ from impl_Joined_L3_val n met (by omega) n 0 [] (by omega) (by omega) (by simp)]
    have heq : (List.range' 0 (met.length - 0)).filter (fun j : Nat => met[j]? == some true) = (List.range' 0 (x.Bridges.length - 0)).filter (fun j : Nat => decide ((j : Int) ∈ ys)) := by
      rw [f2]
      refine List.filter_congr fun i hi => ?_
      have h1 : metSet met (i : Int) ↔ (i : Int) ∈ ys := by
        constructor
        · exact fun h => f4 (· ∈ ys) e5 (fun z hz => by rw [(hset z).1 hz]; exact e3 _ (by simp)) _ h
        · exact fun h => e4 (metSet met) f5 (fun z hz => by obtain rfl := List.mem_singleton.1 hz; exact f3 _ ((hset _).2 rfl)) _ h
      by_cases hm : (i : Int) ∈ ys
      · have := (h1.2 hm).2
        simp only [Int.toNat_natCast] at this
        simp [hm, this]
      · have : ¬ met[i]? = some true := fun h => hm (h1.1 ⟨by omega, by simpa using h⟩)
        simp [hm, this]
    rw [heq]
    refine ⟨_, rfl, rfl, ?_⟩
    simp only [List.nil_append, List.length_map]
    refine Nat.le_trans (List.length_filter_le ..) ?_
    simp
  · rw [decide_eq_false hb]
    exact ⟨[], rfl, rfl, by simp⟩
theorem impl_copyIntsF_eq (n : Nat) (xs : List Int) (h : xs.length ≤ 268435456) : impl_copyIntsF n xs = some xs := by
  unfold impl_copyIntsF
  rw [decide_eq_true (by simp; omega)]; rfl
theorem spec_Loops_L2_both (n : Nat) (x : Net) (l : List Int) (hx : x.sz ≤ 1048576) (hl : l.length ≤ 1048576) (hn : 1048700 < n) : ∀ (m k : Nat), k ≤ l.length → l.length < m + k → ∃ o, spec_Loops_L2 n m x l k = some o ∧ impl_Loops_L2 n m x l k = some o
  | 0, k, h1, h2 => by omega
  | m + 1, k, h1, h2 => by
    have hs : (x.Bridges.length + sumSz Bridge.sz x.Bridges) + x.Links.length + x.Said.length = x.sz := rfl
    rw [spec_Loops_L2, impl_Loops_L2]
    by_cases hk : k < l.length
    · obtain ⟨o, ih1, ih2⟩ := spec_Loops_L2_both n x l hx hl hn m (k + 1) (by omega) (by omega)
      have hK' : x.Links.length ≤ 1048600 := by omega
      rw [lt_true hk, cond_true, cond_true, idx_nat hk, wrap_nat (by omega : k ≤ 1099511627776)]
      simp only [Option.bind_some, impl_inF_eq, in_range_dec n _ _ hK']
      by_cases hr : 0 ≤ l[k] ∧ l[k] < x.Links.length
      · obtain ⟨j, hj⟩ := Int.eq_ofNat_of_zero_le hr.1
        have hi : idx x.Links l[k] = some (x.Links[j]'(by omega)) := by rw [hj]; exact idx_nat (by omega)
        generalize x.Links[j]'(by omega) = lk at hi
        rw [decide_eq_true hr]
        have g1 : (decide ((0 : Int) ≤ 0) && (decide ((0 : Int) ≤ (k : Int)) && decide ((k : Int) ≤ (l.length : Int)))) = true := by
          rw [decide_eq_true (by omega), decide_eq_true (by omega), decide_eq_true (by omega)]; rfl
        have g2 : (decide ((0 : Int) ≤ ((k + 1 : Nat) : Int)) && (decide (((k + 1 : Nat) : Int) ≤ (l.length : Int)) && decide ((l.length : Int) ≤ (l.length : Int)))) = true := by
          rw [decide_eq_true (by omega), decide_eq_true (by omega), decide_eq_true (by omega)]; rfl
        have l1 : ((l.drop ((0 : Int)).toNat).take (((k : Int)).toNat - ((0 : Int)).toNat)).length ≤ 1048576 := by simp; omega
        have l2 : ((l.drop (((k + 1 : Nat) : Int)).toNat).take (((l.length : Int)).toNat - (((k + 1 : Nat) : Int)).toNat)).length ≤ 1048576 := by simp; omega
        have l3 : ((l.drop ((0 : Int)).toNat).take (((k : Int)).toNat - ((0 : Int)).toNat) ++ (l.drop (((k + 1 : Nat) : Int)).toNat).take (((l.length : Int)).toNat - (((k + 1 : Nat) : Int)).toNat)).length ≤ 1048576 := by simp; omega
        rw [impl_copyIntsF_eq n _ (by omega)]
        generalize hP : (l.drop ((0 : Int)).toNat).take (((k : Int)).toNat - ((0 : Int)).toNat) = P at l1 l3
        generalize hQ : (l.drop (((k + 1 : Nat) : Int)).toNat).take (((l.length : Int)).toNat - (((k + 1 : Nat) : Int)).toNat) = Q at l2 l3
        obtain ⟨zs, j1, j2, j3⟩ := spec_JoinedF_both n x lk.A (P ++ Q) hx (by omega) hn
        have q1 : decide (([] : List Int).length + P.length ≤ 268435456) = true := decide_eq_true (by simp; omega)
        have q2 : decide ((([] : List Int) ++ P).length + Q.length ≤ 268435456) = true := decide_eq_true (by simp; omega)
        have q3 : decide (P.length + Q.length ≤ 268435456) = true := decide_eq_true (by omega)
        simp only [Bool.not_true, cond_false, cond_true, g1, g2, q1, q2, q3, Option.bind_some, hi, List.nil_append, j1, j2, spec_l15HasF_val n zs _ (show zs.length ≤ 1048600 by omega) (by omega), impl_hasIntF_val n zs _ (show zs.length ≤ 1048600 by omega) (by omega), ih1, ih2]
        by_cases hm : lk.B ∈ zs
        · rw [decide_eq_true hm]; exact ⟨_, rfl, rfl⟩
        · rw [decide_eq_false hm]; exact ⟨_, rfl, rfl⟩
      · rw [decide_eq_false hr]
        simp only [Bool.not_false, cond_true]
        exact ⟨o, ih1, ih2⟩
    · have he : k = l.length := by omega
      subst he
      rw [lt_false]
      exact ⟨_, rfl, rfl⟩
theorem laws_FnExactLoops_plain (x0 : Net) (x1 : List Int) (w0 : x0.wf) (w1 : listWf intWf x1) : ∃ n, laws_FnExactLoopsF n x0 x1 = some true := by
  refine ⟨1048800, ?_⟩
  unfold laws_FnExactLoopsF
  by_cases hl : (x1.length : Int) > 1048576
  · rw [decide_eq_true hl]; rfl
  · obtain ⟨r, e, k⟩ := laws_szNetF_ok 1048800 (x := x0) (b := 1048576) (by decide) (by decide) (by decide) w0
    simp only [decide_eq_false hl, cond_false, e, Option.bind_some]
    rcases k.neg with ⟨c1, _⟩ | ⟨c1, c2, c3⟩
    · rw [c1]; rfl
    · have hs : (x0.Bridges.length + sumSz Bridge.sz x0.Bridges) + x0.Links.length + x0.Said.length = x0.sz := rfl
      obtain ⟨o, h1, h2⟩ := spec_Loops_L2_both 1048800 x0 x1 (by omega) (by omega) (by omega) 1048800 0 (by omega) (by omega)
      have key : ∃ b, spec_LoopsF 1048800 x0 x1 = some b ∧ impl_LoopsF 1048800 x0 x1 = some b := by
        unfold spec_LoopsF impl_LoopsF
        rw [show spec_Loops_L2 1048800 1048800 x0 x1 0 = _ from h1, show impl_Loops_L2 1048800 1048800 x0 x1 0 = _ from h2]
        cases o <;> exact ⟨_, rfl, rfl⟩
      obtain ⟨b, b1, b2⟩ := key
      simp only [c1, cond_false, laws_toNetF_eq 1048800 x0 (by omega) (by omega), laws_toIntSF_eq 1048800 x1 (by omega) (by omega), Option.bind_some, b1, b2, beq_self_eq_true, laws_eqIntSF_refl 1048800 x1 (by omega) (by omega), laws_eqNetF_refl 1048800 x0 (by omega) (by omega), Bool.not_true]
end Go.Proofs.Ytjdedhklbdkeoaa.Tw
