/- What the functions answer, on plain data. -/
import Derived.Test.YtjdedhklbdkeoaaTwAG
import Derived.Test.YtjdedhklbdkeoaaTlPlain
set_option linter.unusedVariables false
set_option linter.unusedSimpArgs false
set_option maxRecDepth 100000
set_option maxHeartbeats 1000000
namespace Go.Proofs.Ytjdedhklbdkeoaa.Tw
open Go Go.TL Go.Proofs
def Vtab.sz (x : Vtab) : Nat := x.Rows.length + x.Pvid.length
theorem laws_szIntSF_ok (n : Nat) {xs : List Int} {b : Int} (h0 : 0 ≤ b) (h1 : b ≤ 1048576) (hl : xs.length ≤ maxLen) : ∃ r, laws_szIntSF n xs b = some r ∧ Lft b xs.length r := sz_step h0 h1 hl
theorem laws_szVrowSF_ok (n : Nat) {xs : List Vrow} {b : Int} (h0 : 0 ≤ b) (h1 : b ≤ 1048576) (hl : xs.length ≤ maxLen) : ∃ r, laws_szVrowSF n xs b = some r ∧ Lft b xs.length r := sz_step h0 h1 hl
theorem laws_szVtabF_ok (n : Nat) {x : Vtab} {b : Int} (h0 : 0 ≤ b) (h1 : b ≤ 1048576) (hl : Vtab.wf x) : ∃ r, laws_szVtabF n x b = some r ∧ Lft b x.sz r := by
  obtain ⟨r1, e1, k1⟩ := laws_szVrowSF_ok n h0 h1 hl.1.1
  simp only [laws_szVtabF, e1, Option.bind_some]
  rcases k1.neg with ⟨c1, c2⟩ | ⟨c1, c2, c3⟩
  · rw [c1]; exact ⟨_, rfl, .inl (by decide)⟩
  · rw [c1]
    obtain ⟨r2, e2, k2⟩ := laws_szIntSF_ok n c2 (by omega) hl.2.1.1
    simp only [e2, Option.bind_some, cond_false]
    rcases k2.neg with ⟨d1, d2⟩ | ⟨d1, d2, d3⟩
    · rw [d1]; exact ⟨_, rfl, .inl (by decide)⟩
    · rw [d1]; exact ⟨_, rfl, .inr ⟨d2, by unfold Vtab.sz; omega⟩⟩
theorem laws_toIntSF_eq (n : Nat) (xs : List Int) (h : xs.length ≤ 268435456) (hn : xs.length < n) : laws_toIntSF n xs = some xs := by
  unfold laws_toIntSF
  rw [decide_eq_true (by omega : (0 : Int) ≤ (xs.length : Int)), decide_eq_true (by omega : (xs.length : Int) ≤ 268435456)]
  have := copy_loop (L := laws_toIntS_L2 n) (fun m xs i ys => rfl) xs (by omega) n 0 (List.replicate ((xs.length : Int)).toNat 0) (by omega) (by omega) (by simp) rfl
  simp only [Bool.and_self, cond_true]
  rw [show (laws_toIntS_L2 n n xs 0 (List.replicate ((xs.length : Int)).toNat 0)) = _ from this]
  rfl
theorem laws_toVrowSF_eq (n : Nat) (xs : List Vrow) (h : xs.length ≤ 1048576) (hn : xs.length < n) : laws_toVrowSF n xs = some xs := by
  unfold laws_toVrowSF
  rw [decide_eq_true (by omega : (0 : Int) ≤ (xs.length : Int)), decide_eq_true (by omega : (xs.length : Int) ≤ 268435456)]
  have := copy_loop (L := laws_toVrowS_L2 n) (fun m xs i ys => rfl) xs (by omega) n 0 (List.replicate ((xs.length : Int)).toNat (⟨0, 0, 0⟩ : Vrow)) (by omega) (by omega) (by simp) rfl
  simp only [Bool.and_self, cond_true]
  rw [show (laws_toVrowS_L2 n n xs 0 (List.replicate ((xs.length : Int)).toNat (⟨0, 0, 0⟩ : Vrow))) = _ from this]
  rfl
theorem laws_toVtabF_eq (n : Nat) (x : Vtab) (h : x.sz ≤ 1048576) (hn : x.sz < n) : laws_toVtabF n x = some x := by
  unfold Vtab.sz at h hn
  unfold laws_toVtabF
  rw [laws_toVrowSF_eq n x.Rows (by omega) (by omega), laws_toIntSF_eq n x.Pvid (by omega) (by omega)]
  rfl
theorem laws_eqIntSF_refl (n : Nat) (xs : List Int) (h : xs.length ≤ 268435456) (hn : xs.length < n) : laws_eqIntSF n xs xs = some true := by
  unfold laws_eqIntSF
  have := eq_loop (L := laws_eqIntS_L2 n) (f := fun a b => some (a == b)) (fun m xs ys i => rfl) xs (by omega) (fun v _ => by simp) n 0 (by omega) (by omega)
  simp only [bne_self_eq_false, cond_false]
  rw [show (laws_eqIntS_L2 n n xs xs 0) = _ from this]
  rfl
theorem laws_eqVrowF_refl (n : Nat) (v : Vrow) : laws_eqVrowF n v v = some true := by simp [laws_eqVrowF]
theorem laws_eqVrowSF_refl (n : Nat) (xs : List Vrow) (h : xs.length ≤ 268435456) (hn : xs.length < n) : laws_eqVrowSF n xs xs = some true := by
  unfold laws_eqVrowSF
  have := eq_loop (L := laws_eqVrowS_L2 n) (f := laws_eqVrowF n) (fun m xs ys i => rfl) xs (by omega) (fun v _ => laws_eqVrowF_refl n v) n 0 (by omega) (by omega)
  simp only [bne_self_eq_false, cond_false]
  rw [show (laws_eqVrowS_L2 n n xs xs 0) = _ from this]
  rfl
theorem laws_eqVtabF_refl (n : Nat) (x : Vtab) (h : x.sz ≤ 268435456) (hn : x.sz < n) : laws_eqVtabF n x x = some true := by
  unfold Vtab.sz at h hn
  unfold laws_eqVtabF
  rw [laws_eqVrowSF_refl n x.Rows (by omega) (by omega), laws_eqIntSF_refl n x.Pvid (by omega) (by omega)]
  rfl
theorem laws_szPtSF_ok (n : Nat) {xs : List Pt} {b : Int} (h0 : 0 ≤ b) (h1 : b ≤ 1048576) (hl : xs.length ≤ maxLen) : ∃ r, laws_szPtSF n xs b = some r ∧ Lft b xs.length r := sz_step h0 h1 hl
theorem laws_toPtSF_eq (n : Nat) (xs : List Pt) (h : xs.length ≤ 1048576) (hn : xs.length < n) : laws_toPtSF n xs = some xs := by
  unfold laws_toPtSF
  rw [decide_eq_true (by omega : (0 : Int) ≤ (xs.length : Int)), decide_eq_true (by omega : (xs.length : Int) ≤ 268435456)]
  have := copy_loop (L := laws_toPtS_L2 n) (fun m xs i ys => rfl) xs (by omega) n 0 (List.replicate ((xs.length : Int)).toNat (⟨false, 0, false, (⟨0, 0, 0, 0, 0⟩ : Vec)⟩ : Pt)) (by omega) (by omega) (by simp) rfl
  simp only [Bool.and_self, cond_true]
  rw [show (laws_toPtS_L2 n n xs 0 (List.replicate ((xs.length : Int)).toNat (⟨false, 0, false, (⟨0, 0, 0, 0, 0⟩ : Vec)⟩ : Pt))) = _ from this]
  rfl
theorem laws_eqVecF_refl (n : Nat) (v : Vec) : laws_eqVecF n v v = some true := by simp [laws_eqVecF]
theorem laws_eqPtF_refl (n : Nat) (v : Pt) : laws_eqPtF n v v = some true := by simp [laws_eqPtF, laws_eqVecF_refl]
theorem laws_eqPtSF_refl (n : Nat) (xs : List Pt) (h : xs.length ≤ 268435456) (hn : xs.length < n) : laws_eqPtSF n xs xs = some true := by
  unfold laws_eqPtSF
  have := eq_loop (L := laws_eqPtS_L2 n) (f := laws_eqPtF n) (fun m xs ys i => rfl) xs (by omega) (fun v _ => laws_eqPtF_refl n v) n 0 (by omega) (by omega)
  simp only [bne_self_eq_false, cond_false]
  rw [show (laws_eqPtS_L2 n n xs xs 0) = _ from this]
  rfl
theorem spec_l1InF_tot (n : Nat) (a b c : Int) : Tot (spec_l1InF n a b c) := Tot.bif (fun _ => .of) (fun _ => .of)
theorem impl_VecOkF_eq (n : Nat) : impl_VecOkF n = spec_VecOkF n := rfl
theorem spec_VecOkF_tot (n : Nat) (v : Vec) : Tot (spec_VecOkF n v) := by
  unfold spec_VecOkF
  repeat' first | exact Tot.of | refine Tot.bind (spec_l1InF_tot _ _ _ _) fun _ _ => ?_ | refine Tot.bif (fun _ => ?_) (fun _ => ?_)
theorem impl_StepVecF_eq (n : Nat) : impl_StepVecF n = spec_StepVecF n := rfl
theorem spec_StepVecF_tot (n : Nat) (v : Vec) (c : Int) : Tot (spec_StepVecF n v c) := by
  unfold spec_StepVecF
  repeat' first | exact Tot.of | refine Tot.bind (spec_l1InF_tot _ _ _ _) fun _ _ => ?_ | refine Tot.bind (spec_VecOkF_tot _ _) fun _ _ => ?_ | refine Tot.bif (fun _ => ?_) (fun _ => ?_)
theorem impl_LessVecF_eq (n : Nat) : impl_LessVecF n = spec_LessVecF n := rfl
theorem spec_LessVecF_tot (n : Nat) (v u : Vec) : Tot (spec_LessVecF n v u) := by
  unfold spec_LessVecF
  repeat' first | exact Tot.of | refine Tot.bif (fun _ => ?_) (fun _ => ?_)
theorem spec_BestVec_L2_tot (n : Nat) (x0 : Int) (x1 : List Pt) (h : x1.length ≤ 1048576) : ∀ (m k : Nat) (y2 y3 y4 y5 y6 y7 y8 y9 y10 : Int), k ≤ x1.length → x1.length < m + k → Tot (spec_BestVec_L2 n m x0 x1 k y2 y3 y4 y5 y6 y7 y8 y9 y10)
  | 0, k, y2, y3, y4, y5, y6, y7, y8, y9, y10, h1, h2 => by omega
  | m + 1, k, y2, y3, y4, y5, y6, y7, y8, y9, y10, h1, h2 => by
    rw [spec_BestVec_L2]
    refine Tot.step (fun hk => ?_) .of
    have ih := fun y2 y3 y4 y5 y6 y7 y8 y9 y10 => spec_BestVec_L2_tot n x0 x1 h m (k + 1) y2 y3 y4 y5 y6 y7 y8 y9 y10 (by omega) (by omega)
    simp only [spec_BestVec_J3, wrap_nat (by omega : k ≤ 1099511627776)]
    repeat' first | exact ih _ _ _ _ _ _ _ _ _ | exact Tot.of | refine Tot.bind (idx_tot hk) fun _ _ => ?_ | refine Tot.bind (spec_StepVecF_tot _ _ _) fun _ _ => ?_ | refine Tot.bind (spec_LessVecF_tot _ _ _) fun _ _ => ?_ | refine Tot.bif (fun _ => ?_) (fun _ => ?_)
theorem spec_BestVecF_tot (n : Nat) (x0 : Int) (x1 : List Pt) (h : x1.length ≤ 1048576) (hn : x1.length < n) : Tot (spec_BestVecF n x0 x1) := by
  unfold spec_BestVecF
  refine Tot.bind (spec_BestVec_L2_tot n x0 x1 h n 0 _ _ _ _ _ _ _ _ _ (by omega) (by omega)) fun o _ => ?_
  cases o <;> exact Tot.of
theorem impl_BestVec_L2_eq (n : Nat) : impl_BestVec_L2 n = spec_BestVec_L2 n := by
  funext m
  induction m with
  | zero => rfl
  | succ m ih =>
    funext x0 x1 y1 y2 y3 y4 y5 y6 y7 y8 y9 y10
    simp only [impl_BestVec_L2, spec_BestVec_L2, ih, impl_BestVec_J3, spec_BestVec_J3, impl_StepVecF_eq, impl_LessVecF_eq]
    cases idx x1 y1 <;> rfl
theorem impl_BestVecF_eq (n : Nat) : impl_BestVecF n = spec_BestVecF n := by
  funext x i; simp only [impl_BestVecF, spec_BestVecF, impl_BestVec_L2_eq]; rfl
theorem laws_eqVecF_same (n : Nat) (v u : Vec) (h : v = u) : laws_eqVecF n v u = some true := by rw [h]; exact laws_eqVecF_refl n u
theorem impl_SayVecF_eq (n : Nat) : impl_SayVecF n = spec_SayVecF n := by
  funext x i y; simp only [impl_SayVecF, spec_SayVecF, impl_BestVecF_eq]
theorem spec_SayVecF_tot (n : Nat) (x0 : Int) (x1 : List Pt) (x2 : Int) (h : x1.length ≤ 1048576) (hn : x1.length < n) : Tot (spec_SayVecF n x0 x1 x2) := Tot.bind (spec_BestVecF_tot n x0 x1 h hn) fun _ _ => .of
theorem wrapU {k : Nat} (h : k ≤ 1099511627776) : IntKind.wrap .u64 (k : Int) = k := by
  show ((k : Int) % 18446744073709551616) = k
  omega
theorem impl_inF_eq (n : Nat) : impl_inF n = spec_l1InF n := rfl
theorem spec_l1InF_val (n : Nat) (a b c : Int) : spec_l1InF n a b c = some (decide (b ≤ a) && decide (a ≤ c)) := by
  unfold spec_l1InF
  by_cases h : a ≥ b
  · rw [decide_eq_true h]; rfl
  · rw [decide_eq_false h]; rfl
theorem listWf_sub {α : Type} {wf : α → Prop} {xs ys : List α} (h : listWf wf xs) (hs : ∀ y ∈ ys, y ∈ xs) (hl : ys.length ≤ xs.length) : listWf wf ys := ⟨Nat.le_trans hl h.1, fun y hy => h.2 y (hs y hy)⟩
theorem listWf_set {α : Type} {wf : α → Prop} {xs : List α} {i : Nat} {v : α} (h : listWf wf xs) (hv : wf v) : listWf wf (xs.set i v) := ⟨by rw [List.length_set]; exact h.1, fun y hy => by
  rcases List.mem_or_eq_of_mem_set hy with h1 | h1
  · exact h.2 y h1
  · rw [h1]; exact hv⟩
theorem laws_szFentSF_ok (n : Nat) {xs : List Fent} {b : Int} (h0 : 0 ≤ b) (h1 : b ≤ 1048576) (hl : xs.length ≤ maxLen) : ∃ r, laws_szFentSF n xs b = some r ∧ Lft b xs.length r := sz_step h0 h1 hl
theorem laws_toFentSF_eq (n : Nat) (xs : List Fent) (h : xs.length ≤ 1048576) (hn : xs.length < n) : laws_toFentSF n xs = some xs := by
  unfold laws_toFentSF
  rw [decide_eq_true (by omega : (0 : Int) ≤ (xs.length : Int)), decide_eq_true (by omega : (xs.length : Int) ≤ 268435456)]
  have := copy_loop (L := laws_toFentS_L2 n) (fun m xs i ys => rfl) xs (by omega) n 0 (List.replicate ((xs.length : Int)).toNat (⟨0, 0, 0, 0, false⟩ : Fent)) (by omega) (by omega) (by simp) rfl
  simp only [Bool.and_self, cond_true]
  rw [show (laws_toFentS_L2 n n xs 0 (List.replicate ((xs.length : Int)).toNat (⟨0, 0, 0, 0, false⟩ : Fent))) = _ from this]
  rfl
theorem laws_eqFentF_refl (n : Nat) (v : Fent) : laws_eqFentF n v v = some true := by simp [laws_eqFentF]
theorem laws_eqFentSF_refl (n : Nat) (xs : List Fent) (h : xs.length ≤ 268435456) (hn : xs.length < n) : laws_eqFentSF n xs xs = some true := by
  unfold laws_eqFentSF
  have := eq_loop (L := laws_eqFentS_L2 n) (f := laws_eqFentF n) (fun m xs ys i => rfl) xs (by omega) (fun v _ => laws_eqFentF_refl n v) n 0 (by omega) (by omega)
  simp only [bne_self_eq_false, cond_false]
  rw [show (laws_eqFentS_L2 n n xs xs 0) = _ from this]
  rfl
def Bridge.sz (x : Bridge) : Nat := x.Name.size + x.Ports.length + x.F.length + x.V.sz
theorem laws_szBridgeF_ok (n : Nat) {x : Bridge} {b : Int} (h0 : 0 ≤ b) (h1 : b ≤ 1048576) (hl : Bridge.wf x) : ∃ r, laws_szBridgeF n x b = some r ∧ Lft b x.sz r := by
  have hm : maxLen = 9223372036854775807 := by decide
  have hn := hl.2.1
  unfold laws_szBridgeF
  rw [wrap64 (by omega) (by omega)]
  by_cases h : b - (x.Name.size : Int) < 0
  · rw [decide_eq_true h]; exact ⟨_, rfl, .inl (by decide)⟩
  · rw [decide_eq_false h]
    obtain ⟨r1, e1, k1⟩ := laws_szPtSF_ok n (xs := x.Ports) (b := b - x.Name.size) (by omega) (by omega) hl.2.2.1.1
    simp only [cond_false, e1, Option.bind_some]
    rcases k1.neg with ⟨c1, c2⟩ | ⟨c1, c2, c3⟩
    · rw [c1]; exact ⟨_, rfl, .inl (by decide)⟩
    · rw [c1]
      obtain ⟨r2, e2, k2⟩ := laws_szFentSF_ok n (xs := x.F) c2 (by omega) hl.2.2.2.1.1
      simp only [cond_false, e2, Option.bind_some]
      rcases k2.neg with ⟨d1, d2⟩ | ⟨d1, d2, d3⟩
      · rw [d1]; exact ⟨_, rfl, .inl (by decide)⟩
      · rw [d1]
        obtain ⟨r3, e3, k3⟩ := laws_szVtabF_ok n (x := x.V) d2 (by omega) ⟨hl.2.2.2.2.1, hl.2.2.2.2.2.1, trivial⟩
        simp only [cond_false, e3, Option.bind_some]
        rcases k3.neg with ⟨f1, f2⟩ | ⟨f1, f2, f3⟩
        · rw [f1]; exact ⟨_, rfl, .inl (by decide)⟩
        · rw [f1]; exact ⟨_, rfl, .inr ⟨f2, by unfold Bridge.sz; omega⟩⟩
theorem laws_toBridgeF_eq (n : Nat) (x : Bridge) (h : x.sz ≤ 1048576) (hn : x.sz < n) : laws_toBridgeF n x = some x := by
  unfold Bridge.sz at h hn
  unfold laws_toBridgeF
  rw [laws_toPtSF_eq n x.Ports (by omega) (by omega), laws_toFentSF_eq n x.F (by omega) (by omega), laws_toVtabF_eq n x.V (by omega) (by omega)]
  rfl
theorem laws_eqBridgeF_refl (n : Nat) (x : Bridge) (h : x.sz ≤ 268435456) (hn : x.sz < n) : laws_eqBridgeF n x x = some true := by
  unfold Bridge.sz at h hn
  unfold laws_eqBridgeF
  rw [laws_eqPtSF_refl n x.Ports (by omega) (by omega), laws_eqFentSF_refl n x.F (by omega) (by omega), laws_eqVtabF_refl n x.V (by omega) (by omega)]
  simp
theorem laws_szLinkSF_ok (n : Nat) {xs : List Link} {b : Int} (h0 : 0 ≤ b) (h1 : b ≤ 1048576) (hl : xs.length ≤ maxLen) : ∃ r, laws_szLinkSF n xs b = some r ∧ Lft b xs.length r := sz_step h0 h1 hl
theorem laws_szSaySF_ok (n : Nat) {xs : List Say} {b : Int} (h0 : 0 ≤ b) (h1 : b ≤ 1048576) (hl : xs.length ≤ maxLen) : ∃ r, laws_szSaySF n xs b = some r ∧ Lft b xs.length r := sz_step h0 h1 hl
theorem laws_szBridgeSF_ok (n : Nat) {xs : List Bridge} {b : Int} (h0 : 0 ≤ b) (h1 : b ≤ 1048576) (hn : 1048576 < n) (hl : listWf Bridge.wf xs) : ∃ r, laws_szBridgeSF n xs b = some r ∧ Lft b (xs.length + sumSz Bridge.sz xs) r := by
  obtain ⟨r0, e0, k0⟩ := sz_step h0 h1 hl.1
  unfold laws_szBridgeSF
  have hm : maxLen = 9223372036854775807 := by decide
  have hlen := hl.1
  rw [wrap64 (by omega) (by omega)] at e0 ⊢
  by_cases h : b - (xs.length : Int) < 0
  · rw [decide_eq_true h]; exact ⟨_, rfl, .inl (by decide)⟩
  · rw [decide_eq_false h]
    obtain ⟨o, f1, f2⟩ := sz_loop (L := fun m xs i b => laws_szBridgeS_L2 n m xs i b) (g := fun v b => laws_szBridgeF n v b) (sz := Bridge.sz) (fun m xs i b => rfl) xs (by omega) (fun v hv b h0 h1 => laws_szBridgeF_ok n h0 h1 (hl.2 v hv)) n 0 (b - xs.length) (by omega) (by omega) (by omega) (by omega)
    simp only [cond_false]
    rw [show laws_szBridgeS_L2 n n xs 0 (b - (xs.length : Int)) = _ from f1]
    rcases f2 with rfl | ⟨r, rfl, f3, f4⟩
    · exact ⟨_, rfl, .inl (by decide)⟩
    · exact ⟨_, rfl, .inr ⟨f3, by simp only [List.drop_zero] at f4; omega⟩⟩
def Net.sz (x : Net) : Nat := (x.Bridges.length + sumSz Bridge.sz x.Bridges) + x.Links.length + x.Said.length
theorem laws_szNetF_ok (n : Nat) {x : Net} {b : Int} (h0 : 0 ≤ b) (h1 : b ≤ 1048576) (hn : 1048576 < n) (hl : Net.wf x) : ∃ r, laws_szNetF n x b = some r ∧ Lft b x.sz r := by
  obtain ⟨r1, e1, k1⟩ := laws_szBridgeSF_ok n h0 h1 hn hl.1
  simp only [laws_szNetF, e1, Option.bind_some]
  rcases k1.neg with ⟨c1, c2⟩ | ⟨c1, c2, c3⟩
  · rw [c1]; exact ⟨_, rfl, .inl (by decide)⟩
  · rw [c1]
    obtain ⟨r2, e2, k2⟩ := laws_szLinkSF_ok n (xs := x.Links) c2 (by omega) hl.2.1.1
    simp only [e2, Option.bind_some, cond_false]
    rcases k2.neg with ⟨d1, d2⟩ | ⟨d1, d2, d3⟩
    · rw [d1]; exact ⟨_, rfl, .inl (by decide)⟩
    · rw [d1]
      obtain ⟨r3, e3, k3⟩ := laws_szSaySF_ok n (xs := x.Said) d2 (by omega) hl.2.2.1.1
      simp only [e3, Option.bind_some, cond_false]
      rcases k3.neg with ⟨f1, f2⟩ | ⟨f1, f2, f3⟩
      · rw [f1]; exact ⟨_, rfl, .inl (by decide)⟩
      · rw [f1]; exact ⟨_, rfl, .inr ⟨f2, by unfold Net.sz; omega⟩⟩
theorem laws_toLinkSF_eq (n : Nat) (xs : List Link) (h : xs.length ≤ 1048576) (hn : xs.length < n) : laws_toLinkSF n xs = some xs := by
  unfold laws_toLinkSF
  rw [decide_eq_true (by omega : (0 : Int) ≤ (xs.length : Int)), decide_eq_true (by omega : (xs.length : Int) ≤ 268435456)]
  have := copyF_loop (L := laws_toLinkS_L2 n) (f := laws_toLinkF n) (fun m xs i ys => rfl) xs (by omega) (fun v _ => rfl) n 0 (List.replicate ((xs.length : Int)).toNat (⟨0, 0, 0, 0⟩ : Link)) (by omega) (by omega) (by simp) rfl
  simp only [Bool.and_self, cond_true]
  rw [show (laws_toLinkS_L2 n n xs 0 (List.replicate ((xs.length : Int)).toNat (⟨0, 0, 0, 0⟩ : Link))) = _ from this]
  rfl
theorem laws_toSaySF_eq (n : Nat) (xs : List Say) (h : xs.length ≤ 1048576) (hn : xs.length < n) : laws_toSaySF n xs = some xs := by
  unfold laws_toSaySF
  rw [decide_eq_true (by omega : (0 : Int) ≤ (xs.length : Int)), decide_eq_true (by omega : (xs.length : Int) ≤ 268435456)]
  have := copyF_loop (L := laws_toSayS_L2 n) (f := laws_toSayF n) (fun m xs i ys => rfl) xs (by omega) (fun v _ => rfl) n 0 (List.replicate ((xs.length : Int)).toNat (⟨0, false, (⟨0, 0, 0, 0, 0⟩ : Vec)⟩ : Say)) (by omega) (by omega) (by simp) rfl
  simp only [Bool.and_self, cond_true]
  rw [show (laws_toSayS_L2 n n xs 0 (List.replicate ((xs.length : Int)).toNat (⟨0, false, (⟨0, 0, 0, 0, 0⟩ : Vec)⟩ : Say))) = _ from this]
  rfl
theorem laws_toBridgeSF_eq (n : Nat) (xs : List Bridge) (h : xs.length + sumSz Bridge.sz xs ≤ 1048576) (hn : 1048576 < n) : laws_toBridgeSF n xs = some xs := by
  unfold laws_toBridgeSF
  rw [decide_eq_true (by omega : (0 : Int) ≤ (xs.length : Int)), decide_eq_true (by omega : (xs.length : Int) ≤ 268435456)]
  have := copyF_loop (L := laws_toBridgeS_L2 n) (f := laws_toBridgeF n) (fun m xs i ys => rfl) xs (by omega) (fun v hv => by have := sumSz_mem (sz := Bridge.sz) hv; exact laws_toBridgeF_eq n v (by omega) (by omega)) n 0 (List.replicate ((xs.length : Int)).toNat (⟨0, (⟨#[]⟩ : ByteArray), ([] : List Pt), ([] : List Fent), (⟨([] : List Vrow), ([] : List Int)⟩ : Vtab), 0, 0, 0, 0, 0⟩ : Bridge)) (by omega) (by omega) (by simp) rfl
  simp only [Bool.and_self, cond_true]
  rw [show (laws_toBridgeS_L2 n n xs 0 (List.replicate ((xs.length : Int)).toNat (⟨0, (⟨#[]⟩ : ByteArray), ([] : List Pt), ([] : List Fent), (⟨([] : List Vrow), ([] : List Int)⟩ : Vtab), 0, 0, 0, 0, 0⟩ : Bridge))) = _ from this]
  rfl
theorem laws_toNetF_eq (n : Nat) (x : Net) (h : x.sz ≤ 1048576) (hn : 1048576 < n) : laws_toNetF n x = some x := by
  unfold Net.sz at h
  unfold laws_toNetF
  rw [laws_toBridgeSF_eq n x.Bridges (by omega) (by omega), laws_toLinkSF_eq n x.Links (by omega) (by omega), laws_toSaySF_eq n x.Said (by omega) (by omega)]
  rfl
theorem laws_eqLinkF_refl (n : Nat) (v : Link) : laws_eqLinkF n v v = some true := by simp [laws_eqLinkF]
theorem laws_eqLinkSF_refl (n : Nat) (xs : List Link) (h : xs.length ≤ 268435456) (hn : xs.length < n) : laws_eqLinkSF n xs xs = some true := by
  unfold laws_eqLinkSF
  have := eq_loop (L := laws_eqLinkS_L2 n) (f := laws_eqLinkF n) (fun m xs ys i => rfl) xs (by omega) (fun v _ => laws_eqLinkF_refl n v) n 0 (by omega) (by omega)
  simp only [bne_self_eq_false, cond_false]
  rw [show (laws_eqLinkS_L2 n n xs xs 0) = _ from this]
  rfl
theorem laws_eqSayF_refl (n : Nat) (v : Say) : laws_eqSayF n v v = some true := by simp [laws_eqSayF, laws_eqVecF_refl]
theorem laws_eqSaySF_refl (n : Nat) (xs : List Say) (h : xs.length ≤ 268435456) (hn : xs.length < n) : laws_eqSaySF n xs xs = some true := by
  unfold laws_eqSaySF
  have := eq_loop (L := laws_eqSayS_L2 n) (f := laws_eqSayF n) (fun m xs ys i => rfl) xs (by omega) (fun v _ => laws_eqSayF_refl n v) n 0 (by omega) (by omega)
  simp only [bne_self_eq_false, cond_false]
  rw [show (laws_eqSayS_L2 n n xs xs 0) = _ from this]
  rfl
theorem laws_eqBridgeSF_refl (n : Nat) (xs : List Bridge) (h : xs.length + sumSz Bridge.sz xs ≤ 268435456) (hn : xs.length + sumSz Bridge.sz xs < n) : laws_eqBridgeSF n xs xs = some true := by
  unfold laws_eqBridgeSF
  have := eq_loop (L := laws_eqBridgeS_L2 n) (f := laws_eqBridgeF n) (fun m xs ys i => rfl) xs (by omega) (fun v hv => by have := sumSz_mem (sz := Bridge.sz) hv; exact laws_eqBridgeF_refl n v (by omega) (by omega)) n 0 (by omega) (by omega)
  simp only [bne_self_eq_false, cond_false]
  rw [show (laws_eqBridgeS_L2 n n xs xs 0) = _ from this]
  rfl
theorem laws_eqNetF_refl (n : Nat) (x : Net) (h : x.sz ≤ 268435456) (hn : x.sz < n) : laws_eqNetF n x x = some true := by
  unfold Net.sz at h hn
  unfold laws_eqNetF
  rw [laws_eqBridgeSF_refl n x.Bridges (by omega) (by omega), laws_eqLinkSF_refl n x.Links (by omega) (by omega), laws_eqSaySF_refl n x.Said (by omega) (by omega)]
  rfl
theorem impl_portAtF_ok (n : Nat) (x : Net) (i j : Int) (wx : x.wf) (h : x.Bridges.length ≤ 1048580) : ∃ p b, impl_portAtF n x i j = some (p, b) ∧ spec_l13UpF n x i j = some (b && p.Up) := by
  have hw : IntKind.wrap .i64 ((x.Bridges.length : Int) - 1) = (x.Bridges.length : Int) - 1 := wrap64 (by omega) (by omega)
  unfold impl_portAtF spec_l13UpF
  simp only [impl_inF_eq, spec_l1InF_val, hw, Option.bind_some]
  by_cases hi : 0 ≤ i ∧ i ≤ (x.Bridges.length : Int) - 1
  · obtain ⟨v, hv, hm⟩ := idx_of (xs := x.Bridges) hi.1 (by omega)
    have hl := (wx.1.2 v hm).2.2.1.1
    have hmx : maxLen = 9223372036854775807 := by decide
    have hw2 : IntKind.wrap .i64 ((v.Ports.length : Int) - 1) = (v.Ports.length : Int) - 1 := wrap64 (by omega) (by omega)
    simp only [decide_eq_true hi.1, decide_eq_true hi.2, Bool.and_self, Bool.not_true, cond_false, cond_true, hv, Option.bind_some, hw2]
    by_cases hj : 0 ≤ j ∧ j ≤ (v.Ports.length : Int) - 1
    · obtain ⟨p, hp, _⟩ := idx_of (xs := v.Ports) hj.1 (by omega)
      simp only [decide_eq_true hj.1, decide_eq_true hj.2, Bool.and_self, Bool.not_true, cond_false, cond_true, hp, Option.bind_some]
      exact ⟨p, true, rfl, by simp⟩
    · have hj' : (decide (0 ≤ j) && decide (j ≤ (v.Ports.length : Int) - 1)) = false := by
        simp only [Bool.and_eq_false_iff, decide_eq_false_iff_not]; omega
      simp only [hj', Bool.not_false, cond_true, cond_false]
      exact ⟨_, false, rfl, rfl⟩
  · have hi' : (decide (0 ≤ i) && decide (i ≤ (x.Bridges.length : Int) - 1)) = false := by
      simp only [Bool.and_eq_false_iff, decide_eq_false_iff_not]; omega
    simp only [hi', Bool.not_false, cond_true, cond_false]
    exact ⟨_, false, rfl, rfl⟩
theorem spec_LinkUpF_both (n : Nat) (x : Net) (i : Int) (wx : x.wf) (h : x.sz ≤ 1048580) : ∃ b, spec_LinkUpF n x i = some b ∧ impl_LinkUpF n x i = some b := by
  unfold Net.sz at h
  have hw : IntKind.wrap .i64 ((x.Links.length : Int) - 1) = (x.Links.length : Int) - 1 := wrap64 (by omega) (by omega)
  unfold spec_LinkUpF impl_LinkUpF
  simp only [impl_inF_eq, spec_l1InF_val, hw, Option.bind_some]
  by_cases hi : 0 ≤ i ∧ i ≤ (x.Links.length : Int) - 1
  · obtain ⟨v, hv, hm⟩ := idx_of (xs := x.Links) hi.1 (by omega)
    obtain ⟨p, b, h1, h2⟩ := impl_portAtF_ok n x v.A v.P wx (by omega)
    obtain ⟨p', b', h1', h2'⟩ := impl_portAtF_ok n x v.B v.Q wx (by omega)
    simp only [decide_eq_true hi.1, decide_eq_true hi.2, Bool.and_self, Bool.not_true, cond_false, hv, Option.bind_some, h1, h2, h1', h2']
    cases b <;> cases b' <;> cases p.Up <;> cases p'.Up <;> exact ⟨_, rfl, rfl⟩
  · have hi' : (decide (0 ≤ i) && decide (i ≤ (x.Links.length : Int) - 1)) = false := by
      simp only [Bool.and_eq_false_iff, decide_eq_false_iff_not]; omega
    simp only [hi', Bool.not_false, cond_true]
    exact ⟨_, rfl, rfl⟩
/-- what BestVec's loop keeps -/
def BestInv (n : Nat) (x0 : Int) (x1 : List Pt) (k : Nat) (y2 y3 y4 y8 y9 : Int) : Prop :=
  ((y2 = -1 ∧ y8 = x0) ∨ (0 ≤ y2 ∧ y2 < k ∧ y3 = y8 ∧ y4 = y9 ∧ y8 < x0 ∧ ∃ v : Pt, idx x1 y2 = some v ∧ v.Up = true)) ∧
  ∀ (j : Nat) (v : Pt) (r : Vec), j < k → idx x1 (j : Int) = some v → v.Up = true → v.Has = true → spec_StepVecF n v.Heard v.Cost = some (r, true) → x0 ≤ r.Root ∨ (0 ≤ y2 ∧ (y8 < r.Root ∨ (y8 = r.Root ∧ y9 ≤ r.Cost)))
theorem BestInv.next {n : Nat} {x0 : Int} {x1 : List Pt} {k : Nat} {y2 y3 y4 y8 y9 : Int} (h : BestInv n x0 x1 k y2 y3 y4 y8 y9) (hk : ∀ v : Pt, idx x1 (k : Int) = some v → v.Up = true → v.Has = true → ∀ r : Vec, spec_StepVecF n v.Heard v.Cost = some (r, true) → x0 ≤ r.Root ∨ (0 ≤ y2 ∧ (y8 < r.Root ∨ (y8 = r.Root ∧ y9 ≤ r.Cost)))) : BestInv n x0 x1 (k + 1) y2 y3 y4 y8 y9 := by
  refine ⟨?_, fun j v r hj hv hu hh hs => ?_⟩
  · rcases h.1 with a | ⟨a, b, c⟩
    · exact .inl a
    · exact .inr ⟨a, by omega, c⟩
  · by_cases e : j = k
    · subst e; exact hk v hv hu hh r hs
    · exact h.2 j v r (by omega) hv hu hh hs
theorem spec_LessVecF_lt (n : Nat) (a b : Vec) {c : Bool} (h : spec_LessVecF n a b = some c) : (c = true → a.Root < b.Root ∨ (a.Root = b.Root ∧ a.Cost ≤ b.Cost)) ∧ (c = false → b.Root < a.Root ∨ (b.Root = a.Root ∧ b.Cost ≤ a.Cost)) := by
  unfold spec_LessVecF at h
  by_cases h1 : a.Root = b.Root
  · have e1 : (a.Root != b.Root) = false := by simp [h1]
    rw [e1, cond_false] at h
    by_cases h2 : a.Cost = b.Cost
    · exact ⟨fun _ => .inr ⟨h1, by omega⟩, fun _ => .inr ⟨h1.symm, by omega⟩⟩
    · have e2 : (a.Cost != b.Cost) = true := by simp [h2]
      rw [e2, cond_true] at h
      have h := Option.some.inj h
      refine ⟨fun hc => .inr ⟨h1, ?_⟩, fun hc => .inr ⟨h1.symm, ?_⟩⟩
      · have := of_decide_eq_true (h.trans hc); omega
      · have := of_decide_eq_false (h.trans hc); omega
  · have e1 : (a.Root != b.Root) = true := by simp [h1]
    rw [e1, cond_true] at h
    have h := Option.some.inj h
    refine ⟨fun hc => .inl (of_decide_eq_true (h.trans hc)), fun hc => .inl ?_⟩
    have := of_decide_eq_false (h.trans hc); omega
theorem spec_BestVec_L2_inv (n : Nat) (x0 : Int) (x1 : List Pt) (h : x1.length ≤ 1048576) : ∀ (m k : Nat) (y2 y3 y4 y5 y6 y7 y8 y9 y10 : Int), k ≤ x1.length → x1.length < m + k → BestInv n x0 x1 k y2 y3 y4 y8 y9 → ∃ z2 z8 z9 z10 z3 z4, spec_BestVec_L2 n m x0 x1 k y2 y3 y4 y5 y6 y7 y8 y9 y10 = some (.inl (z2, z8, z9, z10)) ∧ BestInv n x0 x1 x1.length z2 z3 z4 z8 z9
  | 0, k, y2, y3, y4, y5, y6, y7, y8, y9, y10, h1, h2, hi => by omega
  | m + 1, k, y2, y3, y4, y5, y6, y7, y8, y9, y10, h1, h2, hi => by
    rw [spec_BestVec_L2]
    by_cases hk : k < x1.length
    · have ih := fun y2 y3 y4 y5 y6 y7 y8 y9 y10 hi => spec_BestVec_L2_inv n x0 x1 h m (k + 1) y2 y3 y4 y5 y6 y7 y8 y9 y10 (by omega) (by omega) hi
      have hv := idx_nat hk
      have hg : ∀ w : Pt, idx x1 (k : Int) = some w → w = x1[k] := fun w e => Option.some.inj (e.symm.trans hv)
      simp only [lt_true hk, cond_true, hv, Option.bind_some, wrap_nat (by omega : k ≤ 1099511627776), spec_BestVec_J3]
      cases hu : x1[k].Up
      · simp only [Bool.not_false, cond_true]
        exact ih _ _ _ _ _ _ _ _ _ (hi.next fun w e u => by rw [hg w e, hu] at u; cases u)
      cases hh : x1[k].Has
      · simp only [Bool.not_false, Bool.not_true, cond_true, cond_false]
        exact ih _ _ _ _ _ _ _ _ _ (hi.next fun w e _ u => by rw [hg w e, hh] at u; cases u)
      obtain ⟨⟨r, ok⟩, hr⟩ := spec_StepVecF_tot n x1[k].Heard x1[k].Cost
      simp only [Bool.not_true, cond_false, hr, Option.bind_some]
      have hrr : ∀ w : Pt, idx x1 (k : Int) = some w → ∀ q : Vec, spec_StepVecF n w.Heard w.Cost = some (q, true) → q = r ∧ ok = true := fun w e q hq => by
        rw [hg w e, hr] at hq; cases hq; exact ⟨rfl, rfl⟩
      cases ok
      · simp only [cond_false]
        exact ih _ _ _ _ _ _ _ _ _ (hi.next fun w e _ _ q hq => by cases (hrr w e q hq).2)
      simp only [cond_true]
      by_cases hl : r.Root < x0
      · rw [decide_eq_true hl, cond_true]
        have hnew : (∀ (j : Nat) (v : Pt) (q : Vec), j < k → idx x1 (j : Int) = some v → v.Up = true → v.Has = true → spec_StepVecF n v.Heard v.Cost = some (q, true) → x0 ≤ q.Root ∨ (r.Root < q.Root ∨ (r.Root = q.Root ∧ r.Cost ≤ q.Cost))) → BestInv n x0 x1 (k + 1) k r.Root r.Cost r.Root r.Cost := fun ho => by
          refine ⟨.inr ⟨by omega, by omega, rfl, rfl, hl, _, hv, hu⟩, fun j v q hj e1 e2 e3 e4 => ?_⟩
          by_cases e : j = k
          · subst e; rw [(hrr v e1 q e4).1]; exact .inr ⟨by omega, .inr ⟨rfl, by omega⟩⟩
          · rcases ho j v q (by omega) e1 e2 e3 e4 with a | a
            · exact .inl a
            · exact .inr ⟨by omega, a⟩
        by_cases hp : y2 < 0
        · rw [decide_eq_true hp, cond_true]
          refine ih _ _ _ _ _ _ _ _ _ (hnew fun j v q e0 e1 e2 e3 e4 => ?_)
          rcases hi.2 j v q e0 e1 e2 e3 e4 with a | ⟨a, _⟩
          · exact .inl a
          · omega
        · rw [decide_eq_false hp, cond_false]
          obtain ⟨b, hb⟩ := spec_LessVecF_tot n r (⟨y3, y4, y5, y6, y7⟩ : Vec)
          have hlt := spec_LessVecF_lt n _ _ hb
          simp only [hb, Option.bind_some]
          rcases hi.1 with ⟨a, _⟩ | ⟨a1, a2, a3, a4, a5, a6⟩
          · omega
          subst a3 a4
          cases b
          · simp only [cond_false]
            refine ih _ _ _ _ _ _ _ _ _ (hi.next fun w e _ _ q hq => ?_)
            rw [(hrr w e q hq).1]
            exact .inr ⟨a1, hlt.2 rfl⟩
          · simp only [cond_true]
            refine ih _ _ _ _ _ _ _ _ _ (hnew fun j v q e0 e1 e2 e3 e4 => ?_)
            have hc := hlt.1 rfl
            simp only at hc
            rcases hi.2 j v q e0 e1 e2 e3 e4 with a | ⟨_, a⟩
            · exact .inl a
            · refine .inr ?_
              rcases a with a | ⟨a, a'⟩ <;> rcases hc with b | ⟨b, b'⟩
              · exact .inl (by omega)
              · exact .inl (by omega)
              · exact .inl (by omega)
              · exact .inr ⟨by omega, by omega⟩
      · rw [decide_eq_false hl, cond_false]
        exact ih _ _ _ _ _ _ _ _ _ (hi.next fun w e _ _ q hq => .inl (by rw [(hrr w e q hq).1]; omega))
    · have : k = x1.length := by omega
      subst this
      rw [lt_false, cond_false]
      exact ⟨_, _, _, _, _, _, rfl, hi⟩
theorem spec_BestVecF_inv (n : Nat) (x0 : Int) (x1 : List Pt) (h : x1.length ≤ 1048576) (hn : x1.length < n) : ∃ p a b c y3 y4, spec_BestVecF n x0 x1 = some ((⟨a, b, c, x0, 0⟩ : Vec), p) ∧ BestInv n x0 x1 x1.length p y3 y4 a b := by
  obtain ⟨z2, z8, z9, z10, z3, z4, e, i⟩ := spec_BestVec_L2_inv n x0 x1 h n 0 (-1) 0 0 0 0 0 x0 0 0 (by omega) (by omega) ⟨.inl ⟨rfl, rfl⟩, fun j _ _ hj => by omega⟩
  refine ⟨z2, z8, z9, z10, z3, z4, ?_, i⟩
  have e : spec_BestVec_L2 n n x0 x1 0 (-1) 0 0 0 0 0 x0 0 0 = some (.inl (z2, z8, z9, z10)) := e
  unfold spec_BestVecF
  rw [e]
  rfl
/-- the bit of a port -/
def bitV (a : Int) (i : Nat) : Bool := (IntKind.wrap .i64 (BitVec.ofInt (IntKind.bits .i64) (Int.fdiv a (2 ^ min ((i : Int)).toNat (IntKind.bits .i64))) &&& BitVec.ofInt (IntKind.bits .i64) 1).toNat == 1)
theorem bitV_nine : ∀ a < 64, bitV ((a : Nat) : Int) 9 = false := by decide +kernel
theorem spec_l13UpF_true (n : Nat) (x : Net) (i j : Int) (h : spec_l13UpF n x i j = some true) : ∃ v p, idx x.Bridges i = some v ∧ idx v.Ports j = some p ∧ p.Up = true ∧ i ≤ (IntKind.wrap .i64 ((x.Bridges.length : Int) - 1)) ∧ j ≤ (IntKind.wrap .i64 ((v.Ports.length : Int) - 1)) ∧ 0 ≤ i ∧ 0 ≤ j := by
  unfold spec_l13UpF at h
  simp only [spec_l1InF_val, Option.bind_some] at h
  cases hc : (decide (0 ≤ i) && decide (i ≤ IntKind.wrap .i64 ((x.Bridges.length : Int) - 1))) with
  | false => rw [hc] at h; cases h
  | true =>
    simp only [hc, cond_true] at h
    obtain ⟨v, hv, h⟩ := bind_some h
    cases hd : (decide (0 ≤ j) && decide (j ≤ IntKind.wrap .i64 ((v.Ports.length : Int) - 1))) with
    | false => rw [hd] at h; cases h
    | true =>
      simp only [hd, cond_true, hv, Option.bind_some] at h
      obtain ⟨p, hp, h⟩ := bind_some h
      simp only [Bool.and_eq_true, decide_eq_true_eq] at hc hd
      exact ⟨v, p, hv, hp, Option.some.inj h, hc.2, hd.2, hc.1, hd.1⟩
theorem spec_LinkUpF_true (n : Nat) (x : Net) (k : Int) (h : spec_LinkUpF n x k = some true) : ∃ l a b p q, idx x.Links k = some l ∧ idx x.Bridges l.A = some a ∧ idx a.Ports l.P = some p ∧ p.Up = true ∧ idx x.Bridges l.B = some b ∧ idx b.Ports l.Q = some q ∧ q.Up = true := by
  unfold spec_LinkUpF at h
  simp only [spec_l1InF_val, Option.bind_some] at h
  cases hc : (decide (0 ≤ k) && decide (k ≤ IntKind.wrap .i64 ((x.Links.length : Int) - 1))) with
  | false => rw [hc] at h; cases h
  | true =>
    simp only [hc, Bool.not_true, cond_false] at h
    obtain ⟨l, hl, h⟩ := bind_some h
    obtain ⟨u, hu, h⟩ := bind_some h
    cases u with
    | false => cases h
    | true =>
      simp only [cond_true] at h
      obtain ⟨u', hu', h⟩ := bind_some h
      have : u' = true := Option.some.inj h
      subst this
      obtain ⟨a, p, a1, a2, a3, _⟩ := spec_l13UpF_true n x _ _ hu
      obtain ⟨b, q, b1, b2, b3, _⟩ := spec_l13UpF_true n x _ _ hu'
      exact ⟨l, a, b, p, q, hl, a1, a2, a3, b1, b2, b3⟩
theorem ports_le {x : Net} {a : Bridge} (h : x.sz ≤ 1048576) (ha : a ∈ x.Bridges) : a.sz ≤ x.sz := by
  have := sumSz_mem (sz := Bridge.sz) ha
  unfold Net.sz
  omega
theorem idx_lt {α : Type} {xs : List α} {i : Int} {v : α} (h : idx xs i = some v) : 0 ≤ i ∧ i < xs.length := by
  obtain ⟨g1, g2⟩ := idx_get h
  have := (List.getElem?_eq_some_iff.1 g2).1
  omega
theorem impl_portAtF_some (n : Nat) (x : Net) (wx : x.wf) (h : x.Bridges.length ≤ 1048580) {i j : Int} {a : Bridge} {p : Pt} (ha : idx x.Bridges i = some a) (hp : idx a.Ports j = some p) : impl_portAtF n x i j = some (p, true) := by
  have h1 := idx_lt ha
  have h2 := idx_lt hp
  have hl := (wx.1.2 a (idx_mem ha)).2.2.1.1
  have hmx : maxLen = 9223372036854775807 := by decide
  unfold impl_portAtF
  simp only [impl_inF_eq, spec_l1InF_val, Option.bind_some, wrap64 (show -9223372036854775808 ≤ (x.Bridges.length : Int) - 1 by omega) (by omega), decide_eq_true (show (0 : Int) ≤ i by omega), decide_eq_true (show i ≤ (x.Bridges.length : Int) - 1 by omega), Bool.and_self, Bool.not_true, cond_false, ha, wrap64 (show -9223372036854775808 ≤ (a.Ports.length : Int) - 1 by omega) (by omega), decide_eq_true (show (0 : Int) ≤ j by omega), decide_eq_true (show j ≤ (a.Ports.length : Int) - 1 by omega), hp]
theorem spec_Agreed_L2_both (n : Nat) (x : Net) (wx : x.wf) (h : x.sz ≤ 1048576) (hn : 1048577 < n) : ∀ (m k : Nat), k ≤ x.Links.length → x.Links.length < m + k → ∃ o, spec_Agreed_L2 n m x k = some o ∧ impl_Agreed_L2 n m x k = some o
  | 0, k, h1, h2 => by omega
  | m + 1, k, h1, h2 => by
    have hsz := h
    unfold Net.sz at hsz
    rw [spec_Agreed_L2, impl_Agreed_L2]
    by_cases hk : k < x.Links.length
    · obtain ⟨o, i1, i2⟩ := spec_Agreed_L2_both n x wx h hn m (k + 1) (by omega) (by omega)
      obtain ⟨u, u1, u2⟩ := spec_LinkUpF_both n x k wx (by omega)
      simp only [lt_true hk, cond_true, idx_nat hk, u1, u2, Option.bind_some, wrap_nat (by omega : k ≤ 1099511627776), i1, i2]
      cases u with
      | false => exact ⟨o, rfl, rfl⟩
      | true =>
        obtain ⟨l, a, b, p, q, hl, ha, hp, _, hb, hq, _⟩ := spec_LinkUpF_true n x k u1
        have : l = x.Links[k] := Option.some.inj (hl.symm.trans (idx_nat hk))
        subst this
        have sa := ports_le h (idx_mem ha)
        have sb := ports_le h (idx_mem hb)
        unfold Bridge.sz at sa sb
        obtain ⟨va, hva⟩ := spec_SayVecF_tot n a.Id a.Ports x.Links[k].P (by omega) (by omega)
        obtain ⟨vb, hvb⟩ := spec_SayVecF_tot n b.Id b.Ports x.Links[k].Q (by omega) (by omega)
        simp only [cond_true, spec_l15HeardF, spec_l14SayF, impl_saidF, impl_knowsF, idx_nat hk, Option.bind_some, ha, hb, hp, hq, hva, hvb, impl_SayVecF_eq, cond_false, impl_portAtF_some n x wx (by omega) ha hp, impl_portAtF_some n x wx (by omega) hb hq]
        generalize ((p.Heard.Root == vb.Root) && ((p.Heard.Cost == vb.Cost) && ((p.Heard.Hops == vb.Hops) && ((p.Heard.Bridge == vb.Bridge) && ((p.Heard.Port == vb.Port) && true))))) = c1
        generalize ((q.Heard.Root == va.Root) && ((q.Heard.Cost == va.Cost) && ((q.Heard.Hops == va.Hops) && ((q.Heard.Bridge == va.Bridge) && ((q.Heard.Port == va.Port) && true))))) = c2
        cases p.Has <;> cases q.Has <;> cases c1 <;> cases c2 <;> exact ⟨_, rfl, rfl⟩
    · have e : k = x.Links.length := by omega
      subst e
      rw [lt_false]
      exact ⟨_, rfl, rfl⟩
theorem spec_AgreedF_both (n : Nat) (x : Net) (wx : x.wf) (h : x.sz ≤ 1048576) (hn : 1048577 < n) : ∃ b, spec_AgreedF n x = some b ∧ impl_AgreedF n x = some b := by
  have hsz := h
  unfold Net.sz at hsz
  obtain ⟨o, h1, h2⟩ := spec_Agreed_L2_both n x wx h hn n 0 (by omega) (by omega)
  have h1 : spec_Agreed_L2 n n x 0 = some o := h1
  have h2 : impl_Agreed_L2 n n x 0 = some o := h2
  unfold spec_AgreedF impl_AgreedF
  rw [h1, h2]
  cases o <;> exact ⟨_, rfl, rfl⟩
theorem laws_FnExactAgreed_plain (x0 : Net) (w0 : x0.wf) : ∃ n, laws_FnExactAgreedF n x0 = some true := by
  refine ⟨1048580, ?_⟩
  obtain ⟨r, e, k⟩ := laws_szNetF_ok 1048580 (x := x0) (b := 1048576) (by decide) (by decide) (by decide) w0
  simp only [laws_FnExactAgreedF, e, Option.bind_some]
  rcases k.neg with ⟨c1, _⟩ | ⟨c1, c2, c3⟩
  · rw [c1]; rfl
  · obtain ⟨b, h1, h2⟩ := spec_AgreedF_both 1048580 x0 w0 (by omega) (by omega)
    simp only [c1, cond_false, laws_toNetF_eq 1048580 x0 (by omega) (by omega), Option.bind_some, h1, h2, beq_self_eq_true, laws_eqNetF_refl 1048580 x0 (by omega) (by omega), Bool.not_true]
end Go.Proofs.Ytjdedhklbdkeoaa.Tw
