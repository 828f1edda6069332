/- What the functions answer, on plain data. -/
import Derived.Test.YtjdedhklbdkeoaaTwUL
import Derived.Test.YtjdedhklbdkeoaaTlPlain
set_option linter.unusedVariables false
set_option linter.unusedSimpArgs false
set_option maxRecDepth 100000
set_option maxHeartbeats 1000000
namespace Go.Proofs.Ytjdedhklbdkeoaa.Tw
open Go Go.TL Go.Proofs
def Vtab.sz (x : Vtab) : Nat := x.Rows.length + x.Pvid.length
theorem laws_szIntSF_ok (n : Nat) {xs : List Int} {b : Int} (h0 : 0 ≤ b) (h1 : b ≤ 1048576) (hl : xs.length ≤ maxLen) : ∃ r, laws_szIntSF n xs b = some r ∧ Lft b xs.length r := sz_step h0 h1 hl
theorem laws_szVrowSF_ok (n : Nat) {xs : List Vrow} {b : Int} (h0 : 0 ≤ b) (h1 : b ≤ 1048576) (hl : xs.length ≤ maxLen) : ∃ r, laws_szVrowSF n xs b = some r ∧ Lft b xs.length r := sz_step h0 h1 hl
theorem laws_szVtabF_ok (n : Nat) {x : Vtab} {b : Int} (h0 : 0 ≤ b) (h1 : b ≤ 1048576) (hl : Vtab.wf x) : ∃ r, laws_szVtabF n x b = some r ∧ Lft b x.sz r := by
  obtain ⟨r1, e1, k1⟩ := laws_szVrowSF_ok n h0 h1 hl.1.1
  simp only [laws_szVtabF, e1, Option.bind_some]
  rcases k1.neg with ⟨c1, c2⟩ | ⟨c1, c2, c3⟩
  · rw [c1]; exact ⟨_, rfl, .inl (by decide)⟩
  · rw [c1]
    obtain ⟨r2, e2, k2⟩ := laws_szIntSF_ok n c2 (by omega) hl.2.1.1
    simp only [e2, Option.bind_some, cond_false]
    rcases k2.neg with ⟨d1, d2⟩ | ⟨d1, d2, d3⟩
    · rw [d1]; exact ⟨_, rfl, .inl (by decide)⟩
    · rw [d1]; exact ⟨_, rfl, .inr ⟨d2, by unfold Vtab.sz; omega⟩⟩
theorem laws_toIntSF_eq (n : Nat) (xs : List Int) (h : xs.length ≤ 268435456) (hn : xs.length < n) : laws_toIntSF n xs = some xs := by
  unfold laws_toIntSF
  rw [decide_eq_true (by omega : (0 : Int) ≤ (xs.length : Int)), decide_eq_true (by omega : (xs.length : Int) ≤ 268435456)]
  have := copy_loop (L := laws_toIntS_L2 n) (fun m xs i ys => rfl) xs (by omega) n 0 (List.replicate ((xs.length : Int)).toNat 0) (by omega) (by omega) (by simp) rfl
  simp only [Bool.and_self, cond_true]
  rw [show (laws_toIntS_L2 n n xs 0 (List.replicate ((xs.length : Int)).toNat 0)) = _ from this]
  rfl
theorem laws_toVrowSF_eq (n : Nat) (xs : List Vrow) (h : xs.length ≤ 1048576) (hn : xs.length < n) : laws_toVrowSF n xs = some xs := by
  unfold laws_toVrowSF
  rw [decide_eq_true (by omega : (0 : Int) ≤ (xs.length : Int)), decide_eq_true (by omega : (xs.length : Int) ≤ 268435456)]
  have := copy_loop (L := laws_toVrowS_L2 n) (fun m xs i ys => rfl) xs (by omega) n 0 (List.replicate ((xs.length : Int)).toNat (⟨0, 0, 0⟩ : Vrow)) (by omega) (by omega) (by simp) rfl
  simp only [Bool.and_self, cond_true]
  rw [show (laws_toVrowS_L2 n n xs 0 (List.replicate ((xs.length : Int)).toNat (⟨0, 0, 0⟩ : Vrow))) = _ from this]
  rfl
theorem laws_toVtabF_eq (n : Nat) (x : Vtab) (h : x.sz ≤ 1048576) (hn : x.sz < n) : laws_toVtabF n x = some x := by
  unfold Vtab.sz at h hn
  unfold laws_toVtabF
  rw [laws_toVrowSF_eq n x.Rows (by omega) (by omega), laws_toIntSF_eq n x.Pvid (by omega) (by omega)]
  rfl
theorem laws_eqIntSF_refl (n : Nat) (xs : List Int) (h : xs.length ≤ 268435456) (hn : xs.length < n) : laws_eqIntSF n xs xs = some true := by
  unfold laws_eqIntSF
  have := eq_loop (L := laws_eqIntS_L2 n) (f := fun a b => some (a == b)) (fun m xs ys i => rfl) xs (by omega) (fun v _ => by simp) n 0 (by omega) (by omega)
  simp only [bne_self_eq_false, cond_false]
  rw [show (laws_eqIntS_L2 n n xs xs 0) = _ from this]
  rfl
theorem laws_eqVrowF_refl (n : Nat) (v : Vrow) : laws_eqVrowF n v v = some true := by simp [laws_eqVrowF]
theorem laws_eqVrowSF_refl (n : Nat) (xs : List Vrow) (h : xs.length ≤ 268435456) (hn : xs.length < n) : laws_eqVrowSF n xs xs = some true := by
  unfold laws_eqVrowSF
  have := eq_loop (L := laws_eqVrowS_L2 n) (f := laws_eqVrowF n) (fun m xs ys i => rfl) xs (by omega) (fun v _ => laws_eqVrowF_refl n v) n 0 (by omega) (by omega)
  simp only [bne_self_eq_false, cond_false]
  rw [show (laws_eqVrowS_L2 n n xs xs 0) = _ from this]
  rfl
theorem laws_eqVtabF_refl (n : Nat) (x : Vtab) (h : x.sz ≤ 268435456) (hn : x.sz < n) : laws_eqVtabF n x x = some true := by
  unfold Vtab.sz at h hn
  unfold laws_eqVtabF
  rw [laws_eqVrowSF_refl n x.Rows (by omega) (by omega), laws_eqIntSF_refl n x.Pvid (by omega) (by omega)]
  rfl
theorem laws_szPtSF_ok (n : Nat) {xs : List Pt} {b : Int} (h0 : 0 ≤ b) (h1 : b ≤ 1048576) (hl : xs.length ≤ maxLen) : ∃ r, laws_szPtSF n xs b = some r ∧ Lft b xs.length r := sz_step h0 h1 hl
theorem laws_toPtSF_eq (n : Nat) (xs : List Pt) (h : xs.length ≤ 1048576) (hn : xs.length < n) : laws_toPtSF n xs = some xs := by
  unfold laws_toPtSF
  rw [decide_eq_true (by omega : (0 : Int) ≤ (xs.length : Int)), decide_eq_true (by omega : (xs.length : Int) ≤ 268435456)]
  have := copy_loop (L := laws_toPtS_L2 n) (fun m xs i ys => rfl) xs (by omega) n 0 (List.replicate ((xs.length : Int)).toNat (⟨false, 0, false, (⟨0, 0, 0, 0, 0⟩ : Vec)⟩ : Pt)) (by omega) (by omega) (by simp) rfl
  simp only [Bool.and_self, cond_true]
  rw [show (laws_toPtS_L2 n n xs 0 (List.replicate ((xs.length : Int)).toNat (⟨false, 0, false, (⟨0, 0, 0, 0, 0⟩ : Vec)⟩ : Pt))) = _ from this]
  rfl
theorem laws_eqVecF_refl (n : Nat) (v : Vec) : laws_eqVecF n v v = some true := by simp [laws_eqVecF]
theorem laws_eqPtF_refl (n : Nat) (v : Pt) : laws_eqPtF n v v = some true := by simp [laws_eqPtF, laws_eqVecF_refl]
theorem laws_eqPtSF_refl (n : Nat) (xs : List Pt) (h : xs.length ≤ 268435456) (hn : xs.length < n) : laws_eqPtSF n xs xs = some true := by
  unfold laws_eqPtSF
  have := eq_loop (L := laws_eqPtS_L2 n) (f := laws_eqPtF n) (fun m xs ys i => rfl) xs (by omega) (fun v _ => laws_eqPtF_refl n v) n 0 (by omega) (by omega)
  simp only [bne_self_eq_false, cond_false]
  rw [show (laws_eqPtS_L2 n n xs xs 0) = _ from this]
  rfl
theorem spec_l1InF_tot (n : Nat) (a b c : Int) : Tot (spec_l1InF n a b c) := Tot.bif (fun _ => .of) (fun _ => .of)
theorem laws_eqVecF_same (n : Nat) (v u : Vec) (h : v = u) : laws_eqVecF n v u = some true := by rw [h]; exact laws_eqVecF_refl n u
theorem wrapU {k : Nat} (h : k ≤ 1099511627776) : IntKind.wrap .u64 (k : Int) = k := by
  show ((k : Int) % 18446744073709551616) = k
  omega
theorem impl_inF_eq (n : Nat) : impl_inF n = spec_l1InF n := rfl
theorem spec_l1InF_val (n : Nat) (a b c : Int) : spec_l1InF n a b c = some (decide (b ≤ a) && decide (a ≤ c)) := by
  unfold spec_l1InF
  by_cases h : a ≥ b
  · rw [decide_eq_true h]; rfl
  · rw [decide_eq_false h]; rfl
theorem laws_markVrowSF_ok (n : Nat) (xs : List Vrow) (b : Int) (h : xs.length ≤ 268435456) (hn : xs.length < n) (h0 : 0 ≤ b) (h1 : b + (3 : Nat) * xs.length ≤ 1099511627776) : laws_markVrowSF n xs b = some (b + (3 : Nat) * xs.length, markL (fun _ b => (⟨b, b + 1, b + 2⟩ : Vrow)) 3 xs b) := by
  have := mark_loop (L := laws_markVrowS_L2 n) (f := fun _ b => (⟨b, b + 1, b + 2⟩ : Vrow)) (c := 3) (fun m k ys b v hk hl hv h0 h1 => by
    rw [laws_markVrowS_L2, lt_true hk, idx_at hv]
    simp only [cond_true, Option.bind_some, idx_set hk, wrap64 (show -9223372036854775808 ≤ b + 1 by omega) (by omega), wrap64 (show -9223372036854775808 ≤ b + 1 + 1 by omega) (by omega), wrap64 (show -9223372036854775808 ≤ b + 1 + 1 + 1 by omega) (by omega), wrap_nat (show k ≤ 1099511627776 by omega)]
    rw [idx_set (by simpa using hk)]
    simp only [Option.bind_some, List.set_set, Int.toNat_natCast]
    rw [show b + 1 + 1 = b + 2 by omega, show b + 2 + 1 = b + (3 : Nat) by omega])
    (fun m ys b => by rw [laws_markVrowS_L2, lt_false]; rfl) xs n [] b (by simpa using h) h0 h1 hn
  unfold laws_markVrowSF
  simp only [List.length_nil, List.nil_append] at this
  rw [show laws_markVrowS_L2 n n 0 xs b = _ from this]
  rfl
theorem laws_markIntSF_ok (n : Nat) (xs : List Int) (b : Int) (h : xs.length ≤ 268435456) (hn : xs.length < n) (h0 : 0 ≤ b) (h1 : b + (1 : Nat) * xs.length ≤ 1099511627776) : laws_markIntSF n xs b = some (b + (1 : Nat) * xs.length, markL (fun _ b => b) 1 xs b) := by
  have := mark_loop (L := laws_markIntS_L2 n) (f := fun _ b => b) (c := 1) (fun m k ys b v hk hl hv h0 h1 => by
    rw [laws_markIntS_L2, lt_true hk, idx_at hv]
    simp only [cond_true, Option.bind_some, wrap64 (show -9223372036854775808 ≤ b + 1 by omega) (by omega), wrap_nat (show k ≤ 1099511627776 by omega), Int.toNat_natCast]
    rfl)
    (fun m ys b => by rw [laws_markIntS_L2, lt_false]; rfl) xs n [] b (by simpa using h) h0 h1 hn
  unfold laws_markIntSF
  simp only [List.length_nil, List.nil_append] at this
  rw [show laws_markIntS_L2 n n 0 xs b = _ from this]
  rfl
theorem laws_heldIntSF_ok (n : Nat) (xs : List Int) (b : Int) (h : xs.length ≤ 268435456) (hn : xs.length < n) (h0 : 0 ≤ b) (h1 : b + (1 : Nat) * xs.length ≤ 1099511627776) : laws_heldIntSF n (markL (fun _ b => b) 1 xs b) b = some (b + (1 : Nat) * xs.length) := by
  have := held_loop (L := laws_heldIntS_L2 n) (f := fun _ b => b) (c := 1) (fun m k ys b v hk hl hv h0 h1 => by
    rw [laws_heldIntS_L2, lt_true hk, idx_at hv]
    simp only [cond_true, Option.bind_some, bne_self_eq_false, cond_false, wrap64 (show -9223372036854775808 ≤ b + 1 by omega) (by omega), wrap_nat (show k ≤ 1099511627776 by omega)]
    rfl)
    (fun m ys b => by rw [laws_heldIntS_L2, lt_false]; rfl) xs n [] b (by simpa using h) h0 h1 hn
  unfold laws_heldIntSF
  simp only [List.length_nil, List.nil_append] at this
  rw [show laws_heldIntS_L2 n n (markL (fun _ b => b) 1 xs b) 0 b = _ from this]
  rfl
theorem listWf_sub {α : Type} {wf : α → Prop} {xs ys : List α} (h : listWf wf xs) (hs : ∀ y ∈ ys, y ∈ xs) (hl : ys.length ≤ xs.length) : listWf wf ys := ⟨Nat.le_trans hl h.1, fun y hy => h.2 y (hs y hy)⟩
theorem listWf_set {α : Type} {wf : α → Prop} {xs : List α} {i : Nat} {v : α} (h : listWf wf xs) (hv : wf v) : listWf wf (xs.set i v) := ⟨by rw [List.length_set]; exact h.1, fun y hy => by
  rcases List.mem_or_eq_of_mem_set hy with h1 | h1
  · exact h.2 y h1
  · rw [h1]; exact hv⟩
theorem laws_szFentSF_ok (n : Nat) {xs : List Fent} {b : Int} (h0 : 0 ≤ b) (h1 : b ≤ 1048576) (hl : xs.length ≤ maxLen) : ∃ r, laws_szFentSF n xs b = some r ∧ Lft b xs.length r := sz_step h0 h1 hl
theorem laws_toFentSF_eq (n : Nat) (xs : List Fent) (h : xs.length ≤ 1048576) (hn : xs.length < n) : laws_toFentSF n xs = some xs := by
  unfold laws_toFentSF
  rw [decide_eq_true (by omega : (0 : Int) ≤ (xs.length : Int)), decide_eq_true (by omega : (xs.length : Int) ≤ 268435456)]
  have := copy_loop (L := laws_toFentS_L2 n) (fun m xs i ys => rfl) xs (by omega) n 0 (List.replicate ((xs.length : Int)).toNat (⟨0, 0, 0, 0, false⟩ : Fent)) (by omega) (by omega) (by simp) rfl
  simp only [Bool.and_self, cond_true]
  rw [show (laws_toFentS_L2 n n xs 0 (List.replicate ((xs.length : Int)).toNat (⟨0, 0, 0, 0, false⟩ : Fent))) = _ from this]
  rfl
theorem laws_eqFentF_refl (n : Nat) (v : Fent) : laws_eqFentF n v v = some true := by simp [laws_eqFentF]
theorem laws_eqFentSF_refl (n : Nat) (xs : List Fent) (h : xs.length ≤ 268435456) (hn : xs.length < n) : laws_eqFentSF n xs xs = some true := by
  unfold laws_eqFentSF
  have := eq_loop (L := laws_eqFentS_L2 n) (f := laws_eqFentF n) (fun m xs ys i => rfl) xs (by omega) (fun v _ => laws_eqFentF_refl n v) n 0 (by omega) (by omega)
  simp only [bne_self_eq_false, cond_false]
  rw [show (laws_eqFentS_L2 n n xs xs 0) = _ from this]
  rfl
def Bridge.sz (x : Bridge) : Nat := x.Name.size + x.Ports.length + x.F.length + x.V.sz
theorem laws_szBridgeF_ok (n : Nat) {x : Bridge} {b : Int} (h0 : 0 ≤ b) (h1 : b ≤ 1048576) (hl : Bridge.wf x) : ∃ r, laws_szBridgeF n x b = some r ∧ Lft b x.sz r := by
  have hm : maxLen = 9223372036854775807 := by decide
  have hn := hl.2.1
  unfold laws_szBridgeF
  rw [wrap64 (by omega) (by omega)]
  by_cases h : b - (x.Name.size : Int) < 0
  · rw [decide_eq_true h]; exact ⟨_, rfl, .inl (by decide)⟩
  · rw [decide_eq_false h]
    obtain ⟨r1, e1, k1⟩ := laws_szPtSF_ok n (xs := x.Ports) (b := b - x.Name.size) (by omega) (by omega) hl.2.2.1.1
    simp only [cond_false, e1, Option.bind_some]
    rcases k1.neg with ⟨c1, c2⟩ | ⟨c1, c2, c3⟩
    · rw [c1]; exact ⟨_, rfl, .inl (by decide)⟩
    · rw [c1]
      obtain ⟨r2, e2, k2⟩ := laws_szFentSF_ok n (xs := x.F) c2 (by omega) hl.2.2.2.1.1
      simp only [cond_false, e2, Option.bind_some]
      rcases k2.neg with ⟨d1, d2⟩ | ⟨d1, d2, d3⟩
      · rw [d1]; exact ⟨_, rfl, .inl (by decide)⟩
      · rw [d1]
        obtain ⟨r3, e3, k3⟩ := laws_szVtabF_ok n (x := x.V) d2 (by omega) ⟨hl.2.2.2.2.1, hl.2.2.2.2.2.1, trivial⟩
        simp only [cond_false, e3, Option.bind_some]
        rcases k3.neg with ⟨f1, f2⟩ | ⟨f1, f2, f3⟩
        · rw [f1]; exact ⟨_, rfl, .inl (by decide)⟩
        · rw [f1]; exact ⟨_, rfl, .inr ⟨f2, by unfold Bridge.sz; omega⟩⟩
theorem laws_toBridgeF_eq (n : Nat) (x : Bridge) (h : x.sz ≤ 1048576) (hn : x.sz < n) : laws_toBridgeF n x = some x := by
  unfold Bridge.sz at h hn
  unfold laws_toBridgeF
  rw [laws_toPtSF_eq n x.Ports (by omega) (by omega), laws_toFentSF_eq n x.F (by omega) (by omega), laws_toVtabF_eq n x.V (by omega) (by omega)]
  rfl
theorem laws_eqBridgeF_refl (n : Nat) (x : Bridge) (h : x.sz ≤ 268435456) (hn : x.sz < n) : laws_eqBridgeF n x x = some true := by
  unfold Bridge.sz at h hn
  unfold laws_eqBridgeF
  rw [laws_eqPtSF_refl n x.Ports (by omega) (by omega), laws_eqFentSF_refl n x.F (by omega) (by omega), laws_eqVtabF_refl n x.V (by omega) (by omega)]
  simp
theorem laws_markPtSF_ok (n : Nat) (xs : List Pt) (b : Int) (h : xs.length ≤ 268435456) (hn : xs.length < n) (h0 : 0 ≤ b) (h1 : b + (8 : Nat) * xs.length ≤ 1099511627776) : laws_markPtSF n xs b = some (b + (8 : Nat) * xs.length, markL (fun _ b => (⟨Int.tmod b 3 == 0, b + 1, Int.tmod (b + 2) 3 == 0, ⟨b + 3, b + 4, b + 5, b + 6, b + 7⟩⟩ : Pt)) 8 xs b) := by
  have := mark_loop (L := laws_markPtS_L2 n) (f := fun _ b => (⟨Int.tmod b 3 == 0, b + 1, Int.tmod (b + 2) 3 == 0, ⟨b + 3, b + 4, b + 5, b + 6, b + 7⟩⟩ : Pt)) (c := 8) (fun m k ys b v hk hl hv h0 h1 => by
    rw [laws_markPtS_L2, lt_true hk, idx_at hv]
    simp (disch := omega) only [cond_true, Option.bind_some, List.set_set, idx_set' hk, wrap64, wrap_nat, Int.toNat_natCast, show decide ((3 : Int) ≠ 0) = true from rfl]
    simp only [Int.add_assoc, Int.reduceAdd, show ((8 : Nat) : Int) = 8 from rfl]
    rfl)
    (fun m ys b => by rw [laws_markPtS_L2, lt_false]; rfl) xs n [] b (by simpa using h) h0 h1 hn
  unfold laws_markPtSF
  simp only [List.length_nil, List.nil_append] at this
  rw [show laws_markPtS_L2 n n 0 xs b = _ from this]
  rfl
theorem laws_markFentSF_ok (n : Nat) (xs : List Fent) (b : Int) (h : xs.length ≤ 268435456) (hn : xs.length < n) (h0 : 0 ≤ b) (h1 : b + (5 : Nat) * xs.length ≤ 1099511627776) : laws_markFentSF n xs b = some (b + (5 : Nat) * xs.length, markL (fun _ b => (⟨b, b + 1, b + 2, b + 3, Int.tmod (b + 4) 3 == 0⟩ : Fent)) 5 xs b) := by
  have := mark_loop (L := laws_markFentS_L2 n) (f := fun _ b => (⟨b, b + 1, b + 2, b + 3, Int.tmod (b + 4) 3 == 0⟩ : Fent)) (c := 5) (fun m k ys b v hk hl hv h0 h1 => by
    rw [laws_markFentS_L2, lt_true hk, idx_at hv]
    simp (disch := omega) only [cond_true, Option.bind_some, List.set_set, idx_set' hk, wrap64, wrap_nat, Int.toNat_natCast, show decide ((3 : Int) ≠ 0) = true from rfl]
    simp only [Int.add_assoc, Int.reduceAdd, show ((5 : Nat) : Int) = 5 from rfl]
    rfl)
    (fun m ys b => by rw [laws_markFentS_L2, lt_false]; rfl) xs n [] b (by simpa using h) h0 h1 hn
  unfold laws_markFentSF
  simp only [List.length_nil, List.nil_append] at this
  rw [show laws_markFentS_L2 n n 0 xs b = _ from this]
  rfl
theorem laws_szLinkSF_ok (n : Nat) {xs : List Link} {b : Int} (h0 : 0 ≤ b) (h1 : b ≤ 1048576) (hl : xs.length ≤ maxLen) : ∃ r, laws_szLinkSF n xs b = some r ∧ Lft b xs.length r := sz_step h0 h1 hl
theorem laws_szSaySF_ok (n : Nat) {xs : List Say} {b : Int} (h0 : 0 ≤ b) (h1 : b ≤ 1048576) (hl : xs.length ≤ maxLen) : ∃ r, laws_szSaySF n xs b = some r ∧ Lft b xs.length r := sz_step h0 h1 hl
theorem laws_szBridgeSF_ok (n : Nat) {xs : List Bridge} {b : Int} (h0 : 0 ≤ b) (h1 : b ≤ 1048576) (hn : 1048576 < n) (hl : listWf Bridge.wf xs) : ∃ r, laws_szBridgeSF n xs b = some r ∧ Lft b (xs.length + sumSz Bridge.sz xs) r := by
  obtain ⟨r0, e0, k0⟩ := sz_step h0 h1 hl.1
  unfold laws_szBridgeSF
  have hm : maxLen = 9223372036854775807 := by decide
  have hlen := hl.1
  rw [wrap64 (by omega) (by omega)] at e0 ⊢
  by_cases h : b - (xs.length : Int) < 0
  · rw [decide_eq_true h]; exact ⟨_, rfl, .inl (by decide)⟩
  · rw [decide_eq_false h]
    obtain ⟨o, f1, f2⟩ := sz_loop (L := fun m xs i b => laws_szBridgeS_L2 n m xs i b) (g := fun v b => laws_szBridgeF n v b) (sz := Bridge.sz) (fun m xs i b => rfl) xs (by omega) (fun v hv b h0 h1 => laws_szBridgeF_ok n h0 h1 (hl.2 v hv)) n 0 (b - xs.length) (by omega) (by omega) (by omega) (by omega)
    simp only [cond_false]
    rw [show laws_szBridgeS_L2 n n xs 0 (b - (xs.length : Int)) = _ from f1]
    rcases f2 with rfl | ⟨r, rfl, f3, f4⟩
    · exact ⟨_, rfl, .inl (by decide)⟩
    · exact ⟨_, rfl, .inr ⟨f3, by simp only [List.drop_zero] at f4; omega⟩⟩
def Net.sz (x : Net) : Nat := (x.Bridges.length + sumSz Bridge.sz x.Bridges) + x.Links.length + x.Said.length
theorem laws_szNetF_ok (n : Nat) {x : Net} {b : Int} (h0 : 0 ≤ b) (h1 : b ≤ 1048576) (hn : 1048576 < n) (hl : Net.wf x) : ∃ r, laws_szNetF n x b = some r ∧ Lft b x.sz r := by
  obtain ⟨r1, e1, k1⟩ := laws_szBridgeSF_ok n h0 h1 hn hl.1
  simp only [laws_szNetF, e1, Option.bind_some]
  rcases k1.neg with ⟨c1, c2⟩ | ⟨c1, c2, c3⟩
  · rw [c1]; exact ⟨_, rfl, .inl (by decide)⟩
  · rw [c1]
    obtain ⟨r2, e2, k2⟩ := laws_szLinkSF_ok n (xs := x.Links) c2 (by omega) hl.2.1.1
    simp only [e2, Option.bind_some, cond_false]
    rcases k2.neg with ⟨d1, d2⟩ | ⟨d1, d2, d3⟩
    · rw [d1]; exact ⟨_, rfl, .inl (by decide)⟩
    · rw [d1]
      obtain ⟨r3, e3, k3⟩ := laws_szSaySF_ok n (xs := x.Said) d2 (by omega) hl.2.2.1.1
      simp only [e3, Option.bind_some, cond_false]
      rcases k3.neg with ⟨f1, f2⟩ | ⟨f1, f2, f3⟩
      · rw [f1]; exact ⟨_, rfl, .inl (by decide)⟩
      · rw [f1]; exact ⟨_, rfl, .inr ⟨f2, by unfold Net.sz; omega⟩⟩
theorem laws_toLinkSF_eq (n : Nat) (xs : List Link) (h : xs.length ≤ 1048576) (hn : xs.length < n) : laws_toLinkSF n xs = some xs := by
  unfold laws_toLinkSF
  rw [decide_eq_true (by omega : (0 : Int) ≤ (xs.length : Int)), decide_eq_true (by omega : (xs.length : Int) ≤ 268435456)]
  have := copyF_loop (L := laws_toLinkS_L2 n) (f := laws_toLinkF n) (fun m xs i ys => rfl) xs (by omega) (fun v _ => rfl) n 0 (List.replicate ((xs.length : Int)).toNat (⟨0, 0, 0, 0⟩ : Link)) (by omega) (by omega) (by simp) rfl
  simp only [Bool.and_self, cond_true]
  rw [show (laws_toLinkS_L2 n n xs 0 (List.replicate ((xs.length : Int)).toNat (⟨0, 0, 0, 0⟩ : Link))) = _ from this]
  rfl
theorem laws_toSaySF_eq (n : Nat) (xs : List Say) (h : xs.length ≤ 1048576) (hn : xs.length < n) : laws_toSaySF n xs = some xs := by
  unfold laws_toSaySF
  rw [decide_eq_true (by omega : (0 : Int) ≤ (xs.length : Int)), decide_eq_true (by omega : (xs.length : Int) ≤ 268435456)]
  have := copyF_loop (L := laws_toSayS_L2 n) (f := laws_toSayF n) (fun m xs i ys => rfl) xs (by omega) (fun v _ => rfl) n 0 (List.replicate ((xs.length : Int)).toNat (⟨0, false, (⟨0, 0, 0, 0, 0⟩ : Vec)⟩ : Say)) (by omega) (by omega) (by simp) rfl
  simp only [Bool.and_self, cond_true]
  rw [show (laws_toSayS_L2 n n xs 0 (List.replicate ((xs.length : Int)).toNat (⟨0, false, (⟨0, 0, 0, 0, 0⟩ : Vec)⟩ : Say))) = _ from this]
  rfl
theorem laws_toBridgeSF_eq (n : Nat) (xs : List Bridge) (h : xs.length + sumSz Bridge.sz xs ≤ 1048576) (hn : 1048576 < n) : laws_toBridgeSF n xs = some xs := by
  unfold laws_toBridgeSF
  rw [decide_eq_true (by omega : (0 : Int) ≤ (xs.length : Int)), decide_eq_true (by omega : (xs.length : Int) ≤ 268435456)]
  have := copyF_loop (L := laws_toBridgeS_L2 n) (f := laws_toBridgeF n) (fun m xs i ys => rfl) xs (by omega) (fun v hv => by have := sumSz_mem (sz := Bridge.sz) hv; exact laws_toBridgeF_eq n v (by omega) (by omega)) n 0 (List.replicate ((xs.length : Int)).toNat (⟨0, (⟨#[]⟩ : ByteArray), ([] : List Pt), ([] : List Fent), (⟨([] : List Vrow), ([] : List Int)⟩ : Vtab), 0, 0, 0, 0, 0⟩ : Bridge)) (by omega) (by omega) (by simp) rfl
  simp only [Bool.and_self, cond_true]
  rw [show (laws_toBridgeS_L2 n n xs 0 (List.replicate ((xs.length : Int)).toNat (⟨0, (⟨#[]⟩ : ByteArray), ([] : List Pt), ([] : List Fent), (⟨([] : List Vrow), ([] : List Int)⟩ : Vtab), 0, 0, 0, 0, 0⟩ : Bridge))) = _ from this]
  rfl
theorem laws_toNetF_eq (n : Nat) (x : Net) (h : x.sz ≤ 1048576) (hn : 1048576 < n) : laws_toNetF n x = some x := by
  unfold Net.sz at h
  unfold laws_toNetF
  rw [laws_toBridgeSF_eq n x.Bridges (by omega) (by omega), laws_toLinkSF_eq n x.Links (by omega) (by omega), laws_toSaySF_eq n x.Said (by omega) (by omega)]
  rfl
theorem laws_eqLinkF_refl (n : Nat) (v : Link) : laws_eqLinkF n v v = some true := by simp [laws_eqLinkF]
theorem laws_eqLinkSF_refl (n : Nat) (xs : List Link) (h : xs.length ≤ 268435456) (hn : xs.length < n) : laws_eqLinkSF n xs xs = some true := by
  unfold laws_eqLinkSF
  have := eq_loop (L := laws_eqLinkS_L2 n) (f := laws_eqLinkF n) (fun m xs ys i => rfl) xs (by omega) (fun v _ => laws_eqLinkF_refl n v) n 0 (by omega) (by omega)
  simp only [bne_self_eq_false, cond_false]
  rw [show (laws_eqLinkS_L2 n n xs xs 0) = _ from this]
  rfl
theorem laws_eqSayF_refl (n : Nat) (v : Say) : laws_eqSayF n v v = some true := by simp [laws_eqSayF, laws_eqVecF_refl]
theorem laws_eqSaySF_refl (n : Nat) (xs : List Say) (h : xs.length ≤ 268435456) (hn : xs.length < n) : laws_eqSaySF n xs xs = some true := by
  unfold laws_eqSaySF
  have := eq_loop (L := laws_eqSayS_L2 n) (f := laws_eqSayF n) (fun m xs ys i => rfl) xs (by omega) (fun v _ => laws_eqSayF_refl n v) n 0 (by omega) (by omega)
  simp only [bne_self_eq_false, cond_false]
  rw [show (laws_eqSayS_L2 n n xs xs 0) = _ from this]
  rfl
theorem laws_eqBridgeSF_refl (n : Nat) (xs : List Bridge) (h : xs.length + sumSz Bridge.sz xs ≤ 268435456) (hn : xs.length + sumSz Bridge.sz xs < n) : laws_eqBridgeSF n xs xs = some true := by
  unfold laws_eqBridgeSF
  have := eq_loop (L := laws_eqBridgeS_L2 n) (f := laws_eqBridgeF n) (fun m xs ys i => rfl) xs (by omega) (fun v hv => by have := sumSz_mem (sz := Bridge.sz) hv; exact laws_eqBridgeF_refl n v (by omega) (by omega)) n 0 (by omega) (by omega)
  simp only [bne_self_eq_false, cond_false]
  rw [show (laws_eqBridgeS_L2 n n xs xs 0) = _ from this]
  rfl
theorem laws_eqNetF_refl (n : Nat) (x : Net) (h : x.sz ≤ 268435456) (hn : x.sz < n) : laws_eqNetF n x x = some true := by
  unfold Net.sz at h hn
  unfold laws_eqNetF
  rw [laws_eqBridgeSF_refl n x.Bridges (by omega) (by omega), laws_eqLinkSF_refl n x.Links (by omega) (by omega), laws_eqSaySF_refl n x.Said (by omega) (by omega)]
  rfl
theorem impl_portAtF_ok (n : Nat) (x : Net) (i j : Int) (wx : x.wf) (h : x.Bridges.length ≤ 1048580) : ∃ p b, impl_portAtF n x i j = some (p, b) ∧ spec_l13UpF n x i j = some (b && p.Up) := by
  have hw : IntKind.wrap .i64 ((x.Bridges.length : Int) - 1) = (x.Bridges.length : Int) - 1 := wrap64 (by omega) (by omega)
  unfold impl_portAtF spec_l13UpF
  simp only [impl_inF_eq, spec_l1InF_val, hw, Option.bind_some]
  by_cases hi : 0 ≤ i ∧ i ≤ (x.Bridges.length : Int) - 1
  · obtain ⟨v, hv, hm⟩ := idx_of (xs := x.Bridges) hi.1 (by omega)
    have hl := (wx.1.2 v hm).2.2.1.1
    have hmx : maxLen = 9223372036854775807 := by decide
    have hw2 : IntKind.wrap .i64 ((v.Ports.length : Int) - 1) = (v.Ports.length : Int) - 1 := wrap64 (by omega) (by omega)
    simp only [decide_eq_true hi.1, decide_eq_true hi.2, Bool.and_self, Bool.not_true, cond_false, cond_true, hv, Option.bind_some, hw2]
    by_cases hj : 0 ≤ j ∧ j ≤ (v.Ports.length : Int) - 1
    · obtain ⟨p, hp, _⟩ := idx_of (xs := v.Ports) hj.1 (by omega)
      simp only [decide_eq_true hj.1, decide_eq_true hj.2, Bool.and_self, Bool.not_true, cond_false, cond_true, hp, Option.bind_some]
      exact ⟨p, true, rfl, by simp⟩
    · have hj' : (decide (0 ≤ j) && decide (j ≤ (v.Ports.length : Int) - 1)) = false := by
        simp only [Bool.and_eq_false_iff, decide_eq_false_iff_not]; omega
      simp only [hj', Bool.not_false, cond_true, cond_false]
      exact ⟨_, false, rfl, rfl⟩
  · have hi' : (decide (0 ≤ i) && decide (i ≤ (x.Bridges.length : Int) - 1)) = false := by
      simp only [Bool.and_eq_false_iff, decide_eq_false_iff_not]; omega
    simp only [hi', Bool.not_false, cond_true, cond_false]
    exact ⟨_, false, rfl, rfl⟩
theorem spec_LinkUpF_both (n : Nat) (x : Net) (i : Int) (wx : x.wf) (h : x.sz ≤ 1048580) : ∃ b, spec_LinkUpF n x i = some b ∧ impl_LinkUpF n x i = some b := by
  unfold Net.sz at h
  have hw : IntKind.wrap .i64 ((x.Links.length : Int) - 1) = (x.Links.length : Int) - 1 := wrap64 (by omega) (by omega)
  unfold spec_LinkUpF impl_LinkUpF
  simp only [impl_inF_eq, spec_l1InF_val, hw, Option.bind_some]
  by_cases hi : 0 ≤ i ∧ i ≤ (x.Links.length : Int) - 1
  · obtain ⟨v, hv, hm⟩ := idx_of (xs := x.Links) hi.1 (by omega)
    obtain ⟨p, b, h1, h2⟩ := impl_portAtF_ok n x v.A v.P wx (by omega)
    obtain ⟨p', b', h1', h2'⟩ := impl_portAtF_ok n x v.B v.Q wx (by omega)
    simp only [decide_eq_true hi.1, decide_eq_true hi.2, Bool.and_self, Bool.not_true, cond_false, hv, Option.bind_some, h1, h2, h1', h2']
    cases b <;> cases b' <;> cases p.Up <;> cases p'.Up <;> exact ⟨_, rfl, rfl⟩
  · have hi' : (decide (0 ≤ i) && decide (i ≤ (x.Links.length : Int) - 1)) = false := by
      simp only [Bool.and_eq_false_iff, decide_eq_false_iff_not]; omega
    simp only [hi', Bool.not_false, cond_true]
    exact ⟨_, rfl, rfl⟩
/-- the bit of a port -/
def bitV (a : Int) (i : Nat) : Bool := (IntKind.wrap .i64 (BitVec.ofInt (IntKind.bits .i64) (Int.fdiv a (2 ^ min ((i : Int)).toNat (IntKind.bits .i64))) &&& BitVec.ofInt (IntKind.bits .i64) 1).toNat == 1)
theorem bitV_nine : ∀ a < 64, bitV ((a : Nat) : Int) 9 = false := by decide +kernel
theorem spec_l13UpF_true (n : Nat) (x : Net) (i j : Int) (h : spec_l13UpF n x i j = some true) : ∃ v p, idx x.Bridges i = some v ∧ idx v.Ports j = some p ∧ p.Up = true ∧ i ≤ (IntKind.wrap .i64 ((x.Bridges.length : Int) - 1)) ∧ j ≤ (IntKind.wrap .i64 ((v.Ports.length : Int) - 1)) ∧ 0 ≤ i ∧ 0 ≤ j := by
  unfold spec_l13UpF at h
  simp only [spec_l1InF_val, Option.bind_some] at h
  cases hc : (decide (0 ≤ i) && decide (i ≤ IntKind.wrap .i64 ((x.Bridges.length : Int) - 1))) with
  | false => rw [hc] at h; cases h
  | true =>
    simp only [hc, cond_true] at h
    obtain ⟨v, hv, h⟩ := bind_some h
    cases hd : (decide (0 ≤ j) && decide (j ≤ IntKind.wrap .i64 ((v.Ports.length : Int) - 1))) with
    | false => rw [hd] at h; cases h
    | true =>
      simp only [hd, cond_true, hv, Option.bind_some] at h
      obtain ⟨p, hp, h⟩ := bind_some h
      simp only [Bool.and_eq_true, decide_eq_true_eq] at hc hd
      exact ⟨v, p, hv, hp, Option.some.inj h, hc.2, hd.2, hc.1, hd.1⟩
theorem spec_LinkUpF_true (n : Nat) (x : Net) (k : Int) (h : spec_LinkUpF n x k = some true) : ∃ l a b p q, idx x.Links k = some l ∧ idx x.Bridges l.A = some a ∧ idx a.Ports l.P = some p ∧ p.Up = true ∧ idx x.Bridges l.B = some b ∧ idx b.Ports l.Q = some q ∧ q.Up = true := by
  unfold spec_LinkUpF at h
  simp only [spec_l1InF_val, Option.bind_some] at h
  cases hc : (decide (0 ≤ k) && decide (k ≤ IntKind.wrap .i64 ((x.Links.length : Int) - 1))) with
  | false => rw [hc] at h; cases h
  | true =>
    simp only [hc, Bool.not_true, cond_false] at h
    obtain ⟨l, hl, h⟩ := bind_some h
    obtain ⟨u, hu, h⟩ := bind_some h
    cases u with
    | false => cases h
    | true =>
      simp only [cond_true] at h
      obtain ⟨u', hu', h⟩ := bind_some h
      have : u' = true := Option.some.inj h
      subst this
      obtain ⟨a, p, a1, a2, a3, _⟩ := spec_l13UpF_true n x _ _ hu
      obtain ⟨b, q, b1, b2, b3, _⟩ := spec_l13UpF_true n x _ _ hu'
      exact ⟨l, a, b, p, q, hl, a1, a2, a3, b1, b2, b3⟩
theorem ports_le {x : Net} {a : Bridge} (h : x.sz ≤ 1048576) (ha : a ∈ x.Bridges) : a.sz ≤ x.sz := by
  have := sumSz_mem (sz := Bridge.sz) ha
  unfold Net.sz
  omega
theorem idx_lt {α : Type} {xs : List α} {i : Int} {v : α} (h : idx xs i = some v) : 0 ≤ i ∧ i < xs.length := by
  obtain ⟨g1, g2⟩ := idx_get h
  have := (List.getElem?_eq_some_iff.1 g2).1
  omega
theorem impl_portAtF_some (n : Nat) (x : Net) (wx : x.wf) (h : x.Bridges.length ≤ 1048580) {i j : Int} {a : Bridge} {p : Pt} (ha : idx x.Bridges i = some a) (hp : idx a.Ports j = some p) : impl_portAtF n x i j = some (p, true) := by
  have h1 := idx_lt ha
  have h2 := idx_lt hp
  have hl := (wx.1.2 a (idx_mem ha)).2.2.1.1
  have hmx : maxLen = 9223372036854775807 := by decide
  unfold impl_portAtF
  simp only [impl_inF_eq, spec_l1InF_val, Option.bind_some, wrap64 (show -9223372036854775808 ≤ (x.Bridges.length : Int) - 1 by omega) (by omega), decide_eq_true (show (0 : Int) ≤ i by omega), decide_eq_true (show i ≤ (x.Bridges.length : Int) - 1 by omega), Bool.and_self, Bool.not_true, cond_false, ha, wrap64 (show -9223372036854775808 ≤ (a.Ports.length : Int) - 1 by omega) (by omega), decide_eq_true (show (0 : Int) ≤ j by omega), decide_eq_true (show j ≤ (a.Ports.length : Int) - 1 by omega), hp]
theorem bifE {c : Bool} {x : Option Bool} (h : (bif c then x else some false) = some true) : c = true ∧ x = some true := by
  cases c with
  | true => exact ⟨rfl, h⟩
  | false => cases h
theorem scan_inv {L : Nat → Int → Option (Unit ⊕ Bool)} {N : Nat} {P : Nat → Prop} (h0 : ∀ k, L 0 k = none) (hs : ∀ m (k : Nat) o, k < N → L (m + 1) (k : Int) = some o → o = .inr false ∨ (P k ∧ L m ((k + 1 : Nat) : Int) = some o)) (he : ∀ m o, L (m + 1) (N : Int) = some o → o = .inl ()) :
    ∀ (m k : Nat) o, k ≤ N → L m (k : Int) = some o → o = .inr false ∨ (o = .inl () ∧ ∀ j, k ≤ j → j < N → P j)
  | 0, k, o, _, h => by rw [h0] at h; cases h
  | m + 1, k, o, hk, h => by
    by_cases hlt : k < N
    · rcases hs m k o hlt h with e | ⟨hp, h⟩
      · exact .inl e
      · rcases scan_inv h0 hs he m (k + 1) o (by omega) h with e | ⟨e, h2⟩
        · exact .inl e
        · refine .inr ⟨e, fun j hj hj2 => ?_⟩
          by_cases hjk : j = k
          · subst hjk; exact hp
          · exact h2 j (by omega) hj2
    · have : k = N := by omega
      subst this
      exact .inr ⟨he m o h, fun j hj hj2 => by omega⟩
theorem filt_loop {α β : Type} {p : α → Bool} {L : Nat → Int → List α → Option (List α ⊕ β)} (xs : List α) (hx : xs.length ≤ 134217728)
    (h : ∀ m (k : Nat) (acc : List α) (hk : k < xs.length), acc.length ≤ k → L (m + 1) k acc = L m ((k + 1 : Nat) : Int) (acc ++ if p xs[k] then [xs[k]] else [])) (he : ∀ m (acc : List α), L (m + 1) (xs.length : Int) acc = some (.inl acc)) :
    ∀ (m k : Nat) (acc : List α), k ≤ xs.length → xs.length < m + k → acc.length ≤ k → L m k acc = some (.inl (acc ++ (xs.drop k).filter p))
  | 0, k, acc, h1, h2, h3 => by omega
  | m + 1, k, acc, h1, h2, h3 => by
    by_cases hk : k < xs.length
    · rw [h m k acc hk h3, filt_loop xs hx h he m (k + 1) _ (by omega) (by omega) (by split <;> simp <;> omega), List.drop_eq_getElem_cons hk, List.filter_cons, List.append_assoc]
      split <;> simp
    · have : k = xs.length := by omega
      subst this
      rw [he m acc]
      simp
theorem laws_toVecF_eq (n : Nat) (v : Vec) : laws_toVecF n v = some v := rfl
theorem markV_loop {α β : Type} {L : Nat → Int → List α → Int → Option ((List α × Int) ⊕ β)} (w : α → Nat) (good : α → Prop)
    (h : ∀ (m k : Nat) (ys : List α) (b : Int) (v : α), k < ys.length → ys.length ≤ 268435456 → ys[k]? = some v → good v → 0 < b → b ≤ 274877906944 → ∃ v' c, b ≤ c ∧ c ≤ b + 16 * w v ∧ L (m + 1) k ys b = L m ((k + 1 : Nat) : Int) (ys.set k v') c)
    (hend : ∀ m (ys : List α) b, L (m + 1) (ys.length : Int) ys b = some (.inl (ys, b))) : ∀ (post : List α) (m : Nat) (pre : List α) (b : Int), (pre ++ post).length ≤ 268435456 → (∀ v ∈ post, good v) → 0 < b → b + 16 * sumSz w post ≤ 274877906944 → post.length < m →
      ∃ (zs : List α) (c : Int), b ≤ c ∧ c ≤ b + 16 * sumSz w post ∧ L m (pre.length : Int) (pre ++ post) b = some (.inl (zs, c))
  | [], m, pre, b, h1, h2, h3, h4, h5 => by
    obtain ⟨m, rfl⟩ : ∃ m', m = m' + 1 := ⟨m - 1, by have : 0 < m := h5; omega⟩
    refine ⟨pre, b, by omega, by simp only [sumSz]; omega, ?_⟩
    rw [List.append_nil, hend m pre b]
  | v :: post, m, pre, b, h1, h2, h3, h4, h5 => by
    obtain ⟨m, rfl⟩ : ∃ m', m = m' + 1 := ⟨m - 1, by simp only [List.length_cons] at h5; omega⟩
    simp only [sumSz] at h4
    obtain ⟨v', c, k1, k2, k3⟩ := h m pre.length (pre ++ v :: post) b v (by simp) h1 (by simp) (h2 v (by simp)) h3 (by omega)
    rw [set_append_len] at k3
    obtain ⟨zs, c', e1, e2, e3⟩ := markV_loop w good h hend post m (pre ++ [v']) c (by simpa using h1) (fun u hu => h2 u (by simp [hu])) (by omega) (by omega) (by simp only [List.length_cons] at h5; omega)
    refine ⟨zs, c', by omega, by simp only [sumSz]; omega, ?_⟩
    rw [k3]
    simpa using e3
theorem strOf_one (z : Int) : (strOf [z]).size = 1 := rfl
theorem laws_markText_L2_ok (n : Nat) : ∀ (d m : Nat) (y1 : ByteArray) (y2 : Int), 0 ≤ y2 → y2 < 10 ^ d → d < m → y1.size + d ≤ 1000 → y2 ≤ 1099511627776 → ∃ t, laws_markText_L2 n m y1 y2 = some (.inl t) ∧ t.size ≤ 1000
  | d, 0, y1, y2, h0, h1, h2, h3, h4 => by omega
  | d, m + 1, y1, y2, h0, h1, h2, h3, h4 => by
    rw [laws_markText_L2]
    by_cases hp : y2 > 0
    · cases d with
      | zero => simp at h1; omega
      | succ d =>
        have hq : Int.tdiv y2 10 = y2 / 10 := Int.tdiv_eq_ediv_of_nonneg h0
        have hw : IntKind.wrap .i64 (y2 / 10) = y2 / 10 := wrap64 (by omega) (by omega)
        rw [decide_eq_true hp, cond_true, show decide ((10 : Int) ≠ 0) = true from rfl, cond_true, cond_true, strOf_one, decide_eq_true (by omega), cond_true, hq, hw]
        refine laws_markText_L2_ok n d m _ _ (by omega) ?_ (by omega) ?_ (by omega)
        · have : (10 : Int) ^ (d + 1) = 10 ^ d * 10 := Int.pow_succ ..
          omega
        · rw [ByteArray.size_append, strOf_one]; omega
    · rw [decide_eq_false hp]
      exact ⟨y1, rfl, by omega⟩
theorem laws_markTextF_ok (n : Nat) (hn : 1000 < n) (b : Int) (h0 : 0 < b) (h1 : b ≤ 1099511627776) : ∃ t, laws_markTextF n b = some t := by
  unfold laws_markTextF
  rw [decide_eq_false (by omega)]
  obtain ⟨t, ht, hs⟩ := laws_markText_L2_ok n 20 n ⟨#[]⟩ b (by omega) (by omega) (by omega) (by decide) h1
  rw [ht]
  simp only [cond_false, Option.bind_some, laws_markText_J1]
  have : (⟨#[109]⟩ : ByteArray).size = 1 := rfl
  rw [this, decide_eq_true (by omega)]
  exact ⟨_, rfl⟩
theorem laws_markLinkSF_ok (n : Nat) (xs : List Link) (b : Int) (h : xs.length ≤ 268435456) (hn : xs.length < n) (h0 : 0 ≤ b) (h1 : b + (4 : Nat) * xs.length ≤ 1099511627776) : laws_markLinkSF n xs b = some (b + (4 : Nat) * xs.length, markL (fun _ b => (⟨b, b + 1, b + 2, b + 3⟩ : Link)) 4 xs b) := by
  have := mark_loop (L := laws_markLinkS_L2 n) (f := fun _ b => (⟨b, b + 1, b + 2, b + 3⟩ : Link)) (c := 4) (fun m k ys b v hk hl hv h0 h1 => by
    rw [laws_markLinkS_L2, lt_true hk, idx_at hv]
    simp (disch := omega) only [cond_true, Option.bind_some, List.set_set, idx_set' hk, wrap64, wrap_nat, Int.toNat_natCast]
    simp only [Int.add_assoc, Int.reduceAdd, show ((4 : Nat) : Int) = 4 from rfl]
    rfl)
    (fun m ys b => by rw [laws_markLinkS_L2, lt_false]; rfl) xs n [] b (by simpa using h) h0 h1 hn
  unfold laws_markLinkSF
  simp only [List.length_nil, List.nil_append] at this
  rw [show laws_markLinkS_L2 n n 0 xs b = _ from this]
  rfl
theorem laws_markSaySF_ok (n : Nat) (xs : List Say) (b : Int) (h : xs.length ≤ 268435456) (hn : xs.length < n) (h0 : 0 ≤ b) (h1 : b + (7 : Nat) * xs.length ≤ 1099511627776) : laws_markSaySF n xs b = some (b + (7 : Nat) * xs.length, markL (fun _ b => (⟨b, Int.tmod (b + 1) 3 == 0, ⟨b + 2, b + 3, b + 4, b + 5, b + 6⟩⟩ : Say)) 7 xs b) := by
  have := mark_loop (L := laws_markSayS_L2 n) (f := fun _ b => (⟨b, Int.tmod (b + 1) 3 == 0, ⟨b + 2, b + 3, b + 4, b + 5, b + 6⟩⟩ : Say)) (c := 7) (fun m k ys b v hk hl hv h0 h1 => by
    rw [laws_markSayS_L2, lt_true hk, idx_at hv]
    simp (disch := omega) only [cond_true, Option.bind_some, List.set_set, idx_set' hk, wrap64, wrap_nat, Int.toNat_natCast, show decide ((3 : Int) ≠ 0) = true from rfl]
    simp only [Int.add_assoc, Int.reduceAdd, show ((7 : Nat) : Int) = 7 from rfl]
    rfl)
    (fun m ys b => by rw [laws_markSayS_L2, lt_false]; rfl) xs n [] b (by simpa using h) h0 h1 hn
  unfold laws_markSaySF
  simp only [List.length_nil, List.nil_append] at this
  rw [show laws_markSayS_L2 n n 0 xs b = _ from this]
  rfl
theorem laws_markBridgeSF_ok (n : Nat) (xs : List Bridge) (b : Int) (h : xs.length + sumSz Bridge.sz xs ≤ 1048576) (hn : 1048577 < n) (h0 : 0 < b) (h1 : b ≤ 1048576) : ∃ (zs : List Bridge) (c : Int), b ≤ c ∧ c ≤ b + 16 * sumSz (fun v => v.sz + 1) xs ∧ laws_markBridgeSF n xs b = some (c, zs) := by
  have hsum : ∀ ys : List Bridge, sumSz (fun v => v.sz + 1) ys = ys.length + sumSz Bridge.sz ys := fun ys => by
    induction ys with
    | nil => rfl
    | cons y ys ih => simp only [sumSz, List.length_cons, ih]; omega
  obtain ⟨zs, c, e1, e2, e3⟩ := markV_loop (L := laws_markBridgeS_L2 n) (fun v : Bridge => v.sz + 1) (fun v => v.sz ≤ 1048576) (fun m k ys b v hk hl hv hg h0 h1 => by
    have hs : v.Name.size + v.Ports.length + v.F.length + v.V.sz = v.sz := rfl
    have hs2 : v.V.Rows.length + v.V.Pvid.length = v.V.sz := rfl
    obtain ⟨t, ht⟩ := laws_markTextF_ok n (by omega) (b + 1) (by omega) (by omega)
    have hP := laws_markPtSF_ok n v.Ports (b + 1 + 1) (by omega) (by omega) (by omega) (by omega)
    have hF := laws_markFentSF_ok n v.F (b + 1 + 1 + (8 : Nat) * v.Ports.length) (by omega) (by omega) (by omega) (by omega)
    have hR := laws_markVrowSF_ok n v.V.Rows (b + 1 + 1 + (8 : Nat) * v.Ports.length + (5 : Nat) * v.F.length) (by omega) (by omega) (by omega) (by omega)
    have hQ := laws_markIntSF_ok n v.V.Pvid (b + 1 + 1 + (8 : Nat) * v.Ports.length + (5 : Nat) * v.F.length + (3 : Nat) * v.V.Rows.length) (by omega) (by omega) (by omega) (by omega)
    rw [laws_markBridgeS_L2, lt_true hk, idx_at hv]
    simp (disch := omega) only [cond_true, Option.bind_some, List.set_set, idx_set' hk, wrap64, wrap_nat, Int.toNat_natCast, ht, hP, hF, hR, hQ]
    exact ⟨_, _, by omega, by omega, rfl⟩)
    (fun m ys b => by rw [laws_markBridgeS_L2, lt_false]; rfl) xs n [] b (by simp; omega) (fun v hv => by have := sumSz_mem (sz := Bridge.sz) hv; omega) h0 (by rw [hsum]; omega) (by omega)
  refine ⟨zs, c, e1, e2, ?_⟩
  unfold laws_markBridgeSF
  simp only [List.length_nil, List.nil_append] at e3
  rw [show laws_markBridgeS_L2 n n 0 xs b = _ from e3]
  rfl
theorem laws_markNetF_ok (n : Nat) (x : Net) (h : x.sz ≤ 1048576) (hn : 1048577 < n) : ∃ (y : Net) (c : Int), 1 ≤ c ∧ laws_markNetF n x 1 = some (c, y) := by
  have hs : (x.Bridges.length + sumSz Bridge.sz x.Bridges) + x.Links.length + x.Said.length = x.sz := rfl
  have hsum : ∀ ys : List Bridge, sumSz (fun v => v.sz + 1) ys = ys.length + sumSz Bridge.sz ys := fun ys => by
    induction ys with
    | nil => rfl
    | cons y ys ih => simp only [sumSz, List.length_cons, ih]; omega
  obtain ⟨zs, c, e1, e2, e3⟩ := laws_markBridgeSF_ok n x.Bridges 1 (by omega) hn (by omega) (by omega)
  have := hsum x.Bridges
  unfold laws_markNetF
  rw [e3, Option.bind_some, laws_markLinkSF_ok n x.Links _ (by omega) (by omega) (by omega) (by omega), Option.bind_some, laws_markSaySF_ok n x.Said _ (by omega) (by omega) (by simp only; omega) (by simp only; omega)]
  exact ⟨_, _, by simp only; omega, rfl⟩
theorem spec_UpLinks_L2_both (n : Nat) (x : Net) (wx : x.wf) (h : x.sz ≤ 1048576) (hn : 1048577 < n) : ∀ (m k : Nat) (acc : List Int), k ≤ x.Links.length → x.Links.length < m + k → acc.length ≤ k → ∃ zs, spec_UpLinks_L2 n m x k acc = some (.inl zs) ∧ impl_UpLinks_L2 n m x k acc = some (.inl zs) ∧ zs.length ≤ x.Links.length ∧ ∀ z ∈ zs, z ∈ acc ∨ ∃ j : Nat, j < x.Links.length ∧ z = j ∧ spec_LinkUpF n x z = some true
  | 0, k, acc, h1, h2, h3 => by omega
  | m + 1, k, acc, h1, h2, h3 => by
    have hs : (x.Bridges.length + sumSz Bridge.sz x.Bridges) + x.Links.length + x.Said.length = x.sz := rfl
    rw [spec_UpLinks_L2, impl_UpLinks_L2]
    by_cases hk : k < x.Links.length
    · obtain ⟨b, e1, e2⟩ := spec_LinkUpF_both n x k wx (by omega)
      rw [lt_true hk, cond_true, cond_true, e1, e2, Option.bind_some, Option.bind_some, wrap_nat (by omega : k ≤ 1099511627776)]
      cases b with
      | true =>
        rw [cond_true, cond_true, decide_eq_true (by simp; omega), cond_true, cond_true]
        obtain ⟨zs, f1, f2, f3, f4⟩ := spec_UpLinks_L2_both n x wx h hn m (k + 1) (acc ++ [(k : Int)]) (by omega) (by omega) (by simp; omega)
        refine ⟨zs, f1, f2, f3, fun z hz => ?_⟩
        rcases f4 z hz with hz | hz
        · rcases List.mem_append.1 hz with hz | hz
          · exact .inl hz
          · obtain rfl := List.mem_singleton.1 hz
            exact .inr ⟨k, hk, rfl, e1⟩
        · exact .inr hz
      | false => exact spec_UpLinks_L2_both n x wx h hn m (k + 1) acc (by omega) (by omega) (by omega)
    · have he : k = x.Links.length := by omega
      subst he
      rw [lt_false]
      exact ⟨acc, rfl, rfl, by omega, fun z hz => .inl hz⟩
theorem spec_UpLinksF_both (n : Nat) (x : Net) (wx : x.wf) (h : x.sz ≤ 1048576) (hn : 1048577 < n) : ∃ zs, spec_UpLinksF n x = some zs ∧ impl_UpLinksF n x = some zs ∧ zs.length ≤ x.Links.length ∧ ∀ z ∈ zs, ∃ j : Nat, j < x.Links.length ∧ z = j ∧ spec_LinkUpF n x z = some true := by
  have hs : (x.Bridges.length + sumSz Bridge.sz x.Bridges) + x.Links.length + x.Said.length = x.sz := rfl
  obtain ⟨zs, e1, e2, e3, e4⟩ := spec_UpLinks_L2_both n x wx h hn n 0 [] (by omega) (by omega) (by simp)
  refine ⟨zs, ?_, ?_, e3, fun z hz => (e4 z hz).resolve_left (by simp)⟩
  · unfold spec_UpLinksF; rw [show spec_UpLinks_L2 n n x 0 [] = _ from e1]; rfl
  · unfold impl_UpLinksF; rw [show impl_UpLinks_L2 n n x 0 [] = _ from e2]; rfl
theorem laws_FnExactUpLinks_plain (x0 : Net) (w0 : x0.wf) : ∃ n, laws_FnExactUpLinksF n x0 = some true := by
  refine ⟨1048580, ?_⟩
  obtain ⟨r, e, k⟩ := laws_szNetF_ok 1048580 (x := x0) (b := 1048576) (by decide) (by decide) (by decide) w0
  simp only [laws_FnExactUpLinksF, e, Option.bind_some]
  rcases k.neg with ⟨c1, _⟩ | ⟨c1, c2, c3⟩
  · rw [c1]; rfl
  · have hs : (x0.Bridges.length + sumSz Bridge.sz x0.Bridges) + x0.Links.length + x0.Said.length = x0.sz := rfl
    obtain ⟨zs, h1, h2, h3, _⟩ := spec_UpLinksF_both 1048580 x0 w0 (by omega) (by omega)
    obtain ⟨y, c, k1, k2⟩ := laws_markNetF_ok 1048580 x0 (by omega) (by omega)
    have m1 := laws_markIntSF_ok 1048580 zs 1 (by omega) (by omega) (by omega) (by omega)
    have m2 := laws_heldIntSF_ok 1048580 zs 1 (by omega) (by omega) (by omega) (by omega)
    simp only [c1, cond_false, laws_toNetF_eq 1048580 x0 (by omega) (by omega), Option.bind_some, h1, h2, laws_eqIntSF_refl 1048580 zs (by omega) (by omega), laws_eqNetF_refl 1048580 x0 (by omega) (by omega), k2, m1, m2, decide_eq_false (show ¬ c < 0 by omega), decide_eq_false (show ¬ (1 + ((1 : Nat) : Int) * (zs.length : Int) < 0) by omega), bne_self_eq_false, Bool.not_true]
end Go.Proofs.Ytjdedhklbdkeoaa.Tw
