/- What the functions answer, on plain data. -/
import Derived.Test.YtgpcfaiacggoiaaTwBN
import Derived.Test.YtgpcfaiacggoiaaTlPlain
set_option linter.unusedVariables false
set_option linter.unusedSimpArgs false
set_option maxRecDepth 100000
set_option maxHeartbeats 1000000
namespace Go.Proofs.Ytgpcfaiacggoiaa.Tw
open Go Go.TL Go.Proofs
def Vtab.sz (x : Vtab) : Nat := x.Rows.length + x.Pvid.length
theorem laws_eqIntSF_refl (n : Nat) (xs : List Int) (h : xs.length ≤ 268435456) (hn : xs.length < n) : laws_eqIntSF n xs xs = some true := by
  unfold laws_eqIntSF
  have := eq_loop (L := laws_eqIntS_L2 n) (f := fun a b => some (a == b)) (fun m xs ys i => rfl) xs (by omega) (fun v _ => by simp) n 0 (by omega) (by omega)
  simp only [bne_self_eq_false, cond_false]
  rw [show (laws_eqIntS_L2 n n xs xs 0) = _ from this]
  rfl
theorem laws_eqVrowF_refl (n : Nat) (v : Vrow) : laws_eqVrowF n v v = some true := by simp [laws_eqVrowF]
theorem laws_eqVrowSF_refl (n : Nat) (xs : List Vrow) (h : xs.length ≤ 268435456) (hn : xs.length < n) : laws_eqVrowSF n xs xs = some true := by
  unfold laws_eqVrowSF
  have := eq_loop (L := laws_eqVrowS_L2 n) (f := laws_eqVrowF n) (fun m xs ys i => rfl) xs (by omega) (fun v _ => laws_eqVrowF_refl n v) n 0 (by omega) (by omega)
  simp only [bne_self_eq_false, cond_false]
  rw [show (laws_eqVrowS_L2 n n xs xs 0) = _ from this]
  rfl
theorem laws_eqVtabF_refl (n : Nat) (x : Vtab) (h : x.sz ≤ 268435456) (hn : x.sz < n) : laws_eqVtabF n x x = some true := by
  unfold Vtab.sz at h hn
  unfold laws_eqVtabF
  rw [laws_eqVrowSF_refl n x.Rows (by omega) (by omega), laws_eqIntSF_refl n x.Pvid (by omega) (by omega)]
  rfl
theorem laws_eqVecF_refl (n : Nat) (v : Vec) : laws_eqVecF n v v = some true := by simp [laws_eqVecF]
theorem laws_eqPtF_refl (n : Nat) (v : Pt) : laws_eqPtF n v v = some true := by simp [laws_eqPtF, laws_eqVecF_refl]
theorem laws_eqPtSF_refl (n : Nat) (xs : List Pt) (h : xs.length ≤ 268435456) (hn : xs.length < n) : laws_eqPtSF n xs xs = some true := by
  unfold laws_eqPtSF
  have := eq_loop (L := laws_eqPtS_L2 n) (f := laws_eqPtF n) (fun m xs ys i => rfl) xs (by omega) (fun v _ => laws_eqPtF_refl n v) n 0 (by omega) (by omega)
  simp only [bne_self_eq_false, cond_false]
  rw [show (laws_eqPtS_L2 n n xs xs 0) = _ from this]
  rfl
theorem laws_eqVecF_same (n : Nat) (v u : Vec) (h : v = u) : laws_eqVecF n v u = some true := by rw [h]; exact laws_eqVecF_refl n u
theorem impl_inF_eq (n : Nat) : impl_inF n = spec_l1InF n := rfl
theorem spec_l1InF_val (n : Nat) (a b c : Int) : spec_l1InF n a b c = some (decide (b ≤ a) && decide (a ≤ c)) := by
  unfold spec_l1InF
  by_cases h : a ≥ b
  · rw [decide_eq_true h]; rfl
  · rw [decide_eq_false h]; rfl
theorem laws_markVrowSF_ok (n : Nat) (xs : List Vrow) (b : Int) (h : xs.length ≤ 268435456) (hn : xs.length < n) (h0 : 0 ≤ b) (h1 : b + (3 : Nat) * xs.length ≤ 1099511627776) : laws_markVrowSF n xs b = some (b + (3 : Nat) * xs.length, markL (fun _ b => (⟨b, b + 1, b + 2⟩ : Vrow)) 3 xs b) := by
  have := mark_loop (L := laws_markVrowS_L2 n) (f := fun _ b => (⟨b, b + 1, b + 2⟩ : Vrow)) (c := 3) (fun m k ys b v hk hl hv h0 h1 => by
    rw [laws_markVrowS_L2, lt_true hk, idx_at hv]
    simp only [cond_true, Option.bind_some, idx_set hk, wrap64 (show -9223372036854775808 ≤ b + 1 by omega) (by omega), wrap64 (show -9223372036854775808 ≤ b + 1 + 1 by omega) (by omega), wrap64 (show -9223372036854775808 ≤ b + 1 + 1 + 1 by omega) (by omega), wrap_nat (show k ≤ 1099511627776 by omega)]
    rw [idx_set (by simpa using hk)]
    simp only [Option.bind_some, List.set_set, Int.toNat_natCast]
    rw [show b + 1 + 1 = b + 2 by omega, show b + 2 + 1 = b + (3 : Nat) by omega])
    (fun m ys b => by rw [laws_markVrowS_L2, lt_false]; rfl) xs n [] b (by simpa using h) h0 h1 hn
  unfold laws_markVrowSF
  simp only [List.length_nil, List.nil_append] at this
  rw [show laws_markVrowS_L2 n n 0 xs b = _ from this]
  rfl
theorem laws_heldVrowSF_ok (n : Nat) (xs : List Vrow) (b : Int) (h : xs.length ≤ 268435456) (hn : xs.length < n) (h0 : 0 ≤ b) (h1 : b + (3 : Nat) * xs.length ≤ 1099511627776) : laws_heldVrowSF n (markL (fun _ b => (⟨b, b + 1, b + 2⟩ : Vrow)) 3 xs b) b = some (b + (3 : Nat) * xs.length) := by
  have := held_loop (L := laws_heldVrowS_L2 n) (f := fun _ b => (⟨b, b + 1, b + 2⟩ : Vrow)) (c := 3) (fun m k ys b v hk hl hv h0 h1 => by
    rw [laws_heldVrowS_L2, lt_true hk, idx_at hv]
    simp only [cond_true, Option.bind_some, bne_self_eq_false, cond_false, wrap64 (show -9223372036854775808 ≤ b + 1 by omega) (by omega), wrap64 (show -9223372036854775808 ≤ b + 1 + 1 by omega) (by omega), wrap64 (show -9223372036854775808 ≤ b + 1 + 1 + 1 by omega) (by omega), wrap_nat (show k ≤ 1099511627776 by omega)]
    rw [show b + 1 + 1 = b + 2 by omega, show b + 2 + 1 = b + (3 : Nat) by omega]
    simp only [bne_self_eq_false, cond_false])
    (fun m ys b => by rw [laws_heldVrowS_L2, lt_false]; rfl) xs n [] b (by simpa using h) h0 h1 hn
  unfold laws_heldVrowSF
  simp only [List.length_nil, List.nil_append] at this
  rw [show laws_heldVrowS_L2 n n (markL (fun _ b => (⟨b, b + 1, b + 2⟩ : Vrow)) 3 xs b) 0 b = _ from this]
  rfl
theorem laws_markIntSF_ok (n : Nat) (xs : List Int) (b : Int) (h : xs.length ≤ 268435456) (hn : xs.length < n) (h0 : 0 ≤ b) (h1 : b + (1 : Nat) * xs.length ≤ 1099511627776) : laws_markIntSF n xs b = some (b + (1 : Nat) * xs.length, markL (fun _ b => b) 1 xs b) := by
  have := mark_loop (L := laws_markIntS_L2 n) (f := fun _ b => b) (c := 1) (fun m k ys b v hk hl hv h0 h1 => by
    rw [laws_markIntS_L2, lt_true hk, idx_at hv]
    simp only [cond_true, Option.bind_some, wrap64 (show -9223372036854775808 ≤ b + 1 by omega) (by omega), wrap_nat (show k ≤ 1099511627776 by omega), Int.toNat_natCast]
    rfl)
    (fun m ys b => by rw [laws_markIntS_L2, lt_false]; rfl) xs n [] b (by simpa using h) h0 h1 hn
  unfold laws_markIntSF
  simp only [List.length_nil, List.nil_append] at this
  rw [show laws_markIntS_L2 n n 0 xs b = _ from this]
  rfl
theorem laws_heldIntSF_ok (n : Nat) (xs : List Int) (b : Int) (h : xs.length ≤ 268435456) (hn : xs.length < n) (h0 : 0 ≤ b) (h1 : b + (1 : Nat) * xs.length ≤ 1099511627776) : laws_heldIntSF n (markL (fun _ b => b) 1 xs b) b = some (b + (1 : Nat) * xs.length) := by
  have := held_loop (L := laws_heldIntS_L2 n) (f := fun _ b => b) (c := 1) (fun m k ys b v hk hl hv h0 h1 => by
    rw [laws_heldIntS_L2, lt_true hk, idx_at hv]
    simp only [cond_true, Option.bind_some, bne_self_eq_false, cond_false, wrap64 (show -9223372036854775808 ≤ b + 1 by omega) (by omega), wrap_nat (show k ≤ 1099511627776 by omega)]
    rfl)
    (fun m ys b => by rw [laws_heldIntS_L2, lt_false]; rfl) xs n [] b (by simpa using h) h0 h1 hn
  unfold laws_heldIntSF
  simp only [List.length_nil, List.nil_append] at this
  rw [show laws_heldIntS_L2 n n (markL (fun _ b => b) 1 xs b) 0 b = _ from this]
  rfl
theorem laws_markVtabF_ok (n : Nat) (x : Vtab) (h : x.sz ≤ 268435456) (hn : x.sz < n) : ∃ c y, 0 < c ∧ laws_markVtabF n x 1 = some (c, y) ∧ laws_heldVtabF n y 1 = some c := by
  have hs : x.Rows.length + x.Pvid.length = x.sz := rfl
  refine ⟨1 + (3 : Nat) * x.Rows.length + (1 : Nat) * x.Pvid.length, ⟨markL (fun _ b => (⟨b, b + 1, b + 2⟩ : Vrow)) 3 x.Rows 1, markL (fun _ b => b) 1 x.Pvid (1 + (3 : Nat) * x.Rows.length)⟩, by omega, ?_, ?_⟩
  · unfold laws_markVtabF
    rw [laws_markVrowSF_ok n x.Rows 1 (by omega) (by omega) (by omega) (by omega), Option.bind_some, laws_markIntSF_ok n x.Pvid _ (by omega) (by omega) (by omega) (by omega)]
    rfl
  · unfold laws_heldVtabF
    rw [laws_heldVrowSF_ok n x.Rows 1 (by omega) (by omega) (by omega) (by omega), Option.bind_some, laws_heldIntSF_ok n x.Pvid _ (by omega) (by omega) (by omega) (by omega), Option.bind_some, decide_eq_false (by omega), decide_eq_false (by omega)]
    rfl
theorem listWf_sub {α : Type} {wf : α → Prop} {xs ys : List α} (h : listWf wf xs) (hs : ∀ y ∈ ys, y ∈ xs) (hl : ys.length ≤ xs.length) : listWf wf ys := ⟨Nat.le_trans hl h.1, fun y hy => h.2 y (hs y hy)⟩
theorem listWf_set {α : Type} {wf : α → Prop} {xs : List α} {i : Nat} {v : α} (h : listWf wf xs) (hv : wf v) : listWf wf (xs.set i v) := ⟨by rw [List.length_set]; exact h.1, fun y hy => by
  rcases List.mem_or_eq_of_mem_set hy with h1 | h1
  · exact h.2 y h1
  · rw [h1]; exact hv⟩
theorem laws_eqFentF_refl (n : Nat) (v : Fent) : laws_eqFentF n v v = some true := by simp [laws_eqFentF]
theorem laws_eqFentSF_refl (n : Nat) (xs : List Fent) (h : xs.length ≤ 268435456) (hn : xs.length < n) : laws_eqFentSF n xs xs = some true := by
  unfold laws_eqFentSF
  have := eq_loop (L := laws_eqFentS_L2 n) (f := laws_eqFentF n) (fun m xs ys i => rfl) xs (by omega) (fun v _ => laws_eqFentF_refl n v) n 0 (by omega) (by omega)
  simp only [bne_self_eq_false, cond_false]
  rw [show (laws_eqFentS_L2 n n xs xs 0) = _ from this]
  rfl
def Bridge.sz (x : Bridge) : Nat := x.Name.size + x.Ports.length + x.F.length + x.V.sz
theorem laws_eqBridgeF_refl (n : Nat) (x : Bridge) (h : x.sz ≤ 268435456) (hn : x.sz < n) : laws_eqBridgeF n x x = some true := by
  unfold Bridge.sz at h hn
  unfold laws_eqBridgeF
  rw [laws_eqPtSF_refl n x.Ports (by omega) (by omega), laws_eqFentSF_refl n x.F (by omega) (by omega), laws_eqVtabF_refl n x.V (by omega) (by omega)]
  simp
theorem laws_markPtSF_ok (n : Nat) (xs : List Pt) (b : Int) (h : xs.length ≤ 268435456) (hn : xs.length < n) (h0 : 0 ≤ b) (h1 : b + (8 : Nat) * xs.length ≤ 1099511627776) : laws_markPtSF n xs b = some (b + (8 : Nat) * xs.length, markL (fun _ b => (⟨Int.tmod b 3 == 0, b + 1, Int.tmod (b + 2) 3 == 0, ⟨b + 3, b + 4, b + 5, b + 6, b + 7⟩⟩ : Pt)) 8 xs b) := by
  have := mark_loop (L := laws_markPtS_L2 n) (f := fun _ b => (⟨Int.tmod b 3 == 0, b + 1, Int.tmod (b + 2) 3 == 0, ⟨b + 3, b + 4, b + 5, b + 6, b + 7⟩⟩ : Pt)) (c := 8) (fun m k ys b v hk hl hv h0 h1 => by
    rw [laws_markPtS_L2, lt_true hk, idx_at hv]
    simp (disch := omega) only [cond_true, Option.bind_some, List.set_set, idx_set' hk, wrap64, wrap_nat, Int.toNat_natCast, show decide ((3 : Int) ≠ 0) = true from rfl]
    simp only [Int.add_assoc, Int.reduceAdd, show ((8 : Nat) : Int) = 8 from rfl]
    rfl)
    (fun m ys b => by rw [laws_markPtS_L2, lt_false]; rfl) xs n [] b (by simpa using h) h0 h1 hn
  unfold laws_markPtSF
  simp only [List.length_nil, List.nil_append] at this
  rw [show laws_markPtS_L2 n n 0 xs b = _ from this]
  rfl
theorem laws_heldPtSF_ok (n : Nat) (xs : List Pt) (b : Int) (h : xs.length ≤ 268435456) (hn : xs.length < n) (h0 : 0 ≤ b) (h1 : b + (8 : Nat) * xs.length ≤ 1099511627776) : laws_heldPtSF n (markL (fun _ b => (⟨Int.tmod b 3 == 0, b + 1, Int.tmod (b + 2) 3 == 0, ⟨b + 3, b + 4, b + 5, b + 6, b + 7⟩⟩ : Pt)) 8 xs b) b = some (b + (8 : Nat) * xs.length) := by
  have := held_loop (L := laws_heldPtS_L2 n) (f := fun _ b => (⟨Int.tmod b 3 == 0, b + 1, Int.tmod (b + 2) 3 == 0, ⟨b + 3, b + 4, b + 5, b + 6, b + 7⟩⟩ : Pt)) (c := 8) (fun m k ys b v hk hl hv h0 h1 => by
    rw [laws_heldPtS_L2, lt_true hk, idx_at hv]
    simp (disch := omega) only [cond_true, Option.bind_some, wrap64, wrap_nat, Int.toNat_natCast, show decide ((3 : Int) ≠ 0) = true from rfl]
    simp only [Int.add_assoc, Int.reduceAdd, show ((8 : Nat) : Int) = 8 from rfl, bne_self_eq_false, beq_self_eq_true, Bool.not_true, cond_false]
    rfl)
    (fun m ys b => by rw [laws_heldPtS_L2, lt_false]; rfl) xs n [] b (by simpa using h) h0 h1 hn
  unfold laws_heldPtSF
  simp only [List.length_nil, List.nil_append] at this
  rw [show laws_heldPtS_L2 n n (markL _ 8 xs b) 0 b = _ from this]
  rfl
theorem laws_markFentSF_ok (n : Nat) (xs : List Fent) (b : Int) (h : xs.length ≤ 268435456) (hn : xs.length < n) (h0 : 0 ≤ b) (h1 : b + (5 : Nat) * xs.length ≤ 1099511627776) : laws_markFentSF n xs b = some (b + (5 : Nat) * xs.length, markL (fun _ b => (⟨b, b + 1, b + 2, b + 3, Int.tmod (b + 4) 3 == 0⟩ : Fent)) 5 xs b) := by
  have := mark_loop (L := laws_markFentS_L2 n) (f := fun _ b => (⟨b, b + 1, b + 2, b + 3, Int.tmod (b + 4) 3 == 0⟩ : Fent)) (c := 5) (fun m k ys b v hk hl hv h0 h1 => by
    rw [laws_markFentS_L2, lt_true hk, idx_at hv]
    simp (disch := omega) only [cond_true, Option.bind_some, List.set_set, idx_set' hk, wrap64, wrap_nat, Int.toNat_natCast, show decide ((3 : Int) ≠ 0) = true from rfl]
    simp only [Int.add_assoc, Int.reduceAdd, show ((5 : Nat) : Int) = 5 from rfl]
    rfl)
    (fun m ys b => by rw [laws_markFentS_L2, lt_false]; rfl) xs n [] b (by simpa using h) h0 h1 hn
  unfold laws_markFentSF
  simp only [List.length_nil, List.nil_append] at this
  rw [show laws_markFentS_L2 n n 0 xs b = _ from this]
  rfl
theorem laws_heldFentSF_ok (n : Nat) (xs : List Fent) (b : Int) (h : xs.length ≤ 268435456) (hn : xs.length < n) (h0 : 0 ≤ b) (h1 : b + (5 : Nat) * xs.length ≤ 1099511627776) : laws_heldFentSF n (markL (fun _ b => (⟨b, b + 1, b + 2, b + 3, Int.tmod (b + 4) 3 == 0⟩ : Fent)) 5 xs b) b = some (b + (5 : Nat) * xs.length) := by
  have := held_loop (L := laws_heldFentS_L2 n) (f := fun _ b => (⟨b, b + 1, b + 2, b + 3, Int.tmod (b + 4) 3 == 0⟩ : Fent)) (c := 5) (fun m k ys b v hk hl hv h0 h1 => by
    rw [laws_heldFentS_L2, lt_true hk, idx_at hv]
    simp (disch := omega) only [cond_true, Option.bind_some, wrap64, wrap_nat, Int.toNat_natCast, show decide ((3 : Int) ≠ 0) = true from rfl]
    simp only [Int.add_assoc, Int.reduceAdd, show ((5 : Nat) : Int) = 5 from rfl, bne_self_eq_false, beq_self_eq_true, Bool.not_true, cond_false]
    rfl)
    (fun m ys b => by rw [laws_heldFentS_L2, lt_false]; rfl) xs n [] b (by simpa using h) h0 h1 hn
  unfold laws_heldFentSF
  simp only [List.length_nil, List.nil_append] at this
  rw [show laws_heldFentS_L2 n n (markL _ 5 xs b) 0 b = _ from this]
  rfl
theorem laws_markVtabF_okb (n : Nat) (x : Vtab) (b : Int) (h : x.sz ≤ 268435456) (hn : x.sz < n) (hb : 0 < b) (hb2 : b ≤ 549755813888) : ∃ c y, b ≤ c ∧ c ≤ b + 3 * x.sz ∧ laws_markVtabF n x b = some (c, y) ∧ laws_heldVtabF n y b = some c := by
  have hs : x.Rows.length + x.Pvid.length = x.sz := rfl
  refine ⟨b + (3 : Nat) * x.Rows.length + (1 : Nat) * x.Pvid.length, ⟨markL (fun _ b => (⟨b, b + 1, b + 2⟩ : Vrow)) 3 x.Rows b, markL (fun _ b => b) 1 x.Pvid (b + (3 : Nat) * x.Rows.length)⟩, by omega, by omega, ?_, ?_⟩
  · unfold laws_markVtabF
    rw [laws_markVrowSF_ok n x.Rows b (by omega) (by omega) (by omega) (by omega), Option.bind_some, laws_markIntSF_ok n x.Pvid _ (by omega) (by omega) (by omega) (by omega)]
    rfl
  · unfold laws_heldVtabF
    rw [laws_heldVrowSF_ok n x.Rows b (by omega) (by omega) (by omega) (by omega), Option.bind_some, laws_heldIntSF_ok n x.Pvid _ (by omega) (by omega) (by omega) (by omega), Option.bind_some, decide_eq_false (by omega), decide_eq_false (by omega)]
    rfl
theorem laws_markBridgeF_ok (n : Nat) (x : Bridge) (b : Int) (h : x.sz ≤ 268435456) (hn : x.sz < n) (hb : 0 < b) (hb2 : b ≤ 274877906944) : ∃ c y, b ≤ c ∧ c ≤ b + 8 * x.sz ∧ laws_markBridgeF n x b = some (c, y) ∧ laws_heldBridgeF n y b = some c := by
  have hs : x.Name.size + x.Ports.length + x.F.length + x.V.sz = x.sz := rfl
  obtain ⟨c, y, k1, k2, k3, k4⟩ := laws_markVtabF_okb n x.V (b + (8 : Nat) * x.Ports.length + (5 : Nat) * x.F.length) (by omega) (by omega) (by omega) (by omega)
  refine ⟨c, ⟨x.Id, x.Name, markL (fun _ b => (⟨Int.tmod b 3 == 0, b + 1, Int.tmod (b + 2) 3 == 0, ⟨b + 3, b + 4, b + 5, b + 6, b + 7⟩⟩ : Pt)) 8 x.Ports b, markL (fun _ b => (⟨b, b + 1, b + 2, b + 3, Int.tmod (b + 4) 3 == 0⟩ : Fent)) 5 x.F (b + (8 : Nat) * x.Ports.length), y, x.Ticks, x.Parse, x.Word, x.Drops, x.Vers⟩, by omega, by omega, ?_, ?_⟩
  · unfold laws_markBridgeF
    rw [laws_markPtSF_ok n x.Ports b (by omega) (by omega) (by omega) (by omega), Option.bind_some, laws_markFentSF_ok n x.F _ (by omega) (by omega) (by omega) (by omega), Option.bind_some, k3]
    rfl
  · unfold laws_heldBridgeF
    rw [laws_heldPtSF_ok n x.Ports b (by omega) (by omega) (by omega) (by omega), Option.bind_some, decide_eq_false (by omega)]
    simp only [cond_false]
    rw [laws_heldFentSF_ok n x.F _ (by omega) (by omega) (by omega) (by omega), Option.bind_some, decide_eq_false (by omega)]
    simp only [cond_false]
    rw [k4, Option.bind_some, decide_eq_false (by omega)]
    rfl
theorem laws_FnExactBridgeNew_plain (x0 x1 : Int) (w0 : intWf x0) (w1 : intWf x1) : ∃ n, laws_FnExactBridgeNewF n x0 x1 = some true := by
  refine ⟨100, ?_⟩
  have key : ∃ y : Bridge, spec_BridgeNewF 100 x0 x1 = some y ∧ impl_BridgeNewF 100 x0 x1 = some y ∧ y.sz < 100 := by
    have z : (⟨0, (⟨#[]⟩ : ByteArray), ([] : List Pt), ([] : List Fent), (⟨([] : List Vrow), ([] : List Int)⟩ : Vtab), 0, 0, 0, 0, 0⟩ : Bridge).sz < 100 := by decide
    by_cases hi : 1 ≤ x0 ∧ x0 ≤ 99
    · have hi' : (decide (1 ≤ x0) && decide (x0 ≤ 99)) = true := by rw [decide_eq_true hi.1, decide_eq_true hi.2]; rfl
      by_cases hp : 1 ≤ x1 ∧ x1 ≤ 6
      · have hc : x1 = 1 ∨ x1 = 2 ∨ x1 = 3 ∨ x1 = 4 ∨ x1 = 5 ∨ x1 = 6 := by omega
        unfold spec_BridgeNewF impl_BridgeNewF
        simp only [impl_inF_eq, spec_l1InF_val, hi', Option.bind_some, Bool.not_true, cond_false]
        rcases hc with rfl | rfl | rfl | rfl | rfl | rfl <;> exact ⟨_, rfl, rfl, Nat.le_of_ble_eq_true rfl⟩
      · have hp' : (decide (1 ≤ x1) && decide (x1 ≤ 6)) = false := by
          simp only [Bool.and_eq_false_iff, decide_eq_false_iff_not]; omega
        unfold spec_BridgeNewF impl_BridgeNewF
        simp only [impl_inF_eq, spec_l1InF_val, hi', hp', Option.bind_some, Bool.not_true, Bool.not_false, cond_false, cond_true]
        exact ⟨_, rfl, rfl, z⟩
    · have hi' : (decide (1 ≤ x0) && decide (x0 ≤ 99)) = false := by
        simp only [Bool.and_eq_false_iff, decide_eq_false_iff_not]; omega
      unfold spec_BridgeNewF impl_BridgeNewF
      simp only [impl_inF_eq, spec_l1InF_val, hi', Option.bind_some, Bool.not_false, cond_true]
      exact ⟨_, rfl, rfl, z⟩
  obtain ⟨y, h1, h2, h3⟩ := key
  obtain ⟨c, z, k1, k2, m1, m2⟩ := laws_markBridgeF_ok 100 y 1 (by omega) (by omega) (by omega) (by omega)
  simp only [laws_FnExactBridgeNewF, h1, h2, Option.bind_some, laws_eqBridgeF_refl 100 y (by omega) (by omega), m1, m2, decide_eq_false (show ¬ c < 0 by omega), bne_self_eq_false, Bool.not_true, cond_false]
end Go.Proofs.Ytgpcfaiacggoiaa.Tw
