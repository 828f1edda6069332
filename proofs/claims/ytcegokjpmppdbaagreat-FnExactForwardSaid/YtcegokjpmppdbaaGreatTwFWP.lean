import Derived.Test.YtcegokjpmppdbaaGreatTwFW
import Derived.Test.YtcegokjpmppdbaaGreatTlPlain
set_option linter.unusedVariables false
set_option linter.unusedSimpArgs false
set_option maxRecDepth 100000
set_option maxHeartbeats 1000000
namespace Go.Proofs.YtcegokjpmppdbaaGreat.Tw
open Go Go.TL Go.Proofs
def Vtab.sz (x : Vtab) : Nat := x.Rows.length + x.Pvid.length
theorem laws_szIntSF_ok (n : Nat) {xs : List Int} {b : Int} (h0 : 0 ≤ b) (h1 : b ≤ 1048576) (hl : xs.length ≤ maxLen) : ∃ r,laws_szIntSF n xs b = some r ∧ Lft b xs.length r := sz_step h0 h1 hl
theorem laws_szVrowSF_ok (n : Nat) {xs : List Vrow} {b : Int} (h0 : 0 ≤ b) (h1 : b ≤ 1048576) (hl : xs.length ≤ maxLen) : ∃ r,laws_szVrowSF n xs b = some r ∧ Lft b xs.length r := sz_step h0 h1 hl
theorem laws_szVtabF_ok (n : Nat) {x : Vtab} {b : Int} (h0 : 0 ≤ b) (h1 : b ≤ 1048576) (hl : Vtab.wf x) : ∃ r,laws_szVtabF n x b = some r ∧ Lft b x.sz r := by
 obtain ⟨r1,e1,k1⟩ := laws_szVrowSF_ok n h0 h1 hl.1.1
 simp only [laws_szVtabF,e1,Option.bind_some]
 rcases k1.neg with ⟨c1,c2⟩ | ⟨c1,c2,c3⟩
 ·rw [c1]; exact ⟨_,rfl,.inl (by decide)⟩
 ·rw [c1]
  obtain ⟨r2,e2,k2⟩ := laws_szIntSF_ok n c2 (by omega) hl.2.1.1
  simp only [e2,Option.bind_some,cond_false]
  rcases k2.neg with ⟨d1,d2⟩ | ⟨d1,d2,d3⟩
  ·rw [d1]; exact ⟨_,rfl,.inl (by decide)⟩
  ·rw [d1]; exact ⟨_,rfl,.inr ⟨d2,by unfold Vtab.sz; omega⟩⟩
theorem laws_toIntSF_eq (n : Nat) (xs : List Int) (h : xs.length ≤ 268435456) (hn : xs.length < n) : laws_toIntSF n xs = some xs := by
 unfold laws_toIntSF
 rw [decide_eq_true (by omega : (0 : Int) ≤ (xs.length : Int)),decide_eq_true (by omega : (xs.length : Int) ≤ 268435456)]
 have := copy_loop (L := laws_toIntS_L2 n) (fun m xs i ys => rfl) xs (by omega) n 0 (List.replicate ((xs.length : Int)).toNat 0) (by omega) (by omega) (by simp) rfl
 simp only [Bool.and_self,cond_true]
 rw [show (laws_toIntS_L2 n n xs 0 (List.replicate ((xs.length : Int)).toNat 0)) = _ from this]
 rfl
theorem laws_toVrowSF_eq (n : Nat) (xs : List Vrow) (h : xs.length ≤ 1048576) (hn : xs.length < n) : laws_toVrowSF n xs = some xs := by
 unfold laws_toVrowSF
 rw [decide_eq_true (by omega : (0 : Int) ≤ (xs.length : Int)),decide_eq_true (by omega : (xs.length : Int) ≤ 268435456)]
 have := copy_loop (L := laws_toVrowS_L2 n) (fun m xs i ys => rfl) xs (by omega) n 0 (List.replicate ((xs.length : Int)).toNat (⟨0,0,0⟩ : Vrow)) (by omega) (by omega) (by simp) rfl
 simp only [Bool.and_self,cond_true]
 rw [show (laws_toVrowS_L2 n n xs 0 (List.replicate ((xs.length : Int)).toNat (⟨0,0,0⟩ : Vrow))) = _ from this]
 rfl
theorem laws_toVtabF_eq (n : Nat) (x : Vtab) (h : x.sz ≤ 1048576) (hn : x.sz < n) : laws_toVtabF n x = some x := by
 unfold Vtab.sz at h hn
 unfold laws_toVtabF
 rw [laws_toVrowSF_eq n x.Rows (by omega) (by omega),laws_toIntSF_eq n x.Pvid (by omega) (by omega)]
 rfl
theorem laws_eqIntSF_refl (n : Nat) (xs : List Int) (h : xs.length ≤ 268435456) (hn : xs.length < n) : laws_eqIntSF n xs xs = some true := by
 unfold laws_eqIntSF
 have := eq_loop (L := laws_eqIntS_L2 n) (f := fun a b => some (a == b)) (fun m xs ys i => rfl) xs (by omega) (fun v _ => by simp) n 0 (by omega) (by omega)
 simp only [bne_self_eq_false,cond_false]
 rw [show (laws_eqIntS_L2 n n xs xs 0) = _ from this]
 rfl
theorem laws_eqVrowF_refl (n : Nat) (v : Vrow) : laws_eqVrowF n v v = some true := by simp [laws_eqVrowF]
theorem laws_eqVrowSF_refl (n : Nat) (xs : List Vrow) (h : xs.length ≤ 268435456) (hn : xs.length < n) : laws_eqVrowSF n xs xs = some true := by
 unfold laws_eqVrowSF
 have := eq_loop (L := laws_eqVrowS_L2 n) (f := laws_eqVrowF n) (fun m xs ys i => rfl) xs (by omega) (fun v _ => laws_eqVrowF_refl n v) n 0 (by omega) (by omega)
 simp only [bne_self_eq_false,cond_false]
 rw [show (laws_eqVrowS_L2 n n xs xs 0) = _ from this]
 rfl
theorem laws_eqVtabF_refl (n : Nat) (x : Vtab) (h : x.sz ≤ 268435456) (hn : x.sz < n) : laws_eqVtabF n x x = some true := by
 unfold Vtab.sz at h hn
 unfold laws_eqVtabF
 rw [laws_eqVrowSF_refl n x.Rows (by omega) (by omega),laws_eqIntSF_refl n x.Pvid (by omega) (by omega)]
 rfl
theorem impl_RowAt_L2_eq (n : Nat) : impl_RowAt_L2 n = spec_RowAt_L2 n := by
 funext m
 induction m with
 | zero => rfl
 | succ m ih => funext x i y; simp only [impl_RowAt_L2,spec_RowAt_L2,ih]
theorem impl_RowAtF_eq (n : Nat) : impl_RowAtF n = spec_RowAtF n := by
 funext x i; simp only [impl_RowAtF,spec_RowAtF,impl_RowAt_L2_eq]; rfl
theorem spec_RowAtF_ok (n : Nat) (x : Vtab) (id : Int) (h : x.Rows.length ≤ 1048580) (hn : x.Rows.length < n) : ∃ r,spec_RowAtF n x id = some r ∧ (r = -1 ∧ (∀ v ∈ x.Rows,v.Id ≠ id) ∨ ∃ v,0 ≤ r ∧ idx x.Rows r = some v ∧ v.Id = id) := by
 unfold spec_RowAtF
 have hf := find_loop (L := fun m xs i => spec_RowAt_L2 n m ⟨xs,x.Pvid⟩ id i) (p := fun i v => bif v.Id == id then some i else none) (fun m xs i => by
  show (bif _ then _ else _) = _
  congr 1
  congr 1
  funext v
  cases (v.Id == id) <;> rfl) x.Rows (by omega) n 0 (by omega) (by omega)
 rcases hf with ⟨e1,e2⟩ | ⟨j,hj,r,e1,e2,e3,e4⟩
 ·rw [show spec_RowAt_L2 n n x id 0 = _ from e1]
  refine ⟨-1,rfl,.inl ⟨rfl,fun v hv => ?_⟩⟩
  obtain ⟨j,hj,rfl⟩ := List.getElem_of_mem hv
  have := e2 j hj (by omega)
  intro hid
  simp [hid] at this
 ·rw [show spec_RowAt_L2 n n x id 0 = _ from e4]
  have hid : (x.Rows[j].Id == id) = true := by
   cases hc : (x.Rows[j].Id == id) with
   | true => rfl
   | false => rw [hc] at e2; cases e2
  rw [hid] at e2
  cases e2
  exact ⟨_,rfl,.inr ⟨_,by omega,idx_nat hj,by simpa using hid⟩⟩
theorem impl_EgressOfF_eq (n : Nat) : impl_EgressOfF n = spec_EgressOfF n := by
 funext x i; simp only [impl_EgressOfF,spec_EgressOfF,impl_RowAtF_eq]
theorem spec_EgressOfF_ok (n : Nat) (x : Vtab) (id : Int) (h : x.Rows.length ≤ 1048580) (hn : x.Rows.length < n) : ∃ r,spec_EgressOfF n x id = some r := by
 obtain ⟨r,e,k⟩ := spec_RowAtF_ok n x id h hn
 unfold spec_EgressOfF
 rw [e]
 rcases k with ⟨rfl,_⟩ | ⟨v,k1,k2,_⟩
 ·exact ⟨_,rfl⟩
 ·rw [Option.bind_some,decide_eq_false (by omega),k2]
  exact ⟨_,rfl⟩
theorem laws_szPtSF_ok (n : Nat) {xs : List Pt} {b : Int} (h0 : 0 ≤ b) (h1 : b ≤ 1048576) (hl : xs.length ≤ maxLen) : ∃ r,laws_szPtSF n xs b = some r ∧ Lft b xs.length r := sz_step h0 h1 hl
theorem laws_toPtSF_eq (n : Nat) (xs : List Pt) (h : xs.length ≤ 1048576) (hn : xs.length < n) : laws_toPtSF n xs = some xs := by
 unfold laws_toPtSF
 rw [decide_eq_true (by omega : (0 : Int) ≤ (xs.length : Int)),decide_eq_true (by omega : (xs.length : Int) ≤ 268435456)]
 have := copy_loop (L := laws_toPtS_L2 n) (fun m xs i ys => rfl) xs (by omega) n 0 (List.replicate ((xs.length : Int)).toNat (⟨false,0,false,(⟨0,0,0,0,0⟩ : Vec)⟩ : Pt)) (by omega) (by omega) (by simp) rfl
 simp only [Bool.and_self,cond_true]
 rw [show (laws_toPtS_L2 n n xs 0 (List.replicate ((xs.length : Int)).toNat (⟨false,0,false,(⟨0,0,0,0,0⟩ : Vec)⟩ : Pt))) = _ from this]
 rfl
theorem laws_eqVecF_refl (n : Nat) (v : Vec) : laws_eqVecF n v v = some true := by simp [laws_eqVecF]
theorem laws_eqPtF_refl (n : Nat) (v : Pt) : laws_eqPtF n v v = some true := by simp [laws_eqPtF,laws_eqVecF_refl]
theorem laws_eqPtSF_refl (n : Nat) (xs : List Pt) (h : xs.length ≤ 268435456) (hn : xs.length < n) : laws_eqPtSF n xs xs = some true := by
 unfold laws_eqPtSF
 have := eq_loop (L := laws_eqPtS_L2 n) (f := laws_eqPtF n) (fun m xs ys i => rfl) xs (by omega) (fun v _ => laws_eqPtF_refl n v) n 0 (by omega) (by omega)
 simp only [bne_self_eq_false,cond_false]
 rw [show (laws_eqPtS_L2 n n xs xs 0) = _ from this]
 rfl
theorem spec_l1InF_tot (n : Nat) (a b c : Int) : Tot (spec_l1InF n a b c) := Tot.bif (fun _ => .of) (fun _ => .of)
theorem impl_VecOkF_eq (n : Nat) : impl_VecOkF n = spec_VecOkF n := rfl
theorem spec_VecOkF_tot (n : Nat) (v : Vec) : Tot (spec_VecOkF n v) := by
 unfold spec_VecOkF
 repeat' first | exact Tot.of | refine Tot.bind (spec_l1InF_tot _ _ _ _) fun _ _ => ?_ | refine Tot.bif (fun _ => ?_) (fun _ => ?_)
theorem impl_StepVecF_eq (n : Nat) : impl_StepVecF n = spec_StepVecF n := rfl
theorem spec_StepVecF_tot (n : Nat) (v : Vec) (c : Int) : Tot (spec_StepVecF n v c) := by
 unfold spec_StepVecF
 repeat' first | exact Tot.of | refine Tot.bind (spec_l1InF_tot _ _ _ _) fun _ _ => ?_ | refine Tot.bind (spec_VecOkF_tot _ _) fun _ _ => ?_ | refine Tot.bif (fun _ => ?_) (fun _ => ?_)
theorem impl_LessVecF_eq (n : Nat) : impl_LessVecF n = spec_LessVecF n := rfl
theorem spec_LessVecF_tot (n : Nat) (v u : Vec) : Tot (spec_LessVecF n v u) := by
 unfold spec_LessVecF
 repeat' first | exact Tot.of | refine Tot.bif (fun _ => ?_) (fun _ => ?_)
theorem spec_BestVec_L2_tot (n : Nat) (x0 : Int) (x1 : List Pt) (h : x1.length ≤ 1048576) : ∀ (m k : Nat) (y2 y3 y4 y5 y6 y7 y8 y9 y10 : Int),k ≤ x1.length → x1.length < m + k → Tot (spec_BestVec_L2 n m x0 x1 k y2 y3 y4 y5 y6 y7 y8 y9 y10)
 | 0,k,y2,y3,y4,y5,y6,y7,y8,y9,y10,h1,h2 => by omega
 | m + 1,k,y2,y3,y4,y5,y6,y7,y8,y9,y10,h1,h2 => by
  rw [spec_BestVec_L2]
  refine Tot.step (fun hk => ?_) .of
  have ih := fun y2 y3 y4 y5 y6 y7 y8 y9 y10 => spec_BestVec_L2_tot n x0 x1 h m (k + 1) y2 y3 y4 y5 y6 y7 y8 y9 y10 (by omega) (by omega)
  simp only [spec_BestVec_J3,wrap_nat (by omega : k ≤ 1099511627776)]
  repeat' first | exact ih _ _ _ _ _ _ _ _ _ | exact Tot.of | refine Tot.bind (idx_tot hk) fun _ _ => ?_ | refine Tot.bind (spec_StepVecF_tot _ _ _) fun _ _ => ?_ | refine Tot.bind (spec_LessVecF_tot _ _ _) fun _ _ => ?_ | refine Tot.bif (fun _ => ?_) (fun _ => ?_)
theorem spec_BestVecF_tot (n : Nat) (x0 : Int) (x1 : List Pt) (h : x1.length ≤ 1048576) (hn : x1.length < n) : Tot (spec_BestVecF n x0 x1) := by
 unfold spec_BestVecF
 refine Tot.bind (spec_BestVec_L2_tot n x0 x1 h n 0 _ _ _ _ _ _ _ _ _ (by omega) (by omega)) fun o _ => ?_
 cases o <;> exact Tot.of
theorem impl_BestVec_L2_eq (n : Nat) : impl_BestVec_L2 n = spec_BestVec_L2 n := by
 funext m
 induction m with
 | zero => rfl
 | succ m ih =>
  funext x0 x1 y1 y2 y3 y4 y5 y6 y7 y8 y9 y10
  simp only [impl_BestVec_L2,spec_BestVec_L2,ih,impl_BestVec_J3,spec_BestVec_J3,impl_StepVecF_eq,impl_LessVecF_eq]
  cases idx x1 y1 <;> rfl
theorem impl_BestVecF_eq (n : Nat) : impl_BestVecF n = spec_BestVecF n := by
 funext x i; simp only [impl_BestVecF,spec_BestVecF,impl_BestVec_L2_eq]; rfl
theorem impl_SayVecF_eq (n : Nat) : impl_SayVecF n = spec_SayVecF n := by
 funext x i y; simp only [impl_SayVecF,spec_SayVecF,impl_BestVecF_eq]
theorem spec_SayVecF_tot (n : Nat) (x0 : Int) (x1 : List Pt) (x2 : Int) (h : x1.length ≤ 1048576) (hn : x1.length < n) : Tot (spec_SayVecF n x0 x1 x2) := Tot.bind (spec_BestVecF_tot n x0 x1 h hn) fun _ _ => .of
theorem impl_RoleOfF_eq (n : Nat) : impl_RoleOfF n = spec_RoleOfF n := by
 funext x i y; simp only [impl_RoleOfF,spec_RoleOfF,impl_BestVecF_eq,impl_SayVecF_eq,impl_LessVecF_eq]; rfl
theorem spec_RoleOfF_ok (n : Nat) (x0 : Int) (x1 : List Pt) (x2 : Int) (h : x1.length ≤ 1048576) (hn : x1.length < n) : ∃ r,spec_RoleOfF n x0 x1 x2 = some r ∧ 1 ≤ r ∧ r ≤ 4 := by
 unfold spec_RoleOfF spec_l1InF
 rw [wrap64 (by omega) (by omega)]
 obtain ⟨b,hb⟩ := spec_BestVecF_tot n x0 x1 h hn
 obtain ⟨s,hs⟩ := spec_SayVecF_tot n x0 x1 x2 h hn
 by_cases h1 : x2 ≥ 0
 ·by_cases h2 : x2 ≤ (x1.length : Int) - 1
  ·obtain ⟨v,hv,_⟩ := idx_of (xs := x1) h1 (by omega)
   obtain ⟨l,hl⟩ := spec_LessVecF_tot n s v.Heard
   simp only [decide_eq_true h1,decide_eq_true h2,cond_true,Option.bind_some,Bool.not_true,cond_false,hb,hs,hv,hl]
   cases v.Up <;> cases (b.2 == x2) <;> cases v.Has <;> cases l <;> exact ⟨_,rfl,by decide,by decide⟩
  ·simp only [decide_eq_true h1,decide_eq_false h2,cond_true,Option.bind_some,Bool.not_false]
   exact ⟨_,rfl,by decide,by decide⟩
 ·simp only [decide_eq_false h1,cond_false,Option.bind_some,Bool.not_false,cond_true]
  exact ⟨_,rfl,by decide,by decide⟩
theorem wrapU {k : Nat} (h : k ≤ 1099511627776) : IntKind.wrap .u64 (k : Int) = k := by
 show ((k : Int) % 18446744073709551616) = k
 omega
theorem spec_Sends_L2_both (n : Nat) (x0 : Int) (x1 : List Pt) (h : x1.length ≤ 1048576) (hn : x1.length < n) : ∀ (m k : Nat) (y2 : Int),k ≤ x1.length → x1.length < m + k → impl_Sends_L2 n m x0 x1 k y2 = spec_Sends_L2 n m x0 x1 k y2 ∧ Tot (spec_Sends_L2 n m x0 x1 k y2)
 | 0,k,y2,h1,h2 => by omega
 | m + 1,k,y2,h1,h2 => by
  rw [spec_Sends_L2,impl_Sends_L2]
  by_cases hk : k < x1.length
  ·have ih := fun y2 => spec_Sends_L2_both n x0 x1 h hn m (k + 1) y2 (by omega) (by omega)
   obtain ⟨r,hr,r1,r2⟩ := spec_RoleOfF_ok n x0 x1 k h hn
   have hk' : decide ((k : Int) < (x1.length : Int)) = true := decide_eq_true (by omega)
   have h0 : decide ((0 : Int) ≤ (k : Int)) = true := decide_eq_true (by omega)
   simp only [hk',wrap_nat (by omega : k ≤ 1099511627776),wrapU (by omega : k ≤ 1099511627776),impl_RoleOfF_eq,hr,Option.bind_some,h0,cond_true,(ih _).1,true_and]
   have hc : r = 1 ∨ r = 2 ∨ r = 3 ∨ r = 4 := by omega
   rcases hc with rfl | rfl | rfl | rfl <;> cases (decide ((k : Int) < 6)) <;> first | exact ⟨rfl,(ih _).2⟩ | exact ⟨by trivial,Tot.of⟩
  ·have hk' : decide ((k : Int) < (x1.length : Int)) = false := decide_eq_false (by omega)
   rw [hk']
   exact ⟨by trivial,Tot.of⟩
theorem spec_SendsF_both (n : Nat) (x0 : Int) (x1 : List Pt) (h : x1.length ≤ 1048576) (hn : x1.length < n) : impl_SendsF n x0 x1 = spec_SendsF n x0 x1 ∧ Tot (spec_SendsF n x0 x1) := by
 obtain ⟨h1,o,h2⟩ := spec_Sends_L2_both n x0 x1 h hn n 0 0 (by omega) (by omega)
 unfold impl_SendsF spec_SendsF
 have e1 : impl_Sends_L2 n n x0 x1 0 0 = some o := h1.trans h2
 have e2 : spec_Sends_L2 n n x0 x1 0 0 = some o := h2
 rw [e1,e2]
 cases o <;> exact ⟨by trivial,Tot.of⟩
theorem impl_inF_eq (n : Nat) : impl_inF n = spec_l1InF n := rfl
theorem spec_l1InF_val (n : Nat) (a b c : Int) : spec_l1InF n a b c = some (decide (b ≤ a) && decide (a ≤ c)) := by
 unfold spec_l1InF
 by_cases h : a ≥ b
 ·rw [decide_eq_true h]; rfl
 ·rw [decide_eq_false h]; rfl
theorem spec_VtabOk_mask {p : Int} (h0 : 1 ≤ p) (h1 : p ≤ 6) : ∃ a : Int,0 ≤ a ∧ a < 9223372036854775808 ∧ (IntKind.wrap .i64 ((IntKind.wrap .i64 (1 * 2 ^ min ((IntKind.wrap .u64 p)).toNat (IntKind.bits .i64))) - 1)) = a ∧ (IntKind.wrap .i64 ((IntKind.wrap .i64 (1 * 2 ^ min (p).toNat (IntKind.bits .i64))) - 1)) = a ∧ decide (0 ≤ (IntKind.wrap .u64 p)) = true ∧ decide (0 ≤ p) = true := by
 have hc : p = 1 ∨ p = 2 ∨ p = 3 ∨ p = 4 ∨ p = 5 ∨ p = 6 := by omega
 rcases hc with rfl | rfl | rfl | rfl | rfl | rfl
 ·exact ⟨1,by decide,by decide,by decide,by decide,by decide,by decide⟩
 ·exact ⟨3,by decide,by decide,by decide,by decide,by decide,by decide⟩
 ·exact ⟨7,by decide,by decide,by decide,by decide,by decide,by decide⟩
 ·exact ⟨15,by decide,by decide,by decide,by decide,by decide,by decide⟩
 ·exact ⟨31,by decide,by decide,by decide,by decide,by decide,by decide⟩
 ·exact ⟨63,by decide,by decide,by decide,by decide,by decide,by decide⟩
theorem spec_VtabOk_L4_both (n : Nat) (x0 : Vtab) (w0 : x0.wf) (x1 : Int) (hp0 : 1 ≤ x1) (hp1 : x1 ≤ 6) (h : x0.Rows.length ≤ 1048580) : ∀ (m k : Nat),k ≤ x0.Rows.length → x0.Rows.length < m + k → impl_VtabOk_L4 n m x0 x1 k = spec_VtabOk_L4 n m x0 x1 k ∧ Tot (spec_VtabOk_L4 n m x0 x1 k)
 | 0,k,h1,h2 => by omega
 | m + 1,k,h1,h2 => by
  rw [spec_VtabOk_L4,impl_VtabOk_L4]
  by_cases hk : k < x0.Rows.length
  ·obtain ⟨ih1,o,ih2⟩ := spec_VtabOk_L4_both n x0 w0 x1 hp0 hp1 h m (k + 1) (by omega) (by omega)
   obtain ⟨a,ha0,ha1,ha2,ha3,ha4,ha5⟩ := spec_VtabOk_mask hp0 hp1
   have hk' : decide ((k : Int) < (x0.Rows.length : Int)) = true := decide_eq_true (by omega)
   have hv : x0.Rows[k] ∈ x0.Rows := List.getElem_mem hk
   have hi := idx_nat hk
   generalize x0.Rows[k] = v at hv hi
   have hw := w0.1.2 v hv
   have hin : impl_allPortsF n x1 = some a := by unfold impl_allPortsF; rw [ha5,ha3]; rfl
   simp only [hk',wrap_nat (by omega : k ≤ 1099511627776),hi,Option.bind_some,cond_true,ih1,ih2,hin,impl_inF_eq,spec_l1InF_val,ha2]
   have hbits := fun hm0 hm1 => bits_in (B := v.Bare) (M := v.Members) hw.2.2.1 hm0 hm1
   by_cases hm : 0 ≤ v.Members ∧ v.Members ≤ a
   ·have hb := hbits hm.1 (by omega)
    simp only [decide_eq_true hm.1,decide_eq_true hm.2,Bool.and_self,Bool.not_true,cond_false]
    by_cases hz : IntKind.wrap .i64 (BitVec.ofInt (IntKind.bits .i64) v.Bare &&& ~~~BitVec.ofInt (IntKind.bits .i64) v.Members).toNat = 0
    ·have h3 := hb.1 hz
     have hz' : ((IntKind.wrap .i64 (BitVec.ofInt (IntKind.bits .i64) v.Bare &&& ~~~BitVec.ofInt (IntKind.bits .i64) v.Members).toNat) != 0) = false := by rw [hz]; rfl
     have hy' : ((IntKind.wrap .i64 (BitVec.ofInt (IntKind.bits .i64) v.Bare &&& BitVec.ofInt (IntKind.bits .i64) v.Members).toNat) != v.Bare) = false := by rw [h3.2.2]; simp
     simp only [hz',hy',decide_eq_true h3.1,decide_eq_true (show v.Bare ≤ a by omega),Bool.and_self,Bool.not_true,cond_false]
     cases k with
     | zero => cases (decide (1 ≤ v.Id) && decide (v.Id ≤ 99)) <;> exact ⟨by trivial,Tot.of⟩
     | succ k =>
      have hw2 : IntKind.wrap .i64 (((k + 1 : Nat) : Int) - 1) = (k : Int) := by rw [wrap64 (by omega) (by omega)]; omega
      have hpos : decide (((k + 1 : Nat) : Int) > 0) = true := decide_eq_true (by omega)
      simp only [hw2,hpos,cond_true,idx_nat (show k < x0.Rows.length by omega),Option.bind_some]
      cases (decide (1 ≤ v.Id) && decide (v.Id ≤ 99)) <;> cases (decide ((x0.Rows[k]'(by omega)).Id ≥ v.Id)) <;> exact ⟨by trivial,Tot.of⟩
    ·have hz' : ((IntKind.wrap .i64 (BitVec.ofInt (IntKind.bits .i64) v.Bare &&& ~~~BitVec.ofInt (IntKind.bits .i64) v.Members).toNat) != 0) = true := by simpa using hz
     have h3 : (decide (0 ≤ v.Bare) && decide (v.Bare ≤ a)) = false ∨ ((IntKind.wrap .i64 (BitVec.ofInt (IntKind.bits .i64) v.Bare &&& BitVec.ofInt (IntKind.bits .i64) v.Members).toNat) != v.Bare) = true := by
      by_cases hq : ((IntKind.wrap .i64 (BitVec.ofInt (IntKind.bits .i64) v.Bare &&& BitVec.ofInt (IntKind.bits .i64) v.Members).toNat) != v.Bare) = true
      ·exact .inr hq
      ·left
       simp at hq
       by_cases hr : 0 ≤ v.Bare ∧ v.Bare ≤ a
       ·have hle := bits_le hw.2.2.1 hm.1 (by omega) hq
        exact absurd (hb.2 ⟨hle.1,hle.2,hq⟩) hz
       ·simp only [Bool.and_eq_false_iff,decide_eq_false_iff_not]; omega
     simp only [hz',cond_true]
     have hspec : (bif !(decide (0 ≤ v.Bare) && decide (v.Bare ≤ a)) then some (Sum.inr false) else bif ((IntKind.wrap .i64 (BitVec.ofInt (IntKind.bits .i64) v.Bare &&& BitVec.ofInt (IntKind.bits .i64) v.Members).toNat) != v.Bare) then some (Sum.inr false) else (bif decide ((k : Int) > 0) then (idx x0.Rows (IntKind.wrap .i64 ((k : Int) - 1))).bind fun v13 => bif decide (v13.Id ≥ v.Id) then some (Sum.inr false) else some o else some o)) = (some (Sum.inr false) : Option (Unit ⊕ Bool)) := by
      rcases h3 with h3 | h3
      ·rw [h3]; rfl
      ·rw [h3]; cases (decide (0 ≤ v.Bare) && decide (v.Bare ≤ a)) <;> rfl
     rw [hspec]
     cases k with
     | zero => cases (decide (1 ≤ v.Id) && decide (v.Id ≤ 99)) <;> exact ⟨by trivial,Tot.of⟩
     | succ k =>
      have hw2 : IntKind.wrap .i64 (((k + 1 : Nat) : Int) - 1) = (k : Int) := by rw [wrap64 (by omega) (by omega)]; omega
      have hpos : decide (((k + 1 : Nat) : Int) > 0) = true := decide_eq_true (by omega)
      simp only [hw2,hpos,cond_true,idx_nat (show k < x0.Rows.length by omega),Option.bind_some]
      cases (decide (1 ≤ v.Id) && decide (v.Id ≤ 99)) <;> cases (decide ((x0.Rows[k]'(by omega)).Id ≥ v.Id)) <;> exact ⟨by trivial,Tot.of⟩
   ·have hm' : (decide (0 ≤ v.Members) && decide (v.Members ≤ a)) = false := by
     simp only [Bool.and_eq_false_iff,decide_eq_false_iff_not]; omega
    simp only [hm',Bool.not_false,cond_true]
    cases k with
    | zero => cases (decide (1 ≤ v.Id) && decide (v.Id ≤ 99)) <;> exact ⟨by trivial,Tot.of⟩
    | succ k =>
     have hw2 : IntKind.wrap .i64 (((k + 1 : Nat) : Int) - 1) = (k : Int) := by rw [wrap64 (by omega) (by omega)]; omega
     have hpos : decide (((k + 1 : Nat) : Int) > 0) = true := decide_eq_true (by omega)
     simp only [hw2,hpos,cond_true,idx_nat (show k < x0.Rows.length by omega),Option.bind_some]
     cases (decide (1 ≤ v.Id) && decide (v.Id ≤ 99)) <;> cases (decide ((x0.Rows[k]'(by omega)).Id ≥ v.Id)) <;> exact ⟨by trivial,Tot.of⟩
  ·have hk' : decide ((k : Int) < (x0.Rows.length : Int)) = false := decide_eq_false (by omega)
   rw [hk']
   exact ⟨by trivial,Tot.of⟩
theorem spec_VtabOk_L3_both (n : Nat) (x0 : Vtab) (h : x0.Rows.length ≤ 1048580) (hn : x0.Rows.length < n) (hq : x0.Pvid.length ≤ 1048580) : ∀ (m k : Nat),k ≤ x0.Pvid.length → x0.Pvid.length < m + k → impl_VtabOk_L3 n m x0 k = spec_VtabOk_L3 n m x0 k ∧ Tot (spec_VtabOk_L3 n m x0 k)
 | 0,k,h1,h2 => by omega
 | m + 1,k,h1,h2 => by
  rw [spec_VtabOk_L3,impl_VtabOk_L3]
  by_cases hk : k < x0.Pvid.length
  ·obtain ⟨ih1,o,ih2⟩ := spec_VtabOk_L3_both n x0 h hn hq m (k + 1) (by omega) (by omega)
   have hk' : decide ((k : Int) < (x0.Pvid.length : Int)) = true := decide_eq_true (by omega)
   obtain ⟨r,hr,_⟩ := spec_RowAtF_ok n x0 x0.Pvid[k] h hn
   simp only [hk',wrap_nat (by omega : k ≤ 1099511627776),idx_nat hk,Option.bind_some,cond_true,ih1,ih2,impl_RowAtF_eq,hr]
   cases decide (r < 0) <;> exact ⟨by trivial,Tot.of⟩
  ·have hk' : decide ((k : Int) < (x0.Pvid.length : Int)) = false := decide_eq_false (by omega)
   rw [hk']
   exact ⟨by trivial,Tot.of⟩
theorem spec_VtabOkF_both (n : Nat) (x0 : Vtab) (w0 : x0.wf) (x1 : Int) (h : x0.sz ≤ 1048580) (hn : x0.sz < n) : impl_VtabOkF n x0 x1 = spec_VtabOkF n x0 x1 ∧ Tot (spec_VtabOkF n x0 x1) := by
 have hs : x0.Rows.length + x0.Pvid.length = x0.sz := rfl
 unfold impl_VtabOkF spec_VtabOkF
 simp only [impl_inF_eq,spec_l1InF_val,Option.bind_some]
 by_cases hp : 1 ≤ x1 ∧ x1 ≤ 6
 ·obtain ⟨a,ha0,ha1,ha2,ha3,ha4,ha5⟩ := spec_VtabOk_mask hp.1 hp.2
  obtain ⟨e1,o,e2⟩ := spec_VtabOk_L4_both n x0 w0 x1 hp.1 hp.2 (by omega) n 0 (by omega) (by omega)
  obtain ⟨f1,q,f2⟩ := spec_VtabOk_L3_both n x0 (by omega) (by omega) (by omega) n 0 (by omega) (by omega)
  have e1' : impl_VtabOk_L4 n n x0 x1 0 = some o := e1.trans e2
  have e2' : spec_VtabOk_L4 n n x0 x1 0 = some o := e2
  have f1' : impl_VtabOk_L3 n n x0 0 = some q := f1.trans f2
  have f2' : spec_VtabOk_L3 n n x0 0 = some q := f2
  simp only [decide_eq_true hp.1,decide_eq_true hp.2,Bool.and_self,Bool.not_true,cond_false,ha4,cond_true,e1',e2',Option.bind_some]
  cases o with
  | inl u =>
   simp only [impl_VtabOk_J1,spec_VtabOk_J1,f1',f2',Option.bind_some]
   cases q <;> exact ⟨rfl,Tot.bif (fun _ => .of) fun _ => Tot.bif (fun _ => .of) fun _ => .of⟩
  | inr r => exact ⟨rfl,Tot.bif (fun _ => .of) fun _ => Tot.bif (fun _ => .of) fun _ => .of⟩
 ·have hp' : (decide (1 ≤ x1) && decide (x1 ≤ 6)) = false := by
   simp only [Bool.and_eq_false_iff,decide_eq_false_iff_not]; omega
  rw [hp']
  exact ⟨by trivial,Tot.of⟩
theorem laws_markVrowSF_ok (n : Nat) (xs : List Vrow) (b : Int) (h : xs.length ≤ 268435456) (hn : xs.length < n) (h0 : 0 ≤ b) (h1 : b + (3 : Nat) * xs.length ≤ 1099511627776) : laws_markVrowSF n xs b = some (b + (3 : Nat) * xs.length,markL (fun _ b => (⟨b,b + 1,b + 2⟩ : Vrow)) 3 xs b) := by
 have := mark_loop (L := laws_markVrowS_L2 n) (f := fun _ b => (⟨b,b + 1,b + 2⟩ : Vrow)) (c := 3) (fun m k ys b v hk hl hv h0 h1 => by
  rw [laws_markVrowS_L2,lt_true hk,idx_at hv]
  simp only [cond_true,Option.bind_some,idx_set hk,wrap64 (show -9223372036854775808 ≤ b + 1 by omega) (by omega),wrap64 (show -9223372036854775808 ≤ b + 1 + 1 by omega) (by omega),wrap64 (show -9223372036854775808 ≤ b + 1 + 1 + 1 by omega) (by omega),wrap_nat (show k ≤ 1099511627776 by omega)]
  rw [idx_set (by simpa using hk)]
  simp only [Option.bind_some,List.set_set,Int.toNat_natCast]
  rw [show b + 1 + 1 = b + 2 by omega,show b + 2 + 1 = b + (3 : Nat) by omega])
  (fun m ys b => by rw [laws_markVrowS_L2,lt_false]; rfl) xs n [] b (by simpa using h) h0 h1 hn
 unfold laws_markVrowSF
 simp only [List.length_nil,List.nil_append] at this
 rw [show laws_markVrowS_L2 n n 0 xs b = _ from this]
 rfl
theorem laws_heldVrowSF_ok (n : Nat) (xs : List Vrow) (b : Int) (h : xs.length ≤ 268435456) (hn : xs.length < n) (h0 : 0 ≤ b) (h1 : b + (3 : Nat) * xs.length ≤ 1099511627776) : laws_heldVrowSF n (markL (fun _ b => (⟨b,b + 1,b + 2⟩ : Vrow)) 3 xs b) b = some (b + (3 : Nat) * xs.length) := by
 have := held_loop (L := laws_heldVrowS_L2 n) (f := fun _ b => (⟨b,b + 1,b + 2⟩ : Vrow)) (c := 3) (fun m k ys b v hk hl hv h0 h1 => by
  rw [laws_heldVrowS_L2,lt_true hk,idx_at hv]
  simp only [cond_true,Option.bind_some,bne_self_eq_false,cond_false,wrap64 (show -9223372036854775808 ≤ b + 1 by omega) (by omega),wrap64 (show -9223372036854775808 ≤ b + 1 + 1 by omega) (by omega),wrap64 (show -9223372036854775808 ≤ b + 1 + 1 + 1 by omega) (by omega),wrap_nat (show k ≤ 1099511627776 by omega)]
  rw [show b + 1 + 1 = b + 2 by omega,show b + 2 + 1 = b + (3 : Nat) by omega]
  simp only [bne_self_eq_false,cond_false])
  (fun m ys b => by rw [laws_heldVrowS_L2,lt_false]; rfl) xs n [] b (by simpa using h) h0 h1 hn
 unfold laws_heldVrowSF
 simp only [List.length_nil,List.nil_append] at this
 rw [show laws_heldVrowS_L2 n n (markL (fun _ b => (⟨b,b + 1,b + 2⟩ : Vrow)) 3 xs b) 0 b = _ from this]
 rfl
theorem laws_markIntSF_ok (n : Nat) (xs : List Int) (b : Int) (h : xs.length ≤ 268435456) (hn : xs.length < n) (h0 : 0 ≤ b) (h1 : b + (1 : Nat) * xs.length ≤ 1099511627776) : laws_markIntSF n xs b = some (b + (1 : Nat) * xs.length,markL (fun _ b => b) 1 xs b) := by
 have := mark_loop (L := laws_markIntS_L2 n) (f := fun _ b => b) (c := 1) (fun m k ys b v hk hl hv h0 h1 => by
  rw [laws_markIntS_L2,lt_true hk,idx_at hv]
  simp only [cond_true,Option.bind_some,wrap64 (show -9223372036854775808 ≤ b + 1 by omega) (by omega),wrap_nat (show k ≤ 1099511627776 by omega),Int.toNat_natCast]
  rfl)
  (fun m ys b => by rw [laws_markIntS_L2,lt_false]; rfl) xs n [] b (by simpa using h) h0 h1 hn
 unfold laws_markIntSF
 simp only [List.length_nil,List.nil_append] at this
 rw [show laws_markIntS_L2 n n 0 xs b = _ from this]
 rfl
theorem laws_heldIntSF_ok (n : Nat) (xs : List Int) (b : Int) (h : xs.length ≤ 268435456) (hn : xs.length < n) (h0 : 0 ≤ b) (h1 : b + (1 : Nat) * xs.length ≤ 1099511627776) : laws_heldIntSF n (markL (fun _ b => b) 1 xs b) b = some (b + (1 : Nat) * xs.length) := by
 have := held_loop (L := laws_heldIntS_L2 n) (f := fun _ b => b) (c := 1) (fun m k ys b v hk hl hv h0 h1 => by
  rw [laws_heldIntS_L2,lt_true hk,idx_at hv]
  simp only [cond_true,Option.bind_some,bne_self_eq_false,cond_false,wrap64 (show -9223372036854775808 ≤ b + 1 by omega) (by omega),wrap_nat (show k ≤ 1099511627776 by omega)]
  rfl)
  (fun m ys b => by rw [laws_heldIntS_L2,lt_false]; rfl) xs n [] b (by simpa using h) h0 h1 hn
 unfold laws_heldIntSF
 simp only [List.length_nil,List.nil_append] at this
 rw [show laws_heldIntS_L2 n n (markL (fun _ b => b) 1 xs b) 0 b = _ from this]
 rfl
theorem spec_l9CopyF_eq (n : Nat) (x : Vtab) (h : x.sz ≤ 268435456) : spec_l9CopyF n x = some x := by
 have hs : x.Rows.length + x.Pvid.length = x.sz := rfl
 unfold spec_l9CopyF
 simp only [List.length_nil,Nat.zero_add,decide_eq_true (show x.Rows.length ≤ 268435456 by omega),decide_eq_true (show x.Pvid.length ≤ 268435456 by omega),cond_true,List.nil_append]
theorem impl_copyVtabF_eq (n : Nat) (x : Vtab) (h : x.sz ≤ 268435456) : impl_copyVtabF n x = some x := by
 have hs : x.Rows.length + x.Pvid.length = x.sz := rfl
 unfold impl_copyVtabF impl_copyIntsF
 simp only [List.length_nil,Nat.zero_add,decide_eq_true (show x.Rows.length ≤ 268435456 by omega),decide_eq_true (show x.Pvid.length ≤ 268435456 by omega),cond_true,List.nil_append,Option.bind_some]
theorem laws_szFentSF_ok (n : Nat) {xs : List Fent} {b : Int} (h0 : 0 ≤ b) (h1 : b ≤ 1048576) (hl : xs.length ≤ maxLen) : ∃ r,laws_szFentSF n xs b = some r ∧ Lft b xs.length r := sz_step h0 h1 hl
theorem laws_toFentSF_eq (n : Nat) (xs : List Fent) (h : xs.length ≤ 1048576) (hn : xs.length < n) : laws_toFentSF n xs = some xs := by
 unfold laws_toFentSF
 rw [decide_eq_true (by omega : (0 : Int) ≤ (xs.length : Int)),decide_eq_true (by omega : (xs.length : Int) ≤ 268435456)]
 have := copy_loop (L := laws_toFentS_L2 n) (fun m xs i ys => rfl) xs (by omega) n 0 (List.replicate ((xs.length : Int)).toNat (⟨0,0,0,0,false⟩ : Fent)) (by omega) (by omega) (by simp) rfl
 simp only [Bool.and_self,cond_true]
 rw [show (laws_toFentS_L2 n n xs 0 (List.replicate ((xs.length : Int)).toNat (⟨0,0,0,0,false⟩ : Fent))) = _ from this]
 rfl
theorem laws_eqFentF_refl (n : Nat) (v : Fent) : laws_eqFentF n v v = some true := by simp [laws_eqFentF]
theorem laws_eqFentSF_refl (n : Nat) (xs : List Fent) (h : xs.length ≤ 268435456) (hn : xs.length < n) : laws_eqFentSF n xs xs = some true := by
 unfold laws_eqFentSF
 have := eq_loop (L := laws_eqFentS_L2 n) (f := laws_eqFentF n) (fun m xs ys i => rfl) xs (by omega) (fun v _ => laws_eqFentF_refl n v) n 0 (by omega) (by omega)
 simp only [bne_self_eq_false,cond_false]
 rw [show (laws_eqFentS_L2 n n xs xs 0) = _ from this]
 rfl
def Bridge.sz (x : Bridge) : Nat := x.Name.size + x.Ports.length + x.F.length + x.V.sz
theorem laws_szBridgeF_ok (n : Nat) {x : Bridge} {b : Int} (h0 : 0 ≤ b) (h1 : b ≤ 1048576) (hl : Bridge.wf x) : ∃ r,laws_szBridgeF n x b = some r ∧ Lft b x.sz r := by
 have hm : maxLen = 9223372036854775807 := by decide
 have hn := hl.2.1
 unfold laws_szBridgeF
 rw [wrap64 (by omega) (by omega)]
 by_cases h : b - (x.Name.size : Int) < 0
 ·rw [decide_eq_true h]; exact ⟨_,rfl,.inl (by decide)⟩
 ·rw [decide_eq_false h]
  obtain ⟨r1,e1,k1⟩ := laws_szPtSF_ok n (xs := x.Ports) (b := b - x.Name.size) (by omega) (by omega) hl.2.2.1.1
  simp only [cond_false,e1,Option.bind_some]
  rcases k1.neg with ⟨c1,c2⟩ | ⟨c1,c2,c3⟩
  ·rw [c1]; exact ⟨_,rfl,.inl (by decide)⟩
  ·rw [c1]
   obtain ⟨r2,e2,k2⟩ := laws_szFentSF_ok n (xs := x.F) c2 (by omega) hl.2.2.2.1.1
   simp only [cond_false,e2,Option.bind_some]
   rcases k2.neg with ⟨d1,d2⟩ | ⟨d1,d2,d3⟩
   ·rw [d1]; exact ⟨_,rfl,.inl (by decide)⟩
   ·rw [d1]
    obtain ⟨r3,e3,k3⟩ := laws_szVtabF_ok n (x := x.V) d2 (by omega) ⟨hl.2.2.2.2.1,hl.2.2.2.2.2.1,trivial⟩
    simp only [cond_false,e3,Option.bind_some]
    rcases k3.neg with ⟨f1,f2⟩ | ⟨f1,f2,f3⟩
    ·rw [f1]; exact ⟨_,rfl,.inl (by decide)⟩
    ·rw [f1]; exact ⟨_,rfl,.inr ⟨f2,by unfold Bridge.sz; omega⟩⟩
theorem laws_toBridgeF_eq (n : Nat) (x : Bridge) (h : x.sz ≤ 1048576) (hn : x.sz < n) : laws_toBridgeF n x = some x := by
 unfold Bridge.sz at h hn
 unfold laws_toBridgeF
 rw [laws_toPtSF_eq n x.Ports (by omega) (by omega),laws_toFentSF_eq n x.F (by omega) (by omega),laws_toVtabF_eq n x.V (by omega) (by omega)]
 rfl
theorem laws_eqBridgeF_refl (n : Nat) (x : Bridge) (h : x.sz ≤ 268435456) (hn : x.sz < n) : laws_eqBridgeF n x x = some true := by
 unfold Bridge.sz at h hn
 unfold laws_eqBridgeF
 rw [laws_eqPtSF_refl n x.Ports (by omega) (by omega),laws_eqFentSF_refl n x.F (by omega) (by omega),laws_eqVtabF_refl n x.V (by omega) (by omega)]
 simp
theorem laws_markPtSF_ok (n : Nat) (xs : List Pt) (b : Int) (h : xs.length ≤ 268435456) (hn : xs.length < n) (h0 : 0 ≤ b) (h1 : b + (8 : Nat) * xs.length ≤ 1099511627776) : laws_markPtSF n xs b = some (b + (8 : Nat) * xs.length,markL (fun _ b => (⟨Int.tmod b 3 == 0,b + 1,Int.tmod (b + 2) 3 == 0,⟨b + 3,b + 4,b + 5,b + 6,b + 7⟩⟩ : Pt)) 8 xs b) := by
 have := mark_loop (L := laws_markPtS_L2 n) (f := fun _ b => (⟨Int.tmod b 3 == 0,b + 1,Int.tmod (b + 2) 3 == 0,⟨b + 3,b + 4,b + 5,b + 6,b + 7⟩⟩ : Pt)) (c := 8) (fun m k ys b v hk hl hv h0 h1 => by
  rw [laws_markPtS_L2,lt_true hk,idx_at hv]
  simp (disch := omega) only [cond_true,Option.bind_some,List.set_set,idx_set' hk,wrap64,wrap_nat,Int.toNat_natCast,show decide ((3 : Int) ≠ 0) = true from rfl]
  simp only [Int.add_assoc,Int.reduceAdd,show ((8 : Nat) : Int) = 8 from rfl]
  rfl)
  (fun m ys b => by rw [laws_markPtS_L2,lt_false]; rfl) xs n [] b (by simpa using h) h0 h1 hn
 unfold laws_markPtSF
 simp only [List.length_nil,List.nil_append] at this
 rw [show laws_markPtS_L2 n n 0 xs b = _ from this]
 rfl
theorem laws_heldPtSF_ok (n : Nat) (xs : List Pt) (b : Int) (h : xs.length ≤ 268435456) (hn : xs.length < n) (h0 : 0 ≤ b) (h1 : b + (8 : Nat) * xs.length ≤ 1099511627776) : laws_heldPtSF n (markL (fun _ b => (⟨Int.tmod b 3 == 0,b + 1,Int.tmod (b + 2) 3 == 0,⟨b + 3,b + 4,b + 5,b + 6,b + 7⟩⟩ : Pt)) 8 xs b) b = some (b + (8 : Nat) * xs.length) := by
 have := held_loop (L := laws_heldPtS_L2 n) (f := fun _ b => (⟨Int.tmod b 3 == 0,b + 1,Int.tmod (b + 2) 3 == 0,⟨b + 3,b + 4,b + 5,b + 6,b + 7⟩⟩ : Pt)) (c := 8) (fun m k ys b v hk hl hv h0 h1 => by
  rw [laws_heldPtS_L2,lt_true hk,idx_at hv]
  simp (disch := omega) only [cond_true,Option.bind_some,wrap64,wrap_nat,Int.toNat_natCast,show decide ((3 : Int) ≠ 0) = true from rfl]
  simp only [Int.add_assoc,Int.reduceAdd,show ((8 : Nat) : Int) = 8 from rfl,bne_self_eq_false,beq_self_eq_true,Bool.not_true,cond_false]
  rfl)
  (fun m ys b => by rw [laws_heldPtS_L2,lt_false]; rfl) xs n [] b (by simpa using h) h0 h1 hn
 unfold laws_heldPtSF
 simp only [List.length_nil,List.nil_append] at this
 rw [show laws_heldPtS_L2 n n (markL _ 8 xs b) 0 b = _ from this]
 rfl
theorem laws_markFentSF_ok (n : Nat) (xs : List Fent) (b : Int) (h : xs.length ≤ 268435456) (hn : xs.length < n) (h0 : 0 ≤ b) (h1 : b + (5 : Nat) * xs.length ≤ 1099511627776) : laws_markFentSF n xs b = some (b + (5 : Nat) * xs.length,markL (fun _ b => (⟨b,b + 1,b + 2,b + 3,Int.tmod (b + 4) 3 == 0⟩ : Fent)) 5 xs b) := by
 have := mark_loop (L := laws_markFentS_L2 n) (f := fun _ b => (⟨b,b + 1,b + 2,b + 3,Int.tmod (b + 4) 3 == 0⟩ : Fent)) (c := 5) (fun m k ys b v hk hl hv h0 h1 => by
  rw [laws_markFentS_L2,lt_true hk,idx_at hv]
  simp (disch := omega) only [cond_true,Option.bind_some,List.set_set,idx_set' hk,wrap64,wrap_nat,Int.toNat_natCast,show decide ((3 : Int) ≠ 0) = true from rfl]
  simp only [Int.add_assoc,Int.reduceAdd,show ((5 : Nat) : Int) = 5 from rfl]
  rfl)
  (fun m ys b => by rw [laws_markFentS_L2,lt_false]; rfl) xs n [] b (by simpa using h) h0 h1 hn
 unfold laws_markFentSF
 simp only [List.length_nil,List.nil_append] at this
 rw [show laws_markFentS_L2 n n 0 xs b = _ from this]
 rfl
theorem laws_heldFentSF_ok (n : Nat) (xs : List Fent) (b : Int) (h : xs.length ≤ 268435456) (hn : xs.length < n) (h0 : 0 ≤ b) (h1 : b + (5 : Nat) * xs.length ≤ 1099511627776) : laws_heldFentSF n (markL (fun _ b => (⟨b,b + 1,b + 2,b + 3,Int.tmod (b + 4) 3 == 0⟩ : Fent)) 5 xs b) b = some (b + (5 : Nat) * xs.length) := by
 have := held_loop (L := laws_heldFentS_L2 n) (f := fun _ b => (⟨b,b + 1,b + 2,b + 3,Int.tmod (b + 4) 3 == 0⟩ : Fent)) (c := 5) (fun m k ys b v hk hl hv h0 h1 => by
  rw [laws_heldFentS_L2,lt_true hk,idx_at hv]
  simp (disch := omega) only [cond_true,Option.bind_some,wrap64,wrap_nat,Int.toNat_natCast,show decide ((3 : Int) ≠ 0) = true from rfl]
  simp only [Int.add_assoc,Int.reduceAdd,show ((5 : Nat) : Int) = 5 from rfl,bne_self_eq_false,beq_self_eq_true,Bool.not_true,cond_false]
  rfl)
  (fun m ys b => by rw [laws_heldFentS_L2,lt_false]; rfl) xs n [] b (by simpa using h) h0 h1 hn
 unfold laws_heldFentSF
 simp only [List.length_nil,List.nil_append] at this
 rw [show laws_heldFentS_L2 n n (markL _ 5 xs b) 0 b = _ from this]
 rfl
theorem laws_markVtabF_okb (n : Nat) (x : Vtab) (b : Int) (h : x.sz ≤ 268435456) (hn : x.sz < n) (hb : 0 < b) (hb2 : b ≤ 549755813888) : ∃ c y,b ≤ c ∧ c ≤ b + 3 * x.sz ∧ laws_markVtabF n x b = some (c,y) ∧ laws_heldVtabF n y b = some c := by
 have hs : x.Rows.length + x.Pvid.length = x.sz := rfl
 refine ⟨b + (3 : Nat) * x.Rows.length + (1 : Nat) * x.Pvid.length,⟨markL (fun _ b => (⟨b,b + 1,b + 2⟩ : Vrow)) 3 x.Rows b,markL (fun _ b => b) 1 x.Pvid (b + (3 : Nat) * x.Rows.length)⟩,by omega,by omega,?_,?_⟩
 ·unfold laws_markVtabF
  rw [laws_markVrowSF_ok n x.Rows b (by omega) (by omega) (by omega) (by omega),Option.bind_some,laws_markIntSF_ok n x.Pvid _ (by omega) (by omega) (by omega) (by omega)]
  rfl
 ·unfold laws_heldVtabF
  rw [laws_heldVrowSF_ok n x.Rows b (by omega) (by omega) (by omega) (by omega),Option.bind_some,laws_heldIntSF_ok n x.Pvid _ (by omega) (by omega) (by omega) (by omega),Option.bind_some,decide_eq_false (by omega),decide_eq_false (by omega)]
  rfl
theorem laws_markBridgeF_ok (n : Nat) (x : Bridge) (b : Int) (h : x.sz ≤ 268435456) (hn : x.sz < n) (hb : 0 < b) (hb2 : b ≤ 274877906944) : ∃ c y,b ≤ c ∧ c ≤ b + 8 * x.sz ∧ laws_markBridgeF n x b = some (c,y) ∧ laws_heldBridgeF n y b = some c := by
 have hs : x.Name.size + x.Ports.length + x.F.length + x.V.sz = x.sz := rfl
 obtain ⟨c,y,k1,k2,k3,k4⟩ := laws_markVtabF_okb n x.V (b + (8 : Nat) * x.Ports.length + (5 : Nat) * x.F.length) (by omega) (by omega) (by omega) (by omega)
 refine ⟨c,⟨x.Id,x.Name,markL (fun _ b => (⟨Int.tmod b 3 == 0,b + 1,Int.tmod (b + 2) 3 == 0,⟨b + 3,b + 4,b + 5,b + 6,b + 7⟩⟩ : Pt)) 8 x.Ports b,markL (fun _ b => (⟨b,b + 1,b + 2,b + 3,Int.tmod (b + 4) 3 == 0⟩ : Fent)) 5 x.F (b + (8 : Nat) * x.Ports.length),y,x.Ticks,x.Parse,x.Word,x.Drops,x.Vers⟩,by omega,by omega,?_,?_⟩
 ·unfold laws_markBridgeF
  rw [laws_markPtSF_ok n x.Ports b (by omega) (by omega) (by omega) (by omega),Option.bind_some,laws_markFentSF_ok n x.F _ (by omega) (by omega) (by omega) (by omega),Option.bind_some,k3]
  rfl
 ·unfold laws_heldBridgeF
  rw [laws_heldPtSF_ok n x.Ports b (by omega) (by omega) (by omega) (by omega),Option.bind_some,decide_eq_false (by omega)]
  simp only [cond_false]
  rw [laws_heldFentSF_ok n x.F _ (by omega) (by omega) (by omega) (by omega),Option.bind_some,decide_eq_false (by omega)]
  simp only [cond_false]
  rw [k4,Option.bind_some,decide_eq_false (by omega)]
  rfl
theorem impl_PtOkF_eq (n : Nat) : impl_PtOkF n = spec_PtOkF n := by
 funext v
 unfold impl_PtOkF spec_PtOkF
 rw [impl_inF_eq,impl_VecOkF_eq]
 obtain ⟨b,hb⟩ := spec_l1InF_tot n v.Cost 1 1000
 rw [hb]
 cases b <;> cases v.Up <;> cases v.Has <;> rfl
theorem spec_PtOkF_tot (n : Nat) (v : Pt) : Tot (spec_PtOkF n v) := by
 unfold spec_PtOkF
 repeat' first | exact Tot.of | refine Tot.bind (spec_l1InF_tot _ _ _ _) fun _ _ => ?_ | refine Tot.bind (spec_VecOkF_tot _ _) fun _ _ => ?_ | refine Tot.bif (fun _ => ?_) (fun _ => ?_)
theorem spec_l8EntF_tot (n : Nat) (v : Fent) : Tot (spec_l8EntF n v) := by
 unfold spec_l8EntF
 repeat' first | exact Tot.of | refine Tot.bind (spec_l1InF_tot _ _ _ _) fun _ _ => ?_ | refine Tot.bif (fun _ => ?_) (fun _ => ?_)
theorem impl_fentOkF_eq (n : Nat) : impl_fentOkF n = spec_l8EntF n := rfl
theorem impl_behindF_eq (n : Nat) (v u : Fent) : impl_behindF n u v.Tag v.Mac = spec_l8AheadF n v u.Tag u.Mac := by
 unfold impl_behindF spec_l8AheadF
 by_cases h1 : v.Tag = u.Tag
 ·simp [h1]
 ·have e1 : (v.Tag != u.Tag) = true := by simpa using h1
  have e2 : (u.Tag == v.Tag) = false := by simpa using fun e : u.Tag = v.Tag => h1 e.symm
  rw [e1,e2]
  by_cases h2 : v.Tag < u.Tag
  ·rw [decide_eq_true h2]; rfl
  ·rw [decide_eq_false h2]; rfl
theorem spec_l8AheadF_tot (n : Nat) (v : Fent) (a b : Int) : Tot (spec_l8AheadF n v a b) := Tot.bif (fun _ => .of) (fun _ => .of)
theorem spec_FdbOk_L2_both (n : Nat) (xs : List Fent) (h : xs.length ≤ 1048580) : ∀ (m k : Nat),k ≤ xs.length → xs.length < m + k → impl_FdbOk_L2 n m xs k = spec_FdbOk_L2 n m xs k ∧ Tot (spec_FdbOk_L2 n m xs k)
 | 0,k,h1,h2 => by omega
 | m + 1,k,h1,h2 => by
  rw [spec_FdbOk_L2,impl_FdbOk_L2]
  by_cases hk : k < xs.length
  ·obtain ⟨ih1,o,ih2⟩ := spec_FdbOk_L2_both n xs h m (k + 1) (by omega) (by omega)
   rw [lt_true hk]
   obtain ⟨a,ha⟩ := spec_l8EntF_tot n xs[k]
   simp only [wrap_nat (by omega : k ≤ 1099511627776),idx_nat hk,Option.bind_some,cond_true,ih1,ih2,impl_fentOkF_eq,ha]
   cases k with
   | zero => cases a <;> exact ⟨by trivial,Tot.of⟩
   | succ k =>
    have hw2 : IntKind.wrap .i64 (((k + 1 : Nat) : Int) - 1) = (k : Int) := by rw [wrap64 (by omega) (by omega)]; omega
    have hpos : decide (((k + 1 : Nat) : Int) > 0) = true := decide_eq_true (by omega)
    obtain ⟨b,hb⟩ := spec_l8AheadF_tot n (xs[k]'(by omega)) xs[k + 1].Tag xs[k + 1].Mac
    simp only [hw2,hpos,cond_true,idx_nat (show k < xs.length by omega),Option.bind_some,impl_behindF_eq,hb]
    cases a <;> cases b <;> exact ⟨by trivial,Tot.of⟩
  ·have he : k = xs.length := by omega
   rw [he,lt_false]
   exact ⟨rfl,Tot.of⟩
theorem spec_FdbOkF_both (n : Nat) (xs : List Fent) (h : xs.length ≤ 1048580) (hn : xs.length < n) : ∃ b,spec_FdbOkF n xs = some b ∧ impl_FdbOkF n xs = some b := by
 obtain ⟨e1,o,e2⟩ := spec_FdbOk_L2_both n xs h n 0 (by omega) (by omega)
 have e1' : impl_FdbOk_L2 n n xs 0 = some o := e1.trans e2
 have e2' : spec_FdbOk_L2 n n xs 0 = some o := e2
 unfold spec_FdbOkF impl_FdbOkF
 rw [e1',e2']
 cases o <;> exact ⟨_,rfl,rfl⟩
theorem impl_BridgeOk_L2_eq (n : Nat) : impl_BridgeOk_L2 n = spec_BridgeOk_L2 n := by
 funext m
 induction m with
 | zero => rfl
 | succ m ih => funext x i; simp only [impl_BridgeOk_L2,spec_BridgeOk_L2,ih,impl_PtOkF_eq]
theorem spec_BridgeOk_L2_tot (n : Nat) (x : Bridge) (h : x.Ports.length ≤ 1048580) : ∀ (m k : Nat),k ≤ x.Ports.length → x.Ports.length < m + k → Tot (spec_BridgeOk_L2 n m x k)
 | 0,k,h1,h2 => by omega
 | m + 1,k,h1,h2 => by
  rw [spec_BridgeOk_L2]
  refine Tot.step (fun hk => ?_) .of
  have ih := spec_BridgeOk_L2_tot n x h m (k + 1) (by omega) (by omega)
  rw [wrap_nat (by omega : k ≤ 1099511627776)]
  exact Tot.bind (idx_tot hk) fun _ _ => Tot.bind (spec_PtOkF_tot _ _) fun _ _ => Tot.bif (fun _ => .of) fun _ => ih
theorem spec_BridgeOkF_both (n : Nat) (x : Bridge) (wx : x.wf) (h : x.sz ≤ 1048580) (hn : x.sz < n) : ∃ b,spec_BridgeOkF n x = some b ∧ impl_BridgeOkF n x = some b := by
 have hs : x.Name.size + x.Ports.length + x.F.length + x.V.sz = x.sz := rfl
 obtain ⟨o,ho⟩ := spec_BridgeOk_L2_tot n x (by omega) n 0 (by omega) (by omega)
 have ho' : spec_BridgeOk_L2 n n x 0 = some o := ho
 obtain ⟨f,hf1,hf2⟩ := spec_FdbOkF_both n x.F (by omega) (by omega)
 obtain ⟨g,v,hv⟩ := spec_VtabOkF_both n x.V ⟨wx.2.2.2.2.1,wx.2.2.2.2.2.1,trivial⟩ (x.Ports.length : Int) (by omega) (by omega)
 unfold spec_BridgeOkF impl_BridgeOkF
 rw [impl_BridgeOk_L2_eq,ho',Option.bind_some,Option.bind_some]
 cases o with
 | inr r => exact ⟨_,rfl,rfl⟩
 | inl u =>
  simp only [spec_BridgeOk_J1,impl_BridgeOk_J1,impl_inF_eq,impl_isCountF,spec_l11CountsF,spec_l1InF_val,hf1,hf2,g,hv,Option.bind_some]
  have hname : decide ((x.Name.size : Int) > 10) = !decide ((x.Name.size : Int) ≤ 10) := by
   by_cases h : (x.Name.size : Int) ≤ 10
   ·rw [decide_eq_true h,decide_eq_false (by omega)]; rfl
   ·rw [decide_eq_false h,decide_eq_true (by omega)]; rfl
  rw [hname]
  generalize decide ((x.Name.size : Int) ≤ 10) = b1
  generalize (decide (1 ≤ x.Id) && decide (x.Id ≤ 99)) = b2
  generalize (decide (1 ≤ (x.Ports.length : Int)) && decide ((x.Ports.length : Int) ≤ 6)) = b3
  generalize (decide (0 ≤ x.Ticks) && decide (x.Ticks ≤ 1000000)) = b4
  generalize (decide (0 ≤ x.Parse) && decide (x.Parse ≤ 1000000)) = b5
  generalize (decide (0 ≤ x.Word) && decide (x.Word ≤ 1000000)) = b6
  generalize (decide (0 ≤ x.Drops) && decide (x.Drops ≤ 1000000)) = b7
  generalize (decide (0 ≤ x.Vers) && decide (x.Vers ≤ 1000000)) = b8
  clear hf1 hf2 g hv hname
  revert f v b1 b2 b3 b4 b5 b6 b7 b8
  decide +kernel
def sortedFrom (xs : List Vrow) (k : Nat) : Prop := ∀ j (hj : j + 1 < xs.length),k ≤ j + 1 → xs[j].Id < xs[j + 1].Id
theorem spec_VtabOk_L4_sorted (n : Nat) (x0 : Vtab) (x1 : Int) (h : x0.Rows.length ≤ 1048580) : ∀ (m k : Nat) (o : Unit ⊕ Bool),k ≤ x0.Rows.length → spec_VtabOk_L4 n m x0 x1 k = some o → o = .inr false ∨ sortedFrom x0.Rows k
 | 0,k,o,h1,h2 => by cases h2
 | m + 1,k,o,h1,h2 => by
  rw [spec_VtabOk_L4] at h2
  by_cases hk : k < x0.Rows.length
  ·rw [lt_true hk,idx_nat hk,wrap_nat (by omega)] at h2
   simp only [cond_true,Option.bind_some,spec_l1InF_val] at h2
   have rec' : ∀ o,spec_VtabOk_L4 n m x0 x1 ((k + 1 : Nat) : Int) = some o → (k = 0 ∨ ∃ hk0 : 0 < k,(x0.Rows[k - 1]'(by omega)).Id < x0.Rows[k].Id) → o = .inr false ∨ sortedFrom x0.Rows k := fun o ho hs => by
    rcases spec_VtabOk_L4_sorted n x0 x1 h m (k + 1) o (by omega) ho with e | e
    ·exact .inl e
    ·right
     intro j hj hkj
     by_cases hjk : k = j + 1
     ·subst hjk
      rcases hs with hs | ⟨_,hs⟩
      ·omega
      ·simpa using hs
     ·exact e j hj (by omega)
   revert h2
   cases (decide (1 ≤ x0.Rows[k].Id) && decide (x0.Rows[k].Id ≤ 99)) with
   | false => intro h2; left; exact (Option.some.inj h2).symm
   | true =>
    simp only [Bool.not_true,cond_false]
    cases (decide (0 ≤ x0.Rows[k].Members) && decide (x0.Rows[k].Members ≤ _)) with
    | false => intro h2; left; exact (Option.some.inj h2).symm
    | true =>
     simp only [Bool.not_true,cond_false]
     cases (decide (0 ≤ x0.Rows[k].Bare) && decide (x0.Rows[k].Bare ≤ _)) with
     | false => intro h2; left; exact (Option.some.inj h2).symm
     | true =>
      simp only [Bool.not_true,cond_false]
      cases ((IntKind.wrap .i64 (BitVec.ofInt (IntKind.bits .i64) x0.Rows[k].Bare &&& BitVec.ofInt (IntKind.bits .i64) x0.Rows[k].Members).toNat) != x0.Rows[k].Bare) with
      | true => intro h2; left; exact (Option.some.inj h2).symm
      | false =>
       simp only [cond_false]
       by_cases hk0 : 0 < k
       ·have hw2 : IntKind.wrap .i64 ((k : Int) - 1) = ((k - 1 : Nat) : Int) := by rw [wrap64 (by omega) (by omega)]; omega
        rw [decide_eq_true (show (k : Int) > 0 by omega),hw2,idx_nat (show k - 1 < x0.Rows.length by omega)]
        simp only [cond_true,Option.bind_some]
        by_cases hge : (x0.Rows[k - 1]'(by omega)).Id ≥ x0.Rows[k].Id
        ·rw [decide_eq_true hge]
         intro h2; left; exact (Option.some.inj h2).symm
        ·rw [decide_eq_false hge]
         intro h2
         exact rec' o h2 (.inr ⟨hk0,by omega⟩)
       ·rw [decide_eq_false (show ¬ (k : Int) > 0 by omega)]
        intro h2
        exact rec' o h2 (.inl (by omega))
  ·right
   intro j hj hkj
   omega
theorem spec_VtabOkF_sorted (n : Nat) (x : Vtab) (p : Int) (h : x.Rows.length ≤ 1048580) (hok : spec_VtabOkF n x p = some true) : sortedFrom x.Rows 0 := by
 unfold spec_VtabOkF at hok
 simp only [spec_l1InF_val,Option.bind_some] at hok
 revert hok
 cases (decide (1 ≤ p) && decide (p ≤ 6)) with
 | false => intro h; cases h
 | true =>
  simp only [Bool.not_true,cond_false]
  cases ((x.Pvid.length : Int) != p) with
  | true => intro h; cases h
  | false =>
   simp only [cond_false]
   cases (decide ((x.Rows.length : Int) > 6)) with
   | true => intro h; cases h
   | false =>
    simp only [cond_false]
    cases (decide (0 ≤ (IntKind.wrap .u64 p))) with
    | false => intro h; cases h
    | true =>
     simp only [cond_true]
     intro hok
     obtain ⟨o,ho,hm⟩ := bind_some hok
     rcases spec_VtabOk_L4_sorted n x p h n 0 o (by omega) ho with e | e
     ·subst e; cases hm
     ·exact e
theorem small_or : ∀ k < 6,∀ a < 64,IntKind.wrap .i64 (BitVec.ofInt (IntKind.bits .i64) (a : Nat) ||| BitVec.ofInt (IntKind.bits .i64) (IntKind.wrap .i64 (1 * 2 ^ min ((k : Nat) : Int).toNat (IntKind.bits .i64)))).toNat = ((a ||| 2 ^ k : Nat) : Int) := by decide +kernel
theorem small_bit : ∀ i < 6,∀ a < 64,(IntKind.wrap .i64 (BitVec.ofInt (IntKind.bits .i64) (Int.fdiv ((a : Nat) : Int) (2 ^ min ((IntKind.wrap .u64 ((i : Nat) : Int)) : Int).toNat (IntKind.bits .i64))) &&& BitVec.ofInt (IntKind.bits .i64) 1).toNat == 1) = a.testBit i := by decide +kernel
theorem impl_Sends_L2_bits (n : Nat) (x0 : Int) (x1 : List Pt) (h : x1.length ≤ 6) (hn : x1.length < n) : ∀ (m k a : Nat),k ≤ x1.length → x1.length < m + k → a < 2 ^ k → (∀ j < k,∃ r,spec_RoleOfF n x0 x1 (j : Nat) = some r ∧ (a.testBit j = true ↔ r ≤ 2)) → ∃ b : Nat,impl_Sends_L2 n m x0 x1 k a = some (.inl (b : Int)) ∧ b < 64 ∧ ∀ j < x1.length,∃ r,spec_RoleOfF n x0 x1 (j : Nat) = some r ∧ (b.testBit j = true ↔ r ≤ 2)
 | 0,k,a,h1,h2,h3,h4 => by omega
 | m + 1,k,a,h1,h2,h3,h4 => by
  have hp : a < 64 := Nat.lt_of_lt_of_le h3 (Nat.pow_le_pow_right (by decide) (show k ≤ 6 by omega))
  rw [impl_Sends_L2]
  by_cases hk : k < x1.length
  ·obtain ⟨r,hr,r1,r2⟩ := spec_RoleOfF_ok n x0 x1 k (by omega) hn
   have h0 : decide ((0 : Int) ≤ (k : Int)) = true := decide_eq_true (by omega)
   have h6 : decide ((k : Int) < 6) = true := decide_eq_true (by omega)
   simp only [lt_true hk,h6,h0,cond_true,wrap_nat (by omega : k ≤ 1099511627776),impl_RoleOfF_eq,hr,Option.bind_some,small_or k (by omega) a hp]
   have no : a.testBit k = false := Nat.testBit_lt_two_pow h3
   have ihy := impl_Sends_L2_bits n x0 x1 h hn m (k + 1) (a ||| 2 ^ k) (by omega) (by omega) (Nat.or_lt_two_pow (Nat.lt_of_lt_of_le h3 (Nat.pow_le_pow_right (by decide) (by omega))) (Nat.pow_lt_pow_right (by decide) (by omega)))
   have ihn := impl_Sends_L2_bits n x0 x1 h hn m (k + 1) a (by omega) (by omega) (Nat.lt_of_lt_of_le h3 (Nat.pow_le_pow_right (by decide) (by omega)))
   have yes : r ≤ 2 → ∀ j < k + 1,∃ r,spec_RoleOfF n x0 x1 (j : Nat) = some r ∧ ((a ||| 2 ^ k).testBit j = true ↔ r ≤ 2) := fun hr2 j hj => by
    rw [Nat.testBit_or,Nat.testBit_two_pow]
    by_cases e : j = k
    ·subst e; exact ⟨r,hr,by simp [hr2]⟩
    ·obtain ⟨q,hq,hb⟩ := h4 j (by omega)
     exact ⟨q,hq,by rw [decide_eq_false (by omega),Bool.or_false]; exact hb⟩
   have non : ¬ r ≤ 2 → ∀ j < k + 1,∃ r,spec_RoleOfF n x0 x1 (j : Nat) = some r ∧ (a.testBit j = true ↔ r ≤ 2) := fun hr2 j hj => by
    by_cases e : j = k
    ·subst e; exact ⟨r,hr,by simp [no,hr2]⟩
    ·exact h4 j (by omega)
   have hc : r = 1 ∨ r = 2 ∨ r = 3 ∨ r = 4 := by omega
   rcases hc with e | e | e | e
   ·rw [e]; exact ihy (yes (by omega))
   ·rw [e]; exact ihy (yes (by omega))
   ·rw [e]; exact ihn (non (by omega))
   ·rw [e]; exact ihn (non (by omega))
  ·have e : k = x1.length := by omega
   subst e
   rw [lt_false,cond_false]
   exact ⟨a,rfl,hp,h4⟩
theorem impl_SendsF_bits (n : Nat) (x0 : Int) (x1 : List Pt) (h : x1.length ≤ 6) (hn : x1.length < n) : ∃ b : Nat,impl_SendsF n x0 x1 = some (b : Int) ∧ b < 64 ∧ ∀ j < x1.length,∃ r,spec_RoleOfF n x0 x1 (j : Nat) = some r ∧ (b.testBit j = true ↔ r ≤ 2) := by
 obtain ⟨b,e,b1,b2⟩ := impl_Sends_L2_bits n x0 x1 h hn n 0 0 (by omega) (by omega) (by decide) (fun j hj => by omega)
 have e : impl_Sends_L2 n n x0 x1 0 0 = some (.inl (b : Int)) := e
 exact ⟨b,by unfold impl_SendsF; rw [e]; rfl,b1,b2⟩
def bitV (a : Int) (i : Nat) : Bool := (IntKind.wrap .i64 (BitVec.ofInt (IntKind.bits .i64) (Int.fdiv a (2 ^ min ((i : Int)).toNat (IntKind.bits .i64))) &&& BitVec.ofInt (IntKind.bits .i64) 1).toNat == 1)
theorem bitV_nine : ∀ a < 64,bitV ((a : Nat) : Int) 9 = false := by decide +kernel
theorem impl_hasPortF_val (n : Nat) (a : Int) (i : Nat) (h : i ≤ 62) : impl_hasPortF n a i = some (bitV a i) := by
 unfold impl_hasPortF
 simp only [impl_inF_eq,spec_l1InF_val,Option.bind_some,decide_eq_true (show (0 : Int) ≤ (i : Int) by omega),decide_eq_true (show (i : Int) ≤ 62 by omega),Bool.and_self,cond_true]
 rfl
theorem impl_hasPortF_neg (n : Nat) (a i : Int) (h : i < 0) : impl_hasPortF n a i = some false := by
 unfold impl_hasPortF
 simp only [impl_inF_eq,spec_l1InF_val,Option.bind_some,decide_eq_false (show ¬ (0 : Int) ≤ i by omega),Bool.false_and,cond_false]
theorem spec_l9BitF_val (n : Nat) (a : Int) (i : Nat) (h : i ≤ 7) : spec_l9BitF n a i = some (bitV a i) := by
 unfold spec_l9BitF
 have hu : IntKind.wrap .u64 (i : Int) = i := wrapU (by omega)
 simp only [spec_l1InF_val,Option.bind_some,decide_eq_true (show (0 : Int) ≤ (i : Int) by omega),decide_eq_true (show (i : Int) ≤ 7 by omega),Bool.and_self,cond_true,hu]
 rfl
theorem spec_l9BitF_out (n : Nat) (a i : Int) (h : i < 0 ∨ 7 < i) : spec_l9BitF n a i = some false := by
 unfold spec_l9BitF
 have : (decide ((0 : Int) ≤ i) && decide (i ≤ 7)) = false := by
  simp only [Bool.and_eq_false_iff,decide_eq_false_iff_not]; omega
 simp only [spec_l1InF_val,Option.bind_some,this,cond_false]
theorem spec_ClassOfF_some (n : Nat) (x : Vtab) (h : x.Rows.length ≤ 1048580) (hn : x.Rows.length < n) (hq : x.Pvid.length ≤ 1048580) (p t : Int) (hp : -1 ≤ p ∧ p ≤ 7) : ∃ a b,spec_ClassOfF n x p t = some (a,b) ∧ impl_ClassOfF n x p t = some (a,b) ∧ (b = true → ∃ (i : Nat) (m : Int),p = i ∧ i ≤ 7 ∧ impl_EgressOfF n x a = some m ∧ bitV m i = true) := by
 have hw : IntKind.wrap .i64 ((x.Pvid.length : Int) - 1) = (x.Pvid.length : Int) - 1 := wrap64 (by omega) (by omega)
 by_cases hi : 0 ≤ p ∧ p ≤ (x.Pvid.length : Int) - 1
 ·obtain ⟨i,rfl⟩ : ∃ i : Nat,p = i := ⟨p.toNat,by omega⟩
  obtain ⟨v,hv,_⟩ := idx_of (xs := x.Pvid) hi.1 (by omega)
  have hj : ∀ z,∃ a b,spec_ClassOf_J1 n x i z = some (a,b) ∧ impl_ClassOf_J1 n x i z = some (a,b) ∧ (b = true → ∃ (i' : Nat) (m : Int),(i : Int) = i' ∧ i' ≤ 7 ∧ impl_EgressOfF n x a = some m ∧ bitV m i' = true) := fun z => by
   obtain ⟨r,hr,hk⟩ := spec_RowAtF_ok n x z h hn
   unfold spec_ClassOf_J1 impl_ClassOf_J1
   rw [impl_RowAtF_eq,hr]
   simp only [Option.bind_some]
   by_cases hneg : r < 0
   ·rw [decide_eq_true hneg]
    exact ⟨0,false,rfl,rfl,by simp⟩
   ·rw [decide_eq_false hneg]
    rcases hk with ⟨rfl,_⟩ | ⟨u,h0,hu,_⟩
    ·omega
    simp only [cond_false,hu,Option.bind_some,spec_l9BitF_val n u.Members i (by omega),impl_hasPortF_val n u.Members i (by omega)]
    cases hb : bitV u.Members i
    ·exact ⟨0,false,rfl,rfl,by simp⟩
    ·refine ⟨z,true,rfl,rfl,fun _ => ⟨i,u.Members,rfl,by omega,?_,hb⟩⟩
     rw [impl_EgressOfF_eq]
     unfold spec_EgressOfF
     rw [hr]
     simp only [Option.bind_some,decide_eq_false hneg,cond_false,hu]
  unfold spec_ClassOfF impl_ClassOfF
  simp only [impl_inF_eq,spec_l1InF_val,Option.bind_some,hw,decide_eq_true hi.1,decide_eq_true hi.2,Bool.and_self,Bool.not_true,cond_false,hv]
  cases (t == 0)
  ·exact hj t
  ·exact hj v
 ·have hp' : (decide (0 ≤ p) && decide (p ≤ (x.Pvid.length : Int) - 1)) = false := by
   simp only [Bool.and_eq_false_iff,decide_eq_false_iff_not]; omega
  refine ⟨0,false,?_,?_,by simp⟩
  ·unfold spec_ClassOfF
   simp only [spec_l1InF_val,Option.bind_some,hw,hp',Bool.not_false,cond_true]
  ·unfold impl_ClassOfF
   simp only [impl_inF_eq,spec_l1InF_val,Option.bind_some,hw,hp',Bool.not_false,cond_true]
theorem bifE {c : Bool} {x : Option Bool} (h : (bif c then x else some false) = some true) : c = true ∧ x = some true := by
 cases c with
 | true => exact ⟨rfl,h⟩
 | false => cases h
theorem scan_inv {L : Nat → Int → Option (Unit ⊕ Bool)} {N : Nat} {P : Nat → Prop} (h0 : ∀ k,L 0 k = none) (hs : ∀ m (k : Nat) o,k < N → L (m + 1) (k : Int) = some o → o = .inr false ∨ (P k ∧ L m ((k + 1 : Nat) : Int) = some o)) (he : ∀ m o,L (m + 1) (N : Int) = some o → o = .inl ()) :
  ∀ (m k : Nat) o,k ≤ N → L m (k : Int) = some o → o = .inr false ∨ (o = .inl () ∧ ∀ j,k ≤ j → j < N → P j)
 | 0,k,o,_,h => by rw [h0] at h; cases h
 | m + 1,k,o,hk,h => by
  by_cases hlt : k < N
  ·rcases hs m k o hlt h with e | ⟨hp,h⟩
   ·exact .inl e
   ·rcases scan_inv h0 hs he m (k + 1) o (by omega) h with e | ⟨e,h2⟩
    ·exact .inl e
    ·refine .inr ⟨e,fun j hj hj2 => ?_⟩
     by_cases hjk : j = k
     ·subst hjk; exact hp
     ·exact h2 j (by omega) hj2
  ·have : k = N := by omega
   subst this
   exact .inr ⟨he m o h,fun j hj hj2 => by omega⟩
theorem spec_BridgeOkF_ports (n : Nat) (x : Bridge) (hl : x.Ports.length ≤ 1048580) {o : Unit ⊕ Bool} (h : spec_BridgeOk_L2 n n x 0 = some o) : o = .inr false ∨ (o = .inl () ∧ ∀ j (hj : j < x.Ports.length),spec_PtOkF n x.Ports[j] = some true) := by
 rcases scan_inv (L := fun m k => spec_BridgeOk_L2 n m x k) (N := x.Ports.length) (P := fun j => ∀ hj : j < x.Ports.length,spec_PtOkF n x.Ports[j] = some true) (fun k => rfl) (fun m k o hk h => by
  simp only [spec_BridgeOk_L2] at h
  rw [lt_true hk,cond_true,idx_nat hk,Option.bind_some,wrap_nat (by omega : k ≤ 1099511627776)] at h
  obtain ⟨b,hb⟩ := spec_PtOkF_tot n x.Ports[k]
  rw [hb,Option.bind_some] at h
  cases b with
  | true => exact .inr ⟨fun _ => hb,h⟩
  | false => cases h; exact .inl rfl) (fun m o h => by
  simp only [spec_BridgeOk_L2] at h
  rw [lt_false] at h; cases h; rfl) n 0 o (by omega) h with e | ⟨e,h2⟩
 ·exact .inl e
 ·exact .inr ⟨e,fun j hj => h2 j (by omega) hj hj⟩
theorem spec_BridgeOkF_parts (n : Nat) (x : Bridge) (hl : x.Ports.length ≤ 1048580) (h : spec_BridgeOkF n x = some true) : 1 ≤ x.Ports.length ∧ x.Ports.length ≤ 6 ∧ 1 ≤ x.Id ∧ x.Id ≤ 99 ∧ x.Name.size ≤ 10 ∧ spec_FdbOkF n x.F = some true ∧ spec_VtabOkF n x.V (x.Ports.length : Int) = some true ∧
  (0 ≤ x.Ticks ∧ x.Ticks ≤ 1000000) ∧ (0 ≤ x.Parse ∧ x.Parse ≤ 1000000) ∧ (0 ≤ x.Word ∧ x.Word ≤ 1000000) ∧ (0 ≤ x.Drops ∧ x.Drops ≤ 1000000) ∧ (0 ≤ x.Vers ∧ x.Vers ≤ 1000000) ∧ ∀ j (hj : j < x.Ports.length),spec_PtOkF n x.Ports[j] = some true := by
 unfold spec_BridgeOkF at h
 obtain ⟨o,ho,h⟩ := bind_some h
 rcases spec_BridgeOkF_ports n x hl ho with rfl | ⟨rfl,hp⟩
 ·cases h
 ·simp only [spec_BridgeOk_J1,spec_l11CountsF,spec_l1InF_val,Option.bind_some] at h
  obtain ⟨h1,h⟩ := bifE h
  obtain ⟨h2,h⟩ := bifE h
  obtain ⟨h3,h⟩ := bifE h
  obtain ⟨b4,h4,h⟩ := bind_some h
  obtain ⟨rfl,h⟩ := bifE h
  obtain ⟨b5,h5,h⟩ := bind_some h
  obtain ⟨rfl,h⟩ := bifE h
  obtain ⟨b6,h6,h⟩ := bind_some h
  cases h
  obtain ⟨h7,h6⟩ := bifE h6
  obtain ⟨h8,h6⟩ := bifE h6
  obtain ⟨h9,h6⟩ := bifE h6
  obtain ⟨h10,h6⟩ := bifE h6
  have h11 := Option.some.inj h6
  simp only [Bool.and_eq_true,decide_eq_true_eq] at h1 h2 h3 h7 h8 h9 h10 h11
  exact ⟨by omega,by omega,h1.1,h1.2,by omega,h4,h5,h7,h8,h9,h10,h11,hp⟩
theorem impl_moreF_eq (n : Nat) (z : Int) (h0 : 0 ≤ z) (h1 : z ≤ 1000000) : ∃ y,spec_l11OneF n z = some y ∧ impl_moreF n z = some y ∧ 0 ≤ y ∧ y ≤ 1000000 := by
 unfold spec_l11OneF impl_moreF
 rw [wrap64 (by omega) (by omega)]
 by_cases h : z ≥ 1000000
 ·rw [decide_eq_true h,if_pos (by omega)]; exact ⟨z,rfl,by rw [show z = 1000000 by omega],h0,h1⟩
 ·rw [decide_eq_false h,if_neg (by omega)]; exact ⟨_,rfl,rfl,by omega,by omega⟩
theorem spec_l11CopyF_eq (n : Nat) (x : Bridge) (h : x.sz ≤ 268435456) : spec_l11CopyF n x = some x := by
 have hs : x.Name.size + x.Ports.length + x.F.length + x.V.sz = x.sz := rfl
 unfold spec_l11CopyF spec_l8CopyF
 rw [spec_l9CopyF_eq n x.V (by omega),decide_eq_true (by simp; omega),decide_eq_true (by simp; omega)]
 rfl
theorem impl_copyBridgeF_eq (n : Nat) (x : Bridge) (h : x.sz ≤ 268435456) : impl_copyBridgeF n x = some x := by
 have hs : x.Name.size + x.Ports.length + x.F.length + x.V.sz = x.sz := rfl
 unfold impl_copyBridgeF impl_copyFdbF
 rw [impl_copyVtabF_eq n x.V (by omega),decide_eq_true (by simp; omega),decide_eq_true (by simp; omega)]
 rfl
theorem spec_l11ThereF_val (n : Nat) (x : Bridge) (p : Int) (b : Bool) (hb : spec_BridgeOkF n x = some b) (hl : x.Ports.length ≤ 1048580) : spec_l11ThereF n x p = some (b && (decide (0 ≤ p) && decide (p < x.Ports.length))) := by
 unfold spec_l11ThereF
 rw [hb,Option.bind_some,spec_l1InF_val,wrap64 (by omega) (by omega)]
 have : decide (p ≤ (x.Ports.length : Int) - 1) = decide (p < x.Ports.length) := by
  by_cases h : p < x.Ports.length
  ·rw [decide_eq_true h,decide_eq_true (by omega)]
  ·rw [decide_eq_false h,decide_eq_false (by omega)]
 rw [this]
 cases b <;> rfl
theorem impl_isPortF_val (n : Nat) (x : Bridge) (p : Int) (b : Bool) (hb : impl_BridgeOkF n x = some b) (hl : x.Ports.length ≤ 1048580) : impl_isPortF n x p = some (b && (decide (0 ≤ p) && decide (p < x.Ports.length))) := by
 unfold impl_isPortF
 rw [hb,Option.bind_some,impl_inF_eq,spec_l1InF_val,wrap64 (by omega) (by omega)]
 have : decide (p ≤ (x.Ports.length : Int) - 1) = decide (p < x.Ports.length) := by
  by_cases h : p < x.Ports.length
  ·rw [decide_eq_true h,decide_eq_true (by omega)]
  ·rw [decide_eq_false h,decide_eq_false (by omega)]
 rw [this]
 cases b <;> rfl
theorem spec_FdbOkF_inv (n : Nat) (xs : List Fent) (h : xs.length ≤ 1048580) (hok : spec_FdbOkF n xs = some true) : xs.length ≤ 12 ∧ (∀ j (hj : j < xs.length),spec_l8EntF n xs[j] = some true) ∧ ∀ j (hj : j + 1 < xs.length),spec_l8AheadF n xs[j] xs[j + 1].Tag xs[j + 1].Mac = some true := by
 unfold spec_FdbOkF at hok
 obtain ⟨o,ho,hok⟩ := bind_some hok
 rcases scan_inv (L := fun m k => spec_FdbOk_L2 n m xs k) (N := xs.length) (P := fun k => ∀ hk : k < xs.length,spec_l8EntF n xs[k] = some true ∧ ∀ j (e : k = j + 1),spec_l8AheadF n (xs[j]'(by omega)) xs[k].Tag xs[k].Mac = some true) (fun k => rfl) (fun m k o hk h => by
  simp only [spec_FdbOk_L2] at h
  rw [lt_true hk,cond_true,idx_nat hk,Option.bind_some,wrap_nat (by omega : k ≤ 1099511627776)] at h
  obtain ⟨b,hb⟩ := spec_l8EntF_tot n xs[k]
  rw [hb,Option.bind_some] at h
  cases b with
  | false => cases h; exact .inl rfl
  | true =>
   simp only [Bool.not_true,cond_false] at h
   cases k with
   | zero => exact .inr ⟨fun _ => ⟨hb,fun j e => by omega⟩,h⟩
   | succ k =>
    have hw2 : IntKind.wrap .i64 (((k + 1 : Nat) : Int) - 1) = (k : Int) := by rw [wrap64 (by omega) (by omega)]; omega
    have hpos : decide (((k + 1 : Nat) : Int) > 0) = true := decide_eq_true (by omega)
    rw [hpos,hw2,cond_true,idx_nat (show k < xs.length by omega),Option.bind_some,Option.bind_some,Option.bind_some] at h
    obtain ⟨c,hc⟩ := spec_l8AheadF_tot n (xs[k]'(by omega)) xs[k + 1].Tag xs[k + 1].Mac
    rw [hc,Option.bind_some] at h
    cases c with
    | false => cases h; exact .inl rfl
    | true => exact .inr ⟨fun _ => ⟨hb,fun j e => (show k = j by omega) ▸ hc⟩,h⟩) (fun m o h => by
  simp only [spec_FdbOk_L2] at h
  rw [lt_false] at h; cases h; rfl) n 0 o (by omega) ho with rfl | ⟨rfl,hp⟩
 ·cases hok
 ·have h12 := of_decide_eq_true (Option.some.inj hok)
  exact ⟨by omega,fun j hj => (hp j (by omega) hj hj).1,fun j hj => (hp (j + 1) (by omega) hj hj).2 j rfl⟩
theorem spec_l8EntF_inv (n : Nat) (v : Fent) (h : spec_l8EntF n v = some true) : (1 ≤ v.Tag ∧ v.Tag ≤ 99) ∧ (1 ≤ v.Mac ∧ v.Mac ≤ 9999) ∧ (0 ≤ v.Port ∧ v.Port ≤ 7) ∧ (0 ≤ v.Age ∧ v.Age ≤ 4) ∧ (v.Static = true → v.Age = 0) := by
 unfold spec_l8EntF at h
 simp only [spec_l1InF_val,Option.bind_some] at h
 obtain ⟨h1,h⟩ := bifE h
 obtain ⟨h2,h⟩ := bifE h
 obtain ⟨h3,h⟩ := bifE h
 obtain ⟨h4,h⟩ := bifE h
 simp only [Bool.and_eq_true,decide_eq_true_eq] at h1 h2 h3 h4
 refine ⟨h1,h2,h3,h4,fun hs => ?_⟩
 rw [hs] at h
 simpa using h
theorem bitV_far : ∀ i < 63,6 ≤ i → ∀ a < 64,bitV ((a : Nat) : Int) i = false := by decide +kernel
theorem impl_hasPortF_out (n : Nat) (a i : Int) (h : i < 0 ∨ 62 < i) : impl_hasPortF n a i = some false := by
 unfold impl_hasPortF
 have : (decide ((0 : Int) ≤ i) && decide (i ≤ 62)) = false := by
  simp only [Bool.and_eq_false_iff,decide_eq_false_iff_not]; omega
 simp only [impl_inF_eq,spec_l1InF_val,Option.bind_some,this,cond_false]
theorem spec_l9BitF_small (n a : Nat) (ha : a < 64) (i : Int) : ∃ b,spec_l9BitF n (a : Int) i = some b ∧ impl_hasPortF n (a : Int) i = some b := by
 by_cases h0 : i < 0
 ·exact ⟨false,spec_l9BitF_out n a i (.inl h0),impl_hasPortF_out n a i (.inl h0)⟩
 ·obtain ⟨k,rfl⟩ := Int.eq_ofNat_of_zero_le (show 0 ≤ i by omega)
  by_cases h7 : k ≤ 7
  ·exact ⟨_,spec_l9BitF_val n a k h7,impl_hasPortF_val n a k (by omega)⟩
  ·refine ⟨false,spec_l9BitF_out n a k (.inr (by omega)),?_⟩
   by_cases h62 : k ≤ 62
   ·rw [impl_hasPortF_val n a k h62,bitV_far k (by omega) (by omega) a ha]
   ·exact impl_hasPortF_out n a k (.inr (by omega))
theorem spec_Sends_L2_small (n : Nat) (x0 : Int) (x1 : List Pt) (h : x1.length ≤ 1048576) : ∀ (m k a : Nat) o,k ≤ 6 → a < 64 → spec_Sends_L2 n m x0 x1 k a = some o → ∃ b : Nat,o = .inl (b : Int) ∧ b < 64
 | 0,k,a,o,h1,h2,h3 => by cases h3
 | m + 1,k,a,o,h1,h2,h3 => by
  rw [spec_Sends_L2] at h3
  by_cases hk : k < x1.length
  ·rw [lt_true hk,cond_true] at h3
   by_cases h6 : k < 6
   ·rw [decide_eq_true (show ((k : Nat) : Int) < 6 by omega),cond_true] at h3
    obtain ⟨r,hr,h3⟩ := bind_some h3
    rw [wrapU (show k ≤ 1099511627776 by omega),decide_eq_true (show (0 : Int) ≤ (k : Int) by omega),cond_true,small_or k h6 a h2,wrap_nat (by omega : k ≤ 1099511627776)] at h3
    cases hc : decide (r ≤ 2) with
    | true => rw [hc] at h3; exact spec_Sends_L2_small n x0 x1 h m (k + 1) _ o (by omega) (Nat.or_lt_two_pow (n := 6) h2 (Nat.pow_lt_pow_right (by decide) h6)) h3
    | false => rw [hc] at h3; exact spec_Sends_L2_small n x0 x1 h m (k + 1) a o (by omega) h2 h3
   ·rw [decide_eq_false (show ¬ ((k : Nat) : Int) < 6 by omega)] at h3
    cases h3; exact ⟨a,rfl,h2⟩
  ·rw [decide_eq_false (by omega)] at h3
   cases h3; exact ⟨a,rfl,h2⟩
theorem spec_SendsF_small (n : Nat) (x0 : Int) (x1 : List Pt) (h : x1.length ≤ 1048576) (hn : x1.length < n) : ∃ b : Nat,b < 64 ∧ spec_SendsF n x0 x1 = some (b : Int) ∧ impl_SendsF n x0 x1 = some (b : Int) := by
 obtain ⟨e,b,hb⟩ := spec_SendsF_both n x0 x1 h hn
 have hb2 := hb
 unfold spec_SendsF at hb2
 obtain ⟨o,ho,hb2⟩ := bind_some hb2
 obtain ⟨c,rfl,hc⟩ := spec_Sends_L2_small n x0 x1 h n 0 0 o (by omega) (by omega) ho
 have : (c : Int) = b := Option.some.inj hb2
 subst this
 exact ⟨c,hc,hb,e.trans hb⟩
theorem check_loop {α : Type} {L : Nat → Int → Option (α ⊕ Bool)} {N : Nat} {P : Nat → Prop} (hs : ∀ m (k : Nat),k < N → (P k ∧ L (m + 1) (k : Int) = L m ((k + 1 : Nat) : Int)) ∨ (¬ P k ∧ L (m + 1) (k : Int) = some (.inr false))) (he : ∀ m,∃ a,L (m + 1) (N : Int) = some (.inl a)) :
  ∀ (m k : Nat),k ≤ N → N < m + k → (∃ a,L m (k : Int) = some (.inl a) ∧ ∀ j,k ≤ j → j < N → P j) ∨ (L m (k : Int) = some (.inr false) ∧ ¬ ∀ j,k ≤ j → j < N → P j)
 | 0,k,h1,h2 => by omega
 | m + 1,k,h1,h2 => by
  by_cases hk : k < N
  ·rcases hs m k hk with ⟨hp,e⟩ | ⟨hp,e⟩
   ·rcases check_loop hs he m (k + 1) (by omega) (by omega) with ⟨a,h3,h4⟩ | ⟨h3,h4⟩
    ·refine .inl ⟨a,e.trans h3,fun j hj hj2 => ?_⟩
     by_cases hjk : j = k
     ·subst hjk; exact hp
     ·exact h4 j (by omega) hj2
    ·exact .inr ⟨e.trans h3,fun h => h4 fun j hj hj2 => h j (by omega) hj2⟩
   ·exact .inr ⟨e,fun h => hp (h k (Nat.le_refl _) hk)⟩
  ·have : k = N := by omega
   subst this
   obtain ⟨a,ha⟩ := he m
   exact .inl ⟨a,ha,fun j hj hj2 => by omega⟩
theorem markH_loop {α β γ : Type} {L : Nat → Int → List α → Int → Option ((List α × Int) ⊕ β)} {H : Nat → List α → Int → Int → Option (Int ⊕ γ)} (w : α → Nat) (good : α → Prop)
  (h : ∀ (k : Nat) (ys : List α) (b : Int) (v : α),k < ys.length → ys.length ≤ 268435456 → ys[k]? = some v → good v → 0 < b → b ≤ 274877906944 → ∃ v' c,b ≤ c ∧ c ≤ b + 16 * w v ∧ (∀ m,L (m + 1) k ys b = L m ((k + 1 : Nat) : Int) (ys.set k v') c) ∧ ∀ m (ys' : List α),ys'.length ≤ 268435456 → k < ys'.length → ys'[k]? = some v' → H (m + 1) ys' k b = H m ys' ((k + 1 : Nat) : Int) c)
  (hend : ∀ m (ys : List α) b,L (m + 1) (ys.length : Int) ys b = some (.inl (ys,b))) (hendH : ∀ m (ys : List α) b,H (m + 1) ys (ys.length : Int) b = some (.inl b)) : ∀ (post pre : List α) (b : Int),(pre ++ post).length ≤ 268435456 → (∀ v ∈ post,good v) → 0 < b → b + 16 * sumSz w post ≤ 274877906944 →
   ∃ (zs : List α) (c : Int),zs.length = post.length ∧ b ≤ c ∧ c ≤ b + 16 * sumSz w post ∧ (∀ m,post.length < m → L m (pre.length : Int) (pre ++ post) b = some (.inl (pre ++ zs,c))) ∧ ∀ m,post.length < m → H m (pre ++ zs) (pre.length : Int) b = some (.inl c)
 | [],pre,b,h1,h2,h3,h4 => by
  refine ⟨[],b,rfl,by omega,by simp only [sumSz]; omega,fun m hm => ?_,fun m hm => ?_⟩
  ·obtain ⟨m,rfl⟩ : ∃ m',m = m' + 1 := ⟨m - 1,by have : 0 < m := hm; omega⟩
   rw [List.append_nil,hend m pre b]
  ·obtain ⟨m,rfl⟩ : ∃ m',m = m' + 1 := ⟨m - 1,by have : 0 < m := hm; omega⟩
   rw [List.append_nil,hendH m pre b]
 | v :: post,pre,b,h1,h2,h3,h4 => by
  simp only [sumSz] at h4
  obtain ⟨v',c,k1,k2,k3,k4⟩ := h pre.length (pre ++ v :: post) b v (by simp) h1 (by simp) (h2 v (by simp)) h3 (by omega)
  obtain ⟨zs,c',e0,e1,e2,e3,e4⟩ := markH_loop w good h hend hendH post (pre ++ [v']) c (by simpa using h1) (fun u hu => h2 u (by simp [hu])) (by omega) (by omega)
  refine ⟨v' :: zs,c',by simp [e0],by omega,by simp only [sumSz]; omega,fun m hm => ?_,fun m hm => ?_⟩
  ·obtain ⟨m,rfl⟩ : ∃ m',m = m' + 1 := ⟨m - 1,by simp only [List.length_cons] at hm; omega⟩
   rw [k3 m,set_append_len]
   have := e3 m (by simp only [List.length_cons] at hm; omega)
   simpa using this
  ·obtain ⟨m,rfl⟩ : ∃ m',m = m' + 1 := ⟨m - 1,by simp only [List.length_cons] at hm; omega⟩
   have hlen : (pre ++ v' :: zs).length ≤ 268435456 := by simp only [List.length_append,List.length_cons,e0] at h1 ⊢; omega
   rw [k4 m (pre ++ v' :: zs) hlen (by simp) (by simp)]
   have := e4 m (by simp only [List.length_cons] at hm; omega)
   simpa using this
def maskV (p : Int) : Int := IntKind.wrap .i64 ((IntKind.wrap .i64 (1 * 2 ^ min (((IntKind.wrap .u64 p) : Int)).toNat (IntKind.bits .i64))) - 1)
def rowB (p : Int) (v : Vrow) : Bool := (decide (1 ≤ v.Id) && decide (v.Id ≤ 99)) && ((decide (0 ≤ v.Members) && decide (v.Members ≤ maskV p)) && ((decide (0 ≤ v.Bare) && decide (v.Bare ≤ maskV p)) && ((IntKind.wrap .i64 (BitVec.ofInt (IntKind.bits .i64) v.Bare &&& BitVec.ofInt (IntKind.bits .i64) v.Members).toNat) == v.Bare)))
theorem spec_VtabOk_L4_step (n : Nat) (x : Vtab) (p : Int) (h : x.Rows.length ≤ 1048580) (m k : Nat) (hk : k < x.Rows.length) :
  ((∀ hk : k < x.Rows.length,rowB p x.Rows[k] = true ∧ ∀ i (e : k = i + 1),(x.Rows[i]'(by omega)).Id < x.Rows[k].Id) ∧ spec_VtabOk_L4 n (m + 1) x p k = spec_VtabOk_L4 n m x p ((k + 1 : Nat) : Int)) ∨
  (¬ (∀ hk : k < x.Rows.length,rowB p x.Rows[k] = true ∧ ∀ i (e : k = i + 1),(x.Rows[i]'(by omega)).Id < x.Rows[k].Id) ∧ spec_VtabOk_L4 n (m + 1) x p k = some (.inr false)) := by
 rw [spec_VtabOk_L4,lt_true hk,cond_true,idx_nat hk,Option.bind_some]
 simp only [spec_l1InF_val,Option.bind_some,wrap_nat (by omega : k ≤ 1099511627776)]
 have hrow : rowB p x.Rows[k] = ((decide (1 ≤ x.Rows[k].Id) && decide (x.Rows[k].Id ≤ 99)) && ((decide (0 ≤ x.Rows[k].Members) && decide (x.Rows[k].Members ≤ maskV p)) && ((decide (0 ≤ x.Rows[k].Bare) && decide (x.Rows[k].Bare ≤ maskV p)) && ((IntKind.wrap .i64 (BitVec.ofInt (IntKind.bits .i64) x.Rows[k].Bare &&& BitVec.ofInt (IntKind.bits .i64) x.Rows[k].Members).toNat) == x.Rows[k].Bare)))) := rfl
 have hb : ∀ a b : Int,(a != b) = !(a == b) := fun a b => rfl
 unfold maskV at hrow
 rw [hb]
 generalize (decide (1 ≤ x.Rows[k].Id) && decide (x.Rows[k].Id ≤ 99)) = b1 at hrow ⊢
 generalize (decide (0 ≤ x.Rows[k].Members) && decide (x.Rows[k].Members ≤ IntKind.wrap .i64 ((IntKind.wrap .i64 (1 * 2 ^ min (((IntKind.wrap .u64 p) : Int)).toNat (IntKind.bits .i64))) - 1))) = b2 at hrow ⊢
 generalize (decide (0 ≤ x.Rows[k].Bare) && decide (x.Rows[k].Bare ≤ IntKind.wrap .i64 ((IntKind.wrap .i64 (1 * 2 ^ min (((IntKind.wrap .u64 p) : Int)).toNat (IntKind.bits .i64))) - 1))) = b3 at hrow ⊢
 generalize ((IntKind.wrap .i64 (BitVec.ofInt (IntKind.bits .i64) x.Rows[k].Bare &&& BitVec.ofInt (IntKind.bits .i64) x.Rows[k].Members).toNat) == x.Rows[k].Bare) = b4 at hrow ⊢
 have bad : (b1 && (b2 && (b3 && b4))) = false → ¬ (∀ hk : k < x.Rows.length,rowB p x.Rows[k] = true ∧ ∀ i (e : k = i + 1),(x.Rows[i]'(by omega)).Id < x.Rows[k].Id) := fun e hc => by
  have := (hc hk).1
  rw [hrow,e] at this
  cases this
 cases b1 with
 | false => exact .inr ⟨bad rfl,rfl⟩
 | true =>
  cases b2 with
  | false => exact .inr ⟨bad rfl,rfl⟩
  | true =>
   cases b3 with
   | false => exact .inr ⟨bad rfl,rfl⟩
   | true =>
    cases b4 with
    | false => exact .inr ⟨bad rfl,rfl⟩
    | true =>
     simp only [Bool.not_true,cond_false]
     cases k with
     | zero => exact .inl ⟨fun _ => ⟨hrow,fun i e => by omega⟩,rfl⟩
     | succ k =>
      have hw2 : IntKind.wrap .i64 (((k + 1 : Nat) : Int) - 1) = (k : Int) := by rw [wrap64 (by omega) (by omega)]; omega
      rw [decide_eq_true (show ((k + 1 : Nat) : Int) > 0 by omega),cond_true,hw2,idx_nat (show k < x.Rows.length by omega),Option.bind_some]
      by_cases hge : (x.Rows[k]'(by omega)).Id ≥ x.Rows[k + 1].Id
      ·exact .inr ⟨fun hc => by have := (hc hk).2 k rfl; omega,by rw [decide_eq_true hge]; rfl⟩
      ·refine .inl ⟨fun _ => ⟨hrow,fun i e => ?_⟩,by rw [decide_eq_false hge]; rfl⟩
       obtain rfl : k = i := by omega
       omega
theorem spec_VtabOkF_iff (n : Nat) (x : Vtab) (p : Int) (h : x.Rows.length ≤ 1048580) (hn : x.Rows.length < n) (hq : x.Pvid.length ≤ 1048580) (hqn : x.Pvid.length < n) (h0 : 0 ≤ p) (h1 : p ≤ 1099511627776) : spec_VtabOkF n x p = some true ↔
  (1 ≤ p ∧ p ≤ 6) ∧ (x.Pvid.length : Int) = p ∧ x.Rows.length ≤ 6 ∧ (∀ j (hj : j < x.Rows.length),rowB p x.Rows[j] = true) ∧ sortedFrom x.Rows 0 ∧ ∀ q ∈ x.Pvid,∃ v ∈ x.Rows,v.Id = q := by
 obtain ⟨k,rfl⟩ := Int.eq_ofNat_of_zero_le h0
 unfold spec_VtabOkF
 rw [spec_l1InF_val,Option.bind_some,wrapU (show k ≤ 1099511627776 by omega),decide_eq_true (show (0 : Int) ≤ (k : Int) by omega),cond_true]
 by_cases hp : 1 ≤ (k : Int) ∧ (k : Int) ≤ 6
 ·rw [decide_eq_true hp.1,decide_eq_true hp.2]
  simp only [Bool.and_self,Bool.not_true,cond_false]
  by_cases hl : (x.Pvid.length : Int) = k
  ·rw [show ((x.Pvid.length : Int) != (k : Int)) = false from by simpa using hl,cond_false]
   by_cases h6 : x.Rows.length ≤ 6
   ·rw [decide_eq_false (show ¬ (x.Rows.length : Int) > 6 by omega),cond_false]
    rcases check_loop (L := fun m j => spec_VtabOk_L4 n m x k j) (N := x.Rows.length) (P := fun k_1 => ∀ hk : k_1 < x.Rows.length,rowB (k : Int) x.Rows[k_1] = true ∧ ∀ i (e : k_1 = i + 1),(x.Rows[i]'(by omega)).Id < x.Rows[k_1].Id) (fun m j hj => spec_VtabOk_L4_step n x k h m j hj) (fun m => ⟨(),by simp only [spec_VtabOk_L4]; rw [lt_false]; rfl⟩) n 0 (by omega) (by omega) with ⟨a,e,pp⟩ | ⟨e,pp⟩
    ·rw [show spec_VtabOk_L4 n n x k 0 = _ from e,Option.bind_some]
     simp only [spec_VtabOk_J1]
     have hs : sortedFrom x.Rows 0 := fun j hj _ => (pp (j + 1) (by omega) hj hj).2 j rfl
     rcases check_loop (L := fun m j => spec_VtabOk_L3 n m x j) (N := x.Pvid.length) (P := fun j => ∀ hj : j < x.Pvid.length,∃ v ∈ x.Rows,v.Id = x.Pvid[j]) (fun m j hj => by
      simp only [spec_VtabOk_L3]
      rw [lt_true hj,cond_true,idx_nat hj,Option.bind_some,wrap_nat (by omega : j ≤ 1099511627776)]
      obtain ⟨r,hr,hk⟩ := spec_RowAtF_ok n x x.Pvid[j] h hn
      rw [hr,Option.bind_some]
      rcases hk with ⟨rfl,hno⟩ | ⟨v,hr0,hv,he⟩
      ·exact .inr ⟨fun hc => by obtain ⟨v,hv,he⟩ := hc hj; exact hno v hv he,rfl⟩
      ·exact .inl ⟨fun _ => ⟨v,List.mem_of_getElem? (idx_get hv).2,he⟩,by rw [decide_eq_false (show ¬ r < 0 by omega)]; rfl⟩) (fun m => ⟨(),by simp only [spec_VtabOk_L3]; rw [lt_false]; rfl⟩) n 0 (by omega) (by omega) with ⟨a3,e3,p3⟩ | ⟨e3,p3⟩
     ·rw [show spec_VtabOk_L3 n n x 0 = _ from e3,Option.bind_some]
      refine ⟨fun _ => ⟨hp,hl,h6,fun j hj => (pp j (by omega) hj hj).1,hs,fun q hq' => ?_⟩,fun _ => rfl⟩
      obtain ⟨j,hj,rfl⟩ := List.getElem_of_mem hq'
      exact p3 j (by omega) hj hj
     ·rw [show spec_VtabOk_L3 n n x 0 = _ from e3,Option.bind_some]
      exact ⟨fun hc => (by cases hc),fun hc => absurd (fun j _ hj _ => hc.2.2.2.2.2 _ (List.getElem_mem hj)) p3⟩
    ·rw [show spec_VtabOk_L4 n n x k 0 = _ from e,Option.bind_some]
     refine ⟨fun hc => (by cases hc),fun hc => absurd (fun j _ hj _ => ⟨hc.2.2.2.1 j hj,fun i e => ?_⟩) pp⟩
     subst e
     exact hc.2.2.2.2.1 i hj (by omega)
   ·rw [decide_eq_true (show (x.Rows.length : Int) > 6 by omega)]
    exact ⟨fun hc => (by cases hc),fun hc => absurd hc.2.2.1 h6⟩
  ·rw [show ((x.Pvid.length : Int) != (k : Int)) = true from by simpa using hl]
   exact ⟨fun hc => (by cases hc),fun hc => absurd hc.2.1 hl⟩
 ·have : (decide (1 ≤ (k : Int)) && decide ((k : Int) ≤ 6)) = false := by
   simp only [Bool.and_eq_false_iff,decide_eq_false_iff_not]; omega
  rw [this]
  exact ⟨fun hc => (by cases hc),fun hc => absurd hc.1 hp⟩
theorem impl_entAt_L2_eq (n : Nat) : ∀ m,impl_entAt_L2 n m = spec_l8At_L2 n m
 | 0 => rfl
 | m + 1 => by
  funext xs t a y
  rw [impl_entAt_L2,spec_l8At_L2,impl_entAt_L2_eq n m]
  cases idx xs y with
  | none => rfl
  | some v => rfl
theorem impl_entAtF_eq (n : Nat) : impl_entAtF n = spec_l8AtF n := by
 funext xs t a
 unfold impl_entAtF spec_l8AtF
 rw [impl_entAt_L2_eq]
 rfl
theorem impl_LookUpF_eq (n : Nat) : impl_LookUpF n = spec_LookUpF n := by
 funext xs t a
 unfold impl_LookUpF spec_LookUpF
 rw [impl_entAtF_eq]
theorem l8At_L2_ok (n : Nat) (xs : List Fent) (t a : Int) (h : xs.length ≤ 1048580) : ∀ (m k : Nat),k ≤ xs.length → xs.length < m + k → (spec_l8At_L2 n m xs t a k = some (.inl ()) ∧ ∀ j,k ≤ j → ∀ hj : j < xs.length,¬ (xs[j].Tag = t ∧ xs[j].Mac = a)) ∨ ∃ j,k ≤ j ∧ ∃ hj : j < xs.length,spec_l8At_L2 n m xs t a k = some (.inr (j : Int)) ∧ xs[j].Tag = t ∧ xs[j].Mac = a
 | 0,k,h1,h2 => by omega
 | m + 1,k,h1,h2 => by
  rw [spec_l8At_L2]
  by_cases hk : k < xs.length
  ·rw [lt_true hk,cond_true,idx_nat hk,Option.bind_some,Option.bind_some,wrap_nat (by omega : k ≤ 1099511627776)]
   by_cases ht : xs[k].Tag = t
   ·rw [show (xs[k].Tag == t) = true from by simpa using ht,cond_true]
    by_cases ha : xs[k].Mac = a
    ·rw [show (xs[k].Mac == a) = true from by simpa using ha,cond_true]
     exact .inr ⟨k,Nat.le_refl _,hk,rfl,ht,ha⟩
    ·rw [show (xs[k].Mac == a) = false from by simpa using ha,cond_false]
     rcases l8At_L2_ok n xs t a h m (k + 1) (by omega) (by omega) with ⟨e,p⟩ | ⟨j,hj,hj2,e,p⟩
     ·refine .inl ⟨e,fun j hj hj2 => ?_⟩
      by_cases hjk : j = k
      ·subst hjk; exact fun hc => ha hc.2
      ·exact p j (by omega) hj2
     ·exact .inr ⟨j,by omega,hj2,e,p⟩
   ·rw [show (xs[k].Tag == t) = false from by simpa using ht,cond_false]
    rcases l8At_L2_ok n xs t a h m (k + 1) (by omega) (by omega) with ⟨e,p⟩ | ⟨j,hj,hj2,e,p⟩
    ·refine .inl ⟨e,fun j hj hj2 => ?_⟩
     by_cases hjk : j = k
     ·subst hjk; exact fun hc => ht hc.1
     ·exact p j (by omega) hj2
    ·exact .inr ⟨j,by omega,hj2,e,p⟩
  ·obtain rfl : k = xs.length := by omega
   rw [lt_false]
   exact .inl ⟨rfl,fun j hj hj2 => by omega⟩
theorem spec_l8AtF_ok (n : Nat) (xs : List Fent) (t a : Int) (h : xs.length ≤ 1048580) (hn : xs.length < n) : (spec_l8AtF n xs t a = some (-1) ∧ ∀ j (hj : j < xs.length),¬ (xs[j].Tag = t ∧ xs[j].Mac = a)) ∨ ∃ j,∃ hj : j < xs.length,spec_l8AtF n xs t a = some (j : Int) ∧ xs[j].Tag = t ∧ xs[j].Mac = a := by
 unfold spec_l8AtF
 rcases l8At_L2_ok n xs t a h n 0 (by omega) (by omega) with ⟨e,p⟩ | ⟨j,_,hj,e,p⟩
 ·rw [show spec_l8At_L2 n n xs t a 0 = _ from e]
  exact .inl ⟨rfl,fun j hj => p j (by omega) hj⟩
 ·rw [show spec_l8At_L2 n n xs t a 0 = _ from e]
  exact .inr ⟨j,hj,rfl,p⟩
def aheadP (v : Fent) (t a : Int) : Prop := v.Tag < t ∨ v.Tag = t ∧ v.Mac < a
instance (v : Fent) (t a : Int) : Decidable (aheadP v t a) := inferInstanceAs (Decidable (_ ∨ _))
def insE (e : Fent) : List Fent → List Fent
 | [] => [e]
 | v :: vs => if aheadP v e.Tag e.Mac then v :: insE e vs else if v.Tag = e.Tag ∧ v.Mac = e.Mac then e :: vs else e :: v :: vs
theorem insE_len (e : Fent) : ∀ xs : List Fent,(insE e xs).length ≤ xs.length + 1
 | [] => Nat.le_refl _
 | v :: vs => by
  unfold insE
  have := insE_len e vs
  split
  ·simp only [List.length_cons]; omega
  ·split <;> simp only [List.length_cons] <;> omega
theorem insE_mem (e : Fent) : ∀ (xs : List Fent) (v : Fent),v ∈ insE e xs → v = e ∨ v ∈ xs
 | [],v,h => by simp [insE] at h; exact .inl h
 | u :: us,v,h => by
  unfold insE at h
  split at h
  ·rcases List.mem_cons.1 h with rfl | h
   ·exact .inr (by simp)
   ·rcases insE_mem e us v h with h | h
    ·exact .inl h
    ·exact .inr (by simp [h])
  ·split at h
   ·rcases List.mem_cons.1 h with rfl | h
    ·exact .inl rfl
    ·exact .inr (by simp [h])
   ·rcases List.mem_cons.1 h with rfl | h
    ·exact .inl rfl
    ·exact .inr h
theorem spec_l8AheadF_val (n : Nat) (v : Fent) (t a : Int) : spec_l8AheadF n v t a = some (decide (aheadP v t a)) := by
 unfold spec_l8AheadF
 by_cases h : v.Tag = t
 ·rw [show (v.Tag != t) = false from by simpa using h,cond_false]
  congr 1
  rw [decide_eq_decide]
  unfold aheadP
  constructor
  ·intro h2; exact .inr ⟨h,h2⟩
  ·rintro (h2 | h2)
   ·omega
   ·exact h2.2
 ·rw [show (v.Tag != t) = true from by simpa using h,cond_true]
  congr 1
  rw [decide_eq_decide]
  unfold aheadP
  constructor
  ·intro h2; exact .inl h2
  ·rintro (h2 | h2)
   ·exact h2
   ·exact absurd h2.1 h
theorem spec_FdbOkF_sorted (n : Nat) (xs : List Fent) (h : xs.length ≤ 1048580) (hok : spec_FdbOkF n xs = some true) : ∀ (j i : Nat) (hij : i < j) (hj : j < xs.length),aheadP (xs[i]'(by omega)) xs[j].Tag xs[j].Mac := by
 have hs := (spec_FdbOkF_inv n xs h hok).2.2
 intro j
 induction j with
 | zero => intro i hij; omega
 | succ j ih =>
  intro i hij hj
  have h1 := hs j hj
  rw [spec_l8AheadF_val] at h1
  have h1 := of_decide_eq_true (Option.some.inj h1)
  by_cases e : i = j
  ·subst e; exact h1
  ·have := ih i (by omega) (by omega)
   unfold aheadP at this h1 ⊢
   omega
theorem spec_l8Put_L2_in (n : Nat) (xs : List Fent) (e : Fent) (h : xs.length ≤ 1048580) : ∀ (m k : Nat) (acc : List Fent),k ≤ xs.length → xs.length < m + k → acc.length ≤ k + 1 → (∀ j,k ≤ j → ∀ hj : j < xs.length,¬ (xs[j].Tag = e.Tag ∧ xs[j].Mac = e.Mac)) → spec_l8Put_L2 n m xs e k true acc = some (.inl (true,acc ++ xs.drop k))
 | 0,k,acc,h1,h2,h3,hne => by omega
 | m + 1,k,acc,h1,h2,h3,hne => by
  rw [spec_l8Put_L2]
  by_cases hk : k < xs.length
  ·have hg : ∀ v : Fent,decide (acc.length + [v].length ≤ 268435456) = true := fun v => decide_eq_true (by simp; omega)
   have ih := spec_l8Put_L2_in n xs e h m (k + 1) (acc ++ [xs[k]]) (by omega) (by omega) (by simp; omega) (fun j hj => hne j (by omega))
   rw [lt_true hk,cond_true,Bool.not_true,cond_false]
   simp only [spec_l8Put_J3,idx_nat hk,Option.bind_some,hg,cond_true,wrap_nat (by omega : k ≤ 1099511627776)]
   have hd : acc ++ [xs[k]] ++ xs.drop (k + 1) = acc ++ xs.drop k := by rw [List.append_assoc,List.drop_eq_getElem_cons hk]; rfl
   rw [hd] at ih
   by_cases ht : xs[k].Tag = e.Tag
   ·have hm : xs[k].Mac ≠ e.Mac := fun hm => hne k (Nat.le_refl _) hk ⟨ht,hm⟩
    rw [show (xs[k].Tag != e.Tag) = false from by simpa using ht,cond_false,show (xs[k].Mac != e.Mac) = true from by simpa using hm,cond_true]
    exact ih
   ·rw [show (xs[k].Tag != e.Tag) = true from by simpa using ht,cond_true]
    exact ih
  ·obtain rfl : k = xs.length := by omega
   rw [lt_false,cond_false,List.drop_length,List.append_nil]
theorem spec_l8Put_L2_ok (n : Nat) (xs : List Fent) (e : Fent) (h : xs.length ≤ 1048580) (hs : ∀ (j i : Nat) (hij : i < j) (hj : j < xs.length),aheadP (xs[i]'(by omega)) xs[j].Tag xs[j].Mac) : ∀ (m k : Nat) (acc : List Fent),k ≤ xs.length → xs.length < m + k → acc.length ≤ k → ∃ b zs,spec_l8Put_L2 n m xs e k false acc = some (.inl (b,zs)) ∧ zs.length ≤ xs.length + 1 ∧ (bif !b then zs ++ [e] else zs) = acc ++ insE e (xs.drop k)
 | 0,k,acc,h1,h2,h3 => by omega
 | m + 1,k,acc,h1,h2,h3 => by
  rw [spec_l8Put_L2]
  by_cases hk : k < xs.length
  ·have hg : ∀ (zs : List Fent) (v : Fent),zs.length ≤ k + 1 → decide (zs.length + [v].length ≤ 268435456) = true := fun zs v hz => decide_eq_true (by simp; omega)
   rw [lt_true hk,cond_true,Bool.not_false,cond_true,idx_nat hk,Option.bind_some,spec_l8AheadF_val,Option.bind_some]
   rw [List.drop_eq_getElem_cons hk]
   by_cases ha : aheadP xs[k] e.Tag e.Mac
   ·obtain ⟨b,zs,e1,e2,e3⟩ := spec_l8Put_L2_ok n xs e h hs m (k + 1) (acc ++ [xs[k]]) (by omega) (by omega) (by simp; omega)
    refine ⟨b,zs,?_,e2,?_⟩
    ·rw [decide_eq_true ha]
     simp only [Bool.not_true,cond_false,spec_l8Put_J3,idx_nat hk,Option.bind_some,hg acc _ (by omega),cond_true,wrap_nat (by omega : k ≤ 1099511627776)]
     by_cases ht : xs[k].Tag = e.Tag
     ·have hm : xs[k].Mac ≠ e.Mac := fun hm => by unfold aheadP at ha; omega
      rw [show (xs[k].Tag != e.Tag) = false from by simpa using ht,cond_false,show (xs[k].Mac != e.Mac) = true from by simpa using hm,cond_true]
      exact e1
     ·rw [show (xs[k].Tag != e.Tag) = true from by simpa using ht,cond_true]
      exact e1
    ·rw [e3,insE,if_pos ha,List.append_assoc]; rfl
   ·rw [decide_eq_false ha,insE,if_neg ha]
    have rest : ∀ j,k + 1 ≤ j → ∀ hj : j < xs.length,¬ (xs[j].Tag = e.Tag ∧ xs[j].Mac = e.Mac) := fun j hj hj2 hc => by
     have := hs j k (by omega) hj2
     rw [hc.1,hc.2] at this
     exact ha this
    simp only [Bool.not_false,cond_true,hg acc _ (by omega),spec_l8Put_J3,idx_nat hk,Option.bind_some,hg (acc ++ [e]) _ (by simp; omega),wrap_nat (by omega : k ≤ 1099511627776)]
    by_cases hkey : xs[k].Tag = e.Tag ∧ xs[k].Mac = e.Mac
    ·rw [show (xs[k].Tag != e.Tag) = false from by simpa using hkey.1,cond_false,show (xs[k].Mac != e.Mac) = false from by simpa using hkey.2,cond_false]
     refine ⟨true,_,spec_l8Put_L2_in n xs e h m (k + 1) (acc ++ [e]) (by omega) (by omega) (by simp; omega) rest,by simp; omega,?_⟩
     rw [if_pos hkey,Bool.not_true,cond_false,List.append_assoc]; rfl
    ·have e1 := spec_l8Put_L2_in n xs e h m (k + 1) (acc ++ [e] ++ [xs[k]]) (by omega) (by omega) (by simp; omega) rest
     refine ⟨true,acc ++ [e] ++ [xs[k]] ++ xs.drop (k + 1),?_,by simp; omega,?_⟩
     ·by_cases ht : xs[k].Tag = e.Tag
      ·have hm : xs[k].Mac ≠ e.Mac := fun hm => hkey ⟨ht,hm⟩
       rw [show (xs[k].Tag != e.Tag) = false from by simpa using ht,cond_false,show (xs[k].Mac != e.Mac) = true from by simpa using hm,cond_true]
       exact e1
      ·rw [show (xs[k].Tag != e.Tag) = true from by simpa using ht,cond_true]
       exact e1
     ·rw [if_neg hkey,Bool.not_true,cond_false]
      simp
  ·obtain rfl : k = xs.length := by omega
   rw [lt_false]
   refine ⟨false,acc,rfl,by omega,?_⟩
   rw [List.drop_length]
   rfl
theorem spec_l8PutF_val (n : Nat) (xs : List Fent) (e : Fent) (h : xs.length ≤ 1048580) (hn : xs.length < n) (hs : ∀ (j i : Nat) (hij : i < j) (hj : j < xs.length),aheadP (xs[i]'(by omega)) xs[j].Tag xs[j].Mac) : spec_l8PutF n xs e = some (insE e xs) := by
 obtain ⟨b,zs,e1,e2,e3⟩ := spec_l8Put_L2_ok n xs e h hs n 0 [] (by omega) (by omega) (by simp)
 unfold spec_l8PutF
 rw [show spec_l8Put_L2 n n xs e 0 false [] = _ from e1]
 simp only [Option.bind_some,spec_l8Put_J1]
 rw [decide_eq_true (by simp; omega)]
 rw [List.drop_zero,List.nil_append] at e3
 rw [← e3]
 cases b <;> rfl
theorem insE_set (e : Fent) : ∀ (xs : List Fent) (k : Nat) (hk : k < xs.length) (hs : ∀ (j i : Nat) (hij : i < j) (hj : j < xs.length),aheadP (xs[i]'(by omega)) xs[j].Tag xs[j].Mac),xs[k].Tag = e.Tag → xs[k].Mac = e.Mac → insE e xs = xs.set k e
 | [],k,hk,hs,h1,h2 => by simp at hk
 | v :: vs,0,hk,hs,h1,h2 => by
  have h1 : v.Tag = e.Tag := h1
  have h2 : v.Mac = e.Mac := h2
  unfold insE
  rw [if_neg (by unfold aheadP; omega),if_pos ⟨h1,h2⟩]
  rfl
 | v :: vs,k + 1,hk,hs,h1,h2 => by
  have ha : aheadP v e.Tag e.Mac := by
   have := hs (k + 1) 0 (by omega) hk
   rw [h1,h2] at this
   exact this
  unfold insE
  rw [if_pos ha,insE_set e vs k (by simpa using hk) (fun j i hij hj => hs (j + 1) (i + 1) (by omega) (by simpa using hj)) h1 h2]
  rfl
theorem insE_split (e : Fent) : ∀ (xs : List Fent) (k : Nat) (hk : k ≤ xs.length),(∀ j (hj : j < xs.length),¬ (xs[j].Tag = e.Tag ∧ xs[j].Mac = e.Mac)) → (∀ j (hj : j < k),¬ aheadP e (xs[j]'(by omega)).Tag (xs[j]'(by omega)).Mac) → (∀ h : k < xs.length,aheadP e xs[k].Tag xs[k].Mac) → insE e xs = xs.take k ++ e :: xs.drop k
 | [],k,hk,hne,h1,h2 => by
  have : k = 0 := by simpa using hk
  subst this; rfl
 | v :: vs,0,hk,hne,h1,h2 => by
  have h2 : aheadP e v.Tag v.Mac := h2 (by simp)
  have hv := hne 0 (by simp)
  simp only [List.getElem_cons_zero] at hv
  unfold insE
  rw [if_neg (by unfold aheadP at h2 ⊢; omega),if_neg hv]
  rfl
 | v :: vs,k + 1,hk,hne,h1,h2 => by
  have hv := hne 0 (by simp)
  have h0 := h1 0 (by omega)
  simp only [List.getElem_cons_zero] at hv h0
  unfold insE
  rw [if_pos (by unfold aheadP at h0 ⊢; omega),insE_split e vs k (by simpa using hk) (fun j hj => by have := hne (j + 1) (by simpa using hj); simpa using this) (fun j hj => by have := h1 (j + 1) (by omega); simpa using this) (fun h => by have := h2 (by simpa using h); simpa using this)]
  rfl
theorem impl_put_L2_ok (n : Nat) (xs : List Fent) (e : Fent) (h : xs.length ≤ 1048580) : ∀ (m k : Nat),k ≤ xs.length → xs.length < m + k → (∀ j (hj : j < k) (hj2 : j < xs.length),¬ aheadP e xs[j].Tag xs[j].Mac) → ∃ k',k' ≤ xs.length ∧ impl_put_L2 n m xs e k = some (.inl (k' : Int)) ∧ (∀ j (hj : j < k') (hj2 : j < xs.length),¬ aheadP e xs[j].Tag xs[j].Mac) ∧ ∀ h : k' < xs.length,aheadP e xs[k'].Tag xs[k'].Mac
 | 0,k,h1,h2,h3 => by omega
 | m + 1,k,h1,h2,h3 => by
  rw [impl_put_L2]
  by_cases hk : k < xs.length
  ·rw [lt_true hk,cond_true,idx_nat hk,Option.bind_some,impl_behindF_eq,spec_l8AheadF_val,Option.bind_some,wrap_nat (by omega : k ≤ 1099511627776)]
   by_cases ha : aheadP e xs[k].Tag xs[k].Mac
   ·rw [decide_eq_true ha]
    exact ⟨k,h1,rfl,h3,fun _ => ha⟩
   ·rw [decide_eq_false ha]
    exact impl_put_L2_ok n xs e h m (k + 1) (by omega) (by omega) (fun j hj hj2 => by
     by_cases hjk : j = k
     ·subst hjk; exact ha
     ·exact h3 j (by omega) hj2)
  ·obtain rfl : k = xs.length := by omega
   rw [lt_false]
   exact ⟨xs.length,Nat.le_refl _,rfl,h3,fun h => absurd h (Nat.lt_irrefl _)⟩
theorem impl_putF_val (n : Nat) (xs : List Fent) (e : Fent) (h : xs.length ≤ 12) (hn : 100 < n) (hs : ∀ (j i : Nat) (hij : i < j) (hj : j < xs.length),aheadP (xs[i]'(by omega)) xs[j].Tag xs[j].Mac) : ∃ b,impl_putF n xs e = some (if 12 ≤ xs.length ∧ ∀ j (hj : j < xs.length),¬ (xs[j].Tag = e.Tag ∧ xs[j].Mac = e.Mac) then xs else insE e xs,b) := by
 have hc : impl_copyFdbF n xs = some xs := by unfold impl_copyFdbF; rw [decide_eq_true (by simp; omega)]; rfl
 unfold impl_putF
 rw [hc,Option.bind_some,impl_entAtF_eq]
 rcases spec_l8AtF_ok n xs e.Tag e.Mac (by omega) (by omega) with ⟨e1,hne⟩ | ⟨k,hk,e1,h1,h2⟩
 ·rw [e1,Option.bind_some]
  rw [decide_eq_false (by omega : ¬ (-1 : Int) ≥ 0),cond_false]
  by_cases h12 : 12 ≤ xs.length
  ·rw [decide_eq_true (show (xs.length : Int) ≥ 12 by omega),if_pos ⟨h12,hne⟩]
   exact ⟨false,rfl⟩
  ·rw [decide_eq_false (show ¬ (xs.length : Int) ≥ 12 by omega),cond_false,if_neg (fun hc => h12 hc.1)]
   obtain ⟨k,hk,f1,f2,f3⟩ := impl_put_L2_ok n xs e (by omega) n 0 (by omega) (by omega) (fun j hj => by omega)
   rw [show impl_put_L2 n n xs e 0 = _ from f1,insE_split e xs k hk hne (fun j hj => f2 j hj (by omega)) f3]
   have t1 : ((xs.drop ((0 : Int)).toNat).take (((k : Int)).toNat - ((0 : Int)).toNat)) = xs.take k := by simp
   have t2 : ((xs.drop ((k : Int)).toNat).take ((((xs.length : Int) : Int)).toNat - ((k : Int)).toNat)) = xs.drop k := by
    rw [Int.toNat_natCast,Int.toNat_natCast]; exact List.take_of_length_le (by simp)
   have hc2 : impl_copyFdbF n (xs.take k) = some (xs.take k) := by unfold impl_copyFdbF; rw [decide_eq_true (by simp; omega)]; rfl
   have g1 : (decide ((0 : Int) ≤ 0) && (decide ((0 : Int) ≤ (k : Int)) && decide ((k : Int) ≤ (xs.length : Int)))) = true := by
    rw [decide_eq_true (by omega),decide_eq_true (by omega),decide_eq_true (by omega)]; rfl
   have g2 : (decide ((0 : Int) ≤ (k : Int)) && (decide ((k : Int) ≤ (xs.length : Int)) && decide (((xs.length : Int) : Int) ≤ (xs.length : Int)))) = true := by
    rw [decide_eq_true (by omega),decide_eq_true (by omega),decide_eq_true (Int.le_refl _)]; rfl
   simp only [Option.bind_some,impl_put_J1,t1,t2,g1,g2,hc2,cond_true]
   rw [decide_eq_true (by simp; omega),decide_eq_true (by simp; omega),cond_true,cond_true]
   exact ⟨true,by rw [List.append_assoc]; rfl⟩
 ·rw [e1,Option.bind_some,decide_eq_true (show ((k : Nat) : Int) ≥ 0 by omega),cond_true,idx_nat hk,Option.bind_some,if_neg (fun hc => hc.2 k hk ⟨h1,h2⟩),insE_set e xs k hk hs h1 h2]
  exact ⟨true,rfl⟩
theorem spec_LearnF_both (n : Nat) (xs : List Fent) (t a p : Int) (wx : listWf Fent.wf xs) (h : xs.length ≤ 1048576) (hn : 1048577 < n) : ∃ ys,spec_LearnF n xs t a p = some ys ∧ impl_LearnF n xs t a p = some ys ∧ ys.length ≤ xs.length + 1 ∧ (ys = xs ∨ spec_l8EntF n ⟨t,a,p,0,false⟩ = some true) ∧ ∀ v ∈ ys,v ∈ xs ∨ v = ⟨t,a,p,0,false⟩ := by
 have hcs : spec_l8CopyF n xs = some xs := by unfold spec_l8CopyF; rw [decide_eq_true (by simp; omega)]; rfl
 have hci : impl_copyFdbF n xs = some xs := by unfold impl_copyFdbF; rw [decide_eq_true (by simp; omega)]; rfl
 obtain ⟨b,hb,hb2⟩ := spec_FdbOkF_both n xs (by omega) (by omega)
 obtain ⟨c,hc⟩ := spec_l8EntF_tot n ⟨t,a,p,0,false⟩
 have hat : ∃ r,spec_l8AtF n xs t a = some r := by
  rcases spec_l8AtF_ok n xs t a (by omega) (by omega) with ⟨e,_⟩ | ⟨_,_,e,_⟩ <;> exact ⟨_,e⟩
 obtain ⟨r,hr⟩ := hat
 have stay : ∀ v ∈ xs,v ∈ xs ∨ v = (⟨t,a,p,0,false⟩ : Fent) := fun v hv => .inl hv
 unfold spec_LearnF impl_LearnF
 rw [impl_entAtF_eq,hr,Option.bind_some,Option.bind_some,hb,hb2,Option.bind_some,Option.bind_some]
 cases b with
 | false => exact ⟨xs,by simp only [Bool.not_false,cond_true,hcs,Option.bind_some],by simp only [Bool.not_false,cond_true,hci,Option.bind_some],by omega,.inl rfl,stay⟩
 | true =>
  rw [impl_fentOkF_eq,hc]
  simp only [Bool.not_true,cond_false,Option.bind_some]
  cases c with
  | false => exact ⟨xs,by simp only [Bool.not_false,cond_true,hcs,Option.bind_some],by simp only [Bool.not_false,cond_true,hci,Option.bind_some],by omega,.inl rfl,stay⟩
  | true =>
   have h12 := (spec_FdbOkF_inv n xs (by omega) hb).1
   have hs := spec_FdbOkF_sorted n xs (by omega) hb
   have hp := spec_l8PutF_val n xs ⟨t,a,p,0,false⟩ (by omega) (by omega) hs
   obtain ⟨bp,hi⟩ := impl_putF_val n xs ⟨t,a,p,0,false⟩ h12 (by omega) hs
   have hlen := insE_len ⟨t,a,p,0,false⟩ xs
   have hmem := fun v hv => (insE_mem ⟨t,a,p,0,false⟩ xs v hv).symm
   rcases spec_l8AtF_ok n xs t a (by omega) (by omega) with ⟨e,hne⟩ | ⟨k,hk,e,k1,k2⟩
   ·rw [hr] at e
    cases e
    simp only [Bool.not_true,cond_false,decide_eq_false (show ¬ (-1 : Int) ≥ 0 by omega),decide_eq_true (show (-1 : Int) < 0 by omega),cond_true,hi,hp,Option.bind_some,hcs]
    by_cases hf : 12 ≤ xs.length
    ·rw [decide_eq_true (show (xs.length : Int) ≥ 12 by omega),if_pos ⟨hf,hne⟩]
     exact ⟨xs,rfl,rfl,by omega,.inl rfl,stay⟩
    ·rw [decide_eq_false (show ¬ (xs.length : Int) ≥ 12 by omega),if_neg (fun hc => hf hc.1)]
     exact ⟨_,rfl,rfl,hlen,.inr (by first | trivial | rfl),hmem⟩
   ·rw [hr] at e
    cases e
    simp only [Bool.not_true,cond_false,decide_eq_true (show ((k : Nat) : Int) ≥ 0 by omega),decide_eq_false (show ¬ ((k : Nat) : Int) < 0 by omega),cond_true,hi,hp,Option.bind_some,hcs,hci,idx_nat hk]
    cases xs[k].Static with
    | true => exact ⟨xs,rfl,rfl,by omega,.inl rfl,stay⟩
    | false =>
     rw [if_neg (fun hc => hc.2 k hk ⟨k1,k2⟩)]
     exact ⟨_,rfl,rfl,hlen,.inr (by first | trivial | rfl),hmem⟩
def mAnd (a b : Int) : Int := IntKind.wrap .i64 (BitVec.ofInt (IntKind.bits .i64) a &&& BitVec.ofInt (IntKind.bits .i64) b).toNat
def mNot (a p : Int) : Int := IntKind.wrap .i64 (BitVec.ofInt (IntKind.bits .i64) a &&& ~~~BitVec.ofInt (IntKind.bits .i64) (IntKind.wrap .i64 (1 * 2 ^ min (((IntKind.wrap .u64 p) : Int)).toNat (IntKind.bits .i64)))).toNat
def mOne (a p : Int) : Int := IntKind.wrap .i64 (BitVec.ofInt (IntKind.bits .i64) a &&& BitVec.ofInt (IntKind.bits .i64) (IntKind.wrap .i64 (1 * 2 ^ min (((IntKind.wrap .u64 p) : Int)).toNat (IntKind.bits .i64)))).toNat
theorem mAnd_small : ∀ a < 64,∀ b < 64,mAnd ((a : Nat) : Int) ((b : Nat) : Int) = ((a &&& b : Nat) : Int) := by decide +kernel
theorem mNot_small : ∀ a < 64,∀ p < 6,0 ≤ mNot ((a : Nat) : Int) ((p : Nat) : Int) ∧ mNot ((a : Nat) : Int) ((p : Nat) : Int) < 64 ∧ ∀ j < 6,bitV (mNot ((a : Nat) : Int) ((p : Nat) : Int)) j = (bitV ((a : Nat) : Int) j && !(j == p)) := by decide +kernel
theorem mOne_small : ∀ a < 64,∀ q < 8,∀ j < 6,bitV (mOne ((a : Nat) : Int) ((q : Nat) : Int)) j = (bitV ((a : Nat) : Int) j && (q == j)) := by decide +kernel
theorem VtabOk_row (n : Nat) (x : Vtab) (p : Int) (h : x.Rows.length ≤ 1048580) (hn : x.Rows.length < n) (hq : x.Pvid.length ≤ 1048580) (hqn : x.Pvid.length < n) (h0 : 0 ≤ p) (h1 : p ≤ 1099511627776) (hok : spec_VtabOkF n x p = some true) : ∀ v ∈ x.Rows,∃ m b : Nat,v.Members = m ∧ v.Bare = b ∧ m < 64 ∧ b < 64 := by
 obtain ⟨hp,_,_,hr,_⟩ := (spec_VtabOkF_iff n x p h hn hq hqn h0 h1).1 hok
 intro v hv
 obtain ⟨j,hj,rfl⟩ := List.getElem_of_mem hv
 have hb := hr j hj
 unfold rowB at hb
 simp only [Bool.and_eq_true,decide_eq_true_eq] at hb
 obtain ⟨_,⟨m0,m1⟩,⟨b0,b1⟩,_⟩ := hb
 have hm : maskV p ≤ 63 := by
  have hc : p = 1 ∨ p = 2 ∨ p = 3 ∨ p = 4 ∨ p = 5 ∨ p = 6 := by omega
  rcases hc with rfl | rfl | rfl | rfl | rfl | rfl <;> decide +kernel
 exact ⟨x.Rows[j].Members.toNat,x.Rows[j].Bare.toNat,by omega,by omega,by omega,by omega⟩
theorem spec_EgressOfF_small (n : Nat) (x : Vtab) (c : Int) (h : x.Rows.length ≤ 1048580) (hn : x.Rows.length < n) (hr : ∀ v ∈ x.Rows,∃ m b : Nat,v.Members = m ∧ v.Bare = b ∧ m < 64 ∧ b < 64) : ∃ e : Nat,e < 64 ∧ spec_EgressOfF n x c = some (e : Int) := by
 obtain ⟨r,e,k⟩ := spec_RowAtF_ok n x c h hn
 unfold spec_EgressOfF
 rw [e,Option.bind_some]
 rcases k with ⟨rfl,_⟩ | ⟨v,r0,hv,_⟩
 ·exact ⟨0,by omega,rfl⟩
 ·obtain ⟨m,b,e1,_,h1,_⟩ := hr v (List.mem_of_getElem? (idx_get hv).2)
  rw [decide_eq_false (show ¬ r < 0 by omega),cond_false,hv]
  exact ⟨m,h1,by rw [Option.bind_some,e1]⟩
theorem spec_ShownTagF_small (n : Nat) (x : Vtab) (c p : Int) (h : x.Rows.length ≤ 1048580) (hn : x.Rows.length < n) (hr : ∀ v ∈ x.Rows,∃ m b : Nat,v.Members = m ∧ v.Bare = b ∧ m < 64 ∧ b < 64) : ∃ t,spec_ShownTagF n x c p = some t ∧ impl_ShownTagF n x c p = some t := by
 obtain ⟨r,e,k⟩ := spec_RowAtF_ok n x c h hn
 unfold spec_ShownTagF impl_ShownTagF
 rw [impl_RowAtF_eq,e,Option.bind_some,Option.bind_some]
 rcases k with ⟨rfl,_⟩ | ⟨v,r0,hv,_⟩
 ·exact ⟨0,rfl,rfl⟩
 ·obtain ⟨m,b,_,e1,_,h1⟩ := hr v (List.mem_of_getElem? (idx_get hv).2)
  obtain ⟨s,s1,s2⟩ := spec_l9BitF_small n b h1 p
  rw [decide_eq_false (show ¬ r < 0 by omega),cond_false,cond_false,hv,Option.bind_some,Option.bind_some,e1,s1,s2]
  simp only [Option.bind_some]
  cases s <;> exact ⟨_,rfl,rfl⟩
theorem spec_TaggedF_both (n : Nat) (f : Frame) (t : Int) (h : f.Data.length ≤ 20) : spec_TaggedF n f t = some ⟨f.Dst,f.Src,t,f.Data⟩ ∧ impl_TaggedF n f t = some ⟨f.Dst,f.Src,t,f.Data⟩ := by
 unfold spec_TaggedF impl_TaggedF spec_l6CopyF impl_copyBytesF
 rw [decide_eq_true (by simp; omega)]
 exact ⟨rfl,rfl⟩
theorem outs_loop (n : Nat) (x : Bridge) (c : Int) (f : Frame) (b e p : Nat) (y M : Int) (ok : Bool) (hb : b < 64) (he : e < 64) (hp : p < 6) (hl : x.Ports.length ≤ 6) (hf : f.Data.length ≤ 20) (hR : x.V.Rows.length ≤ 1048580) (hRn : x.V.Rows.length < n) (hr : ∀ v ∈ x.V.Rows,∃ m b : Nat,v.Members = m ∧ v.Bare = b ∧ m < 64 ∧ b < 64) (hE : spec_EgressOfF n x.V c = some (e : Int)) (hM : ∀ j < 6,bitV M j = ((bitV (mAnd b e) j && !(j == p)) && (decide (y < 0) || decide (y = (j : Int))))) :
  ∀ (m k : Nat) (acc : List Out),k ≤ x.Ports.length → x.Ports.length < m + k → acc.length ≤ k → (∀ o ∈ acc,o.F.Data.length ≤ 20) → ∃ zs,spec_l12Outs_L2 n m x c M f k acc = some (.inl zs) ∧ impl_Forward_L3 n m b (c,ok) x p f y k acc = some (.inl zs) ∧ zs.length ≤ 6 ∧ ∀ o ∈ zs,o.F.Data.length ≤ 20
 | 0,k,acc,h1,h2,h3,h4 => by omega
 | m + 1,k,acc,h1,h2,h3,h4 => by
  rw [spec_l12Outs_L2,impl_Forward_L3]
  by_cases hk : k < x.Ports.length
  ·obtain ⟨t,t1,t2⟩ := spec_ShownTagF_small n x.V c k hR hRn hr
   obtain ⟨g1,g2⟩ := spec_TaggedF_both n f t hf
   have hg : decide (acc.length + [(⟨(k : Int),⟨f.Dst,f.Src,t,f.Data⟩⟩ : Out)].length ≤ 268435456) = true := decide_eq_true (by simp; omega)
   have ih := outs_loop n x c f b e p y M ok hb he hp hl hf hR hRn hr hE hM m (k + 1) acc (by omega) (by omega) (by omega) h4
   have ih2 := outs_loop n x c f b e p y M ok hb he hp hl hf hR hRn hr hE hM m (k + 1) (acc ++ [⟨(k : Int),⟨f.Dst,f.Src,t,f.Data⟩⟩]) (by omega) (by omega) (by simp; omega) (fun o ho => by
    rcases List.mem_append.1 ho with ho | ho
    ·exact h4 o ho
    ·rw [List.mem_singleton] at ho; subst ho; exact hf)
   have hbit : impl_hasPortF n (IntKind.wrap .i64 (BitVec.ofInt (IntKind.bits .i64) (b : Int) &&& BitVec.ofInt (IntKind.bits .i64) (e : Int)).toNat) k = some (bitV (mAnd b e) k) := impl_hasPortF_val n (mAnd b e) k (by omega)
   rw [lt_true hk,cond_true,cond_true,spec_l9BitF_val n M k (by omega),Option.bind_some,hM k (by omega),wrap_nat (by omega : k ≤ 1099511627776)]
   simp only [impl_EgressOfF_eq,hE,Option.bind_some,hbit,impl_Forward_J4,t1,t2,g1,g2,hg,cond_true,wrap_nat (by omega : k ≤ 1099511627776)]
   by_cases hkp : k = p
   ·subst hkp
    rw [show (((k : Nat) : Int) != ((k : Nat) : Int)) = false from by simp,cond_false,cond_false,show (k == k) = true from by simp]
    simp only [Bool.not_true,Bool.and_false,Bool.false_and,cond_false]
    exact ih
   ·rw [show (((k : Nat) : Int) != ((p : Nat) : Int)) = true from by simp; omega,cond_true,show (k == p) = false from by simpa using hkp]
    cases bitV (mAnd b e) k with
    | false => simp only [Bool.false_and,cond_false]; exact ih
    | true =>
     simp only [Bool.not_false,Bool.and_self,Bool.true_and,cond_true]
     by_cases hy : y < 0
     ·rw [decide_eq_true hy]
      simp only [Bool.true_or,cond_true]
      exact ih2
     ·rw [decide_eq_false hy]
      simp only [Bool.false_or,cond_false]
      by_cases hyk : y = (k : Int)
      ·rw [decide_eq_true hyk,show (y == (k : Int)) = true from by simpa using hyk]
       simp only [cond_true]
       exact ih2
      ·rw [decide_eq_false hyk,show (y == (k : Int)) = false from by simpa using hyk]
       simp only [cond_false]
       exact ih
  ·obtain rfl : k = x.Ports.length := by omega
   rw [lt_false]
   exact ⟨acc,rfl,rfl,by omega,h4⟩
theorem impl_FrameOkF_eq (n : Nat) : impl_FrameOkF n = spec_FrameOkF n := rfl
theorem spec_FrameOkF_ok (n : Nat) (f : Frame) : ∃ b,spec_FrameOkF n f = some b ∧ (b = true → f.Data.length ≤ 20) := by
 unfold spec_FrameOkF
 simp only [spec_l1InF_val,Option.bind_some]
 cases (decide (0 ≤ f.Dst) && decide (f.Dst ≤ 9999)) with
 | false => exact ⟨false,rfl,fun h => by cases h⟩
 | true =>
  cases (decide (1 ≤ f.Src) && decide (f.Src ≤ 9999)) with
  | false => exact ⟨false,rfl,fun h => by cases h⟩
  | true =>
   cases (decide (0 ≤ f.Tag) && decide (f.Tag ≤ 99)) with
   | false => exact ⟨false,rfl,fun h => by cases h⟩
   | true => exact ⟨_,rfl,fun h => by have := of_decide_eq_true h; omega⟩
theorem spec_LookUpF_port (n : Nat) (xs : List Fent) (t a : Int) (h : xs.length ≤ 1048580) (hn : xs.length < n) (hx : ∀ v ∈ xs,0 ≤ v.Port ∧ v.Port ≤ 7) : ∃ r,spec_LookUpF n xs t a = some r ∧ -1 ≤ r ∧ r ≤ 7 := by
 unfold spec_LookUpF
 rcases spec_l8AtF_ok n xs t a h hn with ⟨e,_⟩ | ⟨k,hk,e,_⟩
 ·rw [e]; exact ⟨-1,rfl,by omega,by omega⟩
 ·rw [e,Option.bind_some,decide_eq_false (show ¬ ((k : Nat) : Int) < 0 by omega),cond_false,idx_nat hk,Option.bind_some]
  have := hx _ (List.getElem_mem hk)
  exact ⟨_,rfl,by omega,this.2⟩
theorem spec_ForwardF_both (n : Nat) (x : Bridge) (p : Int) (f : Frame) (wx : x.wf) (hx : x.sz ≤ 1048576) (hn : 1048577 < n) : ∃ (y : Bridge) (zs : List Out),spec_ForwardF n x p f = some (y,zs) ∧ impl_ForwardF n x p f = some (y,zs) ∧ y.sz ≤ x.sz + 1 ∧ zs.length ≤ 6 ∧ ∀ o ∈ zs,o.F.Data.length ≤ 20 := by
 have hs : x.Name.size + x.Ports.length + x.F.length + x.V.sz = x.sz := rfl
 have hs2 : x.V.Rows.length + x.V.Pvid.length = x.V.sz := rfl
 have nil : ∀ o ∈ ([] : List Out),o.F.Data.length ≤ 20 := fun o ho => by cases ho
 obtain ⟨b,h1,h2⟩ := spec_BridgeOkF_both n x wx (by omega) (by omega)
 unfold spec_ForwardF impl_ForwardF
 rw [spec_l11CopyF_eq n x (by omega),impl_copyBridgeF_eq n x (by omega),Option.bind_some,Option.bind_some,spec_l11ThereF_val n x p b h1 (by omega),impl_isPortF_val n x p b h2 (by omega),Option.bind_some,Option.bind_some]
 cases hc : (b && (decide (0 ≤ p) && decide (p < x.Ports.length))) with
 | false => exact ⟨x,[],rfl,rfl,by omega,by simp,nil⟩
 | true =>
  simp only [Bool.and_eq_true,decide_eq_true_eq] at hc
  obtain ⟨rfl,q0,q1⟩ := hc
  obtain ⟨k,rfl⟩ := Int.eq_ofNat_of_zero_le q0
  have hk : k < x.Ports.length := by omega
  obtain ⟨p1,p2,p3,p4,p5,p6,p7,p8,p9,p10,p11,p12,p13⟩ := spec_BridgeOkF_parts n x (by omega) h1
  obtain ⟨fo,f1,f2⟩ := spec_FrameOkF_ok n f
  simp only [Bool.not_true,cond_false]
  rw [impl_FrameOkF_eq,f1,Option.bind_some,Option.bind_some]
  cases fo with
  | false => exact ⟨x,[],rfl,rfl,by omega,by simp,nil⟩
  | true =>
   have hf := f2 rfl
   obtain ⟨s,s0,s1,s2⟩ := spec_SendsF_small n x.Id x.Ports (by omega) (by omega)
   obtain ⟨c,ok,c1,c2,_⟩ := spec_ClassOfF_some n x.V (by omega) (by omega) (by omega) (k : Int) f.Tag ⟨by omega,by omega⟩
   obtain ⟨dr,d1,d2,_,_⟩ := impl_moreF_eq n x.Drops p11.1 p11.2
   obtain ⟨vr,v1,v2,_,_⟩ := impl_moreF_eq n x.Vers p12.1 p12.2
   have hb6 : k < 6 := by omega
   simp only [Bool.not_true,cond_false,s1,s2,c1,c2,Option.bind_some,spec_l9BitF_val n (s : Int) k (by omega),impl_hasPortF_val n (s : Int) k (by omega)]
   cases bitV (s : Int) k with
   | false =>
    simp only [Bool.not_false,cond_true,d1,d2,Option.bind_some]
    exact ⟨_,[],rfl,rfl,by show x.Name.size + x.Ports.length + x.F.length + x.V.sz ≤ x.sz + 1; omega,by simp,nil⟩
   | true =>
    simp only [Bool.not_true,cond_false]
    cases ok with
    | false =>
     simp only [Bool.not_false,cond_true,d1,d2,Option.bind_some]
     exact ⟨_,[],rfl,rfl,by show x.Name.size + x.Ports.length + x.F.length + x.V.sz ≤ x.sz + 1; omega,by simp,nil⟩
    | true =>
     obtain ⟨ys,l1,l2,l3,l4,l5⟩ := spec_LearnF_both n x.F c f.Src k wx.2.2.2.1 (by omega) hn
     have hr := VtabOk_row n x.V _ (by omega) (by omega) (by omega) (by omega) (by omega) (by omega) p7
     obtain ⟨e,e0,e1⟩ := spec_EgressOfF_small n x.V c (by omega) (by omega) hr
     have hport : ∀ v ∈ ys,0 ≤ v.Port ∧ v.Port ≤ 7 := fun v hv => by
      rcases l5 v hv with h | rfl
      ·obtain ⟨j,hj,rfl⟩ := List.getElem_of_mem h
       exact (spec_l8EntF_inv n _ ((spec_FdbOkF_inv n x.F (by omega) p6).2.1 j hj)).2.2.1
      ·exact ⟨by simp only; omega,by simp only; omega⟩
     have hand : ∀ a : Int,IntKind.wrap .i64 (BitVec.ofInt (IntKind.bits .i64) (s : Int) &&& BitVec.ofInt (IntKind.bits .i64) (e : Int)).toNat = mAnd s e := fun _ => rfl
     have hsm := mAnd_small s s0 e e0
     have hlt : s &&& e < 64 := Nat.lt_of_le_of_lt Nat.and_le_left s0
     obtain ⟨n1,n2,n3⟩ := mNot_small (s &&& e) hlt k hb6
     have hu : IntKind.wrap .u64 ((k : Nat) : Int) = k := wrapU (by omega)
     have ysz : x.Name.size + x.Ports.length + ys.length + x.V.sz ≤ x.sz + 1 := by omega
     have fin : ∀ y : Int,-1 ≤ y → y ≤ 7 → ∃ zs,spec_Forward_J1 n x s (c,true) ys vr e x k f y = some (⟨x.Id,x.Name,x.Ports,ys,x.V,x.Ticks,x.Parse,x.Word,x.Drops,vr⟩,zs) ∧ impl_Forward_J1 n x s (c,true) ys vr x k f y = some (⟨x.Id,x.Name,x.Ports,ys,x.V,x.Ticks,x.Parse,x.Word,x.Drops,vr⟩,zs) ∧ zs.length ≤ 6 ∧ ∀ o ∈ zs,o.F.Data.length ≤ 20 := fun y y0 y1 => by
      unfold spec_Forward_J1 impl_Forward_J1
      by_cases hy : y ≥ 0
      ·obtain ⟨q,rfl⟩ := Int.eq_ofNat_of_zero_le hy
       have hq : IntKind.wrap .u64 ((q : Nat) : Int) = q := wrapU (by omega)
       obtain ⟨zs,z1,z2,z3,z4⟩ := outs_loop n x c f s e k q (mOne (mNot (mAnd s e) k) q) true s0 e0 hb6 p2 hf (by omega) (by omega) hr e1 (fun j hj => by
        rw [hsm]
        obtain ⟨a,ha⟩ := Int.eq_ofNat_of_zero_le n1
        rw [ha] at n2
        have h3 := n3 j hj
        rw [ha] at h3 ⊢
        rw [mOne_small a (by omega) q (by omega) j hj,h3,decide_eq_false (show ¬ ((q : Nat) : Int) < 0 by omega),Bool.false_or]
        congr 1
        rw [Bool.eq_iff_iff]
        simp only [beq_iff_eq,decide_eq_true_eq]
        omega) n 0 [] (by omega) (by omega) (by simp) nil
       refine ⟨zs,?_,?_,z3,z4⟩
       ·rw [decide_eq_true hy,cond_true,decide_eq_true (show (0 : Int) ≤ IntKind.wrap .u64 ((q : Nat) : Int) by rw [hq]; omega),cond_true]
        have : spec_l12OutsF n x c (mOne (mNot (mAnd s e) k) q) f = some zs := by
         unfold spec_l12OutsF
         rw [show spec_l12Outs_L2 n n x c _ f 0 [] = _ from z1]
         rfl
        refine (congrArg (fun o => Option.bind o _) this).trans rfl
       ·rw [show impl_Forward_L3 n n s (c,true) x k f q 0 [] = _ from z2]
        rfl
      ·have hym : y = -1 := by omega
       subst hym
       obtain ⟨zs,z1,z2,z3,z4⟩ := outs_loop n x c f s e k (-1) (mNot (mAnd s e) k) true s0 e0 hb6 p2 hf (by omega) (by omega) hr e1 (fun j hj => by
        rw [hsm,n3 j hj,decide_eq_true (show (-1 : Int) < 0 by omega),Bool.true_or,Bool.and_true]) n 0 [] (by omega) (by omega) (by simp) nil
       refine ⟨zs,?_,?_,z3,z4⟩
       ·rw [decide_eq_false hy,cond_false]
        have : spec_l12OutsF n x c (mNot (mAnd s e) k) f = some zs := by
         unfold spec_l12OutsF
         rw [show spec_l12Outs_L2 n n x c _ f 0 [] = _ from z1]
         rfl
        refine (congrArg (fun o => Option.bind o _) this).trans rfl
       ·rw [show impl_Forward_L3 n n s (c,true) x k f (-1) 0 [] = _ from z2]
        rfl
     simp only [Bool.not_true,cond_false,l1,l2,v1,v2,e1,Option.bind_some,hu,decide_eq_true (show (0 : Int) ≤ ((k : Nat) : Int) by omega),cond_true]
     cases hd : (f.Dst != 0) with
     | true =>
      obtain ⟨r,r1,r2,r3⟩ := spec_LookUpF_port n ys c f.Dst (by omega) (by omega) hport
      obtain ⟨zs,z1,z2,z3,z4⟩ := fin r r2 r3
      simp only [cond_true,impl_LookUpF_eq,r1,Option.bind_some]
      exact ⟨_,zs,z1,z2,ysz,z3,z4⟩
     | false =>
      obtain ⟨zs,z1,z2,z3,z4⟩ := fin (-1) (by omega) (by omega)
      simp only [cond_false]
      exact ⟨_,zs,z1,z2,ysz,z3,z4⟩
theorem laws_markByteSF_ok (n : Nat) (xs : List Int) (b : Int) (h : xs.length ≤ 268435456) (hn : xs.length < n) (h0 : 0 ≤ b) (h1 : b + (1 : Nat) * xs.length ≤ 1099511627776) : laws_markByteSF n xs b = some (b + (1 : Nat) * xs.length,markL (fun _ b => IntKind.wrap .u8 b) 1 xs b) := by
 have := mark_loop (L := laws_markByteS_L2 n) (f := fun _ b => IntKind.wrap .u8 b) (c := 1) (fun m k ys b v hk hl hv h0 h1 => by
  rw [laws_markByteS_L2,lt_true hk,idx_at hv]
  simp (disch := omega) only [cond_true,Option.bind_some,wrap64,wrap_nat,Int.toNat_natCast,show ((1 : Nat) : Int) = 1 from rfl]
  rfl)
  (fun m ys b => by rw [laws_markByteS_L2,lt_false]; rfl) xs n [] b (by simpa using h) h0 h1 hn
 unfold laws_markByteSF
 simp only [List.length_nil,List.nil_append] at this
 rw [show laws_markByteS_L2 n n 0 xs b = _ from this]
 rfl
theorem laws_heldByteSF_ok (n : Nat) (xs : List Int) (b : Int) (h : xs.length ≤ 268435456) (hn : xs.length < n) (h0 : 0 ≤ b) (h1 : b + (1 : Nat) * xs.length ≤ 1099511627776) : laws_heldByteSF n (markL (fun _ b => IntKind.wrap .u8 b) 1 xs b) b = some (b + (1 : Nat) * xs.length) := by
 have := held_loop (L := laws_heldByteS_L2 n) (f := fun _ b => IntKind.wrap .u8 b) (c := 1) (fun m k ys b v hk hl hv h0 h1 => by
  rw [laws_heldByteS_L2,lt_true hk,idx_at hv]
  simp (disch := omega) only [cond_true,Option.bind_some,wrap64,wrap_nat,bne_self_eq_false,cond_false,show ((1 : Nat) : Int) = 1 from rfl]
  rfl)
  (fun m ys b => by rw [laws_heldByteS_L2,lt_false]; rfl) xs n [] b (by simpa using h) h0 h1 hn
 unfold laws_heldByteSF
 simp only [List.length_nil,List.nil_append] at this
 rw [show laws_heldByteS_L2 n n (markL _ 1 xs b) 0 b = _ from this]
 rfl
theorem laws_markOutSF_held (n : Nat) (xs : List Out) (b : Int) (h : xs.length ≤ 6) (hd : ∀ o ∈ xs,o.F.Data.length ≤ 20) (hn : 1048577 < n) (h0 : 0 < b) (h1 : b ≤ 100000000) : ∃ (zs : List Out) (c : Int),b ≤ c ∧ laws_markOutSF n xs b = some (c,zs) ∧ laws_heldOutSF n zs b = some c := by
 have hsum : ∀ ys : List Out,sumSz (fun _ => 10) ys = 10 * ys.length := fun ys => by
  induction ys with
  | nil => rfl
  | cons y ys ih => simp only [sumSz,List.length_cons,ih]; omega
 obtain ⟨zs,c,e0,e1,e2,e3,e4⟩ := markH_loop (L := laws_markOutS_L2 n) (H := laws_heldOutS_L2 n) (fun _ : Out => 10) (fun v => v.F.Data.length ≤ 20) (fun k ys b v hk hl hv hg h0 h1 => by
  have hO := laws_markByteSF_ok n v.F.Data (b + 1 + 1 + 1 + 1) (by omega) (by omega) (by omega) (by omega)
  have hO' := laws_heldByteSF_ok n v.F.Data (b + 1 + 1 + 1 + 1) (by omega) (by omega) (by omega) (by omega)
  refine ⟨?v,?c,?a1,?a2,?a3,?a4⟩
  case a3 =>
   intro m
   rw [laws_markOutS_L2,lt_true hk,idx_at hv]
   simp (disch := omega) only [cond_true,Option.bind_some,List.set_set,idx_set' hk,wrap64,wrap_nat,Int.toNat_natCast,hO]
   exact rfl
  case a1 => omega
  case a2 => omega
  case a4 =>
   intro m ys' hl' hk' hv'
   rw [laws_heldOutS_L2,lt_true hk',idx_at hv']
   simp (disch := omega) only [cond_true,Option.bind_some,wrap64,wrap_nat,hO',decide_eq_false,bne_self_eq_false,cond_false]
   rfl)
  (fun m ys b => by rw [laws_markOutS_L2,lt_false]; rfl) (fun m ys b => by rw [laws_heldOutS_L2,lt_false]; rfl) xs [] b (by simp; omega) hd h0 (by rw [hsum]; omega)
 refine ⟨zs,c,e1,?_,?_⟩
 ·unfold laws_markOutSF
  have := e3 n (by omega)
  simp only [List.length_nil,List.nil_append] at this
  rw [show laws_markOutS_L2 n n 0 xs b = _ from this]
  rfl
 ·unfold laws_heldOutSF
  have := e4 n (by omega)
  simp only [List.length_nil,List.nil_append] at this
  rw [show laws_heldOutS_L2 n n zs 0 b = _ from this]
  rfl
theorem laws_eqByteSF_refl (n : Nat) (xs : List Int) (h : xs.length ≤ 268435456) (hn : xs.length < n) : laws_eqByteSF n xs xs = some true := by
 have all : ∀ (m k : Nat),k ≤ xs.length → xs.length < m + k → laws_eqByteS_L2 n m xs xs k = some (.inl ()) := by
  intro m
  induction m with
  | zero => intro k h1 h2; omega
  | succ m ih =>
   intro k h1 h2
   rw [laws_eqByteS_L2]
   by_cases hk : k < xs.length
   ·rw [lt_true hk,cond_true,idx_nat hk,Option.bind_some,Option.bind_some,bne_self_eq_false,cond_false,wrap_nat (by omega : k ≤ 1099511627776)]
    exact ih (k + 1) (by omega) (by omega)
   ·obtain rfl : k = xs.length := by omega
    rw [lt_false]; rfl
 unfold laws_eqByteSF
 rw [bne_self_eq_false,cond_false,show laws_eqByteS_L2 n n xs xs 0 = _ from all n 0 (by omega) (by omega)]
 rfl
theorem laws_eqFrameF_refl (n : Nat) (f : Frame) (h : f.Data.length ≤ 268435456) (hn : f.Data.length < n) : laws_eqFrameF n f f = some true := by
 simp [laws_eqFrameF,laws_eqByteSF_refl n f.Data h hn]
theorem laws_eqOutSF_refl (n : Nat) (xs : List Out) (h : xs.length ≤ 6) (hd : ∀ o ∈ xs,o.F.Data.length ≤ 20) (hn : 1048577 < n) : laws_eqOutSF n xs xs = some true := by
 unfold laws_eqOutSF
 have := eq_loop (L := laws_eqOutS_L2 n) (f := laws_eqOutF n) (fun m xs ys i => by rw [laws_eqOutS_L2]) xs (by omega) (fun v hv => by
  have := hd v hv
  simp [laws_eqOutF,laws_eqFrameF_refl n v.F (by omega) (by omega)]) n 0 (by omega) (by omega)
 rw [show ((xs.length : Int) != (xs.length : Int)) = false from by simp,show laws_eqOutS_L2 n n xs xs 0 = _ from this]
 rfl
theorem laws_toByteSF_eq (n : Nat) (xs : List Int) (h : xs.length ≤ 268435456) (hn : xs.length < n) : laws_toByteSF n xs = some xs := by
 unfold laws_toByteSF
 rw [decide_eq_true (by omega : (0 : Int) ≤ (xs.length : Int)),decide_eq_true (by omega : (xs.length : Int) ≤ 268435456)]
 have := copy_loop (L := laws_toByteS_L2 n) (fun m xs i ys => by rw [laws_toByteS_L2]) xs (by omega) n 0 (List.replicate ((xs.length : Int)).toNat 0) (by omega) (by omega) (by simp) rfl
 simp only [Bool.and_self,cond_true]
 rw [show laws_toByteS_L2 n n xs 0 (List.replicate ((xs.length : Int)).toNat 0) = _ from this]
 rfl
theorem laws_toFrameF_eq (n : Nat) (f : Frame) (h : f.Data.length ≤ 268435456) (hn : f.Data.length < n) : laws_toFrameF n f = some f := by
 unfold laws_toFrameF
 rw [laws_toByteSF_eq n f.Data h hn]
 rfl
theorem laws_szFrameF_ok (n : Nat) {f : Frame} {b : Int} (h0 : 0 ≤ b) (h1 : b ≤ 1048576) (hl : f.Data.length ≤ maxLen) : ∃ r,laws_szFrameF n f b = some r ∧ Lft b f.Data.length r := by
 obtain ⟨r,e,k⟩ : ∃ r,laws_szByteSF n f.Data b = some r ∧ Lft b f.Data.length r := sz_step h0 h1 hl
 unfold laws_szFrameF
 rw [e,Option.bind_some]
 rcases k.neg with ⟨c1,c2⟩ | ⟨c1,c2,c3⟩
 ·rw [c1]; exact ⟨-1,rfl,.inl (by omega)⟩
 ·rw [c1]; exact ⟨r,rfl,k⟩
theorem laws_FnExactForward_plain (x0 : Bridge) (x1 : Int) (x2 : Frame) (w0 : x0.wf) (w1 : intWf x1) (w2 : x2.wf) : ∃ n,laws_FnExactForwardF n x0 x1 x2 = some true := by
 refine ⟨1048580,?_⟩
 obtain ⟨r,e,k⟩ := laws_szBridgeF_ok 1048580 (x := x0) (b := 1048576) (by decide) (by decide) w0
 simp only [laws_FnExactForwardF,e,Option.bind_some]
 rcases k.neg with ⟨c1,_⟩ | ⟨c1,c2,c3⟩
 ·rw [c1]; rfl
 ·obtain ⟨r2,e2,k2⟩ := laws_szFrameF_ok 1048580 (f := x2) (b := r) (by omega) (by omega) w2.2.2.2.1.1
  simp only [c1,cond_false,e2,Option.bind_some]
  rcases k2.neg with ⟨d1,_⟩ | ⟨d1,d2,d3⟩
  ·rw [d1]; rfl
  ·obtain ⟨y,zs,h1,h2,h3,h4,h5⟩ := spec_ForwardF_both 1048580 x0 x1 x2 w0 (by omega) (by omega)
   obtain ⟨c,z,q1,q2,m1,m2⟩ := laws_markBridgeF_ok 1048580 x0 1 (by omega) (by omega) (by omega) (by omega)
   obtain ⟨c',z',q1',q2',m1',m2'⟩ := laws_markBridgeF_ok 1048580 y 1 (by omega) (by omega) (by omega) (by omega)
   have mf := laws_markByteSF_ok 1048580 x2.Data c (by omega) (by omega) (by omega) (by omega)
   obtain ⟨os,co,g1,g2,g3⟩ := laws_markOutSF_held 1048580 zs c' h4 h5 (by omega) (by omega) (by omega)
   simp only [d1,cond_false,laws_toBridgeF_eq 1048580 x0 (by omega) (by omega),laws_toFrameF_eq 1048580 x2 (by omega) (by omega),Option.bind_some,h1,h2,laws_eqBridgeF_refl 1048580 x0 (by omega) (by omega),laws_eqBridgeF_refl 1048580 y (by omega) (by omega),laws_eqOutSF_refl 1048580 zs h4 h5 (by omega),laws_eqFrameF_refl 1048580 x2 (by omega) (by omega),laws_markFrameF,mf,m1,m1',m2',g2,g3,decide_eq_false (show ¬ c + ((1 : Nat) : Int) * (x2.Data.length : Int) < 0 by omega),decide_eq_false (show ¬ c' < 0 by omega),decide_eq_false (show ¬ co < 0 by omega),bne_self_eq_false,Bool.not_true]
end Go.Proofs.YtcegokjpmppdbaaGreat.Tw
