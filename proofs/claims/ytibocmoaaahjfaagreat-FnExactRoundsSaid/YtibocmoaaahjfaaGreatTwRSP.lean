import Derived.Test.YtibocmoaaahjfaaGreatTwRS
import Derived.Test.YtibocmoaaahjfaaGreatTlPlain
set_option linter.unusedVariables false
set_option linter.unusedSimpArgs false
set_option maxRecDepth 100000
set_option maxHeartbeats 1000000
namespace Go.Proofs.YtibocmoaaahjfaaGreat.Tw
open Go Go.TL Go.Proofs
def Vtab.sz (x : Vtab) : Nat := x.Rows.length + x.Pvid.length
theorem laws_szIntSF_ok (n : Nat) {xs : List Int} {b : Int} (h0 : 0 ≤ b) (h1 : b ≤ 1048576) (hl : xs.length ≤ maxLen) : ∃ r,laws_szIntSF n xs b = some r ∧ Lft b xs.length r := sz_step h0 h1 hl
theorem laws_szVrowSF_ok (n : Nat) {xs : List Vrow} {b : Int} (h0 : 0 ≤ b) (h1 : b ≤ 1048576) (hl : xs.length ≤ maxLen) : ∃ r,laws_szVrowSF n xs b = some r ∧ Lft b xs.length r := sz_step h0 h1 hl
theorem laws_szVtabF_ok (n : Nat) {x : Vtab} {b : Int} (h0 : 0 ≤ b) (h1 : b ≤ 1048576) (hl : Vtab.wf x) : ∃ r,laws_szVtabF n x b = some r ∧ Lft b x.sz r := by
 obtain ⟨r1,e1,k1⟩ := laws_szVrowSF_ok n h0 h1 hl.1.1
 simp only [laws_szVtabF,e1,Option.bind_some]
 rcases k1.neg with ⟨c1,c2⟩ | ⟨c1,c2,c3⟩
 ·rw [c1]; exact ⟨_,rfl,.inl (by decide)⟩
 ·rw [c1]
  obtain ⟨r2,e2,k2⟩ := laws_szIntSF_ok n c2 (by omega) hl.2.1.1
  simp only [e2,Option.bind_some,cond_false]
  rcases k2.neg with ⟨d1,d2⟩ | ⟨d1,d2,d3⟩
  ·rw [d1]; exact ⟨_,rfl,.inl (by decide)⟩
  ·rw [d1]; exact ⟨_,rfl,.inr ⟨d2,by unfold Vtab.sz; omega⟩⟩
theorem laws_toIntSF_eq (n : Nat) (xs : List Int) (h : xs.length ≤ 268435456) (hn : xs.length < n) : laws_toIntSF n xs = some xs := by
 unfold laws_toIntSF
 rw [decide_eq_true (by omega : (0 : Int) ≤ (xs.length : Int)),decide_eq_true (by omega : (xs.length : Int) ≤ 268435456)]
 have := copy_loop (L := laws_toIntS_L2 n) (fun m xs i ys => rfl) xs (by omega) n 0 (List.replicate ((xs.length : Int)).toNat 0) (by omega) (by omega) (by simp) rfl
 simp only [Bool.and_self,cond_true]
 rw [show (laws_toIntS_L2 n n xs 0 (List.replicate ((xs.length : Int)).toNat 0)) = _ from this]
 rfl
theorem laws_toVrowSF_eq (n : Nat) (xs : List Vrow) (h : xs.length ≤ 1048576) (hn : xs.length < n) : laws_toVrowSF n xs = some xs := by
 unfold laws_toVrowSF
 rw [decide_eq_true (by omega : (0 : Int) ≤ (xs.length : Int)),decide_eq_true (by omega : (xs.length : Int) ≤ 268435456)]
 have := copy_loop (L := laws_toVrowS_L2 n) (fun m xs i ys => rfl) xs (by omega) n 0 (List.replicate ((xs.length : Int)).toNat (⟨0,0,0⟩ : Vrow)) (by omega) (by omega) (by simp) rfl
 simp only [Bool.and_self,cond_true]
 rw [show (laws_toVrowS_L2 n n xs 0 (List.replicate ((xs.length : Int)).toNat (⟨0,0,0⟩ : Vrow))) = _ from this]
 rfl
theorem laws_toVtabF_eq (n : Nat) (x : Vtab) (h : x.sz ≤ 1048576) (hn : x.sz < n) : laws_toVtabF n x = some x := by
 unfold Vtab.sz at h hn
 unfold laws_toVtabF
 rw [laws_toVrowSF_eq n x.Rows (by omega) (by omega),laws_toIntSF_eq n x.Pvid (by omega) (by omega)]
 rfl
theorem laws_eqIntSF_refl (n : Nat) (xs : List Int) (h : xs.length ≤ 268435456) (hn : xs.length < n) : laws_eqIntSF n xs xs = some true := by
 unfold laws_eqIntSF
 have := eq_loop (L := laws_eqIntS_L2 n) (f := fun a b => some (a == b)) (fun m xs ys i => rfl) xs (by omega) (fun v _ => by simp) n 0 (by omega) (by omega)
 simp only [bne_self_eq_false,cond_false]
 rw [show (laws_eqIntS_L2 n n xs xs 0) = _ from this]
 rfl
theorem laws_eqVrowF_refl (n : Nat) (v : Vrow) : laws_eqVrowF n v v = some true := by simp [laws_eqVrowF]
theorem laws_eqVrowSF_refl (n : Nat) (xs : List Vrow) (h : xs.length ≤ 268435456) (hn : xs.length < n) : laws_eqVrowSF n xs xs = some true := by
 unfold laws_eqVrowSF
 have := eq_loop (L := laws_eqVrowS_L2 n) (f := laws_eqVrowF n) (fun m xs ys i => rfl) xs (by omega) (fun v _ => laws_eqVrowF_refl n v) n 0 (by omega) (by omega)
 simp only [bne_self_eq_false,cond_false]
 rw [show (laws_eqVrowS_L2 n n xs xs 0) = _ from this]
 rfl
theorem laws_eqVtabF_refl (n : Nat) (x : Vtab) (h : x.sz ≤ 268435456) (hn : x.sz < n) : laws_eqVtabF n x x = some true := by
 unfold Vtab.sz at h hn
 unfold laws_eqVtabF
 rw [laws_eqVrowSF_refl n x.Rows (by omega) (by omega),laws_eqIntSF_refl n x.Pvid (by omega) (by omega)]
 rfl
theorem impl_RowAt_L2_eq (n : Nat) : impl_RowAt_L2 n = spec_RowAt_L2 n := by
 funext m
 induction m with
 | zero => rfl
 | succ m ih => funext x i y; simp only [impl_RowAt_L2,spec_RowAt_L2,ih]
theorem impl_RowAtF_eq (n : Nat) : impl_RowAtF n = spec_RowAtF n := by
 funext x i; simp only [impl_RowAtF,spec_RowAtF,impl_RowAt_L2_eq]; rfl
theorem spec_RowAtF_ok (n : Nat) (x : Vtab) (id : Int) (h : x.Rows.length ≤ 1048580) (hn : x.Rows.length < n) : ∃ r,spec_RowAtF n x id = some r ∧ (r = -1 ∧ (∀ v ∈ x.Rows,v.Id ≠ id) ∨ ∃ v,0 ≤ r ∧ idx x.Rows r = some v ∧ v.Id = id) := by
 unfold spec_RowAtF
 have hf := find_loop (L := fun m xs i => spec_RowAt_L2 n m ⟨xs,x.Pvid⟩ id i) (p := fun i v => bif v.Id == id then some i else none) (fun m xs i => by
  show (bif _ then _ else _) = _
  congr 1
  congr 1
  funext v
  cases (v.Id == id) <;> rfl) x.Rows (by omega) n 0 (by omega) (by omega)
 rcases hf with ⟨e1,e2⟩ | ⟨j,hj,r,e1,e2,e3,e4⟩
 ·rw [show spec_RowAt_L2 n n x id 0 = _ from e1]
  refine ⟨-1,rfl,.inl ⟨rfl,fun v hv => ?_⟩⟩
  obtain ⟨j,hj,rfl⟩ := List.getElem_of_mem hv
  have := e2 j hj (by omega)
  intro hid
  simp [hid] at this
 ·rw [show spec_RowAt_L2 n n x id 0 = _ from e4]
  have hid : (x.Rows[j].Id == id) = true := by
   cases hc : (x.Rows[j].Id == id) with
   | true => rfl
   | false => rw [hc] at e2; cases e2
  rw [hid] at e2
  cases e2
  exact ⟨_,rfl,.inr ⟨_,by omega,idx_nat hj,by simpa using hid⟩⟩
theorem laws_szPtSF_ok (n : Nat) {xs : List Pt} {b : Int} (h0 : 0 ≤ b) (h1 : b ≤ 1048576) (hl : xs.length ≤ maxLen) : ∃ r,laws_szPtSF n xs b = some r ∧ Lft b xs.length r := sz_step h0 h1 hl
theorem laws_toPtSF_eq (n : Nat) (xs : List Pt) (h : xs.length ≤ 1048576) (hn : xs.length < n) : laws_toPtSF n xs = some xs := by
 unfold laws_toPtSF
 rw [decide_eq_true (by omega : (0 : Int) ≤ (xs.length : Int)),decide_eq_true (by omega : (xs.length : Int) ≤ 268435456)]
 have := copy_loop (L := laws_toPtS_L2 n) (fun m xs i ys => rfl) xs (by omega) n 0 (List.replicate ((xs.length : Int)).toNat (⟨false,0,false,(⟨0,0,0,0,0⟩ : Vec)⟩ : Pt)) (by omega) (by omega) (by simp) rfl
 simp only [Bool.and_self,cond_true]
 rw [show (laws_toPtS_L2 n n xs 0 (List.replicate ((xs.length : Int)).toNat (⟨false,0,false,(⟨0,0,0,0,0⟩ : Vec)⟩ : Pt))) = _ from this]
 rfl
theorem laws_eqVecF_refl (n : Nat) (v : Vec) : laws_eqVecF n v v = some true := by simp [laws_eqVecF]
theorem laws_eqPtF_refl (n : Nat) (v : Pt) : laws_eqPtF n v v = some true := by simp [laws_eqPtF,laws_eqVecF_refl]
theorem laws_eqPtSF_refl (n : Nat) (xs : List Pt) (h : xs.length ≤ 268435456) (hn : xs.length < n) : laws_eqPtSF n xs xs = some true := by
 unfold laws_eqPtSF
 have := eq_loop (L := laws_eqPtS_L2 n) (f := laws_eqPtF n) (fun m xs ys i => rfl) xs (by omega) (fun v _ => laws_eqPtF_refl n v) n 0 (by omega) (by omega)
 simp only [bne_self_eq_false,cond_false]
 rw [show (laws_eqPtS_L2 n n xs xs 0) = _ from this]
 rfl
theorem spec_l1InF_tot (n : Nat) (a b c : Int) : Tot (spec_l1InF n a b c) := Tot.bif (fun _ => .of) (fun _ => .of)
theorem impl_VecOkF_eq (n : Nat) : impl_VecOkF n = spec_VecOkF n := rfl
theorem spec_VecOkF_tot (n : Nat) (v : Vec) : Tot (spec_VecOkF n v) := by
 unfold spec_VecOkF
 repeat' first | exact Tot.of | refine Tot.bind (spec_l1InF_tot _ _ _ _) fun _ _ => ?_ | refine Tot.bif (fun _ => ?_) (fun _ => ?_)
theorem impl_StepVecF_eq (n : Nat) : impl_StepVecF n = spec_StepVecF n := rfl
theorem spec_StepVecF_tot (n : Nat) (v : Vec) (c : Int) : Tot (spec_StepVecF n v c) := by
 unfold spec_StepVecF
 repeat' first | exact Tot.of | refine Tot.bind (spec_l1InF_tot _ _ _ _) fun _ _ => ?_ | refine Tot.bind (spec_VecOkF_tot _ _) fun _ _ => ?_ | refine Tot.bif (fun _ => ?_) (fun _ => ?_)
theorem impl_LessVecF_eq (n : Nat) : impl_LessVecF n = spec_LessVecF n := rfl
theorem spec_LessVecF_tot (n : Nat) (v u : Vec) : Tot (spec_LessVecF n v u) := by
 unfold spec_LessVecF
 repeat' first | exact Tot.of | refine Tot.bif (fun _ => ?_) (fun _ => ?_)
theorem spec_BestVec_L2_tot (n : Nat) (x0 : Int) (x1 : List Pt) (h : x1.length ≤ 1048576) : ∀ (m k : Nat) (y2 y3 y4 y5 y6 y7 y8 y9 y10 : Int),k ≤ x1.length → x1.length < m + k → Tot (spec_BestVec_L2 n m x0 x1 k y2 y3 y4 y5 y6 y7 y8 y9 y10)
 | 0,k,y2,y3,y4,y5,y6,y7,y8,y9,y10,h1,h2 => by omega
 | m + 1,k,y2,y3,y4,y5,y6,y7,y8,y9,y10,h1,h2 => by
  rw [spec_BestVec_L2]
  refine Tot.step (fun hk => ?_) .of
  have ih := fun y2 y3 y4 y5 y6 y7 y8 y9 y10 => spec_BestVec_L2_tot n x0 x1 h m (k + 1) y2 y3 y4 y5 y6 y7 y8 y9 y10 (by omega) (by omega)
  simp only [spec_BestVec_J3,wrap_nat (by omega : k ≤ 1099511627776)]
  repeat' first | exact ih _ _ _ _ _ _ _ _ _ | exact Tot.of | refine Tot.bind (idx_tot hk) fun _ _ => ?_ | refine Tot.bind (spec_StepVecF_tot _ _ _) fun _ _ => ?_ | refine Tot.bind (spec_LessVecF_tot _ _ _) fun _ _ => ?_ | refine Tot.bif (fun _ => ?_) (fun _ => ?_)
theorem spec_BestVecF_tot (n : Nat) (x0 : Int) (x1 : List Pt) (h : x1.length ≤ 1048576) (hn : x1.length < n) : Tot (spec_BestVecF n x0 x1) := by
 unfold spec_BestVecF
 refine Tot.bind (spec_BestVec_L2_tot n x0 x1 h n 0 _ _ _ _ _ _ _ _ _ (by omega) (by omega)) fun o _ => ?_
 cases o <;> exact Tot.of
theorem impl_BestVec_L2_eq (n : Nat) : impl_BestVec_L2 n = spec_BestVec_L2 n := by
 funext m
 induction m with
 | zero => rfl
 | succ m ih =>
  funext x0 x1 y1 y2 y3 y4 y5 y6 y7 y8 y9 y10
  simp only [impl_BestVec_L2,spec_BestVec_L2,ih,impl_BestVec_J3,spec_BestVec_J3,impl_StepVecF_eq,impl_LessVecF_eq]
  cases idx x1 y1 <;> rfl
theorem impl_BestVecF_eq (n : Nat) : impl_BestVecF n = spec_BestVecF n := by
 funext x i; simp only [impl_BestVecF,spec_BestVecF,impl_BestVec_L2_eq]; rfl
theorem impl_SayVecF_eq (n : Nat) : impl_SayVecF n = spec_SayVecF n := by
 funext x i y; simp only [impl_SayVecF,spec_SayVecF,impl_BestVecF_eq]
theorem spec_SayVecF_tot (n : Nat) (x0 : Int) (x1 : List Pt) (x2 : Int) (h : x1.length ≤ 1048576) (hn : x1.length < n) : Tot (spec_SayVecF n x0 x1 x2) := Tot.bind (spec_BestVecF_tot n x0 x1 h hn) fun _ _ => .of
theorem impl_RoleOfF_eq (n : Nat) : impl_RoleOfF n = spec_RoleOfF n := by
 funext x i y; simp only [impl_RoleOfF,spec_RoleOfF,impl_BestVecF_eq,impl_SayVecF_eq,impl_LessVecF_eq]; rfl
theorem spec_RoleOfF_ok (n : Nat) (x0 : Int) (x1 : List Pt) (x2 : Int) (h : x1.length ≤ 1048576) (hn : x1.length < n) : ∃ r,spec_RoleOfF n x0 x1 x2 = some r ∧ 1 ≤ r ∧ r ≤ 4 := by
 unfold spec_RoleOfF spec_l1InF
 rw [wrap64 (by omega) (by omega)]
 obtain ⟨b,hb⟩ := spec_BestVecF_tot n x0 x1 h hn
 obtain ⟨s,hs⟩ := spec_SayVecF_tot n x0 x1 x2 h hn
 by_cases h1 : x2 ≥ 0
 ·by_cases h2 : x2 ≤ (x1.length : Int) - 1
  ·obtain ⟨v,hv,_⟩ := idx_of (xs := x1) h1 (by omega)
   obtain ⟨l,hl⟩ := spec_LessVecF_tot n s v.Heard
   simp only [decide_eq_true h1,decide_eq_true h2,cond_true,Option.bind_some,Bool.not_true,cond_false,hb,hs,hv,hl]
   cases v.Up <;> cases (b.2 == x2) <;> cases v.Has <;> cases l <;> exact ⟨_,rfl,by decide,by decide⟩
  ·simp only [decide_eq_true h1,decide_eq_false h2,cond_true,Option.bind_some,Bool.not_false]
   exact ⟨_,rfl,by decide,by decide⟩
 ·simp only [decide_eq_false h1,cond_false,Option.bind_some,Bool.not_false,cond_true]
  exact ⟨_,rfl,by decide,by decide⟩
theorem wrapU {k : Nat} (h : k ≤ 1099511627776) : IntKind.wrap .u64 (k : Int) = k := by
 show ((k : Int) % 18446744073709551616) = k
 omega
theorem spec_Sends_L2_both (n : Nat) (x0 : Int) (x1 : List Pt) (h : x1.length ≤ 1048576) (hn : x1.length < n) : ∀ (m k : Nat) (y2 : Int),k ≤ x1.length → x1.length < m + k → impl_Sends_L2 n m x0 x1 k y2 = spec_Sends_L2 n m x0 x1 k y2 ∧ Tot (spec_Sends_L2 n m x0 x1 k y2)
 | 0,k,y2,h1,h2 => by omega
 | m + 1,k,y2,h1,h2 => by
  rw [spec_Sends_L2,impl_Sends_L2]
  by_cases hk : k < x1.length
  ·have ih := fun y2 => spec_Sends_L2_both n x0 x1 h hn m (k + 1) y2 (by omega) (by omega)
   obtain ⟨r,hr,r1,r2⟩ := spec_RoleOfF_ok n x0 x1 k h hn
   have hk' : decide ((k : Int) < (x1.length : Int)) = true := decide_eq_true (by omega)
   have h0 : decide ((0 : Int) ≤ (k : Int)) = true := decide_eq_true (by omega)
   simp only [hk',wrap_nat (by omega : k ≤ 1099511627776),wrapU (by omega : k ≤ 1099511627776),impl_RoleOfF_eq,hr,Option.bind_some,h0,cond_true,(ih _).1,true_and]
   have hc : r = 1 ∨ r = 2 ∨ r = 3 ∨ r = 4 := by omega
   rcases hc with rfl | rfl | rfl | rfl <;> cases (decide ((k : Int) < 6)) <;> first | exact ⟨rfl,(ih _).2⟩ | exact ⟨by trivial,Tot.of⟩
  ·have hk' : decide ((k : Int) < (x1.length : Int)) = false := decide_eq_false (by omega)
   rw [hk']
   exact ⟨by trivial,Tot.of⟩
theorem spec_SendsF_both (n : Nat) (x0 : Int) (x1 : List Pt) (h : x1.length ≤ 1048576) (hn : x1.length < n) : impl_SendsF n x0 x1 = spec_SendsF n x0 x1 ∧ Tot (spec_SendsF n x0 x1) := by
 obtain ⟨h1,o,h2⟩ := spec_Sends_L2_both n x0 x1 h hn n 0 0 (by omega) (by omega)
 unfold impl_SendsF spec_SendsF
 have e1 : impl_Sends_L2 n n x0 x1 0 0 = some o := h1.trans h2
 have e2 : spec_Sends_L2 n n x0 x1 0 0 = some o := h2
 rw [e1,e2]
 cases o <;> exact ⟨by trivial,Tot.of⟩
theorem impl_inF_eq (n : Nat) : impl_inF n = spec_l1InF n := rfl
theorem spec_l1InF_val (n : Nat) (a b c : Int) : spec_l1InF n a b c = some (decide (b ≤ a) && decide (a ≤ c)) := by
 unfold spec_l1InF
 by_cases h : a ≥ b
 ·rw [decide_eq_true h]; rfl
 ·rw [decide_eq_false h]; rfl
theorem spec_VtabOk_mask {p : Int} (h0 : 1 ≤ p) (h1 : p ≤ 6) : ∃ a : Int,0 ≤ a ∧ a < 9223372036854775808 ∧ (IntKind.wrap .i64 ((IntKind.wrap .i64 (1 * 2 ^ min ((IntKind.wrap .u64 p)).toNat (IntKind.bits .i64))) - 1)) = a ∧ (IntKind.wrap .i64 ((IntKind.wrap .i64 (1 * 2 ^ min (p).toNat (IntKind.bits .i64))) - 1)) = a ∧ decide (0 ≤ (IntKind.wrap .u64 p)) = true ∧ decide (0 ≤ p) = true := by
 have hc : p = 1 ∨ p = 2 ∨ p = 3 ∨ p = 4 ∨ p = 5 ∨ p = 6 := by omega
 rcases hc with rfl | rfl | rfl | rfl | rfl | rfl
 ·exact ⟨1,by decide,by decide,by decide,by decide,by decide,by decide⟩
 ·exact ⟨3,by decide,by decide,by decide,by decide,by decide,by decide⟩
 ·exact ⟨7,by decide,by decide,by decide,by decide,by decide,by decide⟩
 ·exact ⟨15,by decide,by decide,by decide,by decide,by decide,by decide⟩
 ·exact ⟨31,by decide,by decide,by decide,by decide,by decide,by decide⟩
 ·exact ⟨63,by decide,by decide,by decide,by decide,by decide,by decide⟩
theorem spec_VtabOk_L4_both (n : Nat) (x0 : Vtab) (w0 : x0.wf) (x1 : Int) (hp0 : 1 ≤ x1) (hp1 : x1 ≤ 6) (h : x0.Rows.length ≤ 1048580) : ∀ (m k : Nat),k ≤ x0.Rows.length → x0.Rows.length < m + k → impl_VtabOk_L4 n m x0 x1 k = spec_VtabOk_L4 n m x0 x1 k ∧ Tot (spec_VtabOk_L4 n m x0 x1 k)
 | 0,k,h1,h2 => by omega
 | m + 1,k,h1,h2 => by
  rw [spec_VtabOk_L4,impl_VtabOk_L4]
  by_cases hk : k < x0.Rows.length
  ·obtain ⟨ih1,o,ih2⟩ := spec_VtabOk_L4_both n x0 w0 x1 hp0 hp1 h m (k + 1) (by omega) (by omega)
   obtain ⟨a,ha0,ha1,ha2,ha3,ha4,ha5⟩ := spec_VtabOk_mask hp0 hp1
   have hk' : decide ((k : Int) < (x0.Rows.length : Int)) = true := decide_eq_true (by omega)
   have hv : x0.Rows[k] ∈ x0.Rows := List.getElem_mem hk
   have hi := idx_nat hk
   generalize x0.Rows[k] = v at hv hi
   have hw := w0.1.2 v hv
   have hin : impl_allPortsF n x1 = some a := by unfold impl_allPortsF; rw [ha5,ha3]; rfl
   simp only [hk',wrap_nat (by omega : k ≤ 1099511627776),hi,Option.bind_some,cond_true,ih1,ih2,hin,impl_inF_eq,spec_l1InF_val,ha2]
   have hbits := fun hm0 hm1 => bits_in (B := v.Bare) (M := v.Members) hw.2.2.1 hm0 hm1
   by_cases hm : 0 ≤ v.Members ∧ v.Members ≤ a
   ·have hb := hbits hm.1 (by omega)
    simp only [decide_eq_true hm.1,decide_eq_true hm.2,Bool.and_self,Bool.not_true,cond_false]
    by_cases hz : IntKind.wrap .i64 (BitVec.ofInt (IntKind.bits .i64) v.Bare &&& ~~~BitVec.ofInt (IntKind.bits .i64) v.Members).toNat = 0
    ·have h3 := hb.1 hz
     have hz' : ((IntKind.wrap .i64 (BitVec.ofInt (IntKind.bits .i64) v.Bare &&& ~~~BitVec.ofInt (IntKind.bits .i64) v.Members).toNat) != 0) = false := by rw [hz]; rfl
     have hy' : ((IntKind.wrap .i64 (BitVec.ofInt (IntKind.bits .i64) v.Bare &&& BitVec.ofInt (IntKind.bits .i64) v.Members).toNat) != v.Bare) = false := by rw [h3.2.2]; simp
     simp only [hz',hy',decide_eq_true h3.1,decide_eq_true (show v.Bare ≤ a by omega),Bool.and_self,Bool.not_true,cond_false]
     cases k with
     | zero => cases (decide (1 ≤ v.Id) && decide (v.Id ≤ 99)) <;> exact ⟨by trivial,Tot.of⟩
     | succ k =>
      have hw2 : IntKind.wrap .i64 (((k + 1 : Nat) : Int) - 1) = (k : Int) := by rw [wrap64 (by omega) (by omega)]; omega
      have hpos : decide (((k + 1 : Nat) : Int) > 0) = true := decide_eq_true (by omega)
      simp only [hw2,hpos,cond_true,idx_nat (show k < x0.Rows.length by omega),Option.bind_some]
      cases (decide (1 ≤ v.Id) && decide (v.Id ≤ 99)) <;> cases (decide ((x0.Rows[k]'(by omega)).Id ≥ v.Id)) <;> exact ⟨by trivial,Tot.of⟩
    ·have hz' : ((IntKind.wrap .i64 (BitVec.ofInt (IntKind.bits .i64) v.Bare &&& ~~~BitVec.ofInt (IntKind.bits .i64) v.Members).toNat) != 0) = true := by simpa using hz
     have h3 : (decide (0 ≤ v.Bare) && decide (v.Bare ≤ a)) = false ∨ ((IntKind.wrap .i64 (BitVec.ofInt (IntKind.bits .i64) v.Bare &&& BitVec.ofInt (IntKind.bits .i64) v.Members).toNat) != v.Bare) = true := by
      by_cases hq : ((IntKind.wrap .i64 (BitVec.ofInt (IntKind.bits .i64) v.Bare &&& BitVec.ofInt (IntKind.bits .i64) v.Members).toNat) != v.Bare) = true
      ·exact .inr hq
      ·left
       simp at hq
       by_cases hr : 0 ≤ v.Bare ∧ v.Bare ≤ a
       ·have hle := bits_le hw.2.2.1 hm.1 (by omega) hq
        exact absurd (hb.2 ⟨hle.1,hle.2,hq⟩) hz
       ·simp only [Bool.and_eq_false_iff,decide_eq_false_iff_not]; omega
     simp only [hz',cond_true]
     have hspec : (bif !(decide (0 ≤ v.Bare) && decide (v.Bare ≤ a)) then some (Sum.inr false) else bif ((IntKind.wrap .i64 (BitVec.ofInt (IntKind.bits .i64) v.Bare &&& BitVec.ofInt (IntKind.bits .i64) v.Members).toNat) != v.Bare) then some (Sum.inr false) else (bif decide ((k : Int) > 0) then (idx x0.Rows (IntKind.wrap .i64 ((k : Int) - 1))).bind fun v13 => bif decide (v13.Id ≥ v.Id) then some (Sum.inr false) else some o else some o)) = (some (Sum.inr false) : Option (Unit ⊕ Bool)) := by
      rcases h3 with h3 | h3
      ·rw [h3]; rfl
      ·rw [h3]; cases (decide (0 ≤ v.Bare) && decide (v.Bare ≤ a)) <;> rfl
     rw [hspec]
     cases k with
     | zero => cases (decide (1 ≤ v.Id) && decide (v.Id ≤ 99)) <;> exact ⟨by trivial,Tot.of⟩
     | succ k =>
      have hw2 : IntKind.wrap .i64 (((k + 1 : Nat) : Int) - 1) = (k : Int) := by rw [wrap64 (by omega) (by omega)]; omega
      have hpos : decide (((k + 1 : Nat) : Int) > 0) = true := decide_eq_true (by omega)
      simp only [hw2,hpos,cond_true,idx_nat (show k < x0.Rows.length by omega),Option.bind_some]
      cases (decide (1 ≤ v.Id) && decide (v.Id ≤ 99)) <;> cases (decide ((x0.Rows[k]'(by omega)).Id ≥ v.Id)) <;> exact ⟨by trivial,Tot.of⟩
   ·have hm' : (decide (0 ≤ v.Members) && decide (v.Members ≤ a)) = false := by
     simp only [Bool.and_eq_false_iff,decide_eq_false_iff_not]; omega
    simp only [hm',Bool.not_false,cond_true]
    cases k with
    | zero => cases (decide (1 ≤ v.Id) && decide (v.Id ≤ 99)) <;> exact ⟨by trivial,Tot.of⟩
    | succ k =>
     have hw2 : IntKind.wrap .i64 (((k + 1 : Nat) : Int) - 1) = (k : Int) := by rw [wrap64 (by omega) (by omega)]; omega
     have hpos : decide (((k + 1 : Nat) : Int) > 0) = true := decide_eq_true (by omega)
     simp only [hw2,hpos,cond_true,idx_nat (show k < x0.Rows.length by omega),Option.bind_some]
     cases (decide (1 ≤ v.Id) && decide (v.Id ≤ 99)) <;> cases (decide ((x0.Rows[k]'(by omega)).Id ≥ v.Id)) <;> exact ⟨by trivial,Tot.of⟩
  ·have hk' : decide ((k : Int) < (x0.Rows.length : Int)) = false := decide_eq_false (by omega)
   rw [hk']
   exact ⟨by trivial,Tot.of⟩
theorem spec_VtabOk_L3_both (n : Nat) (x0 : Vtab) (h : x0.Rows.length ≤ 1048580) (hn : x0.Rows.length < n) (hq : x0.Pvid.length ≤ 1048580) : ∀ (m k : Nat),k ≤ x0.Pvid.length → x0.Pvid.length < m + k → impl_VtabOk_L3 n m x0 k = spec_VtabOk_L3 n m x0 k ∧ Tot (spec_VtabOk_L3 n m x0 k)
 | 0,k,h1,h2 => by omega
 | m + 1,k,h1,h2 => by
  rw [spec_VtabOk_L3,impl_VtabOk_L3]
  by_cases hk : k < x0.Pvid.length
  ·obtain ⟨ih1,o,ih2⟩ := spec_VtabOk_L3_both n x0 h hn hq m (k + 1) (by omega) (by omega)
   have hk' : decide ((k : Int) < (x0.Pvid.length : Int)) = true := decide_eq_true (by omega)
   obtain ⟨r,hr,_⟩ := spec_RowAtF_ok n x0 x0.Pvid[k] h hn
   simp only [hk',wrap_nat (by omega : k ≤ 1099511627776),idx_nat hk,Option.bind_some,cond_true,ih1,ih2,impl_RowAtF_eq,hr]
   cases decide (r < 0) <;> exact ⟨by trivial,Tot.of⟩
  ·have hk' : decide ((k : Int) < (x0.Pvid.length : Int)) = false := decide_eq_false (by omega)
   rw [hk']
   exact ⟨by trivial,Tot.of⟩
theorem spec_VtabOkF_both (n : Nat) (x0 : Vtab) (w0 : x0.wf) (x1 : Int) (h : x0.sz ≤ 1048580) (hn : x0.sz < n) : impl_VtabOkF n x0 x1 = spec_VtabOkF n x0 x1 ∧ Tot (spec_VtabOkF n x0 x1) := by
 have hs : x0.Rows.length + x0.Pvid.length = x0.sz := rfl
 unfold impl_VtabOkF spec_VtabOkF
 simp only [impl_inF_eq,spec_l1InF_val,Option.bind_some]
 by_cases hp : 1 ≤ x1 ∧ x1 ≤ 6
 ·obtain ⟨a,ha0,ha1,ha2,ha3,ha4,ha5⟩ := spec_VtabOk_mask hp.1 hp.2
  obtain ⟨e1,o,e2⟩ := spec_VtabOk_L4_both n x0 w0 x1 hp.1 hp.2 (by omega) n 0 (by omega) (by omega)
  obtain ⟨f1,q,f2⟩ := spec_VtabOk_L3_both n x0 (by omega) (by omega) (by omega) n 0 (by omega) (by omega)
  have e1' : impl_VtabOk_L4 n n x0 x1 0 = some o := e1.trans e2
  have e2' : spec_VtabOk_L4 n n x0 x1 0 = some o := e2
  have f1' : impl_VtabOk_L3 n n x0 0 = some q := f1.trans f2
  have f2' : spec_VtabOk_L3 n n x0 0 = some q := f2
  simp only [decide_eq_true hp.1,decide_eq_true hp.2,Bool.and_self,Bool.not_true,cond_false,ha4,cond_true,e1',e2',Option.bind_some]
  cases o with
  | inl u =>
   simp only [impl_VtabOk_J1,spec_VtabOk_J1,f1',f2',Option.bind_some]
   cases q <;> exact ⟨rfl,Tot.bif (fun _ => .of) fun _ => Tot.bif (fun _ => .of) fun _ => .of⟩
  | inr r => exact ⟨rfl,Tot.bif (fun _ => .of) fun _ => Tot.bif (fun _ => .of) fun _ => .of⟩
 ·have hp' : (decide (1 ≤ x1) && decide (x1 ≤ 6)) = false := by
   simp only [Bool.and_eq_false_iff,decide_eq_false_iff_not]; omega
  rw [hp']
  exact ⟨by trivial,Tot.of⟩
theorem laws_markVrowSF_ok (n : Nat) (xs : List Vrow) (b : Int) (h : xs.length ≤ 268435456) (hn : xs.length < n) (h0 : 0 ≤ b) (h1 : b + (3 : Nat) * xs.length ≤ 1099511627776) : laws_markVrowSF n xs b = some (b + (3 : Nat) * xs.length,markL (fun _ b => (⟨b,b + 1,b + 2⟩ : Vrow)) 3 xs b) := by
 have := mark_loop (L := laws_markVrowS_L2 n) (f := fun _ b => (⟨b,b + 1,b + 2⟩ : Vrow)) (c := 3) (fun m k ys b v hk hl hv h0 h1 => by
  rw [laws_markVrowS_L2,lt_true hk,idx_at hv]
  simp only [cond_true,Option.bind_some,idx_set hk,wrap64 (show -9223372036854775808 ≤ b + 1 by omega) (by omega),wrap64 (show -9223372036854775808 ≤ b + 1 + 1 by omega) (by omega),wrap64 (show -9223372036854775808 ≤ b + 1 + 1 + 1 by omega) (by omega),wrap_nat (show k ≤ 1099511627776 by omega)]
  rw [idx_set (by simpa using hk)]
  simp only [Option.bind_some,List.set_set,Int.toNat_natCast]
  rw [show b + 1 + 1 = b + 2 by omega,show b + 2 + 1 = b + (3 : Nat) by omega])
  (fun m ys b => by rw [laws_markVrowS_L2,lt_false]; rfl) xs n [] b (by simpa using h) h0 h1 hn
 unfold laws_markVrowSF
 simp only [List.length_nil,List.nil_append] at this
 rw [show laws_markVrowS_L2 n n 0 xs b = _ from this]
 rfl
theorem laws_heldVrowSF_ok (n : Nat) (xs : List Vrow) (b : Int) (h : xs.length ≤ 268435456) (hn : xs.length < n) (h0 : 0 ≤ b) (h1 : b + (3 : Nat) * xs.length ≤ 1099511627776) : laws_heldVrowSF n (markL (fun _ b => (⟨b,b + 1,b + 2⟩ : Vrow)) 3 xs b) b = some (b + (3 : Nat) * xs.length) := by
 have := held_loop (L := laws_heldVrowS_L2 n) (f := fun _ b => (⟨b,b + 1,b + 2⟩ : Vrow)) (c := 3) (fun m k ys b v hk hl hv h0 h1 => by
  rw [laws_heldVrowS_L2,lt_true hk,idx_at hv]
  simp only [cond_true,Option.bind_some,bne_self_eq_false,cond_false,wrap64 (show -9223372036854775808 ≤ b + 1 by omega) (by omega),wrap64 (show -9223372036854775808 ≤ b + 1 + 1 by omega) (by omega),wrap64 (show -9223372036854775808 ≤ b + 1 + 1 + 1 by omega) (by omega),wrap_nat (show k ≤ 1099511627776 by omega)]
  rw [show b + 1 + 1 = b + 2 by omega,show b + 2 + 1 = b + (3 : Nat) by omega]
  simp only [bne_self_eq_false,cond_false])
  (fun m ys b => by rw [laws_heldVrowS_L2,lt_false]; rfl) xs n [] b (by simpa using h) h0 h1 hn
 unfold laws_heldVrowSF
 simp only [List.length_nil,List.nil_append] at this
 rw [show laws_heldVrowS_L2 n n (markL (fun _ b => (⟨b,b + 1,b + 2⟩ : Vrow)) 3 xs b) 0 b = _ from this]
 rfl
theorem laws_markIntSF_ok (n : Nat) (xs : List Int) (b : Int) (h : xs.length ≤ 268435456) (hn : xs.length < n) (h0 : 0 ≤ b) (h1 : b + (1 : Nat) * xs.length ≤ 1099511627776) : laws_markIntSF n xs b = some (b + (1 : Nat) * xs.length,markL (fun _ b => b) 1 xs b) := by
 have := mark_loop (L := laws_markIntS_L2 n) (f := fun _ b => b) (c := 1) (fun m k ys b v hk hl hv h0 h1 => by
  rw [laws_markIntS_L2,lt_true hk,idx_at hv]
  simp only [cond_true,Option.bind_some,wrap64 (show -9223372036854775808 ≤ b + 1 by omega) (by omega),wrap_nat (show k ≤ 1099511627776 by omega),Int.toNat_natCast]
  rfl)
  (fun m ys b => by rw [laws_markIntS_L2,lt_false]; rfl) xs n [] b (by simpa using h) h0 h1 hn
 unfold laws_markIntSF
 simp only [List.length_nil,List.nil_append] at this
 rw [show laws_markIntS_L2 n n 0 xs b = _ from this]
 rfl
theorem laws_heldIntSF_ok (n : Nat) (xs : List Int) (b : Int) (h : xs.length ≤ 268435456) (hn : xs.length < n) (h0 : 0 ≤ b) (h1 : b + (1 : Nat) * xs.length ≤ 1099511627776) : laws_heldIntSF n (markL (fun _ b => b) 1 xs b) b = some (b + (1 : Nat) * xs.length) := by
 have := held_loop (L := laws_heldIntS_L2 n) (f := fun _ b => b) (c := 1) (fun m k ys b v hk hl hv h0 h1 => by
  rw [laws_heldIntS_L2,lt_true hk,idx_at hv]
  simp only [cond_true,Option.bind_some,bne_self_eq_false,cond_false,wrap64 (show -9223372036854775808 ≤ b + 1 by omega) (by omega),wrap_nat (show k ≤ 1099511627776 by omega)]
  rfl)
  (fun m ys b => by rw [laws_heldIntS_L2,lt_false]; rfl) xs n [] b (by simpa using h) h0 h1 hn
 unfold laws_heldIntSF
 simp only [List.length_nil,List.nil_append] at this
 rw [show laws_heldIntS_L2 n n (markL (fun _ b => b) 1 xs b) 0 b = _ from this]
 rfl
theorem spec_l9CopyF_eq (n : Nat) (x : Vtab) (h : x.sz ≤ 268435456) : spec_l9CopyF n x = some x := by
 have hs : x.Rows.length + x.Pvid.length = x.sz := rfl
 unfold spec_l9CopyF
 simp only [List.length_nil,Nat.zero_add,decide_eq_true (show x.Rows.length ≤ 268435456 by omega),decide_eq_true (show x.Pvid.length ≤ 268435456 by omega),cond_true,List.nil_append]
theorem impl_copyVtabF_eq (n : Nat) (x : Vtab) (h : x.sz ≤ 268435456) : impl_copyVtabF n x = some x := by
 have hs : x.Rows.length + x.Pvid.length = x.sz := rfl
 unfold impl_copyVtabF impl_copyIntsF
 simp only [List.length_nil,Nat.zero_add,decide_eq_true (show x.Rows.length ≤ 268435456 by omega),decide_eq_true (show x.Pvid.length ≤ 268435456 by omega),cond_true,List.nil_append,Option.bind_some]
theorem listWf_sub {α : Type} {wf : α → Prop} {xs ys : List α} (h : listWf wf xs) (hs : ∀ y ∈ ys,y ∈ xs) (hl : ys.length ≤ xs.length) : listWf wf ys := ⟨Nat.le_trans hl h.1,fun y hy => h.2 y (hs y hy)⟩
theorem listWf_set {α : Type} {wf : α → Prop} {xs : List α} {i : Nat} {v : α} (h : listWf wf xs) (hv : wf v) : listWf wf (xs.set i v) := ⟨by rw [List.length_set]; exact h.1,fun y hy => by
 rcases List.mem_or_eq_of_mem_set hy with h1 | h1
 ·exact h.2 y h1
 ·rw [h1]; exact hv⟩
theorem laws_szFentSF_ok (n : Nat) {xs : List Fent} {b : Int} (h0 : 0 ≤ b) (h1 : b ≤ 1048576) (hl : xs.length ≤ maxLen) : ∃ r,laws_szFentSF n xs b = some r ∧ Lft b xs.length r := sz_step h0 h1 hl
theorem laws_toFentSF_eq (n : Nat) (xs : List Fent) (h : xs.length ≤ 1048576) (hn : xs.length < n) : laws_toFentSF n xs = some xs := by
 unfold laws_toFentSF
 rw [decide_eq_true (by omega : (0 : Int) ≤ (xs.length : Int)),decide_eq_true (by omega : (xs.length : Int) ≤ 268435456)]
 have := copy_loop (L := laws_toFentS_L2 n) (fun m xs i ys => rfl) xs (by omega) n 0 (List.replicate ((xs.length : Int)).toNat (⟨0,0,0,0,false⟩ : Fent)) (by omega) (by omega) (by simp) rfl
 simp only [Bool.and_self,cond_true]
 rw [show (laws_toFentS_L2 n n xs 0 (List.replicate ((xs.length : Int)).toNat (⟨0,0,0,0,false⟩ : Fent))) = _ from this]
 rfl
theorem laws_eqFentF_refl (n : Nat) (v : Fent) : laws_eqFentF n v v = some true := by simp [laws_eqFentF]
theorem laws_eqFentSF_refl (n : Nat) (xs : List Fent) (h : xs.length ≤ 268435456) (hn : xs.length < n) : laws_eqFentSF n xs xs = some true := by
 unfold laws_eqFentSF
 have := eq_loop (L := laws_eqFentS_L2 n) (f := laws_eqFentF n) (fun m xs ys i => rfl) xs (by omega) (fun v _ => laws_eqFentF_refl n v) n 0 (by omega) (by omega)
 simp only [bne_self_eq_false,cond_false]
 rw [show (laws_eqFentS_L2 n n xs xs 0) = _ from this]
 rfl
def Bridge.sz (x : Bridge) : Nat := x.Name.size + x.Ports.length + x.F.length + x.V.sz
theorem laws_szBridgeF_ok (n : Nat) {x : Bridge} {b : Int} (h0 : 0 ≤ b) (h1 : b ≤ 1048576) (hl : Bridge.wf x) : ∃ r,laws_szBridgeF n x b = some r ∧ Lft b x.sz r := by
 have hm : maxLen = 9223372036854775807 := by decide
 have hn := hl.2.1
 unfold laws_szBridgeF
 rw [wrap64 (by omega) (by omega)]
 by_cases h : b - (x.Name.size : Int) < 0
 ·rw [decide_eq_true h]; exact ⟨_,rfl,.inl (by decide)⟩
 ·rw [decide_eq_false h]
  obtain ⟨r1,e1,k1⟩ := laws_szPtSF_ok n (xs := x.Ports) (b := b - x.Name.size) (by omega) (by omega) hl.2.2.1.1
  simp only [cond_false,e1,Option.bind_some]
  rcases k1.neg with ⟨c1,c2⟩ | ⟨c1,c2,c3⟩
  ·rw [c1]; exact ⟨_,rfl,.inl (by decide)⟩
  ·rw [c1]
   obtain ⟨r2,e2,k2⟩ := laws_szFentSF_ok n (xs := x.F) c2 (by omega) hl.2.2.2.1.1
   simp only [cond_false,e2,Option.bind_some]
   rcases k2.neg with ⟨d1,d2⟩ | ⟨d1,d2,d3⟩
   ·rw [d1]; exact ⟨_,rfl,.inl (by decide)⟩
   ·rw [d1]
    obtain ⟨r3,e3,k3⟩ := laws_szVtabF_ok n (x := x.V) d2 (by omega) ⟨hl.2.2.2.2.1,hl.2.2.2.2.2.1,trivial⟩
    simp only [cond_false,e3,Option.bind_some]
    rcases k3.neg with ⟨f1,f2⟩ | ⟨f1,f2,f3⟩
    ·rw [f1]; exact ⟨_,rfl,.inl (by decide)⟩
    ·rw [f1]; exact ⟨_,rfl,.inr ⟨f2,by unfold Bridge.sz; omega⟩⟩
theorem laws_toBridgeF_eq (n : Nat) (x : Bridge) (h : x.sz ≤ 1048576) (hn : x.sz < n) : laws_toBridgeF n x = some x := by
 unfold Bridge.sz at h hn
 unfold laws_toBridgeF
 rw [laws_toPtSF_eq n x.Ports (by omega) (by omega),laws_toFentSF_eq n x.F (by omega) (by omega),laws_toVtabF_eq n x.V (by omega) (by omega)]
 rfl
theorem laws_eqBridgeF_refl (n : Nat) (x : Bridge) (h : x.sz ≤ 268435456) (hn : x.sz < n) : laws_eqBridgeF n x x = some true := by
 unfold Bridge.sz at h hn
 unfold laws_eqBridgeF
 rw [laws_eqPtSF_refl n x.Ports (by omega) (by omega),laws_eqFentSF_refl n x.F (by omega) (by omega),laws_eqVtabF_refl n x.V (by omega) (by omega)]
 simp
theorem laws_markPtSF_ok (n : Nat) (xs : List Pt) (b : Int) (h : xs.length ≤ 268435456) (hn : xs.length < n) (h0 : 0 ≤ b) (h1 : b + (8 : Nat) * xs.length ≤ 1099511627776) : laws_markPtSF n xs b = some (b + (8 : Nat) * xs.length,markL (fun _ b => (⟨Int.tmod b 3 == 0,b + 1,Int.tmod (b + 2) 3 == 0,⟨b + 3,b + 4,b + 5,b + 6,b + 7⟩⟩ : Pt)) 8 xs b) := by
 have := mark_loop (L := laws_markPtS_L2 n) (f := fun _ b => (⟨Int.tmod b 3 == 0,b + 1,Int.tmod (b + 2) 3 == 0,⟨b + 3,b + 4,b + 5,b + 6,b + 7⟩⟩ : Pt)) (c := 8) (fun m k ys b v hk hl hv h0 h1 => by
  rw [laws_markPtS_L2,lt_true hk,idx_at hv]
  simp (disch := omega) only [cond_true,Option.bind_some,List.set_set,idx_set' hk,wrap64,wrap_nat,Int.toNat_natCast,show decide ((3 : Int) ≠ 0) = true from rfl]
  simp only [Int.add_assoc,Int.reduceAdd,show ((8 : Nat) : Int) = 8 from rfl]
  rfl)
  (fun m ys b => by rw [laws_markPtS_L2,lt_false]; rfl) xs n [] b (by simpa using h) h0 h1 hn
 unfold laws_markPtSF
 simp only [List.length_nil,List.nil_append] at this
 rw [show laws_markPtS_L2 n n 0 xs b = _ from this]
 rfl
theorem laws_heldPtSF_ok (n : Nat) (xs : List Pt) (b : Int) (h : xs.length ≤ 268435456) (hn : xs.length < n) (h0 : 0 ≤ b) (h1 : b + (8 : Nat) * xs.length ≤ 1099511627776) : laws_heldPtSF n (markL (fun _ b => (⟨Int.tmod b 3 == 0,b + 1,Int.tmod (b + 2) 3 == 0,⟨b + 3,b + 4,b + 5,b + 6,b + 7⟩⟩ : Pt)) 8 xs b) b = some (b + (8 : Nat) * xs.length) := by
 have := held_loop (L := laws_heldPtS_L2 n) (f := fun _ b => (⟨Int.tmod b 3 == 0,b + 1,Int.tmod (b + 2) 3 == 0,⟨b + 3,b + 4,b + 5,b + 6,b + 7⟩⟩ : Pt)) (c := 8) (fun m k ys b v hk hl hv h0 h1 => by
  rw [laws_heldPtS_L2,lt_true hk,idx_at hv]
  simp (disch := omega) only [cond_true,Option.bind_some,wrap64,wrap_nat,Int.toNat_natCast,show decide ((3 : Int) ≠ 0) = true from rfl]
  simp only [Int.add_assoc,Int.reduceAdd,show ((8 : Nat) : Int) = 8 from rfl,bne_self_eq_false,beq_self_eq_true,Bool.not_true,cond_false]
  rfl)
  (fun m ys b => by rw [laws_heldPtS_L2,lt_false]; rfl) xs n [] b (by simpa using h) h0 h1 hn
 unfold laws_heldPtSF
 simp only [List.length_nil,List.nil_append] at this
 rw [show laws_heldPtS_L2 n n (markL _ 8 xs b) 0 b = _ from this]
 rfl
theorem laws_markFentSF_ok (n : Nat) (xs : List Fent) (b : Int) (h : xs.length ≤ 268435456) (hn : xs.length < n) (h0 : 0 ≤ b) (h1 : b + (5 : Nat) * xs.length ≤ 1099511627776) : laws_markFentSF n xs b = some (b + (5 : Nat) * xs.length,markL (fun _ b => (⟨b,b + 1,b + 2,b + 3,Int.tmod (b + 4) 3 == 0⟩ : Fent)) 5 xs b) := by
 have := mark_loop (L := laws_markFentS_L2 n) (f := fun _ b => (⟨b,b + 1,b + 2,b + 3,Int.tmod (b + 4) 3 == 0⟩ : Fent)) (c := 5) (fun m k ys b v hk hl hv h0 h1 => by
  rw [laws_markFentS_L2,lt_true hk,idx_at hv]
  simp (disch := omega) only [cond_true,Option.bind_some,List.set_set,idx_set' hk,wrap64,wrap_nat,Int.toNat_natCast,show decide ((3 : Int) ≠ 0) = true from rfl]
  simp only [Int.add_assoc,Int.reduceAdd,show ((5 : Nat) : Int) = 5 from rfl]
  rfl)
  (fun m ys b => by rw [laws_markFentS_L2,lt_false]; rfl) xs n [] b (by simpa using h) h0 h1 hn
 unfold laws_markFentSF
 simp only [List.length_nil,List.nil_append] at this
 rw [show laws_markFentS_L2 n n 0 xs b = _ from this]
 rfl
theorem laws_heldFentSF_ok (n : Nat) (xs : List Fent) (b : Int) (h : xs.length ≤ 268435456) (hn : xs.length < n) (h0 : 0 ≤ b) (h1 : b + (5 : Nat) * xs.length ≤ 1099511627776) : laws_heldFentSF n (markL (fun _ b => (⟨b,b + 1,b + 2,b + 3,Int.tmod (b + 4) 3 == 0⟩ : Fent)) 5 xs b) b = some (b + (5 : Nat) * xs.length) := by
 have := held_loop (L := laws_heldFentS_L2 n) (f := fun _ b => (⟨b,b + 1,b + 2,b + 3,Int.tmod (b + 4) 3 == 0⟩ : Fent)) (c := 5) (fun m k ys b v hk hl hv h0 h1 => by
  rw [laws_heldFentS_L2,lt_true hk,idx_at hv]
  simp (disch := omega) only [cond_true,Option.bind_some,wrap64,wrap_nat,Int.toNat_natCast,show decide ((3 : Int) ≠ 0) = true from rfl]
  simp only [Int.add_assoc,Int.reduceAdd,show ((5 : Nat) : Int) = 5 from rfl,bne_self_eq_false,beq_self_eq_true,Bool.not_true,cond_false]
  rfl)
  (fun m ys b => by rw [laws_heldFentS_L2,lt_false]; rfl) xs n [] b (by simpa using h) h0 h1 hn
 unfold laws_heldFentSF
 simp only [List.length_nil,List.nil_append] at this
 rw [show laws_heldFentS_L2 n n (markL _ 5 xs b) 0 b = _ from this]
 rfl
theorem impl_PtOkF_eq (n : Nat) : impl_PtOkF n = spec_PtOkF n := by
 funext v
 unfold impl_PtOkF spec_PtOkF
 rw [impl_inF_eq,impl_VecOkF_eq]
 obtain ⟨b,hb⟩ := spec_l1InF_tot n v.Cost 1 1000
 rw [hb]
 cases b <;> cases v.Up <;> cases v.Has <;> rfl
theorem spec_PtOkF_tot (n : Nat) (v : Pt) : Tot (spec_PtOkF n v) := by
 unfold spec_PtOkF
 repeat' first | exact Tot.of | refine Tot.bind (spec_l1InF_tot _ _ _ _) fun _ _ => ?_ | refine Tot.bind (spec_VecOkF_tot _ _) fun _ _ => ?_ | refine Tot.bif (fun _ => ?_) (fun _ => ?_)
theorem spec_l8EntF_tot (n : Nat) (v : Fent) : Tot (spec_l8EntF n v) := by
 unfold spec_l8EntF
 repeat' first | exact Tot.of | refine Tot.bind (spec_l1InF_tot _ _ _ _) fun _ _ => ?_ | refine Tot.bif (fun _ => ?_) (fun _ => ?_)
theorem impl_fentOkF_eq (n : Nat) : impl_fentOkF n = spec_l8EntF n := rfl
theorem impl_behindF_eq (n : Nat) (v u : Fent) : impl_behindF n u v.Tag v.Mac = spec_l8AheadF n v u.Tag u.Mac := by
 unfold impl_behindF spec_l8AheadF
 by_cases h1 : v.Tag = u.Tag
 ·simp [h1]
 ·have e1 : (v.Tag != u.Tag) = true := by simpa using h1
  have e2 : (u.Tag == v.Tag) = false := by simpa using fun e : u.Tag = v.Tag => h1 e.symm
  rw [e1,e2]
  by_cases h2 : v.Tag < u.Tag
  ·rw [decide_eq_true h2]; rfl
  ·rw [decide_eq_false h2]; rfl
theorem spec_l8AheadF_tot (n : Nat) (v : Fent) (a b : Int) : Tot (spec_l8AheadF n v a b) := Tot.bif (fun _ => .of) (fun _ => .of)
theorem spec_FdbOk_L2_both (n : Nat) (xs : List Fent) (h : xs.length ≤ 1048580) : ∀ (m k : Nat),k ≤ xs.length → xs.length < m + k → impl_FdbOk_L2 n m xs k = spec_FdbOk_L2 n m xs k ∧ Tot (spec_FdbOk_L2 n m xs k)
 | 0,k,h1,h2 => by omega
 | m + 1,k,h1,h2 => by
  rw [spec_FdbOk_L2,impl_FdbOk_L2]
  by_cases hk : k < xs.length
  ·obtain ⟨ih1,o,ih2⟩ := spec_FdbOk_L2_both n xs h m (k + 1) (by omega) (by omega)
   rw [lt_true hk]
   obtain ⟨a,ha⟩ := spec_l8EntF_tot n xs[k]
   simp only [wrap_nat (by omega : k ≤ 1099511627776),idx_nat hk,Option.bind_some,cond_true,ih1,ih2,impl_fentOkF_eq,ha]
   cases k with
   | zero => cases a <;> exact ⟨by trivial,Tot.of⟩
   | succ k =>
    have hw2 : IntKind.wrap .i64 (((k + 1 : Nat) : Int) - 1) = (k : Int) := by rw [wrap64 (by omega) (by omega)]; omega
    have hpos : decide (((k + 1 : Nat) : Int) > 0) = true := decide_eq_true (by omega)
    obtain ⟨b,hb⟩ := spec_l8AheadF_tot n (xs[k]'(by omega)) xs[k + 1].Tag xs[k + 1].Mac
    simp only [hw2,hpos,cond_true,idx_nat (show k < xs.length by omega),Option.bind_some,impl_behindF_eq,hb]
    cases a <;> cases b <;> exact ⟨by trivial,Tot.of⟩
  ·have he : k = xs.length := by omega
   rw [he,lt_false]
   exact ⟨rfl,Tot.of⟩
theorem spec_FdbOkF_both (n : Nat) (xs : List Fent) (h : xs.length ≤ 1048580) (hn : xs.length < n) : ∃ b,spec_FdbOkF n xs = some b ∧ impl_FdbOkF n xs = some b := by
 obtain ⟨e1,o,e2⟩ := spec_FdbOk_L2_both n xs h n 0 (by omega) (by omega)
 have e1' : impl_FdbOk_L2 n n xs 0 = some o := e1.trans e2
 have e2' : spec_FdbOk_L2 n n xs 0 = some o := e2
 unfold spec_FdbOkF impl_FdbOkF
 rw [e1',e2']
 cases o <;> exact ⟨_,rfl,rfl⟩
theorem impl_BridgeOk_L2_eq (n : Nat) : impl_BridgeOk_L2 n = spec_BridgeOk_L2 n := by
 funext m
 induction m with
 | zero => rfl
 | succ m ih => funext x i; simp only [impl_BridgeOk_L2,spec_BridgeOk_L2,ih,impl_PtOkF_eq]
theorem spec_BridgeOk_L2_tot (n : Nat) (x : Bridge) (h : x.Ports.length ≤ 1048580) : ∀ (m k : Nat),k ≤ x.Ports.length → x.Ports.length < m + k → Tot (spec_BridgeOk_L2 n m x k)
 | 0,k,h1,h2 => by omega
 | m + 1,k,h1,h2 => by
  rw [spec_BridgeOk_L2]
  refine Tot.step (fun hk => ?_) .of
  have ih := spec_BridgeOk_L2_tot n x h m (k + 1) (by omega) (by omega)
  rw [wrap_nat (by omega : k ≤ 1099511627776)]
  exact Tot.bind (idx_tot hk) fun _ _ => Tot.bind (spec_PtOkF_tot _ _) fun _ _ => Tot.bif (fun _ => .of) fun _ => ih
theorem spec_BridgeOkF_both (n : Nat) (x : Bridge) (wx : x.wf) (h : x.sz ≤ 1048580) (hn : x.sz < n) : ∃ b,spec_BridgeOkF n x = some b ∧ impl_BridgeOkF n x = some b := by
 have hs : x.Name.size + x.Ports.length + x.F.length + x.V.sz = x.sz := rfl
 obtain ⟨o,ho⟩ := spec_BridgeOk_L2_tot n x (by omega) n 0 (by omega) (by omega)
 have ho' : spec_BridgeOk_L2 n n x 0 = some o := ho
 obtain ⟨f,hf1,hf2⟩ := spec_FdbOkF_both n x.F (by omega) (by omega)
 obtain ⟨g,v,hv⟩ := spec_VtabOkF_both n x.V ⟨wx.2.2.2.2.1,wx.2.2.2.2.2.1,trivial⟩ (x.Ports.length : Int) (by omega) (by omega)
 unfold spec_BridgeOkF impl_BridgeOkF
 rw [impl_BridgeOk_L2_eq,ho',Option.bind_some,Option.bind_some]
 cases o with
 | inr r => exact ⟨_,rfl,rfl⟩
 | inl u =>
  simp only [spec_BridgeOk_J1,impl_BridgeOk_J1,impl_inF_eq,impl_isCountF,spec_l11CountsF,spec_l1InF_val,hf1,hf2,g,hv,Option.bind_some]
  have hname : decide ((x.Name.size : Int) > 10) = !decide ((x.Name.size : Int) ≤ 10) := by
   by_cases h : (x.Name.size : Int) ≤ 10
   ·rw [decide_eq_true h,decide_eq_false (by omega)]; rfl
   ·rw [decide_eq_false h,decide_eq_true (by omega)]; rfl
  rw [hname]
  generalize decide ((x.Name.size : Int) ≤ 10) = b1
  generalize (decide (1 ≤ x.Id) && decide (x.Id ≤ 99)) = b2
  generalize (decide (1 ≤ (x.Ports.length : Int)) && decide ((x.Ports.length : Int) ≤ 6)) = b3
  generalize (decide (0 ≤ x.Ticks) && decide (x.Ticks ≤ 1000000)) = b4
  generalize (decide (0 ≤ x.Parse) && decide (x.Parse ≤ 1000000)) = b5
  generalize (decide (0 ≤ x.Word) && decide (x.Word ≤ 1000000)) = b6
  generalize (decide (0 ≤ x.Drops) && decide (x.Drops ≤ 1000000)) = b7
  generalize (decide (0 ≤ x.Vers) && decide (x.Vers ≤ 1000000)) = b8
  clear hf1 hf2 g hv hname
  revert f v b1 b2 b3 b4 b5 b6 b7 b8
  decide +kernel
theorem laws_szLinkSF_ok (n : Nat) {xs : List Link} {b : Int} (h0 : 0 ≤ b) (h1 : b ≤ 1048576) (hl : xs.length ≤ maxLen) : ∃ r,laws_szLinkSF n xs b = some r ∧ Lft b xs.length r := sz_step h0 h1 hl
theorem laws_szSaySF_ok (n : Nat) {xs : List Say} {b : Int} (h0 : 0 ≤ b) (h1 : b ≤ 1048576) (hl : xs.length ≤ maxLen) : ∃ r,laws_szSaySF n xs b = some r ∧ Lft b xs.length r := sz_step h0 h1 hl
theorem laws_szBridgeSF_ok (n : Nat) {xs : List Bridge} {b : Int} (h0 : 0 ≤ b) (h1 : b ≤ 1048576) (hn : 1048576 < n) (hl : listWf Bridge.wf xs) : ∃ r,laws_szBridgeSF n xs b = some r ∧ Lft b (xs.length + sumSz Bridge.sz xs) r := by
 obtain ⟨r0,e0,k0⟩ := sz_step h0 h1 hl.1
 unfold laws_szBridgeSF
 have hm : maxLen = 9223372036854775807 := by decide
 have hlen := hl.1
 rw [wrap64 (by omega) (by omega)] at e0 ⊢
 by_cases h : b - (xs.length : Int) < 0
 ·rw [decide_eq_true h]; exact ⟨_,rfl,.inl (by decide)⟩
 ·rw [decide_eq_false h]
  obtain ⟨o,f1,f2⟩ := sz_loop (L := fun m xs i b => laws_szBridgeS_L2 n m xs i b) (g := fun v b => laws_szBridgeF n v b) (sz := Bridge.sz) (fun m xs i b => rfl) xs (by omega) (fun v hv b h0 h1 => laws_szBridgeF_ok n h0 h1 (hl.2 v hv)) n 0 (b - xs.length) (by omega) (by omega) (by omega) (by omega)
  simp only [cond_false]
  rw [show laws_szBridgeS_L2 n n xs 0 (b - (xs.length : Int)) = _ from f1]
  rcases f2 with rfl | ⟨r,rfl,f3,f4⟩
  ·exact ⟨_,rfl,.inl (by decide)⟩
  ·exact ⟨_,rfl,.inr ⟨f3,by simp only [List.drop_zero] at f4; omega⟩⟩
def Net.sz (x : Net) : Nat := (x.Bridges.length + sumSz Bridge.sz x.Bridges) + x.Links.length + x.Said.length
theorem laws_szNetF_ok (n : Nat) {x : Net} {b : Int} (h0 : 0 ≤ b) (h1 : b ≤ 1048576) (hn : 1048576 < n) (hl : Net.wf x) : ∃ r,laws_szNetF n x b = some r ∧ Lft b x.sz r := by
 obtain ⟨r1,e1,k1⟩ := laws_szBridgeSF_ok n h0 h1 hn hl.1
 simp only [laws_szNetF,e1,Option.bind_some]
 rcases k1.neg with ⟨c1,c2⟩ | ⟨c1,c2,c3⟩
 ·rw [c1]; exact ⟨_,rfl,.inl (by decide)⟩
 ·rw [c1]
  obtain ⟨r2,e2,k2⟩ := laws_szLinkSF_ok n (xs := x.Links) c2 (by omega) hl.2.1.1
  simp only [e2,Option.bind_some,cond_false]
  rcases k2.neg with ⟨d1,d2⟩ | ⟨d1,d2,d3⟩
  ·rw [d1]; exact ⟨_,rfl,.inl (by decide)⟩
  ·rw [d1]
   obtain ⟨r3,e3,k3⟩ := laws_szSaySF_ok n (xs := x.Said) d2 (by omega) hl.2.2.1.1
   simp only [e3,Option.bind_some,cond_false]
   rcases k3.neg with ⟨f1,f2⟩ | ⟨f1,f2,f3⟩
   ·rw [f1]; exact ⟨_,rfl,.inl (by decide)⟩
   ·rw [f1]; exact ⟨_,rfl,.inr ⟨f2,by unfold Net.sz; omega⟩⟩
theorem laws_toLinkSF_eq (n : Nat) (xs : List Link) (h : xs.length ≤ 1048576) (hn : xs.length < n) : laws_toLinkSF n xs = some xs := by
 unfold laws_toLinkSF
 rw [decide_eq_true (by omega : (0 : Int) ≤ (xs.length : Int)),decide_eq_true (by omega : (xs.length : Int) ≤ 268435456)]
 have := copyF_loop (L := laws_toLinkS_L2 n) (f := laws_toLinkF n) (fun m xs i ys => rfl) xs (by omega) (fun v _ => rfl) n 0 (List.replicate ((xs.length : Int)).toNat (⟨0,0,0,0⟩ : Link)) (by omega) (by omega) (by simp) rfl
 simp only [Bool.and_self,cond_true]
 rw [show (laws_toLinkS_L2 n n xs 0 (List.replicate ((xs.length : Int)).toNat (⟨0,0,0,0⟩ : Link))) = _ from this]
 rfl
theorem laws_toSaySF_eq (n : Nat) (xs : List Say) (h : xs.length ≤ 1048576) (hn : xs.length < n) : laws_toSaySF n xs = some xs := by
 unfold laws_toSaySF
 rw [decide_eq_true (by omega : (0 : Int) ≤ (xs.length : Int)),decide_eq_true (by omega : (xs.length : Int) ≤ 268435456)]
 have := copyF_loop (L := laws_toSayS_L2 n) (f := laws_toSayF n) (fun m xs i ys => rfl) xs (by omega) (fun v _ => rfl) n 0 (List.replicate ((xs.length : Int)).toNat (⟨0,false,(⟨0,0,0,0,0⟩ : Vec)⟩ : Say)) (by omega) (by omega) (by simp) rfl
 simp only [Bool.and_self,cond_true]
 rw [show (laws_toSayS_L2 n n xs 0 (List.replicate ((xs.length : Int)).toNat (⟨0,false,(⟨0,0,0,0,0⟩ : Vec)⟩ : Say))) = _ from this]
 rfl
theorem laws_toBridgeSF_eq (n : Nat) (xs : List Bridge) (h : xs.length + sumSz Bridge.sz xs ≤ 1048576) (hn : 1048576 < n) : laws_toBridgeSF n xs = some xs := by
 unfold laws_toBridgeSF
 rw [decide_eq_true (by omega : (0 : Int) ≤ (xs.length : Int)),decide_eq_true (by omega : (xs.length : Int) ≤ 268435456)]
 have := copyF_loop (L := laws_toBridgeS_L2 n) (f := laws_toBridgeF n) (fun m xs i ys => rfl) xs (by omega) (fun v hv => by have := sumSz_mem (sz := Bridge.sz) hv; exact laws_toBridgeF_eq n v (by omega) (by omega)) n 0 (List.replicate ((xs.length : Int)).toNat (⟨0,(⟨#[]⟩ : ByteArray),([] : List Pt),([] : List Fent),(⟨([] : List Vrow),([] : List Int)⟩ : Vtab),0,0,0,0,0⟩ : Bridge)) (by omega) (by omega) (by simp) rfl
 simp only [Bool.and_self,cond_true]
 rw [show (laws_toBridgeS_L2 n n xs 0 (List.replicate ((xs.length : Int)).toNat (⟨0,(⟨#[]⟩ : ByteArray),([] : List Pt),([] : List Fent),(⟨([] : List Vrow),([] : List Int)⟩ : Vtab),0,0,0,0,0⟩ : Bridge))) = _ from this]
 rfl
theorem laws_toNetF_eq (n : Nat) (x : Net) (h : x.sz ≤ 1048576) (hn : 1048576 < n) : laws_toNetF n x = some x := by
 unfold Net.sz at h
 unfold laws_toNetF
 rw [laws_toBridgeSF_eq n x.Bridges (by omega) (by omega),laws_toLinkSF_eq n x.Links (by omega) (by omega),laws_toSaySF_eq n x.Said (by omega) (by omega)]
 rfl
theorem laws_eqLinkF_refl (n : Nat) (v : Link) : laws_eqLinkF n v v = some true := by simp [laws_eqLinkF]
theorem laws_eqLinkSF_refl (n : Nat) (xs : List Link) (h : xs.length ≤ 268435456) (hn : xs.length < n) : laws_eqLinkSF n xs xs = some true := by
 unfold laws_eqLinkSF
 have := eq_loop (L := laws_eqLinkS_L2 n) (f := laws_eqLinkF n) (fun m xs ys i => rfl) xs (by omega) (fun v _ => laws_eqLinkF_refl n v) n 0 (by omega) (by omega)
 simp only [bne_self_eq_false,cond_false]
 rw [show (laws_eqLinkS_L2 n n xs xs 0) = _ from this]
 rfl
theorem laws_eqSayF_refl (n : Nat) (v : Say) : laws_eqSayF n v v = some true := by simp [laws_eqSayF,laws_eqVecF_refl]
theorem laws_eqSaySF_refl (n : Nat) (xs : List Say) (h : xs.length ≤ 268435456) (hn : xs.length < n) : laws_eqSaySF n xs xs = some true := by
 unfold laws_eqSaySF
 have := eq_loop (L := laws_eqSayS_L2 n) (f := laws_eqSayF n) (fun m xs ys i => rfl) xs (by omega) (fun v _ => laws_eqSayF_refl n v) n 0 (by omega) (by omega)
 simp only [bne_self_eq_false,cond_false]
 rw [show (laws_eqSayS_L2 n n xs xs 0) = _ from this]
 rfl
theorem laws_eqBridgeSF_refl (n : Nat) (xs : List Bridge) (h : xs.length + sumSz Bridge.sz xs ≤ 268435456) (hn : xs.length + sumSz Bridge.sz xs < n) : laws_eqBridgeSF n xs xs = some true := by
 unfold laws_eqBridgeSF
 have := eq_loop (L := laws_eqBridgeS_L2 n) (f := laws_eqBridgeF n) (fun m xs ys i => rfl) xs (by omega) (fun v hv => by have := sumSz_mem (sz := Bridge.sz) hv; exact laws_eqBridgeF_refl n v (by omega) (by omega)) n 0 (by omega) (by omega)
 simp only [bne_self_eq_false,cond_false]
 rw [show (laws_eqBridgeS_L2 n n xs xs 0) = _ from this]
 rfl
theorem laws_eqNetF_refl (n : Nat) (x : Net) (h : x.sz ≤ 268435456) (hn : x.sz < n) : laws_eqNetF n x x = some true := by
 unfold Net.sz at h hn
 unfold laws_eqNetF
 rw [laws_eqBridgeSF_refl n x.Bridges (by omega) (by omega),laws_eqLinkSF_refl n x.Links (by omega) (by omega),laws_eqSaySF_refl n x.Said (by omega) (by omega)]
 rfl
theorem impl_portAtF_ok (n : Nat) (x : Net) (i j : Int) (wx : x.wf) (h : x.Bridges.length ≤ 1048580) : ∃ p b,impl_portAtF n x i j = some (p,b) ∧ spec_l13UpF n x i j = some (b && p.Up) := by
 have hw : IntKind.wrap .i64 ((x.Bridges.length : Int) - 1) = (x.Bridges.length : Int) - 1 := wrap64 (by omega) (by omega)
 unfold impl_portAtF spec_l13UpF
 simp only [impl_inF_eq,spec_l1InF_val,hw,Option.bind_some]
 by_cases hi : 0 ≤ i ∧ i ≤ (x.Bridges.length : Int) - 1
 ·obtain ⟨v,hv,hm⟩ := idx_of (xs := x.Bridges) hi.1 (by omega)
  have hl := (wx.1.2 v hm).2.2.1.1
  have hmx : maxLen = 9223372036854775807 := by decide
  have hw2 : IntKind.wrap .i64 ((v.Ports.length : Int) - 1) = (v.Ports.length : Int) - 1 := wrap64 (by omega) (by omega)
  simp only [decide_eq_true hi.1,decide_eq_true hi.2,Bool.and_self,Bool.not_true,cond_false,cond_true,hv,Option.bind_some,hw2]
  by_cases hj : 0 ≤ j ∧ j ≤ (v.Ports.length : Int) - 1
  ·obtain ⟨p,hp,_⟩ := idx_of (xs := v.Ports) hj.1 (by omega)
   simp only [decide_eq_true hj.1,decide_eq_true hj.2,Bool.and_self,Bool.not_true,cond_false,cond_true,hp,Option.bind_some]
   exact ⟨p,true,rfl,by simp⟩
  ·have hj' : (decide (0 ≤ j) && decide (j ≤ (v.Ports.length : Int) - 1)) = false := by
    simp only [Bool.and_eq_false_iff,decide_eq_false_iff_not]; omega
   simp only [hj',Bool.not_false,cond_true,cond_false]
   exact ⟨_,false,rfl,rfl⟩
 ·have hi' : (decide (0 ≤ i) && decide (i ≤ (x.Bridges.length : Int) - 1)) = false := by
   simp only [Bool.and_eq_false_iff,decide_eq_false_iff_not]; omega
  simp only [hi',Bool.not_false,cond_true,cond_false]
  exact ⟨_,false,rfl,rfl⟩
theorem spec_LinkUpF_both (n : Nat) (x : Net) (i : Int) (wx : x.wf) (h : x.sz ≤ 1048580) : ∃ b,spec_LinkUpF n x i = some b ∧ impl_LinkUpF n x i = some b := by
 unfold Net.sz at h
 have hw : IntKind.wrap .i64 ((x.Links.length : Int) - 1) = (x.Links.length : Int) - 1 := wrap64 (by omega) (by omega)
 unfold spec_LinkUpF impl_LinkUpF
 simp only [impl_inF_eq,spec_l1InF_val,hw,Option.bind_some]
 by_cases hi : 0 ≤ i ∧ i ≤ (x.Links.length : Int) - 1
 ·obtain ⟨v,hv,hm⟩ := idx_of (xs := x.Links) hi.1 (by omega)
  obtain ⟨p,b,h1,h2⟩ := impl_portAtF_ok n x v.A v.P wx (by omega)
  obtain ⟨p',b',h1',h2'⟩ := impl_portAtF_ok n x v.B v.Q wx (by omega)
  simp only [decide_eq_true hi.1,decide_eq_true hi.2,Bool.and_self,Bool.not_true,cond_false,hv,Option.bind_some,h1,h2,h1',h2']
  cases b <;> cases b' <;> cases p.Up <;> cases p'.Up <;> exact ⟨_,rfl,rfl⟩
 ·have hi' : (decide (0 ≤ i) && decide (i ≤ (x.Links.length : Int) - 1)) = false := by
   simp only [Bool.and_eq_false_iff,decide_eq_false_iff_not]; omega
  simp only [hi',Bool.not_false,cond_true]
  exact ⟨_,rfl,rfl⟩
theorem intWf_small {z : Int} (h0 : -1000000 ≤ z) (h1 : z ≤ 1000000) : intWf z := by
 show (Lit.int .i64 z).wf = true
 simp [Lit.wf,show IntKind.wrap .i64 z = z from wrap64 (by omega) (by omega)]
 exact ⟨by show (-9223372036854775808 : Int) ≤ z; omega,by omega⟩
def bitV (a : Int) (i : Nat) : Bool := (IntKind.wrap .i64 (BitVec.ofInt (IntKind.bits .i64) (Int.fdiv a (2 ^ min ((i : Int)).toNat (IntKind.bits .i64))) &&& BitVec.ofInt (IntKind.bits .i64) 1).toNat == 1)
theorem bitV_nine : ∀ a < 64,bitV ((a : Nat) : Int) 9 = false := by decide +kernel
theorem impl_hasPortF_val (n : Nat) (a : Int) (i : Nat) (h : i ≤ 62) : impl_hasPortF n a i = some (bitV a i) := by
 unfold impl_hasPortF
 simp only [impl_inF_eq,spec_l1InF_val,Option.bind_some,decide_eq_true (show (0 : Int) ≤ (i : Int) by omega),decide_eq_true (show (i : Int) ≤ 62 by omega),Bool.and_self,cond_true]
 rfl
theorem impl_hasPortF_neg (n : Nat) (a i : Int) (h : i < 0) : impl_hasPortF n a i = some false := by
 unfold impl_hasPortF
 simp only [impl_inF_eq,spec_l1InF_val,Option.bind_some,decide_eq_false (show ¬ (0 : Int) ≤ i by omega),Bool.false_and,cond_false]
theorem spec_l9BitF_val (n : Nat) (a : Int) (i : Nat) (h : i ≤ 7) : spec_l9BitF n a i = some (bitV a i) := by
 unfold spec_l9BitF
 have hu : IntKind.wrap .u64 (i : Int) = i := wrapU (by omega)
 simp only [spec_l1InF_val,Option.bind_some,decide_eq_true (show (0 : Int) ≤ (i : Int) by omega),decide_eq_true (show (i : Int) ≤ 7 by omega),Bool.and_self,cond_true,hu]
 rfl
theorem spec_l9BitF_out (n : Nat) (a i : Int) (h : i < 0 ∨ 7 < i) : spec_l9BitF n a i = some false := by
 unfold spec_l9BitF
 have : (decide ((0 : Int) ≤ i) && decide (i ≤ 7)) = false := by
  simp only [Bool.and_eq_false_iff,decide_eq_false_iff_not]; omega
 simp only [spec_l1InF_val,Option.bind_some,this,cond_false]
theorem spec_l13UpF_true (n : Nat) (x : Net) (i j : Int) (h : spec_l13UpF n x i j = some true) : ∃ v p,idx x.Bridges i = some v ∧ idx v.Ports j = some p ∧ p.Up = true ∧ i ≤ (IntKind.wrap .i64 ((x.Bridges.length : Int) - 1)) ∧ j ≤ (IntKind.wrap .i64 ((v.Ports.length : Int) - 1)) ∧ 0 ≤ i ∧ 0 ≤ j := by
 unfold spec_l13UpF at h
 simp only [spec_l1InF_val,Option.bind_some] at h
 cases hc : (decide (0 ≤ i) && decide (i ≤ IntKind.wrap .i64 ((x.Bridges.length : Int) - 1))) with
 | false => rw [hc] at h; cases h
 | true =>
  simp only [hc,cond_true] at h
  obtain ⟨v,hv,h⟩ := bind_some h
  cases hd : (decide (0 ≤ j) && decide (j ≤ IntKind.wrap .i64 ((v.Ports.length : Int) - 1))) with
  | false => rw [hd] at h; cases h
  | true =>
   simp only [hd,cond_true,hv,Option.bind_some] at h
   obtain ⟨p,hp,h⟩ := bind_some h
   simp only [Bool.and_eq_true,decide_eq_true_eq] at hc hd
   exact ⟨v,p,hv,hp,Option.some.inj h,hc.2,hd.2,hc.1,hd.1⟩
theorem spec_LinkUpF_true (n : Nat) (x : Net) (k : Int) (h : spec_LinkUpF n x k = some true) : ∃ l a b p q,idx x.Links k = some l ∧ idx x.Bridges l.A = some a ∧ idx a.Ports l.P = some p ∧ p.Up = true ∧ idx x.Bridges l.B = some b ∧ idx b.Ports l.Q = some q ∧ q.Up = true := by
 unfold spec_LinkUpF at h
 simp only [spec_l1InF_val,Option.bind_some] at h
 cases hc : (decide (0 ≤ k) && decide (k ≤ IntKind.wrap .i64 ((x.Links.length : Int) - 1))) with
 | false => rw [hc] at h; cases h
 | true =>
  simp only [hc,Bool.not_true,cond_false] at h
  obtain ⟨l,hl,h⟩ := bind_some h
  obtain ⟨u,hu,h⟩ := bind_some h
  cases u with
  | false => cases h
  | true =>
   simp only [cond_true] at h
   obtain ⟨u',hu',h⟩ := bind_some h
   have : u' = true := Option.some.inj h
   subst this
   obtain ⟨a,p,a1,a2,a3,_⟩ := spec_l13UpF_true n x _ _ hu
   obtain ⟨b,q,b1,b2,b3,_⟩ := spec_l13UpF_true n x _ _ hu'
   exact ⟨l,a,b,p,q,hl,a1,a2,a3,b1,b2,b3⟩
theorem idx_lt {α : Type} {xs : List α} {i : Int} {v : α} (h : idx xs i = some v) : 0 ≤ i ∧ i < xs.length := by
 obtain ⟨g1,g2⟩ := idx_get h
 have := (List.getElem?_eq_some_iff.1 g2).1
 omega
theorem ports_le {x : Net} {a : Bridge} (h : x.sz ≤ 1048576) (ha : a ∈ x.Bridges) : a.sz ≤ x.sz := by
 have := sumSz_mem (sz := Bridge.sz) ha
 unfold Net.sz
 omega
theorem bifE {c : Bool} {x : Option Bool} (h : (bif c then x else some false) = some true) : c = true ∧ x = some true := by
 cases c with
 | true => exact ⟨rfl,h⟩
 | false => cases h
theorem scan_inv {L : Nat → Int → Option (Unit ⊕ Bool)} {N : Nat} {P : Nat → Prop} (h0 : ∀ k,L 0 k = none) (hs : ∀ m (k : Nat) o,k < N → L (m + 1) (k : Int) = some o → o = .inr false ∨ (P k ∧ L m ((k + 1 : Nat) : Int) = some o)) (he : ∀ m o,L (m + 1) (N : Int) = some o → o = .inl ()) :
  ∀ (m k : Nat) o,k ≤ N → L m (k : Int) = some o → o = .inr false ∨ (o = .inl () ∧ ∀ j,k ≤ j → j < N → P j)
 | 0,k,o,_,h => by rw [h0] at h; cases h
 | m + 1,k,o,hk,h => by
  by_cases hlt : k < N
  ·rcases hs m k o hlt h with e | ⟨hp,h⟩
   ·exact .inl e
   ·rcases scan_inv h0 hs he m (k + 1) o (by omega) h with e | ⟨e,h2⟩
    ·exact .inl e
    ·refine .inr ⟨e,fun j hj hj2 => ?_⟩
     by_cases hjk : j = k
     ·subst hjk; exact hp
     ·exact h2 j (by omega) hj2
  ·have : k = N := by omega
   subst this
   exact .inr ⟨he m o h,fun j hj hj2 => by omega⟩
theorem spec_BridgeOkF_ports (n : Nat) (x : Bridge) (hl : x.Ports.length ≤ 1048580) {o : Unit ⊕ Bool} (h : spec_BridgeOk_L2 n n x 0 = some o) : o = .inr false ∨ (o = .inl () ∧ ∀ j (hj : j < x.Ports.length),spec_PtOkF n x.Ports[j] = some true) := by
 rcases scan_inv (L := fun m k => spec_BridgeOk_L2 n m x k) (N := x.Ports.length) (P := fun j => ∀ hj : j < x.Ports.length,spec_PtOkF n x.Ports[j] = some true) (fun k => rfl) (fun m k o hk h => by
  simp only [spec_BridgeOk_L2] at h
  rw [lt_true hk,cond_true,idx_nat hk,Option.bind_some,wrap_nat (by omega : k ≤ 1099511627776)] at h
  obtain ⟨b,hb⟩ := spec_PtOkF_tot n x.Ports[k]
  rw [hb,Option.bind_some] at h
  cases b with
  | true => exact .inr ⟨fun _ => hb,h⟩
  | false => cases h; exact .inl rfl) (fun m o h => by
  simp only [spec_BridgeOk_L2] at h
  rw [lt_false] at h; cases h; rfl) n 0 o (by omega) h with e | ⟨e,h2⟩
 ·exact .inl e
 ·exact .inr ⟨e,fun j hj => h2 j (by omega) hj hj⟩
theorem spec_BridgeOkF_parts (n : Nat) (x : Bridge) (hl : x.Ports.length ≤ 1048580) (h : spec_BridgeOkF n x = some true) : 1 ≤ x.Ports.length ∧ x.Ports.length ≤ 6 ∧ 1 ≤ x.Id ∧ x.Id ≤ 99 ∧ x.Name.size ≤ 10 ∧ spec_FdbOkF n x.F = some true ∧ spec_VtabOkF n x.V (x.Ports.length : Int) = some true ∧
  (0 ≤ x.Ticks ∧ x.Ticks ≤ 1000000) ∧ (0 ≤ x.Parse ∧ x.Parse ≤ 1000000) ∧ (0 ≤ x.Word ∧ x.Word ≤ 1000000) ∧ (0 ≤ x.Drops ∧ x.Drops ≤ 1000000) ∧ (0 ≤ x.Vers ∧ x.Vers ≤ 1000000) ∧ ∀ j (hj : j < x.Ports.length),spec_PtOkF n x.Ports[j] = some true := by
 unfold spec_BridgeOkF at h
 obtain ⟨o,ho,h⟩ := bind_some h
 rcases spec_BridgeOkF_ports n x hl ho with rfl | ⟨rfl,hp⟩
 ·cases h
 ·simp only [spec_BridgeOk_J1,spec_l11CountsF,spec_l1InF_val,Option.bind_some] at h
  obtain ⟨h1,h⟩ := bifE h
  obtain ⟨h2,h⟩ := bifE h
  obtain ⟨h3,h⟩ := bifE h
  obtain ⟨b4,h4,h⟩ := bind_some h
  obtain ⟨rfl,h⟩ := bifE h
  obtain ⟨b5,h5,h⟩ := bind_some h
  obtain ⟨rfl,h⟩ := bifE h
  obtain ⟨b6,h6,h⟩ := bind_some h
  cases h
  obtain ⟨h7,h6⟩ := bifE h6
  obtain ⟨h8,h6⟩ := bifE h6
  obtain ⟨h9,h6⟩ := bifE h6
  obtain ⟨h10,h6⟩ := bifE h6
  have h11 := Option.some.inj h6
  simp only [Bool.and_eq_true,decide_eq_true_eq] at h1 h2 h3 h7 h8 h9 h10 h11
  exact ⟨by omega,by omega,h1.1,h1.2,by omega,h4,h5,h7,h8,h9,h10,h11,hp⟩
theorem impl_moreF_eq (n : Nat) (z : Int) (h0 : 0 ≤ z) (h1 : z ≤ 1000000) : ∃ y,spec_l11OneF n z = some y ∧ impl_moreF n z = some y ∧ 0 ≤ y ∧ y ≤ 1000000 := by
 unfold spec_l11OneF impl_moreF
 rw [wrap64 (by omega) (by omega)]
 by_cases h : z ≥ 1000000
 ·rw [decide_eq_true h,if_pos (by omega)]; exact ⟨z,rfl,by rw [show z = 1000000 by omega],h0,h1⟩
 ·rw [decide_eq_false h,if_neg (by omega)]; exact ⟨_,rfl,rfl,by omega,by omega⟩
theorem filt_loop {α β : Type} {p : α → Bool} {L : Nat → Int → List α → Option (List α ⊕ β)} (xs : List α) (hx : xs.length ≤ 134217728)
  (h : ∀ m (k : Nat) (acc : List α) (hk : k < xs.length),acc.length ≤ k → L (m + 1) k acc = L m ((k + 1 : Nat) : Int) (acc ++ if p xs[k] then [xs[k]] else [])) (he : ∀ m (acc : List α),L (m + 1) (xs.length : Int) acc = some (.inl acc)) :
  ∀ (m k : Nat) (acc : List α),k ≤ xs.length → xs.length < m + k → acc.length ≤ k → L m k acc = some (.inl (acc ++ (xs.drop k).filter p))
 | 0,k,acc,h1,h2,h3 => by omega
 | m + 1,k,acc,h1,h2,h3 => by
  by_cases hk : k < xs.length
  ·rw [h m k acc hk h3,filt_loop xs hx h he m (k + 1) _ (by omega) (by omega) (by split <;> simp <;> omega),List.drop_eq_getElem_cons hk,List.filter_cons,List.append_assoc]
   split <;> simp
  ·have : k = xs.length := by omega
   subst this
   rw [he m acc]
   simp
theorem spec_FlushPortF_val (n : Nat) (xs : List Fent) (p : Int) (h : xs.length ≤ 134217728) (hn : xs.length < n) : spec_FlushPortF n xs p = some (xs.filter fun v => v.Static || v.Port != p) := by
 have := filt_loop (p := fun v : Fent => v.Static || v.Port != p) (L := fun m k acc => spec_FlushPort_L2 n m xs p k acc) xs h (fun m k acc hk ha => by
  simp only [spec_FlushPort_L2]
  rw [lt_true hk,cond_true,idx_nat hk,Option.bind_some,wrap_nat (by omega : k ≤ 1099511627776)]
  have hg : ∀ v : Fent,decide (acc.length + [v].length ≤ 268435456) = true := fun v => decide_eq_true (by simp; omega)
  simp only [Option.bind_some,hg,cond_true]
  cases hs : xs[k].Static <;> cases hq : (xs[k].Port != p) <;> simp [hs,hq]) (fun m acc => by simp only [spec_FlushPort_L2]; rw [lt_false]; rfl) n 0 [] (by omega) (by omega) (by simp)
 unfold spec_FlushPortF
 rw [show spec_FlushPort_L2 n n xs p 0 [] = _ from this]
 simp [spec_FlushPort_J1]
theorem impl_FlushPortF_val (n : Nat) (xs : List Fent) (p : Int) (h : xs.length ≤ 134217728) (hn : xs.length < n) : impl_FlushPortF n xs p = some (xs.filter fun v => v.Static || v.Port != p) := by
 have := filt_loop (p := fun v : Fent => v.Static || v.Port != p) (L := fun m k acc => impl_FlushPort_L2 n m xs p k acc) xs h (fun m k acc hk ha => by
  simp only [impl_FlushPort_L2]
  rw [lt_true hk,cond_true,idx_nat hk,Option.bind_some,wrap_nat (by omega : k ≤ 1099511627776)]
  have hg : ∀ v : Fent,decide (acc.length + [v].length ≤ 268435456) = true := fun v => decide_eq_true (by simp; omega)
  simp only [Option.bind_some,hg,cond_true]
  cases hs : xs[k].Static <;> cases hq : (xs[k].Port != p) <;> simp [hs,hq]) (fun m acc => by simp only [impl_FlushPort_L2]; rw [lt_false]; rfl) n 0 [] (by omega) (by omega) (by simp)
 unfold impl_FlushPortF
 rw [show impl_FlushPort_L2 n n xs p 0 [] = _ from this]
 simp [impl_FlushPort_J1]
theorem spec_l11Turned_L2_ok (n : Nat) (bits : Int) (x : Bridge) (h : x.Ports.length ≤ 6) : ∀ (m k : Nat) (ys : List Fent),k ≤ x.Ports.length → x.Ports.length < m + k → ys.length ≤ 134217728 → ys.length < n → ∃ zs : List Fent,spec_l11Turned_L2 n m bits x k ys = some (.inl zs) ∧ impl_Bridge_turn_L2 n m bits x k ys = some (.inl zs) ∧ zs.length ≤ ys.length ∧ (∀ v ∈ zs,v ∈ ys) ∧ ∀ v ∈ zs,v.Static = true ∨ ∀ j : Nat,k ≤ j → j < x.Ports.length → bitV bits j = false → v.Port ≠ j
 | 0,k,ys,h1,h2,h3,h4 => by omega
 | m + 1,k,ys,h1,h2,h3,h4 => by
  rw [spec_l11Turned_L2,impl_Bridge_turn_L2]
  by_cases hk : k < x.Ports.length
  ·rw [lt_true hk,cond_true,cond_true,spec_l9BitF_val n bits k (by omega),impl_hasPortF_val n bits k (by omega),Option.bind_some,Option.bind_some,wrap_nat (by omega : k ≤ 1099511627776),spec_FlushPortF_val n ys _ h3 h4,impl_FlushPortF_val n ys _ h3 h4]
   cases hb : bitV bits k with
   | true =>
    simp only [Bool.not_true,cond_false]
    obtain ⟨zs,e1,e2,e3,e4,e5⟩ := spec_l11Turned_L2_ok n bits x h m (k + 1) ys (by omega) (by omega) h3 h4
    refine ⟨zs,e1,e2,e3,e4,fun v hv => (e5 v hv).imp id fun h5 j hj hj2 hj3 => ?_⟩
    by_cases hjk : j = k
    ·subst hjk; rw [hb] at hj3; cases hj3
    ·exact h5 j (by omega) hj2 hj3
   | false =>
    simp only [Bool.not_false,cond_true,Option.bind_some]
    have hle := List.length_filter_le (fun v : Fent => v.Static || v.Port != (k : Int)) ys
    obtain ⟨zs,e1,e2,e3,e4,e5⟩ := spec_l11Turned_L2_ok n bits x h m (k + 1) (ys.filter fun v => v.Static || v.Port != (k : Int)) (by omega) (by omega) (by omega) (by omega)
    refine ⟨zs,e1,e2,by omega,fun v hv => (List.mem_filter.1 (e4 v hv)).1,fun v hv => ?_⟩
    have hf := (List.mem_filter.1 (e4 v hv)).2
    rcases e5 v hv with h5 | h5
    ·exact .inl h5
    ·cases hs : v.Static with
     | true => exact .inl rfl
     | false =>
      refine .inr fun j hj hj2 hj3 => ?_
      by_cases hjk : j = k
      ·subst hjk; rw [hs] at hf; simpa using hf
      ·exact h5 j (by omega) hj2 hj3
  ·have he : k = x.Ports.length := by omega
   subst he
   rw [lt_false]
   exact ⟨ys,rfl,rfl,Nat.le_refl _,fun v hv => hv,fun v hv => .inr fun j hj hj2 => by omega⟩
theorem spec_l11TurnedF_both (n : Nat) (x : Bridge) (h : x.Ports.length ≤ 6) (hf : x.F.length ≤ 134217728) (hn : x.F.length < n) (hn6 : 6 < n) (hv0 : 0 ≤ x.Vers) (hv1 : x.Vers ≤ 1000000) : ∃ (zs : List Fent) (v b : Int),spec_l11TurnedF n x = some ⟨x.Id,x.Name,x.Ports,zs,x.V,x.Ticks,x.Parse,x.Word,x.Drops,v⟩ ∧ impl_Bridge_turnF n x = some ⟨x.Id,x.Name,x.Ports,zs,x.V,x.Ticks,x.Parse,x.Word,x.Drops,v⟩ ∧
  zs.length ≤ x.F.length ∧ (∀ u ∈ zs,u ∈ x.F) ∧ 0 ≤ v ∧ v ≤ 1000000 ∧ spec_SendsF n x.Id x.Ports = some b ∧ ∀ u ∈ zs,u.Static = true ∨ ∀ j : Nat,j < x.Ports.length → bitV b j = false → u.Port ≠ j := by
 obtain ⟨v,h1,h2,h3,h4⟩ := impl_moreF_eq n x.Vers hv0 hv1
 obtain ⟨e,b,hb⟩ := spec_SendsF_both n x.Id x.Ports (by omega) (by omega)
 obtain ⟨zs,k1,k2,k3,k4,k5⟩ := spec_l11Turned_L2_ok n b x h n 0 x.F (by omega) (by omega) hf hn
 refine ⟨zs,v,b,?_,?_,k3,k4,h3,h4,hb,fun u hu => (k5 u hu).imp id fun h5 j hj => h5 j (by omega) hj⟩
 ·unfold spec_l11TurnedF
  rw [h1,Option.bind_some,hb,Option.bind_some,show spec_l11Turned_L2 n n b x 0 x.F = _ from k1]
  rfl
 ·unfold impl_Bridge_turnF
  rw [h2,Option.bind_some,e,hb,Option.bind_some,show impl_Bridge_turn_L2 n n b x 0 x.F = _ from k2]
  rfl
theorem spec_l11CopyF_eq (n : Nat) (x : Bridge) (h : x.sz ≤ 268435456) : spec_l11CopyF n x = some x := by
 have hs : x.Name.size + x.Ports.length + x.F.length + x.V.sz = x.sz := rfl
 unfold spec_l11CopyF spec_l8CopyF
 rw [spec_l9CopyF_eq n x.V (by omega),decide_eq_true (by simp; omega),decide_eq_true (by simp; omega)]
 rfl
theorem impl_copyBridgeF_eq (n : Nat) (x : Bridge) (h : x.sz ≤ 268435456) : impl_copyBridgeF n x = some x := by
 have hs : x.Name.size + x.Ports.length + x.F.length + x.V.sz = x.sz := rfl
 unfold impl_copyBridgeF impl_copyFdbF
 rw [impl_copyVtabF_eq n x.V (by omega),decide_eq_true (by simp; omega),decide_eq_true (by simp; omega)]
 rfl
theorem spec_l11ThereF_val (n : Nat) (x : Bridge) (p : Int) (b : Bool) (hb : spec_BridgeOkF n x = some b) (hl : x.Ports.length ≤ 1048580) : spec_l11ThereF n x p = some (b && (decide (0 ≤ p) && decide (p < x.Ports.length))) := by
 unfold spec_l11ThereF
 rw [hb,Option.bind_some,spec_l1InF_val,wrap64 (by omega) (by omega)]
 have : decide (p ≤ (x.Ports.length : Int) - 1) = decide (p < x.Ports.length) := by
  by_cases h : p < x.Ports.length
  ·rw [decide_eq_true h,decide_eq_true (by omega)]
  ·rw [decide_eq_false h,decide_eq_false (by omega)]
 rw [this]
 cases b <;> rfl
theorem impl_isPortF_val (n : Nat) (x : Bridge) (p : Int) (b : Bool) (hb : impl_BridgeOkF n x = some b) (hl : x.Ports.length ≤ 1048580) : impl_isPortF n x p = some (b && (decide (0 ≤ p) && decide (p < x.Ports.length))) := by
 unfold impl_isPortF
 rw [hb,Option.bind_some,impl_inF_eq,spec_l1InF_val,wrap64 (by omega) (by omega)]
 have : decide (p ≤ (x.Ports.length : Int) - 1) = decide (p < x.Ports.length) := by
  by_cases h : p < x.Ports.length
  ·rw [decide_eq_true h,decide_eq_true (by omega)]
  ·rw [decide_eq_false h,decide_eq_false (by omega)]
 rw [this]
 cases b <;> rfl
theorem spec_turn_set (n : Nat) (x : Bridge) (hn : 1048577 < n) (hx : x.sz ≤ 1048576) (hb : spec_BridgeOkF n x = some true) (ps : List Pt) (hp : ps.length = x.Ports.length) (fs : List Fent) (hf : fs.length ≤ x.F.length) (t : Int) : ∃ (zs : List Fent) (v b : Int),spec_l11TurnedF n ⟨x.Id,x.Name,ps,fs,x.V,t,x.Parse,x.Word,x.Drops,x.Vers⟩ = some ⟨x.Id,x.Name,ps,zs,x.V,t,x.Parse,x.Word,x.Drops,v⟩ ∧
  impl_Bridge_turnF n ⟨x.Id,x.Name,ps,fs,x.V,t,x.Parse,x.Word,x.Drops,x.Vers⟩ = some ⟨x.Id,x.Name,ps,zs,x.V,t,x.Parse,x.Word,x.Drops,v⟩ ∧ zs.length ≤ fs.length ∧ (∀ u ∈ zs,u ∈ fs) ∧ 0 ≤ v ∧ v ≤ 1000000 ∧ spec_SendsF n x.Id ps = some b ∧ ∀ u ∈ zs,u.Static = true ∨ ∀ j : Nat,j < ps.length → bitV b j = false → u.Port ≠ j := by
 have hs : x.Name.size + x.Ports.length + x.F.length + x.V.sz = x.sz := rfl
 obtain ⟨p1,p2,p3,p4,p5,p6,p7,p8,p9,p10,p11,p12,p13⟩ := spec_BridgeOkF_parts n x (by omega) hb
 exact spec_l11TurnedF_both n ⟨x.Id,x.Name,ps,fs,x.V,t,x.Parse,x.Word,x.Drops,x.Vers⟩ (by simp only; omega) (by simp only; omega) (by simp only; omega) (by omega) p12.1 p12.2
theorem strOf_one (z : Int) : (strOf [z]).size = 1 := rfl
theorem laws_markText_L2_ok (n : Nat) : ∀ (d m : Nat) (y1 : ByteArray) (y2 : Int),0 ≤ y2 → y2 < 10 ^ d → d < m → y1.size + d ≤ 1000 → y2 ≤ 1099511627776 → ∃ t,laws_markText_L2 n m y1 y2 = some (.inl t) ∧ t.size ≤ 1000
 | d,0,y1,y2,h0,h1,h2,h3,h4 => by omega
 | d,m + 1,y1,y2,h0,h1,h2,h3,h4 => by
  rw [laws_markText_L2]
  by_cases hp : y2 > 0
  ·cases d with
   | zero => simp at h1; omega
   | succ d =>
    have hq : Int.tdiv y2 10 = y2 / 10 := Int.tdiv_eq_ediv_of_nonneg h0
    have hw : IntKind.wrap .i64 (y2 / 10) = y2 / 10 := wrap64 (by omega) (by omega)
    rw [decide_eq_true hp,cond_true,show decide ((10 : Int) ≠ 0) = true from rfl,cond_true,cond_true,strOf_one,decide_eq_true (by omega),cond_true,hq,hw]
    refine laws_markText_L2_ok n d m _ _ (by omega) ?_ (by omega) ?_ (by omega)
    ·have : (10 : Int) ^ (d + 1) = 10 ^ d * 10 := Int.pow_succ ..
     omega
    ·rw [ByteArray.size_append,strOf_one]; omega
  ·rw [decide_eq_false hp]
   exact ⟨y1,rfl,by omega⟩
theorem laws_markTextF_ok (n : Nat) (hn : 1000 < n) (b : Int) (h0 : 0 < b) (h1 : b ≤ 1099511627776) : ∃ t,laws_markTextF n b = some t := by
 unfold laws_markTextF
 rw [decide_eq_false (by omega)]
 obtain ⟨t,ht,hs⟩ := laws_markText_L2_ok n 20 n ⟨#[]⟩ b (by omega) (by omega) (by omega) (by decide) h1
 rw [ht]
 simp only [cond_false,Option.bind_some,laws_markText_J1]
 have : (⟨#[109]⟩ : ByteArray).size = 1 := rfl
 rw [this,decide_eq_true (by omega)]
 exact ⟨_,rfl⟩
theorem laws_markLinkSF_ok (n : Nat) (xs : List Link) (b : Int) (h : xs.length ≤ 268435456) (hn : xs.length < n) (h0 : 0 ≤ b) (h1 : b + (4 : Nat) * xs.length ≤ 1099511627776) : laws_markLinkSF n xs b = some (b + (4 : Nat) * xs.length,markL (fun _ b => (⟨b,b + 1,b + 2,b + 3⟩ : Link)) 4 xs b) := by
 have := mark_loop (L := laws_markLinkS_L2 n) (f := fun _ b => (⟨b,b + 1,b + 2,b + 3⟩ : Link)) (c := 4) (fun m k ys b v hk hl hv h0 h1 => by
  rw [laws_markLinkS_L2,lt_true hk,idx_at hv]
  simp (disch := omega) only [cond_true,Option.bind_some,List.set_set,idx_set' hk,wrap64,wrap_nat,Int.toNat_natCast]
  simp only [Int.add_assoc,Int.reduceAdd,show ((4 : Nat) : Int) = 4 from rfl]
  rfl)
  (fun m ys b => by rw [laws_markLinkS_L2,lt_false]; rfl) xs n [] b (by simpa using h) h0 h1 hn
 unfold laws_markLinkSF
 simp only [List.length_nil,List.nil_append] at this
 rw [show laws_markLinkS_L2 n n 0 xs b = _ from this]
 rfl
theorem laws_markSaySF_ok (n : Nat) (xs : List Say) (b : Int) (h : xs.length ≤ 268435456) (hn : xs.length < n) (h0 : 0 ≤ b) (h1 : b + (7 : Nat) * xs.length ≤ 1099511627776) : laws_markSaySF n xs b = some (b + (7 : Nat) * xs.length,markL (fun _ b => (⟨b,Int.tmod (b + 1) 3 == 0,⟨b + 2,b + 3,b + 4,b + 5,b + 6⟩⟩ : Say)) 7 xs b) := by
 have := mark_loop (L := laws_markSayS_L2 n) (f := fun _ b => (⟨b,Int.tmod (b + 1) 3 == 0,⟨b + 2,b + 3,b + 4,b + 5,b + 6⟩⟩ : Say)) (c := 7) (fun m k ys b v hk hl hv h0 h1 => by
  rw [laws_markSayS_L2,lt_true hk,idx_at hv]
  simp (disch := omega) only [cond_true,Option.bind_some,List.set_set,idx_set' hk,wrap64,wrap_nat,Int.toNat_natCast,show decide ((3 : Int) ≠ 0) = true from rfl]
  simp only [Int.add_assoc,Int.reduceAdd,show ((7 : Nat) : Int) = 7 from rfl]
  rfl)
  (fun m ys b => by rw [laws_markSayS_L2,lt_false]; rfl) xs n [] b (by simpa using h) h0 h1 hn
 unfold laws_markSaySF
 simp only [List.length_nil,List.nil_append] at this
 rw [show laws_markSayS_L2 n n 0 xs b = _ from this]
 rfl
theorem in_range_dec (n : Nat) (z : Int) (N : Nat) (h : N ≤ 1048600) : spec_l1InF n z 0 (IntKind.wrap .i64 ((N : Int) - 1)) = some (decide (0 ≤ z ∧ z < N)) := by
 rw [spec_l1InF_val,wrap64 (by omega) (by omega)]
 by_cases h : 0 ≤ z ∧ z < N
 ·rw [decide_eq_true h,decide_eq_true h.1,decide_eq_true (by omega)]; rfl
 ·rw [decide_eq_false h]
  congr 1
  simp only [Bool.and_eq_false_iff,decide_eq_false_iff_not]; omega
def usedBy (b p : Int) (l : Link) : Bool := (l.A == b && l.P == p) || (l.B == b && l.Q == p)
def cntE (b p : Int) (l : Link) : Nat := (bif l.A == b && l.P == p then 1 else 0) + (bif l.B == b && l.Q == p then 1 else 0)
theorem usedBy_iff {b p : Int} {l : Link} : usedBy b p l = true ↔ (l.A = b ∧ l.P = p) ∨ (l.B = b ∧ l.Q = p) := by simp [usedBy]
theorem cntE_pos {b p : Int} {l : Link} : usedBy b p l = true ↔ 0 < cntE b p l := by
 unfold usedBy cntE
 cases l.A == b <;> cases l.P == p <;> cases l.B == b <;> cases l.Q == p <;> simp
def sumN {α : Type} (f : α → Nat) : List α → Nat
 | [] => 0
 | x :: xs => f x + sumN f xs
theorem sumN_append {α : Type} (f : α → Nat) : ∀ (xs ys : List α),sumN f (xs ++ ys) = sumN f xs + sumN f ys
 | [],ys => by simp [sumN]
 | x :: xs,ys => by simp only [List.cons_append,sumN,sumN_append f xs ys]; omega
theorem sumN_zero {α : Type} (f : α → Nat) : ∀ (xs : List α),(∀ x ∈ xs,f x = 0) → sumN f xs = 0
 | [],_ => rfl
 | x :: xs,h => by rw [sumN,h x (by simp),sumN_zero f xs (fun y hy => h y (by simp [hy]))]
theorem sumN_mem {α : Type} (f : α → Nat) : ∀ (xs : List α) (x : α),x ∈ xs → f x ≤ sumN f xs
 | y :: xs,x,h => by
  rcases List.mem_cons.1 h with e | h
  ·subst e; rw [sumN]; omega
  ·have := sumN_mem f xs x h; rw [sumN]; omega
theorem sumN_two {α : Type} (f : α → Nat) (xs : List α) (i j : Nat) (hij : i < j) (hj : j < xs.length) : f (xs[i]'(by omega)) + f xs[j] ≤ sumN f xs := by
 have e : xs = xs.take j ++ xs.drop j := (List.take_append_drop j xs).symm
 have h1 : f (xs[i]'(by omega)) ≤ sumN f (xs.take j) := sumN_mem f _ _ (by
  have : (xs.take j)[i]? = some (xs[i]'(by omega)) := by rw [List.getElem?_take,if_pos hij]; exact List.getElem?_eq_getElem _
  exact List.mem_of_getElem? this)
 have h2 : f xs[j] ≤ sumN f (xs.drop j) := sumN_mem f _ _ (List.drop_eq_getElem_cons hj ▸ List.mem_cons_self)
 have h3 := sumN_append f (xs.take j) (xs.drop j)
 rw [← e] at h3
 omega
theorem sumN_one {α : Type} (f : α → Nat) (xs : List α) (k : Nat) (hk : k < xs.length) (h : ∀ j (hj : j < xs.length),j ≠ k → f xs[j] = 0) : sumN f xs = f xs[k] := by
 have e : xs = xs.take k ++ xs[k] :: xs.drop (k + 1) := by rw [← List.drop_eq_getElem_cons hk]; exact (List.take_append_drop k xs).symm
 have h1 : sumN f (xs.take k) = 0 := sumN_zero f _ fun x hx => by
  obtain ⟨i,hi,rfl⟩ := List.getElem_of_mem hx
  simp only [List.length_take] at hi
  rw [List.getElem_take]
  exact h i (by omega) (by omega)
 have h2 : sumN f (xs.drop (k + 1)) = 0 := sumN_zero f _ fun x hx => by
  obtain ⟨i,hi,rfl⟩ := List.getElem_of_mem hx
  simp only [List.length_drop] at hi
  rw [List.getElem_drop]
  exact h _ (by omega) (by omega)
 have h3 := sumN_append f (xs.take k) (xs[k] :: xs.drop (k + 1))
 rw [← e] at h3
 rw [sumN,h1,h2] at h3
 omega
theorem ends_apart (xs : List Link) (hne : ∀ l ∈ xs,l.A ≠ l.B) : (∀ k (hk : k < xs.length),sumN (cntE xs[k].A xs[k].P) xs = 1 ∧ sumN (cntE xs[k].B xs[k].Q) xs = 1) ↔ (∀ k (hk : k < xs.length),(xs.take k).any (usedBy xs[k].A xs[k].P) = false ∧ (xs.take k).any (usedBy xs[k].B xs[k].Q) = false) := by
 have own1 : ∀ k (hk : k < xs.length),cntE xs[k].A xs[k].P xs[k] = 1 := fun k hk => by
  have := hne xs[k] (List.getElem_mem hk)
  have h2 : (xs[k].B == xs[k].A) = false := by simpa using fun e => this e.symm
  simp [cntE,h2]
 have own2 : ∀ k (hk : k < xs.length),cntE xs[k].B xs[k].Q xs[k] = 1 := fun k hk => by
  have := hne xs[k] (List.getElem_mem hk)
  have h2 : (xs[k].A == xs[k].B) = false := by simpa using this
  simp [cntE,h2]
 constructor
 ·intro h k hk
  have key : ∀ b p,cntE b p xs[k] = 1 → sumN (cntE b p) xs = 1 → (xs.take k).any (usedBy b p) = false := fun b p h1 h2 => by
   rw [List.any_eq_false]
   intro l hl hu
   obtain ⟨i,hi,rfl⟩ := List.getElem_of_mem hl
   simp only [List.length_take] at hi
   rw [List.getElem_take] at hu
   have := sumN_two (cntE b p) xs i k (by omega) hk
   have := cntE_pos.1 hu
   omega
  exact ⟨key _ _ (own1 k hk) (h k hk).1,key _ _ (own2 k hk) (h k hk).2⟩
 ·intro h k hk
  have key : ∀ b p,cntE b p xs[k] = 1 → usedBy b p xs[k] = true → (xs.take k).any (usedBy b p) = false → sumN (cntE b p) xs = 1 := fun b p h1 hu h2 => by
   rw [sumN_one (cntE b p) xs k hk (fun j hj hjk => ?_),h1]
   rw [List.any_eq_false] at h2
   refine Classical.byContradiction fun hc => ?_
   have hpos := cntE_pos.2 (show 0 < cntE b p xs[j] by omega)
   by_cases hlt : j < k
   ·refine h2 xs[j] ?_ hpos
    have : (xs.take k)[j]? = some xs[j] := by rw [List.getElem?_take,if_pos hlt]; exact List.getElem?_eq_getElem _
    exact List.mem_of_getElem? this
   ·have hkj : k < j := by omega
    have hmem : xs[k] ∈ xs.take j := by
     have : (xs.take j)[k]? = some xs[k] := by rw [List.getElem?_take,if_pos hkj]; exact List.getElem?_eq_getElem _
     exact List.mem_of_getElem? this
    have hh := h j hj
    rw [List.any_eq_false,List.any_eq_false] at hh
    rcases usedBy_iff.1 hpos with ⟨e1,e2⟩ | ⟨e1,e2⟩
    ·exact hh.1 _ hmem (by rw [e1,e2]; exact hu)
    ·exact hh.2 _ hmem (by rw [e1,e2]; exact hu)
  exact ⟨key _ _ (own1 k hk) (usedBy_iff.2 (.inl ⟨rfl,rfl⟩)) (h k hk).1,key _ _ (own2 k hk) (usedBy_iff.2 (.inr ⟨rfl,rfl⟩)) (h k hk).2⟩
theorem impl_ends_L2_val (n : Nat) (xs : List Link) (b p : Int) (h : xs.length ≤ 1048600) : ∀ (m k : Nat),k ≤ xs.length → xs.length < m + k → impl_ends_L2 n m xs b p k = some (if (xs.drop k).any (usedBy b p) then .inr true else .inl ())
 | 0,k,h1,h2 => by omega
 | m + 1,k,h1,h2 => by
  rw [impl_ends_L2]
  by_cases hk : k < xs.length
  ·have ih := impl_ends_L2_val n xs b p h m (k + 1) (by omega) (by omega)
   rw [lt_true hk,cond_true,idx_nat hk,Option.bind_some,wrap_nat (by omega : k ≤ 1099511627776),ih,List.drop_eq_getElem_cons hk,List.any_cons]
   unfold usedBy
   cases xs[k].A == b <;> cases xs[k].P == p <;> cases xs[k].B == b <;> cases xs[k].Q == p <;> rfl
  ·have he : k = xs.length := by omega
   subst he
   rw [lt_false]; simp
theorem impl_endsF_val (n : Nat) (xs : List Link) (b p : Int) (h : xs.length ≤ 1048600) (hn : xs.length < n) : impl_endsF n xs b p = some (xs.any (usedBy b p)) := by
 unfold impl_endsF
 rw [show impl_ends_L2 n n xs b p 0 = _ from impl_ends_L2_val n xs b p h n 0 (by omega) (by omega),List.drop_zero]
 cases xs.any (usedBy b p) <;> rfl
theorem spec_l13Used_L2_val (n : Nat) (x : Net) (b p : Int) (h : x.Links.length ≤ 1048600) : ∀ (m k c : Nat),k ≤ x.Links.length → x.Links.length < m + k → c ≤ 2 * k → spec_l13Used_L2 n m x b p k c = some (.inl ((c + sumN (cntE b p) (x.Links.drop k) : Nat) : Int))
 | 0,k,c,h1,h2,h3 => by omega
 | m + 1,k,c,h1,h2,h3 => by
  rw [spec_l13Used_L2]
  by_cases hk : k < x.Links.length
  ·have ih := fun c' h3' => spec_l13Used_L2_val n x b p h m (k + 1) c' (by omega) (by omega) h3'
   have hw : ∀ z : Nat,z ≤ 4194304 → IntKind.wrap .i64 ((z : Int) + 1) = ((z + 1 : Nat) : Int) := fun z hz => wrap_nat (by omega)
   rw [lt_true hk,cond_true,idx_nat hk,Option.bind_some,List.drop_eq_getElem_cons hk,sumN]
   simp only [spec_l13Used_J3,hw k (by omega),hw c (by omega)]
   have hw2 := hw (c + 1) (by omega)
   simp only [hw2]
   unfold cntE
   generalize (x.Links[k].A == b) = qA
   generalize (x.Links[k].P == p) = qP
   generalize (x.Links[k].B == b) = qB
   generalize (x.Links[k].Q == p) = qQ
   have z0 := ih c (by omega)
   have z1 := ih (c + 1) (by omega)
   have z2 := ih (c + 1 + 1) (by omega)
   unfold cntE at z0 z1 z2
   cases qA <;> cases qP <;> cases qB <;> cases qQ <;> simp only [cond_true,cond_false,Bool.and_true,Bool.and_false,Bool.true_and,Bool.false_and,Nat.zero_add,Nat.add_zero,z0,z1,z2] <;> simp only [Nat.add_assoc,Nat.reduceAdd]
  ·have he : k = x.Links.length := by omega
   subst he
   rw [lt_false]; simp [sumN]
theorem spec_l13UsedF_val (n : Nat) (x : Net) (b p : Int) (h : x.Links.length ≤ 1048600) (hn : x.Links.length < n) : spec_l13UsedF n x b p = some ((sumN (cntE b p) x.Links : Nat) : Int) := by
 unfold spec_l13UsedF
 rw [show spec_l13Used_L2 n n x b p 0 0 = _ from spec_l13Used_L2_val n x b p h n 0 0 (by omega) (by omega) (by omega),List.drop_zero,Nat.zero_add]
 rfl
theorem used_any {b p : Int} : ∀ {xs : List Link},(sumN (cntE b p) xs = 0 ↔ xs.any (usedBy b p) = false)
 | [] => by simp [sumN]
 | l :: xs => by
  have ih := used_any (b := b) (p := p) (xs := xs)
  have h := cntE_pos (b := b) (p := p) (l := l)
  rw [sumN,List.any_cons,Bool.or_eq_false_iff,← ih]
  cases hu : usedBy b p l with
  | true => have := h.1 hu; constructor <;> intro h' <;> first | omega | (exact absurd h'.1 (by simp))
  | false =>
   have : cntE b p l = 0 := by
    refine Classical.byContradiction fun hc => ?_
    have := h.2 (by omega)
    rw [hu] at this; cases this
   constructor
   ·intro h'; exact ⟨rfl,by omega⟩
   ·intro h'; omega
theorem check_loop {α : Type} {L : Nat → Int → Option (α ⊕ Bool)} {N : Nat} {P : Nat → Prop} (hs : ∀ m (k : Nat),k < N → (P k ∧ L (m + 1) (k : Int) = L m ((k + 1 : Nat) : Int)) ∨ (¬ P k ∧ L (m + 1) (k : Int) = some (.inr false))) (he : ∀ m,∃ a,L (m + 1) (N : Int) = some (.inl a)) :
  ∀ (m k : Nat),k ≤ N → N < m + k → (∃ a,L m (k : Int) = some (.inl a) ∧ ∀ j,k ≤ j → j < N → P j) ∨ (L m (k : Int) = some (.inr false) ∧ ¬ ∀ j,k ≤ j → j < N → P j)
 | 0,k,h1,h2 => by omega
 | m + 1,k,h1,h2 => by
  by_cases hk : k < N
  ·rcases hs m k hk with ⟨hp,e⟩ | ⟨hp,e⟩
   ·rcases check_loop hs he m (k + 1) (by omega) (by omega) with ⟨a,h3,h4⟩ | ⟨h3,h4⟩
    ·refine .inl ⟨a,e.trans h3,fun j hj hj2 => ?_⟩
     by_cases hjk : j = k
     ·subst hjk; exact hp
     ·exact h4 j (by omega) hj2
    ·exact .inr ⟨e.trans h3,fun h => h4 fun j hj hj2 => h j (by omega) hj2⟩
   ·exact .inr ⟨e,fun h => hp (h k (Nat.le_refl _) hk)⟩
  ·have : k = N := by omega
   subst this
   obtain ⟨a,ha⟩ := he m
   exact .inl ⟨a,ha,fun j hj hj2 => by omega⟩
def BOk (n : Nat) (x : Net) (k : Nat) : Prop := ∀ hk : k < x.Bridges.length,spec_BridgeOkF n x.Bridges[k] = some true ∧ (∀ j (hj : j < k),(x.Bridges[j]'(by omega)).Id ≠ x.Bridges[k].Id) ∧ ∀ p (hp : p < x.Bridges[k].Ports.length),x.Bridges[k].Ports[p].Has = true → x.Links.any (usedBy k p) = true
theorem bridge_wf {x : Net} (wx : x.wf) {k : Nat} (hk : k < x.Bridges.length) : x.Bridges[k].wf := wx.1.2 _ (List.getElem_mem hk)
theorem spec_l13Bridges_L2_step (n : Nat) (x : Net) (wx : x.wf) (h : x.sz ≤ 1048576) (hn : 1048700 < n) (m k : Nat) (hk : k < x.Bridges.length) : (BOk n x k ∧ spec_l13Bridges_L2 n (m + 1) x k = spec_l13Bridges_L2 n m x ((k + 1 : Nat) : Int)) ∨ (¬ BOk n x k ∧ spec_l13Bridges_L2 n (m + 1) x k = some (.inr false)) := by
 have hs : (x.Bridges.length + sumSz Bridge.sz x.Bridges) + x.Links.length + x.Said.length = x.sz := rfl
 have hps := ports_le h (List.getElem_mem hk)
 have hs2 : x.Bridges[k].Name.size + x.Bridges[k].Ports.length + x.Bridges[k].F.length + x.Bridges[k].V.sz = x.Bridges[k].sz := rfl
 obtain ⟨b,hb,_⟩ := spec_BridgeOkF_both n x.Bridges[k] (bridge_wf wx hk) (by omega) (by omega)
 rw [spec_l13Bridges_L2,lt_true hk,cond_true,idx_nat hk,Option.bind_some,hb,Option.bind_some]
 cases b with
 | false => exact .inr ⟨fun hc => absurd ((hc hk).1.symm.trans hb) (by simp),rfl⟩
 | true =>
  simp only [Bool.not_true,cond_false]
  have h6 := check_loop (L := fun m j => spec_l13Bridges_L6 n m x k j) (N := k) (P := fun j => ∀ hj : j < k,(x.Bridges[j]'(by omega)).Id ≠ x.Bridges[k].Id) (fun m j hj => by
   simp only [spec_l13Bridges_L6]
   rw [lt_true hj,cond_true,idx_nat (show j < x.Bridges.length by omega),Option.bind_some,idx_nat hk,Option.bind_some,wrap_nat (by omega : j ≤ 1099511627776)]
   by_cases he : (x.Bridges[j]'(by omega)).Id = x.Bridges[k].Id
   ·exact .inr ⟨fun hc => hc hj he,by rw [show ((x.Bridges[j]'(by omega)).Id == x.Bridges[k].Id) = true from by simpa using he]; rfl⟩
   ·exact .inl ⟨fun _ => he,by rw [show ((x.Bridges[j]'(by omega)).Id == x.Bridges[k].Id) = false from by simpa using he]; rfl⟩) (fun m => ⟨_,by simp only [spec_l13Bridges_L6]; rw [lt_false]; rfl⟩) n 0 (by omega) (by omega)
  rcases h6 with ⟨_,e6,p6⟩ | ⟨e6,p6⟩
  ·rw [show spec_l13Bridges_L6 n n x k 0 = _ from e6,Option.bind_some]
   simp only [spec_l13Bridges_J3]
   have h5 := check_loop (L := fun m j => spec_l13Bridges_L5 n m x k j) (N := x.Bridges[k].Ports.length) (P := fun j => ∀ hp : j < x.Bridges[k].Ports.length,x.Bridges[k].Ports[j].Has = true → x.Links.any (usedBy k j) = true) (fun m j hj => by
    simp only [spec_l13Bridges_L5]
    rw [idx_nat hk,Option.bind_some,lt_true hj,cond_true,Option.bind_some,idx_nat hj,Option.bind_some,wrap_nat (by omega : j ≤ 1099511627776)]
    cases hh : x.Bridges[k].Ports[j].Has with
    | false => exact .inl ⟨fun _ hc => absurd (hh.symm.trans hc) (by simp),rfl⟩
    | true =>
     rw [cond_true,spec_l13UsedF_val n x k j (by omega) (by omega),Option.bind_some]
     cases hu : x.Links.any (usedBy k j) with
     | false => exact .inr ⟨fun hc => absurd (hc hj hh) (by simp),by rw [used_any.2 hu]; rfl⟩
     | true =>
      have : sumN (cntE k j) x.Links ≠ 0 := fun e => by rw [used_any.1 e] at hu; cases hu
      exact .inl ⟨fun _ _ => rfl,by rw [show (((sumN (cntE k j) x.Links : Nat) : Int) == 0) = false from by simpa using this]; rfl⟩) (fun m => ⟨_,by simp only [spec_l13Bridges_L5]; rw [idx_nat hk,Option.bind_some,lt_false]; rfl⟩) n 0 (by omega) (by omega)
   rcases h5 with ⟨a,e5,p5⟩ | ⟨e5,p5⟩
   ·rw [show spec_l13Bridges_L5 n n x k 0 = _ from e5,Option.bind_some]
    refine .inl ⟨fun _ => ⟨hb,fun j hj => p6 j (by omega) hj hj,fun p hp => p5 p (by omega) hp hp⟩,?_⟩
    simp only [spec_l13Bridges_J4,wrap_nat (by omega : k ≤ 1099511627776)]
   ·rw [show spec_l13Bridges_L5 n n x k 0 = _ from e5,Option.bind_some]
    exact .inr ⟨fun hc => p5 fun j _ hj2 _ => (hc hk).2.2 j hj2,rfl⟩
  ·rw [show spec_l13Bridges_L6 n n x k 0 = _ from e6,Option.bind_some]
   exact .inr ⟨fun hc => p6 fun j _ hj2 _ => (hc hk).2.1 j hj2,rfl⟩
theorem impl_NetOk_L4_step (n : Nat) (x : Net) (wx : x.wf) (h : x.sz ≤ 1048576) (hn : 1048700 < n) (m k : Nat) (hk : k < x.Bridges.length) : (BOk n x k ∧ impl_NetOk_L4 n (m + 1) x k = impl_NetOk_L4 n m x ((k + 1 : Nat) : Int)) ∨ (¬ BOk n x k ∧ impl_NetOk_L4 n (m + 1) x k = some (.inr false)) := by
 have hs : (x.Bridges.length + sumSz Bridge.sz x.Bridges) + x.Links.length + x.Said.length = x.sz := rfl
 have hps := ports_le h (List.getElem_mem hk)
 have hs2 : x.Bridges[k].Name.size + x.Bridges[k].Ports.length + x.Bridges[k].F.length + x.Bridges[k].V.sz = x.Bridges[k].sz := rfl
 obtain ⟨b,hb,hb2⟩ := spec_BridgeOkF_both n x.Bridges[k] (bridge_wf wx hk) (by omega) (by omega)
 have hg : (decide ((0 : Int) ≤ 0) && (decide ((0 : Int) ≤ (k : Int)) && decide ((k : Int) ≤ (x.Bridges.length : Int)))) = true := by
  rw [decide_eq_true (by omega),decide_eq_true (by omega),decide_eq_true (by omega)]; rfl
 rw [impl_NetOk_L4,lt_true hk,cond_true,idx_nat hk,Option.bind_some,hb2,Option.bind_some]
 cases b with
 | false => exact .inr ⟨fun hc => absurd ((hc hk).1.symm.trans hb) (by simp),rfl⟩
 | true =>
  simp only [Bool.not_true,cond_false,hg,cond_true]
  have ht : (x.Bridges.drop ((0 : Int)).toNat).take (((k : Int)).toNat - ((0 : Int)).toNat) = x.Bridges.take k := by simp
  have hl : (x.Bridges.take k).length = k := by simp; omega
  have h8 := check_loop (L := fun m j => impl_NetOk_L8 n m x.Bridges[k] x k j) (N := k) (P := fun j => ∀ hj : j < k,(x.Bridges[j]'(by omega)).Id ≠ x.Bridges[k].Id) (fun m j hj => by
   simp only [impl_NetOk_L8,ht]
   rw [hl,lt_true hj,cond_true,idx_nat (show j < (x.Bridges.take k).length by omega),Option.bind_some,List.getElem_take,wrap_nat (by omega : j ≤ 1099511627776)]
   by_cases he : (x.Bridges[j]'(by omega)).Id = x.Bridges[k].Id
   ·exact .inr ⟨fun hc => hc hj he,by rw [show ((x.Bridges[j]'(by omega)).Id == x.Bridges[k].Id) = true from by simpa using he]; rfl⟩
   ·exact .inl ⟨fun _ => he,by rw [show ((x.Bridges[j]'(by omega)).Id == x.Bridges[k].Id) = false from by simpa using he]; rfl⟩) (fun m => ⟨_,by simp only [impl_NetOk_L8,ht]; rw [hl,lt_false]; rfl⟩) n 0 (by omega) (by omega)
  rcases h8 with ⟨a1,e8,p8⟩ | ⟨e8,p8⟩
  ·rw [show impl_NetOk_L8 n n x.Bridges[k] x k 0 = _ from e8,Option.bind_some]
   simp only [impl_NetOk_J5]
   have h7 := check_loop (L := fun m j => impl_NetOk_L7 n m x.Bridges[k] x k j) (N := x.Bridges[k].Ports.length) (P := fun j => ∀ hp : j < x.Bridges[k].Ports.length,x.Bridges[k].Ports[j].Has = true → x.Links.any (usedBy k j) = true) (fun m j hj => by
    simp only [impl_NetOk_L7]
    rw [lt_true hj,cond_true,idx_nat hj,Option.bind_some,wrap_nat (by omega : j ≤ 1099511627776)]
    cases hh : x.Bridges[k].Ports[j].Has with
    | false => exact .inl ⟨fun _ hc => absurd (hh.symm.trans hc) (by simp),rfl⟩
    | true =>
     rw [cond_true,impl_endsF_val n x.Links k j (by omega) (by omega),Option.bind_some]
     cases hu : x.Links.any (usedBy k j) with
     | false => exact .inr ⟨fun hc => absurd (hc hj hh) (by simp),rfl⟩
     | true => exact .inl ⟨fun _ _ => rfl,rfl⟩) (fun m => ⟨_,by simp only [impl_NetOk_L7]; rw [lt_false]; rfl⟩) n 0 (by omega) (by omega)
   rcases h7 with ⟨a,e7,p7⟩ | ⟨e7,p7⟩
   ·rw [show impl_NetOk_L7 n n x.Bridges[k] x k 0 = _ from e7,Option.bind_some]
    refine .inl ⟨fun _ => ⟨hb,fun j hj => p8 j (by omega) hj hj,fun p hp => p7 p (by omega) hp hp⟩,?_⟩
    simp only [impl_NetOk_J6,wrap_nat (by omega : k ≤ 1099511627776)]
   ·rw [show impl_NetOk_L7 n n x.Bridges[k] x k 0 = _ from e7,Option.bind_some]
    exact .inr ⟨fun hc => p7 fun j _ hj2 _ => (hc hk).2.2 j hj2,rfl⟩
  ·rw [show impl_NetOk_L8 n n x.Bridges[k] x k 0 = _ from e8,Option.bind_some]
   exact .inr ⟨fun hc => p8 fun j _ hj2 _ => (hc hk).2.1 j hj2,rfl⟩
theorem spec_l13BridgesF_iff (n : Nat) (x : Net) (wx : x.wf) (h : x.sz ≤ 1048576) (hn : 1048700 < n) : ∃ b,spec_l13BridgesF n x = some b ∧ (b = true ↔ (∀ k,k < x.Bridges.length → BOk n x k) ∧ 1 ≤ x.Bridges.length ∧ x.Bridges.length ≤ 6) := by
 have hs : (x.Bridges.length + sumSz Bridge.sz x.Bridges) + x.Links.length + x.Said.length = x.sz := rfl
 unfold spec_l13BridgesF
 rcases check_loop (L := fun m k => spec_l13Bridges_L2 n m x k) (N := x.Bridges.length) (P := BOk n x) (fun m k hk => spec_l13Bridges_L2_step n x wx h hn m k hk) (fun m => ⟨(),by simp only [spec_l13Bridges_L2]; rw [lt_false]; rfl⟩) n 0 (by omega) (by omega) with ⟨a,e,p⟩ | ⟨e,p⟩
 ·rw [show spec_l13Bridges_L2 n n x 0 = _ from e,Option.bind_some]
  simp only [spec_l13Bridges_J1,spec_l1InF_val,Option.bind_some]
  refine ⟨_,rfl,?_⟩
  rw [Bool.and_eq_true,decide_eq_true_eq,decide_eq_true_eq]
  exact ⟨fun hc => ⟨fun k hk => p k (by omega) hk,by omega,by omega⟩,fun hc => ⟨by omega,by omega⟩⟩
 ·rw [show spec_l13Bridges_L2 n n x 0 = _ from e,Option.bind_some]
  exact ⟨false,rfl,⟨fun hc => (by cases hc),fun hc => absurd (fun k _ hk => hc.1 k hk) p⟩⟩
def portOf (x : Net) (b p : Int) : Option Pt := (idx x.Bridges b).bind fun v => idx v.Ports p
theorem idx_some_iff {α : Type} {xs : List α} {i : Int} : (∃ v,idx xs i = some v) ↔ 0 ≤ i ∧ i < xs.length := by
 constructor
 ·rintro ⟨v,hv⟩; exact idx_lt hv
 ·intro h
  obtain ⟨j,rfl⟩ := Int.eq_ofNat_of_zero_le h.1
  exact ⟨_,idx_nat (by omega)⟩
theorem idx_none_of {α : Type} {xs : List α} {i : Int} (h : ¬ (0 ≤ i ∧ i < xs.length)) : idx xs i = none := by
 cases hc : idx xs i with
 | none => rfl
 | some v => exact absurd (idx_lt hc) h
theorem impl_portAtF_val (n : Nat) (x : Net) (h : x.sz ≤ 1048576) (b p : Int) : impl_portAtF n x b p = some (match portOf x b p with | some q => (q,true) | none => (⟨false,0,false,⟨0,0,0,0,0⟩⟩,false)) := by
 have hs : (x.Bridges.length + sumSz Bridge.sz x.Bridges) + x.Links.length + x.Said.length = x.sz := rfl
 unfold impl_portAtF portOf
 rw [impl_inF_eq,in_range_dec n b _ (show x.Bridges.length ≤ 1048600 by omega),Option.bind_some]
 by_cases hb : 0 ≤ b ∧ b < x.Bridges.length
 ·obtain ⟨v,hv⟩ := idx_some_iff.2 hb
  have := ports_le h (List.mem_of_getElem? (idx_get hv).2)
  have hs2 : v.Name.size + v.Ports.length + v.F.length + v.V.sz = v.sz := rfl
  rw [decide_eq_true hb,hv]
  simp only [Bool.not_true,cond_false,cond_true,Option.bind_some,in_range_dec n p _ (show v.Ports.length ≤ 1048600 by omega)]
  by_cases hp : 0 ≤ p ∧ p < v.Ports.length
  ·obtain ⟨q,hq⟩ := idx_some_iff.2 hp
   simp [hp,hq,hv]
  ·simp [hp,idx_none_of hp]
 ·simp [hb,idx_none_of hb]
def LOk (x : Net) (l : Link) : Prop := l.A ≠ l.B ∧ ∃ p q,portOf x l.A l.P = some p ∧ portOf x l.B l.Q = some q ∧ p.Up = q.Up
theorem portOf_some {x : Net} {b p : Int} {q : Pt} (h : portOf x b p = some q) : ∃ v,idx x.Bridges b = some v ∧ idx v.Ports p = some q := by
 unfold portOf at h
 exact bind_some h
theorem spec_l13EndF_val (n : Nat) (x : Net) (h : x.sz ≤ 1048576) (hn : 1048700 < n) (b p : Int) : spec_l13EndF n x b p = some (match portOf x b p with | some q => decide (sumN (cntE b p) x.Links = 1) | none => false) := by
 have hs : (x.Bridges.length + sumSz Bridge.sz x.Bridges) + x.Links.length + x.Said.length = x.sz := rfl
 unfold spec_l13EndF portOf
 rw [in_range_dec n b _ (show x.Bridges.length ≤ 1048600 by omega),Option.bind_some]
 by_cases hb : 0 ≤ b ∧ b < x.Bridges.length
 ·obtain ⟨v,hv⟩ := idx_some_iff.2 hb
  have := ports_le h (List.mem_of_getElem? (idx_get hv).2)
  have hs2 : v.Name.size + v.Ports.length + v.F.length + v.V.sz = v.sz := rfl
  rw [decide_eq_true hb,hv]
  simp only [cond_true,Option.bind_some,in_range_dec n p _ (show v.Ports.length ≤ 1048600 by omega)]
  by_cases hp : 0 ≤ p ∧ p < v.Ports.length
  ·obtain ⟨q,hq⟩ := idx_some_iff.2 hp
   rw [decide_eq_true hp,hq,cond_true,spec_l13UsedF_val n x b p (by omega) (by omega),Option.bind_some]
   by_cases h1 : sumN (cntE b p) x.Links = 1
   ·simp [h1]
   ·have : ((sumN (cntE b p) x.Links : Nat) : Int) ≠ 1 := by omega
    simp [h1,this]
  ·simp [hp,idx_none_of hp]
 ·simp [hb,idx_none_of hb]
theorem spec_NetOk_L4_step (n : Nat) (x : Net) (h : x.sz ≤ 1048576) (hn : 1048700 < n) (m k : Nat) (hk : k < x.Links.length) :
  ((∀ hk : k < x.Links.length,LOk x x.Links[k] ∧ sumN (cntE x.Links[k].A x.Links[k].P) x.Links = 1 ∧ sumN (cntE x.Links[k].B x.Links[k].Q) x.Links = 1) ∧ spec_NetOk_L4 n (m + 1) x k = spec_NetOk_L4 n m x ((k + 1 : Nat) : Int)) ∨
  (¬ (∀ hk : k < x.Links.length,LOk x x.Links[k] ∧ sumN (cntE x.Links[k].A x.Links[k].P) x.Links = 1 ∧ sumN (cntE x.Links[k].B x.Links[k].Q) x.Links = 1) ∧ spec_NetOk_L4 n (m + 1) x k = some (.inr false)) := by
 have hs : (x.Bridges.length + sumSz Bridge.sz x.Bridges) + x.Links.length + x.Said.length = x.sz := rfl
 rw [spec_NetOk_L4,lt_true hk,cond_true,idx_nat hk,Option.bind_some,spec_l13EndF_val n x h hn,spec_l13EndF_val n x h hn,wrap_nat (by omega : k ≤ 1099511627776)]
 by_cases hab : x.Links[k].A = x.Links[k].B
 ·exact .inr ⟨fun hc => (hc hk).1.1 (hab),by rw [show (x.Links[k].A == x.Links[k].B) = true from by simpa using hab]; rfl⟩
 ·rw [show (x.Links[k].A == x.Links[k].B) = false from by simpa using hab]
  simp only [cond_false,Option.bind_some]
  cases hp : portOf x x.Links[k].A x.Links[k].P with
  | none => exact .inr ⟨fun hc => (by obtain ⟨p,q,e,_⟩ := (hc hk).1.2; rw [hp] at e; cases e),rfl⟩
  | some p =>
   by_cases h1 : sumN (cntE x.Links[k].A x.Links[k].P) x.Links = 1
   ·simp only [decide_eq_true h1,Bool.not_true,cond_false]
    cases hq : portOf x x.Links[k].B x.Links[k].Q with
    | none => exact .inr ⟨fun hc => (by obtain ⟨p,q,_,e,_⟩ := (hc hk).1.2; rw [hq] at e; cases e),rfl⟩
    | some q =>
     by_cases h2 : sumN (cntE x.Links[k].B x.Links[k].Q) x.Links = 1
     ·obtain ⟨v,v1,v2⟩ := portOf_some hp
      obtain ⟨u,u1,u2⟩ := portOf_some hq
      simp only [decide_eq_true h2,Bool.not_true,cond_false,v1,v2,u1,u2,Option.bind_some]
      by_cases h3 : p.Up = q.Up
      ·exact .inl ⟨fun _ => ⟨⟨hab,p,q,hp,hq,h3⟩,h1,h2⟩,by rw [h3]; simp⟩
      ·refine .inr ⟨fun hc => ?_,by rw [show (p.Up == q.Up) = false from by simpa using h3]; rfl⟩
       obtain ⟨p',q',e1,e2,e3⟩ := (hc hk).1.2
       rw [hp] at e1; rw [hq] at e2
       cases e1; cases e2; exact h3 e3
     ·exact .inr ⟨fun hc => h2 (hc hk).2.2,by simp only [decide_eq_false h2]; rfl⟩
   ·exact .inr ⟨fun hc => h1 (hc hk).2.1,by simp only [decide_eq_false h1]; rfl⟩
theorem impl_linksOk_L2_step (n : Nat) (x : Net) (h : x.sz ≤ 1048576) (hn : 1048700 < n) (m k : Nat) (hk : k < x.Links.length) :
  ((∀ hk : k < x.Links.length,k < 9 ∧ LOk x x.Links[k] ∧ (x.Links.take k).any (usedBy x.Links[k].A x.Links[k].P) = false ∧ (x.Links.take k).any (usedBy x.Links[k].B x.Links[k].Q) = false) ∧ impl_linksOk_L2 n (m + 1) x k = impl_linksOk_L2 n m x ((k + 1 : Nat) : Int)) ∨
  (¬ (∀ hk : k < x.Links.length,k < 9 ∧ LOk x x.Links[k] ∧ (x.Links.take k).any (usedBy x.Links[k].A x.Links[k].P) = false ∧ (x.Links.take k).any (usedBy x.Links[k].B x.Links[k].Q) = false) ∧ impl_linksOk_L2 n (m + 1) x k = some (.inr false)) := by
 have hs : (x.Bridges.length + sumSz Bridge.sz x.Bridges) + x.Links.length + x.Said.length = x.sz := rfl
 have hg : (decide ((0 : Int) ≤ 0) && (decide ((0 : Int) ≤ (k : Int)) && decide ((k : Int) ≤ (x.Links.length : Int)))) = true := by
  rw [decide_eq_true (by omega),decide_eq_true (by omega),decide_eq_true (by omega)]; rfl
 have ht : (x.Links.drop ((0 : Int)).toNat).take (((k : Int)).toNat - ((0 : Int)).toNat) = x.Links.take k := by simp
 have hlen : (x.Links.take k).length ≤ 1048600 := by simp; omega
 rw [impl_linksOk_L2,lt_true hk,cond_true,idx_nat hk,Option.bind_some,impl_portAtF_val n x h,Option.bind_some,impl_portAtF_val n x h,Option.bind_some]
 simp only [hg,cond_true,ht,impl_endsF_val n (x.Links.take k) _ _ hlen (by omega),Option.bind_some,wrap_nat (by omega : k ≤ 1099511627776)]
 by_cases h9 : k < 9
 ·rw [decide_eq_false (show ¬ ((k : Nat) : Int) ≥ 9 by omega),cond_false]
  cases hp : portOf x x.Links[k].A x.Links[k].P with
  | none => exact .inr ⟨fun hc => (by obtain ⟨p,q,e,_⟩ := (hc hk).2.1.2; rw [hp] at e; cases e),rfl⟩
  | some p =>
   cases hq : portOf x x.Links[k].B x.Links[k].Q with
   | none => exact .inr ⟨fun hc => (by obtain ⟨p,q,_,e,_⟩ := (hc hk).2.1.2; rw [hq] at e; cases e),rfl⟩
   | some q =>
    simp only [Bool.not_true,cond_false]
    by_cases hab : x.Links[k].A = x.Links[k].B
    ·exact .inr ⟨fun hc => (hc hk).2.1.1 (hab),by rw [show (x.Links[k].A == x.Links[k].B) = true from by simpa using hab]; rfl⟩
    ·rw [show (x.Links[k].A == x.Links[k].B) = false from by simpa using hab,cond_false]
     by_cases h3 : p.Up = q.Up
     ·rw [show (!(p.Up == q.Up)) = false from by simp [h3],cond_false]
      cases h1 : (x.Links.take k).any (usedBy x.Links[k].A x.Links[k].P) with
      | true => exact .inr ⟨fun hc => (by have := (hc hk).2.2.1; rw [h1] at this; cases this),rfl⟩
      | false =>
       cases h2 : (x.Links.take k).any (usedBy x.Links[k].B x.Links[k].Q) with
       | true => exact .inr ⟨fun hc => (by have := (hc hk).2.2.2; rw [h2] at this; cases this),rfl⟩
       | false => exact .inl ⟨fun _ => ⟨h9,⟨hab,p,q,hp,hq,h3⟩,h1,h2⟩,rfl⟩
     ·refine .inr ⟨fun hc => ?_,by rw [show (p.Up == q.Up) = false from by simpa using h3]; rfl⟩
      obtain ⟨p',q',e1,e2,e3⟩ := (hc hk).2.1.2
      rw [hp] at e1; rw [hq] at e2
      cases e1; cases e2; exact h3 e3
 ·exact .inr ⟨fun hc => h9 (hc hk).1,by rw [decide_eq_true (show ((k : Nat) : Int) ≥ 9 by omega)]; rfl⟩
theorem spec_NetOkF_both (n : Nat) (x : Net) (wx : x.wf) (h : x.sz ≤ 1048576) (hn : 1048700 < n) : ∃ b,spec_NetOkF n x = some b ∧ impl_NetOkF n x = some b ∧ (b = true → (∀ k,k < x.Bridges.length → BOk n x k) ∧ (1 ≤ x.Bridges.length ∧ x.Bridges.length ≤ 6) ∧ x.Links.length ≤ 9 ∧ x.Said.length ≤ 40 ∧ ∀ k (hk : k < x.Links.length),LOk x x.Links[k] ∧ sumN (cntE x.Links[k].A x.Links[k].P) x.Links = 1 ∧ sumN (cntE x.Links[k].B x.Links[k].Q) x.Links = 1) := by
 have hs : (x.Bridges.length + sumSz Bridge.sz x.Bridges) + x.Links.length + x.Said.length = x.sz := rfl
 obtain ⟨bB,eB,iB⟩ := spec_l13BridgesF_iff n x wx h hn
 have hsaid : ∃ bS : Bool,(∃ o,spec_NetOk_L3 n n x 0 = some o ∧ impl_NetOk_L3 n n x 0 = some o ∧ (o = .inl () ∧ bS = true ∨ o = .inr false ∧ bS = false)) := by
  have step : ∀ m (k : Nat),k < x.Said.length → ∃ b : Bool,spec_NetOk_L3 n (m + 1) x k = (bif b then spec_NetOk_L3 n m x ((k + 1 : Nat) : Int) else some (.inr false)) ∧ impl_NetOk_L3 n (m + 1) x k = (bif b then impl_NetOk_L3 n m x ((k + 1 : Nat) : Int) else some (.inr false)) := fun m k hk => by
   obtain ⟨c,hc⟩ := spec_VecOkF_tot n x.Said[k].V
   rw [spec_NetOk_L3,impl_NetOk_L3,lt_true hk,idx_nat hk]
   simp only [cond_true,Option.bind_some,impl_inF_eq,in_range_dec n _ _ (show x.Links.length ≤ 1048600 by omega),impl_VecOkF_eq,hc,wrap_nat (by omega : k ≤ 1099511627776)]
   by_cases hr : 0 ≤ x.Said[k].Link ∧ x.Said[k].Link < x.Links.length
   ·rw [decide_eq_true hr]
    cases c with
    | false => exact ⟨false,rfl,rfl⟩
    | true => exact ⟨true,rfl,rfl⟩
   ·rw [decide_eq_false hr]; exact ⟨false,rfl,rfl⟩
  have all : ∀ (m k : Nat),k ≤ x.Said.length → x.Said.length < m + k → ∃ o,spec_NetOk_L3 n m x k = some o ∧ impl_NetOk_L3 n m x k = some o ∧ (o = .inl () ∨ o = .inr false) := by
   intro m
   induction m with
   | zero => intro k h1 h2; omega
   | succ m ih =>
    intro k h1 h2
    by_cases hk : k < x.Said.length
    ·obtain ⟨b,e1,e2⟩ := step m k hk
     rw [e1,e2]
     cases b with
     | true => exact ih (k + 1) (by omega) (by omega)
     | false => exact ⟨_,rfl,rfl,.inr rfl⟩
    ·have he : k = x.Said.length := by omega
     subst he
     rw [spec_NetOk_L3,impl_NetOk_L3,lt_false]
     exact ⟨_,rfl,rfl,.inl rfl⟩
  obtain ⟨o,e1,e2,e3⟩ := all n 0 (by omega) (by omega)
  rcases e3 with e3 | e3
  ·exact ⟨true,o,e1,e2,.inl ⟨e3,rfl⟩⟩
  ·exact ⟨false,o,e1,e2,.inr ⟨e3,rfl⟩⟩
 obtain ⟨bS,oS,s1,s2,s3⟩ := hsaid
 have s1' : spec_NetOk_L3 n n x 0 = some oS := s1
 have s2' : impl_NetOk_L3 n n x 0 = some oS := s2
 have l4 := check_loop (L := fun m k => spec_NetOk_L4 n m x k) (N := x.Links.length) (P := fun k => ∀ hk : k < x.Links.length,LOk x x.Links[k] ∧ sumN (cntE x.Links[k].A x.Links[k].P) x.Links = 1 ∧ sumN (cntE x.Links[k].B x.Links[k].Q) x.Links = 1) (fun m k hk => spec_NetOk_L4_step n x h hn m k hk) (fun m => ⟨(),by simp only [spec_NetOk_L4]; rw [lt_false]; rfl⟩) n 0 (by omega) (by omega)
 have l2 := check_loop (L := fun m k => impl_linksOk_L2 n m x k) (N := x.Links.length) (P := fun k => ∀ hk : k < x.Links.length,k < 9 ∧ LOk x x.Links[k] ∧ (x.Links.take k).any (usedBy x.Links[k].A x.Links[k].P) = false ∧ (x.Links.take k).any (usedBy x.Links[k].B x.Links[k].Q) = false) (fun m k hk => impl_linksOk_L2_step n x h hn m k hk) (fun m => ⟨(),by simp only [impl_linksOk_L2]; rw [lt_false]; rfl⟩) n 0 (by omega) (by omega)
 have lB := check_loop (L := fun m k => impl_NetOk_L4 n m x k) (N := x.Bridges.length) (P := BOk n x) (fun m k hk => impl_NetOk_L4_step n x wx h hn m k hk) (fun m => ⟨(),by simp only [impl_NetOk_L4]; rw [lt_false]; rfl⟩) n 0 (by omega) (by omega)
 have hiff : (x.Links.length ≤ 9 ∧ ∀ j,0 ≤ j → j < x.Links.length → ∀ hk : j < x.Links.length,LOk x x.Links[j] ∧ sumN (cntE x.Links[j].A x.Links[j].P) x.Links = 1 ∧ sumN (cntE x.Links[j].B x.Links[j].Q) x.Links = 1) ↔
   (∀ j,0 ≤ j → j < x.Links.length → ∀ hk : j < x.Links.length,j < 9 ∧ LOk x x.Links[j] ∧ (x.Links.take j).any (usedBy x.Links[j].A x.Links[j].P) = false ∧ (x.Links.take j).any (usedBy x.Links[j].B x.Links[j].Q) = false) := by
  constructor
  ·rintro ⟨h9,hc⟩ j _ hj hj'
   have hne : ∀ l ∈ x.Links,l.A ≠ l.B := fun l hl => by
    obtain ⟨i,hi,rfl⟩ := List.getElem_of_mem hl
    exact (hc i (by omega) hi hi).1.1
   exact ⟨by omega,(hc j (by omega) hj hj).1,(ends_apart x.Links hne).1 (fun k hk => (hc k (by omega) hk hk).2) j hj⟩
  ·intro hc
   have hne : ∀ l ∈ x.Links,l.A ≠ l.B := fun l hl => by
    obtain ⟨i,hi,rfl⟩ := List.getElem_of_mem hl
    exact (hc i (by omega) hi hi).2.1.1
   refine ⟨?_,fun j _ hj _ => ⟨(hc j (by omega) hj hj).2.1,(ends_apart x.Links hne).2 (fun k hk => (hc k (by omega) hk hk).2.2) j hj⟩⟩
   by_cases h0 : x.Links.length = 0
   ·omega
   ·have := (hc (x.Links.length - 1) (by omega) (by omega) (by omega)).1
    omega
 have hS : ∀ (bb : Bool),(bif decide ((x.Said.length : Int) > 40) then (some false : Option Bool) else some bb) = some (decide (x.Said.length ≤ 40) && bb) := fun bb => by
  by_cases h40 : x.Said.length ≤ 40
  ·rw [decide_eq_false (by omega),decide_eq_true h40]; cases bb <;> rfl
  ·rw [decide_eq_true (by omega),decide_eq_false h40]; rfl
 have hn6 : (decide ((1 : Int) ≤ (x.Bridges.length : Int)) && decide ((x.Bridges.length : Int) ≤ 6)) = decide (1 ≤ x.Bridges.length ∧ x.Bridges.length ≤ 6) := by
  by_cases h6 : 1 ≤ x.Bridges.length ∧ x.Bridges.length ≤ 6
  ·rw [decide_eq_true h6,decide_eq_true (by omega),decide_eq_true (by omega)]; rfl
  ·rw [decide_eq_false h6]; simp only [Bool.and_eq_false_iff,decide_eq_false_iff_not]; omega
 have hL : ∀ (b' : Bool),(bif decide ((x.Links.length : Int) > 9) then (some false : Option Bool) else some b') = some (decide (x.Links.length ≤ 9) && b') := fun b' => by
  by_cases h9 : x.Links.length ≤ 9
  ·rw [decide_eq_false (by omega),decide_eq_true h9]; cases b' <;> rfl
  ·rw [decide_eq_true (by omega),decide_eq_false h9]; rfl
 have hN : ∀ (c b' : Bool),(bif !c then (some false : Option Bool) else some b') = some (c && b') := fun c b' => by cases c <;> rfl
 have hJ1 : spec_NetOk_J1 n x = some bS := by
  unfold spec_NetOk_J1
  rw [s1']
  rcases s3 with ⟨rfl,rfl⟩ | ⟨rfl,rfl⟩ <;> rfl
 have hspec : ∃ b4 : Bool,spec_NetOkF n x = some (bB && (decide (x.Links.length ≤ 9) && (decide (x.Said.length ≤ 40) && (b4 && bS)))) ∧ (b4 = true ↔ ∀ j,0 ≤ j → j < x.Links.length → ∀ hk : j < x.Links.length,LOk x x.Links[j] ∧ sumN (cntE x.Links[j].A x.Links[j].P) x.Links = 1 ∧ sumN (cntE x.Links[j].B x.Links[j].Q) x.Links = 1) := by
  unfold spec_NetOkF
  rw [eB,Option.bind_some]
  rcases l4 with ⟨a,e,p⟩ | ⟨e,p⟩
  ·rw [show spec_NetOk_L4 n n x 0 = _ from e]
   refine ⟨true,?_,⟨fun _ => p,fun _ => rfl⟩⟩
   simp only [Option.bind_some,hJ1,hS,hL,hN,Bool.true_and]
  ·rw [show spec_NetOk_L4 n n x 0 = _ from e]
   refine ⟨false,?_,⟨fun hc => (by cases hc),fun hc => absurd hc p⟩⟩
   simp only [Option.bind_some,hS,hL,hN,Bool.false_and]
 have hlk : ∃ b2 : Bool,impl_linksOkF n x = some b2 ∧ (b2 = true ↔ (∀ j,0 ≤ j → j < x.Links.length → ∀ hk : j < x.Links.length,j < 9 ∧ LOk x x.Links[j] ∧ (x.Links.take j).any (usedBy x.Links[j].A x.Links[j].P) = false ∧ (x.Links.take j).any (usedBy x.Links[j].B x.Links[j].Q) = false)) := by
  unfold impl_linksOkF
  rcases l2 with ⟨a,e,p⟩ | ⟨e,p⟩
  ·rw [show impl_linksOk_L2 n n x 0 = _ from e]; exact ⟨true,rfl,⟨fun _ => p,fun _ => rfl⟩⟩
  ·rw [show impl_linksOk_L2 n n x 0 = _ from e]; exact ⟨false,rfl,⟨fun hc => (by cases hc),fun hc => absurd hc p⟩⟩
 obtain ⟨b2,e2,i2⟩ := hlk
 have hJ2 : impl_NetOk_J1 n x = some (bS && b2) := by
  unfold impl_NetOk_J1
  rw [s2']
  rcases s3 with ⟨rfl,rfl⟩ | ⟨rfl,rfl⟩
  ·simp only [Option.bind_some,impl_NetOk_J2,e2,Bool.true_and]
  ·rfl
 have himpl : ∃ bb : Bool,impl_NetOkF n x = some (decide (1 ≤ x.Bridges.length ∧ x.Bridges.length ≤ 6) && (decide (x.Said.length ≤ 40) && (bb && (bS && b2)))) ∧ (bb = true ↔ ∀ j,0 ≤ j → j < x.Bridges.length → BOk n x j) := by
  unfold impl_NetOkF
  rw [impl_inF_eq,spec_l1InF_val,Option.bind_some,hn6]
  rcases lB with ⟨a,e,p⟩ | ⟨e,p⟩
  ·rw [show impl_NetOk_L4 n n x 0 = _ from e]
   refine ⟨true,?_,⟨fun _ => p,fun _ => rfl⟩⟩
   simp only [Option.bind_some,hJ2,hS,hN,Bool.true_and]
  ·rw [show impl_NetOk_L4 n n x 0 = _ from e]
   refine ⟨false,?_,⟨fun hc => (by cases hc),fun hc => absurd hc p⟩⟩
   simp only [Option.bind_some,hS,hN,Bool.false_and]
 obtain ⟨b4,e4,i4⟩ := hspec
 obtain ⟨bb,eb,ib⟩ := himpl
 have heq : (bB && (decide (x.Links.length ≤ 9) && (decide (x.Said.length ≤ 40) && (b4 && bS)))) = (decide (1 ≤ x.Bridges.length ∧ x.Bridges.length ≤ 6) && (decide (x.Said.length ≤ 40) && (bb && (bS && b2)))) := by
  rw [Bool.eq_iff_iff]
  simp only [Bool.and_eq_true,decide_eq_true_eq,iB,i4,ib,i2]
  constructor
  ·rintro ⟨⟨h1,h2⟩,h3,h4,h5,h6⟩
   exact ⟨h2,h4,fun j _ hj => h1 j hj,h6,hiff.1 ⟨h3,h5⟩⟩
  ·rintro ⟨h2,h4,h1,h6,h7⟩
   obtain ⟨h3,h5⟩ := hiff.2 h7
   exact ⟨⟨fun k hk => h1 k (by omega) hk,h2⟩,h3,h4,h5,h6⟩
 refine ⟨_,e4,by rw [heq]; exact eb,fun hc => ?_⟩
 simp only [Bool.and_eq_true,decide_eq_true_eq,iB,i4] at hc
 obtain ⟨⟨h1,h2⟩,h3,h4,h5,h6⟩ := hc
 exact ⟨h1,h2,h3,h4,fun k hk => h5 k (by omega) hk hk⟩
theorem markH_loop {α β γ : Type} {L : Nat → Int → List α → Int → Option ((List α × Int) ⊕ β)} {H : Nat → List α → Int → Int → Option (Int ⊕ γ)} (w : α → Nat) (good : α → Prop)
  (h : ∀ (k : Nat) (ys : List α) (b : Int) (v : α),k < ys.length → ys.length ≤ 268435456 → ys[k]? = some v → good v → 0 < b → b ≤ 274877906944 → ∃ v' c,b ≤ c ∧ c ≤ b + 16 * w v ∧ (∀ m,L (m + 1) k ys b = L m ((k + 1 : Nat) : Int) (ys.set k v') c) ∧ ∀ m (ys' : List α),ys'.length ≤ 268435456 → k < ys'.length → ys'[k]? = some v' → H (m + 1) ys' k b = H m ys' ((k + 1 : Nat) : Int) c)
  (hend : ∀ m (ys : List α) b,L (m + 1) (ys.length : Int) ys b = some (.inl (ys,b))) (hendH : ∀ m (ys : List α) b,H (m + 1) ys (ys.length : Int) b = some (.inl b)) : ∀ (post pre : List α) (b : Int),(pre ++ post).length ≤ 268435456 → (∀ v ∈ post,good v) → 0 < b → b + 16 * sumSz w post ≤ 274877906944 →
   ∃ (zs : List α) (c : Int),zs.length = post.length ∧ b ≤ c ∧ c ≤ b + 16 * sumSz w post ∧ (∀ m,post.length < m → L m (pre.length : Int) (pre ++ post) b = some (.inl (pre ++ zs,c))) ∧ ∀ m,post.length < m → H m (pre ++ zs) (pre.length : Int) b = some (.inl c)
 | [],pre,b,h1,h2,h3,h4 => by
  refine ⟨[],b,rfl,by omega,by simp only [sumSz]; omega,fun m hm => ?_,fun m hm => ?_⟩
  ·obtain ⟨m,rfl⟩ : ∃ m',m = m' + 1 := ⟨m - 1,by have : 0 < m := hm; omega⟩
   rw [List.append_nil,hend m pre b]
  ·obtain ⟨m,rfl⟩ : ∃ m',m = m' + 1 := ⟨m - 1,by have : 0 < m := hm; omega⟩
   rw [List.append_nil,hendH m pre b]
 | v :: post,pre,b,h1,h2,h3,h4 => by
  simp only [sumSz] at h4
  obtain ⟨v',c,k1,k2,k3,k4⟩ := h pre.length (pre ++ v :: post) b v (by simp) h1 (by simp) (h2 v (by simp)) h3 (by omega)
  obtain ⟨zs,c',e0,e1,e2,e3,e4⟩ := markH_loop w good h hend hendH post (pre ++ [v']) c (by simpa using h1) (fun u hu => h2 u (by simp [hu])) (by omega) (by omega)
  refine ⟨v' :: zs,c',by simp [e0],by omega,by simp only [sumSz]; omega,fun m hm => ?_,fun m hm => ?_⟩
  ·obtain ⟨m,rfl⟩ : ∃ m',m = m' + 1 := ⟨m - 1,by simp only [List.length_cons] at hm; omega⟩
   rw [k3 m,set_append_len]
   have := e3 m (by simp only [List.length_cons] at hm; omega)
   simpa using this
  ·obtain ⟨m,rfl⟩ : ∃ m',m = m' + 1 := ⟨m - 1,by simp only [List.length_cons] at hm; omega⟩
   have hlen : (pre ++ v' :: zs).length ≤ 268435456 := by simp only [List.length_append,List.length_cons,e0] at h1 ⊢; omega
   rw [k4 m (pre ++ v' :: zs) hlen (by simp) (by simp)]
   have := e4 m (by simp only [List.length_cons] at hm; omega)
   simpa using this
theorem laws_heldLinkSF_ok (n : Nat) (xs : List Link) (b : Int) (h : xs.length ≤ 268435456) (hn : xs.length < n) (h0 : 0 ≤ b) (h1 : b + (4 : Nat) * xs.length ≤ 1099511627776) : laws_heldLinkSF n (markL (fun _ b => (⟨b,b + 1,b + 2,b + 3⟩ : Link)) 4 xs b) b = some (b + (4 : Nat) * xs.length) := by
 have := held_loop (L := laws_heldLinkS_L2 n) (f := fun _ b => (⟨b,b + 1,b + 2,b + 3⟩ : Link)) (c := 4) (fun m k ys b v hk hl hv h0 h1 => by
  rw [laws_heldLinkS_L2,lt_true hk,idx_at hv]
  simp (disch := omega) only [cond_true,Option.bind_some,wrap64,wrap_nat,Int.add_assoc,Int.reduceAdd,bne_self_eq_false,cond_false,show ((4 : Nat) : Int) = 4 from rfl]
  rfl)
  (fun m ys b => by rw [laws_heldLinkS_L2,lt_false]; rfl) xs n [] b (by simpa using h) h0 h1 hn
 unfold laws_heldLinkSF
 simp only [List.length_nil,List.nil_append] at this
 rw [show laws_heldLinkS_L2 n n (markL _ 4 xs b) 0 b = _ from this]
 rfl
theorem laws_heldSaySF_ok (n : Nat) (xs : List Say) (b : Int) (h : xs.length ≤ 268435456) (hn : xs.length < n) (h0 : 0 ≤ b) (h1 : b + (7 : Nat) * xs.length ≤ 1099511627776) : laws_heldSaySF n (markL (fun _ b => (⟨b,Int.tmod (b + 1) 3 == 0,⟨b + 2,b + 3,b + 4,b + 5,b + 6⟩⟩ : Say)) 7 xs b) b = some (b + (7 : Nat) * xs.length) := by
 have := held_loop (L := laws_heldSayS_L2 n) (f := fun _ b => (⟨b,Int.tmod (b + 1) 3 == 0,⟨b + 2,b + 3,b + 4,b + 5,b + 6⟩⟩ : Say)) (c := 7) (fun m k ys b v hk hl hv h0 h1 => by
  rw [laws_heldSayS_L2,lt_true hk,idx_at hv]
  simp (disch := omega) only [cond_true,Option.bind_some,wrap64,wrap_nat,Int.add_assoc,Int.reduceAdd,bne_self_eq_false,beq_self_eq_true,Bool.not_true,cond_false,show ((7 : Nat) : Int) = 7 from rfl,show decide ((3 : Int) ≠ 0) = true from rfl]
  rfl)
  (fun m ys b => by rw [laws_heldSayS_L2,lt_false]; rfl) xs n [] b (by simpa using h) h0 h1 hn
 unfold laws_heldSaySF
 simp only [List.length_nil,List.nil_append] at this
 rw [show laws_heldSayS_L2 n n (markL _ 7 xs b) 0 b = _ from this]
 rfl
theorem laws_markBridgeSF_held (n : Nat) (xs : List Bridge) (b : Int) (h : xs.length + sumSz Bridge.sz xs ≤ 1048576) (hn : 1048577 < n) (h0 : 0 < b) (h1 : b ≤ 1048576) : ∃ (zs : List Bridge) (c : Int),b ≤ c ∧ c ≤ b + 16 * sumSz (fun v => v.sz + 1) xs ∧ laws_markBridgeSF n xs b = some (c,zs) ∧ laws_heldBridgeSF n zs b = some c := by
 have hsum : ∀ ys : List Bridge,sumSz (fun v => v.sz + 1) ys = ys.length + sumSz Bridge.sz ys := fun ys => by
  induction ys with
  | nil => rfl
  | cons y ys ih => simp only [sumSz,List.length_cons,ih]; omega
 obtain ⟨zs,c,e0,e1,e2,e3,e4⟩ := markH_loop (L := laws_markBridgeS_L2 n) (H := laws_heldBridgeS_L2 n) (fun v : Bridge => v.sz + 1) (fun v => v.sz ≤ 1048576) (fun k ys b v hk hl hv hg h0 h1 => by
  have hs : v.Name.size + v.Ports.length + v.F.length + v.V.sz = v.sz := rfl
  have hs2 : v.V.Rows.length + v.V.Pvid.length = v.V.sz := rfl
  obtain ⟨t,ht⟩ := laws_markTextF_ok n (by omega) (b + 1) (by omega) (by omega)
  have hP := laws_markPtSF_ok n v.Ports (b + 1 + 1) (by omega) (by omega) (by omega) (by omega)
  have hF := laws_markFentSF_ok n v.F (b + 1 + 1 + (8 : Nat) * v.Ports.length) (by omega) (by omega) (by omega) (by omega)
  have hR := laws_markVrowSF_ok n v.V.Rows (b + 1 + 1 + (8 : Nat) * v.Ports.length + (5 : Nat) * v.F.length) (by omega) (by omega) (by omega) (by omega)
  have hQ := laws_markIntSF_ok n v.V.Pvid (b + 1 + 1 + (8 : Nat) * v.Ports.length + (5 : Nat) * v.F.length + (3 : Nat) * v.V.Rows.length) (by omega) (by omega) (by omega) (by omega)
  have hP' := laws_heldPtSF_ok n v.Ports (b + 1 + 1) (by omega) (by omega) (by omega) (by omega)
  have hF' := laws_heldFentSF_ok n v.F (b + 1 + 1 + (8 : Nat) * v.Ports.length) (by omega) (by omega) (by omega) (by omega)
  have hR' := laws_heldVrowSF_ok n v.V.Rows (b + 1 + 1 + (8 : Nat) * v.Ports.length + (5 : Nat) * v.F.length) (by omega) (by omega) (by omega) (by omega)
  have hQ' := laws_heldIntSF_ok n v.V.Pvid (b + 1 + 1 + (8 : Nat) * v.Ports.length + (5 : Nat) * v.F.length + (3 : Nat) * v.V.Rows.length) (by omega) (by omega) (by omega) (by omega)
  refine ⟨?v,?c,?a1,?a2,?a3,?a4⟩
  case a3 =>
   intro m
   rw [laws_markBridgeS_L2,lt_true hk,idx_at hv]
   simp (disch := omega) only [cond_true,Option.bind_some,List.set_set,idx_set' hk,wrap64,wrap_nat,Int.toNat_natCast,ht,hP,hF,hR,hQ]
   exact rfl
  case a1 => omega
  case a2 => omega
  case a4 =>
   intro m ys' hl' hk' hv'
   rw [laws_heldBridgeS_L2,lt_true hk',idx_at hv']
   simp (disch := omega) only [cond_true,Option.bind_some,wrap64,wrap_nat,ht,hP',hF',hR',hQ',decide_eq_false,bne_self_eq_false,beq_self_eq_true,Bool.not_true,cond_false]
   rfl)
  (fun m ys b => by rw [laws_markBridgeS_L2,lt_false]; rfl) (fun m ys b => by rw [laws_heldBridgeS_L2,lt_false]; rfl) xs [] b (by simp; omega) (fun v hv => by have := sumSz_mem (sz := Bridge.sz) hv; omega) h0 (by rw [hsum]; omega)
 refine ⟨zs,c,e1,e2,?_,?_⟩
 ·unfold laws_markBridgeSF
  have := e3 n (by omega)
  simp only [List.length_nil,List.nil_append] at this
  rw [show laws_markBridgeS_L2 n n 0 xs b = _ from this]
  rfl
 ·unfold laws_heldBridgeSF
  have := e4 n (by omega)
  simp only [List.length_nil,List.nil_append] at this
  rw [show laws_heldBridgeS_L2 n n zs 0 b = _ from this]
  rfl
theorem laws_markNetF_held (n : Nat) (x : Net) (h : x.sz ≤ 1048576) (hn : 1048577 < n) : ∃ (y : Net) (c : Int),1 ≤ c ∧ c ≤ 100000000 ∧ laws_markNetF n x 1 = some (c,y) ∧ laws_heldNetF n y 1 = some c := by
 have hs : (x.Bridges.length + sumSz Bridge.sz x.Bridges) + x.Links.length + x.Said.length = x.sz := rfl
 have hsum : ∀ ys : List Bridge,sumSz (fun v => v.sz + 1) ys = ys.length + sumSz Bridge.sz ys := fun ys => by
  induction ys with
  | nil => rfl
  | cons y ys ih => simp only [sumSz,List.length_cons,ih]; omega
 obtain ⟨zs,c,e1,e2,e3,e4⟩ := laws_markBridgeSF_held n x.Bridges 1 (by omega) hn (by omega) (by omega)
 have := hsum x.Bridges
 refine ⟨_,_,?_,?_,by unfold laws_markNetF; rw [e3,Option.bind_some,laws_markLinkSF_ok n x.Links _ (by omega) (by omega) (by omega) (by omega),Option.bind_some,laws_markSaySF_ok n x.Said _ (by omega) (by omega) (by simp only; omega) (by simp only; omega)]; exact rfl,?_⟩
 ·simp only; omega
 ·simp only; omega
 ·unfold laws_heldNetF
  rw [e4,Option.bind_some,laws_heldLinkSF_ok n x.Links _ (by omega) (by omega) (by omega) (by omega),Option.bind_some,laws_heldSaySF_ok n x.Said _ (by omega) (by omega) (by simp only; omega) (by simp only; omega),Option.bind_some,decide_eq_false (by omega),decide_eq_false (by simp only; omega),decide_eq_false (by simp only; omega)]
  rfl
theorem app_loop {α β : Type} {L : Nat → Int → List α → Option (List α ⊕ β)} {f : α → Option α} (xs : List α) (hx : xs.length ≤ 268435455) (hf : ∀ v ∈ xs,f v = some v)
  (h : ∀ m k acc,L (m + 1) k acc = bif decide (k < (xs.length : Int)) then (idx xs k).bind fun v => (f v).bind fun r => bif decide (acc.length + [r].length ≤ 268435456) then L m (IntKind.wrap .i64 (k + 1)) (acc ++ [r]) else none else some (.inl acc)) : ∀ (m k : Nat),k ≤ xs.length → xs.length < m + k → L m k (xs.take k) = some (.inl xs)
 | 0,k,h1,h2 => by omega
 | m + 1,k,h1,h2 => by
  rw [h]
  by_cases hk : k < xs.length
  ·rw [lt_true hk,cond_true,idx_nat hk,Option.bind_some,hf _ (List.getElem_mem hk),Option.bind_some,decide_eq_true (by simp; omega),cond_true,wrap_nat (by omega),show xs.take k ++ [xs[k]] = xs.take (k + 1) by rw [List.take_add_one,List.getElem?_eq_getElem hk]; rfl]
   exact app_loop xs hx hf h m (k + 1) (by omega) (by omega)
  ·have he : k = xs.length := by omega
   subst he
   rw [lt_false,cond_false,List.take_length]
theorem spec_l13CopyF_eq (n : Nat) (x : Net) (h : x.sz ≤ 268435455) (hn : x.sz < n) : spec_l13CopyF n x = some x := by
 have hs : (x.Bridges.length + sumSz Bridge.sz x.Bridges) + x.Links.length + x.Said.length = x.sz := rfl
 have := app_loop (L := fun m k acc => spec_l13Copy_L2 n m x k acc) (f := spec_l11CopyF n) x.Bridges (by omega) (fun v hv => by have := sumSz_mem (sz := Bridge.sz) hv; exact spec_l11CopyF_eq n v (by omega)) (fun m k acc => by rw [spec_l13Copy_L2]) n 0 (by omega) (by omega)
 unfold spec_l13CopyF
 rw [decide_eq_true (by simp; omega),decide_eq_true (by simp; omega),cond_true,cond_true,show spec_l13Copy_L2 n n x 0 [] = _ from this]
 rfl
theorem impl_copyNetF_eq (n : Nat) (x : Net) (h : x.sz ≤ 268435455) (hn : x.sz < n) : impl_copyNetF n x = some x := by
 have hs : (x.Bridges.length + sumSz Bridge.sz x.Bridges) + x.Links.length + x.Said.length = x.sz := rfl
 have := app_loop (L := fun m k acc => impl_copyNet_L2 n m x k acc) (f := impl_copyBridgeF n) x.Bridges (by omega) (fun v hv => by have := sumSz_mem (sz := Bridge.sz) hv; exact impl_copyBridgeF_eq n v (by omega)) (fun m k acc => by rw [impl_copyNet_L2]) n 0 (by omega) (by omega)
 unfold impl_copyNetF
 rw [decide_eq_true (by simp; omega),decide_eq_true (by simp; omega),cond_true,cond_true,show impl_copyNet_L2 n n x 0 [] = _ from this]
 rfl
theorem spec_VecOkF_wf (n : Nat) (v : Vec) (h : spec_VecOkF n v = some true) : v.wf := by
 unfold spec_VecOkF at h
 simp only [spec_l1InF_val,Option.bind_some] at h
 cases h1 : (decide (1 ≤ v.Root) && decide (v.Root ≤ 99)) with
 | false => rw [h1] at h; cases h
 | true =>
  cases h2 : (decide (0 ≤ v.Cost) && decide (v.Cost ≤ 100000)) with
  | false => rw [h1,h2] at h; cases h
  | true =>
   cases h3 : (decide (0 ≤ v.Hops) && decide (v.Hops ≤ 10)) with
   | false => rw [h1,h2,h3] at h; cases h
   | true =>
    cases h4 : (decide (1 ≤ v.Bridge) && decide (v.Bridge ≤ 99)) with
    | false => rw [h1,h2,h3,h4] at h; cases h
    | true =>
     rw [h1,h2,h3,h4] at h
     simp only [cond_true,Option.some.injEq,Bool.and_eq_true,decide_eq_true_eq] at h h1 h2 h3 h4
     exact ⟨intWf_small (by omega) (by omega),intWf_small (by omega) (by omega),intWf_small (by omega) (by omega),intWf_small (by omega) (by omega),intWf_small (by omega) (by omega),trivial⟩
theorem spec_HearVecF_wf (n : Nat) (x : Bridge) (p : Int) (u : Vec) (wx : x.wf) (hx : x.sz ≤ 1048576) (hn : 1048577 < n) : ∃ y : Bridge,spec_HearVecF n x p u = some y ∧ impl_HearVecF n x p u = some y ∧ y.sz ≤ x.sz ∧ y.wf := by
 have hs : x.Name.size + x.Ports.length + x.F.length + x.V.sz = x.sz := rfl
 obtain ⟨b,h1,h2⟩ := spec_BridgeOkF_both n x wx (by omega) (by omega)
 unfold spec_HearVecF impl_HearVecF
 rw [spec_l11CopyF_eq n x (by omega),impl_copyBridgeF_eq n x (by omega),Option.bind_some,Option.bind_some,spec_l11ThereF_val n x p b h1 (by omega),impl_isPortF_val n x p b h2 (by omega),Option.bind_some,Option.bind_some]
 cases hc : (b && (decide (0 ≤ p) && decide (p < x.Ports.length))) with
 | false => exact ⟨x,rfl,rfl,Nat.le_refl _,wx⟩
 | true =>
  simp only [Bool.and_eq_true,decide_eq_true_eq] at hc
  obtain ⟨rfl,q0,q1⟩ := hc
  obtain ⟨k,rfl⟩ := Int.eq_ofNat_of_zero_le q0
  have hk : k < x.Ports.length := by omega
  simp only [Bool.not_true,cond_false,cond_true]
  rw [idx_nat hk,Option.bind_some,Option.bind_some]
  obtain ⟨c,hc⟩ := spec_VecOkF_tot n u
  rw [impl_VecOkF_eq,hc]
  simp only [Option.bind_some]
  cases hu : x.Ports[k].Up with
  | false => simp only [Bool.not_false,cond_true,cond_false]; exact ⟨x,rfl,rfl,Nat.le_refl _,wx⟩
  | true =>
   cases c with
   | false => simp only [Bool.not_false,Bool.not_true,cond_true,cond_false]; exact ⟨x,rfl,rfl,Nat.le_refl _,wx⟩
   | true =>
    have wu := spec_VecOkF_wf n u hc
    obtain ⟨zs,v,bb,e1,e2,e3,e4,e5,e6,_⟩ := spec_turn_set n x hn hx h1 (x.Ports.set k ⟨true,x.Ports[k].Cost,true,u⟩) (by simp) x.F (Nat.le_refl _) x.Ticks
    have hi : idx (x.Ports.set k ⟨x.Ports[k].Up,x.Ports[k].Cost,true,x.Ports[k].Heard⟩) (k : Int) = some ⟨x.Ports[k].Up,x.Ports[k].Cost,true,x.Ports[k].Heard⟩ := by
     rw [idx_nat (by simpa using hk)]; simp
    simp only [impl_HearVec_J1,Bool.not_true,cond_false,cond_true,Option.bind_some,idx_nat hk,Int.toNat_natCast,hi,List.set_set,hu,e1,e2]
    have hi' : idx (x.Ports.set k ⟨true,x.Ports[k].Cost,true,x.Ports[k].Heard⟩) (k : Int) = some ⟨true,x.Ports[k].Cost,true,x.Ports[k].Heard⟩ := by
     rw [idx_nat (by simpa using hk)]; simp
    simp only [hi',Option.bind_some,e1,e2]
    have wv : intWf v := intWf_small (by omega) (by omega)
    obtain ⟨w1,w2,w3,w4,w5,w6,w7,w8,w9,w10,w11,w12⟩ := wx
    refine ⟨_,rfl,rfl,?_,w1,w2,listWf_set w3 ⟨(w3.2 _ (List.getElem_mem hk)).1,wu.1,wu.2.1,wu.2.2.1,wu.2.2.2.1,wu.2.2.2.2.1,trivial⟩,listWf_sub w4 e4 e3,w5,w6,w7,w8,w9,w10,wv,trivial⟩
    simp only [Bridge.sz,List.length_set] at hs ⊢
    omega
theorem sumSz_set {α : Type} {sz : α → Nat} : ∀ (xs : List α) (k : Nat) (hk : k < xs.length) (v : α),sz v ≤ sz xs[k] → sumSz sz (xs.set k v) ≤ sumSz sz xs
 | [],k,hk,v,h => by simp at hk
 | x :: xs,0,hk,v,h => by
  simp only [List.set_cons_zero,sumSz]
  have : sz v ≤ sz x := h
  omega
 | x :: xs,k + 1,hk,v,h => by
  simp only [List.set_cons_succ,sumSz]
  have := sumSz_set xs k (by simpa using hk) v (by simpa using h)
  omega
def HB (x : Net) (ys : List Bridge) : Prop := ys.length = x.Bridges.length ∧ (∀ v ∈ ys,v.wf) ∧ sumSz Bridge.sz ys ≤ sumSz Bridge.sz x.Bridges
theorem HB.self {x : Net} (wx : x.wf) : HB x x.Bridges := ⟨rfl,wx.1.2,Nat.le_refl _⟩
theorem hear_step (n : Nat) {x : Net} {ys : List Bridge} (hb : HB x ys) (hx : x.sz ≤ 1048576) (hn : 1048577 < n) {i : Int} {a : Bridge} (hi : idx x.Bridges i = some a) (p : Int) (u : Vec) : ∃ v y,idx ys i = some v ∧ spec_HearVecF n v p u = some y ∧ impl_HearVecF n v p u = some y ∧ HB x (ys.set i.toNat y) := by
 have hs : (x.Bridges.length + sumSz Bridge.sz x.Bridges) + x.Links.length + x.Said.length = x.sz := rfl
 obtain ⟨b1,b2,b3⟩ := hb
 obtain ⟨q0,q1⟩ := idx_lt hi
 obtain ⟨k,rfl⟩ := Int.eq_ofNat_of_zero_le q0
 have hk : k < ys.length := by omega
 have hsz := sumSz_mem (sz := Bridge.sz) (List.getElem_mem hk)
 obtain ⟨y,e1,e2,e3,e4⟩ := spec_HearVecF_wf n ys[k] p u (b2 _ (List.getElem_mem hk)) (by omega) hn
 refine ⟨ys[k],y,idx_nat hk,e1,e2,by rw [List.length_set]; exact b1,fun v hv => ?_,?_⟩
 ·rcases List.mem_or_eq_of_mem_set hv with h | rfl
  ·exact b2 v h
  ·exact e4
 ·have := sumSz_set (sz := Bridge.sz) ys k hk y e3
  simp only [Int.toNat_natCast]
  omega
theorem spec_Round_L2_both (n : Nat) (x : Net) (wx : x.wf) (hx : x.sz ≤ 1048576) (hn : 1048577 < n) : ∀ (m k : Nat) (ys : List Bridge),HB x ys → k ≤ x.Links.length → x.Links.length < m + k → ∃ zs,HB x zs ∧ spec_Round_L2 n m x k ys x.Links [] = some (.inl (zs,x.Links,[])) ∧ impl_Round_L2 n m x k ys x.Links [] = some (.inl (zs,x.Links,[]))
 | 0,k,ys,hb,h1,h2 => by omega
 | m + 1,k,ys,hb,h1,h2 => by
  have hs : (x.Bridges.length + sumSz Bridge.sz x.Bridges) + x.Links.length + x.Said.length = x.sz := rfl
  rw [spec_Round_L2,impl_Round_L2]
  by_cases hk : k < x.Links.length
  ·obtain ⟨b,u1,u2⟩ := spec_LinkUpF_both n x k wx (by omega)
   rw [lt_true hk,cond_true,cond_true,u1,u2,Option.bind_some,idx_nat hk,Option.bind_some,Option.bind_some,wrap_nat (by omega : k ≤ 1099511627776)]
   cases b with
   | false => exact spec_Round_L2_both n x wx hx hn m (k + 1) ys hb (by omega) (by omega)
   | true =>
    obtain ⟨l,a,c,p,q,hl,ha,_,_,hc,_,_⟩ := spec_LinkUpF_true n x k u1
    rw [idx_nat hk] at hl
    obtain rfl := Option.some.inj hl
    have pa := ports_le hx (idx_mem ha)
    have pc := ports_le hx (idx_mem hc)
    have qa : a.Name.size + a.Ports.length + a.F.length + a.V.sz = a.sz := rfl
    have qc : c.Name.size + c.Ports.length + c.F.length + c.V.sz = c.sz := rfl
    obtain ⟨s1,f1⟩ := spec_SayVecF_tot n c.Id c.Ports x.Links[k].Q (by omega) (by omega)
    obtain ⟨s2,f2⟩ := spec_SayVecF_tot n a.Id a.Ports x.Links[k].P (by omega) (by omega)
    obtain ⟨v1,y1,i1,g1,g1',hb1⟩ := hear_step n hb hx hn ha x.Links[k].P s1
    obtain ⟨v2,y2,i2,g2,g2',hb2⟩ := hear_step n hb1 hx hn hc x.Links[k].Q s2
    obtain ⟨zs,r1,r2,r3⟩ := spec_Round_L2_both n x wx hx hn m (k + 1) _ hb2 (by omega) (by omega)
    refine ⟨zs,r1,?_,?_⟩
    ·simp only [cond_true,cond_false,spec_l14SayF,spec_l14HearF,idx_nat hk,Option.bind_some,ha,hc,f1,f2,i1,g1,i2,g2,r2]
    ·simp only [cond_true,impl_saidF,impl_Net_hearF,impl_SayVecF_eq,Option.bind_some,ha,hc,f1,f2,i1,g1',i2,g2',r3]
  ·have he : k = x.Links.length := by omega
   subst he
   rw [lt_false]
   exact ⟨ys,hb,rfl,rfl⟩
theorem spec_RoundF_both (n : Nat) (x : Net) (wx : x.wf) (hx : x.sz ≤ 1048576) (hn : 1048700 < n) : ∃ y : Net,spec_RoundF n x = some y ∧ impl_RoundF n x = some y ∧ y.sz ≤ x.sz ∧ y.wf := by
 have hs : (x.Bridges.length + sumSz Bridge.sz x.Bridges) + x.Links.length + x.Said.length = x.sz := rfl
 obtain ⟨b,h1,h2,_⟩ := spec_NetOkF_both n x wx hx (by omega)
 unfold spec_RoundF impl_RoundF
 rw [spec_l13CopyF_eq n x (by omega) (by omega),impl_copyNetF_eq n x (by omega) (by omega),h1,h2]
 cases b with
 | false => exact ⟨x,rfl,rfl,Nat.le_refl _,wx⟩
 | true =>
  obtain ⟨zs,⟨b1,b2,b3⟩,r1,r2⟩ := spec_Round_L2_both n x wx hx (by omega) n 0 x.Bridges (HB.self wx) (by omega) (by omega)
  simp only [Option.bind_some,Bool.not_true,cond_false]
  rw [show spec_Round_L2 n n x 0 x.Bridges x.Links [] = _ from r1,show impl_Round_L2 n n x 0 x.Bridges x.Links [] = _ from r2]
  refine ⟨⟨zs,x.Links,[]⟩,rfl,rfl,?_,⟨by rw [b1]; exact wx.1.1,b2⟩,wx.2.1,⟨by simp,by simp⟩,trivial⟩
  show (zs.length + sumSz Bridge.sz zs) + x.Links.length + ([] : List Say).length ≤ x.sz
  simp only [List.length_nil]
  omega
theorem spec_Rounds_L2_both (n : Nat) (z : Int) (s : Nat) (hs : s ≤ 1048576) (hn : 1048700 < n) : ∀ (m k : Nat) (y : Net),y.wf → y.sz ≤ s → k ≤ 30 → 30 < m + k → ∃ w : Net,w.wf ∧ w.sz ≤ s ∧ spec_Rounds_L2 n m z k y.Bridges y.Links y.Said = some (.inl (w.Bridges,w.Links,w.Said)) ∧ impl_Rounds_L2 n m z k y.Bridges y.Links y.Said = some (.inl (w.Bridges,w.Links,w.Said))
 | 0,k,y,wy,hy,h1,h2 => by omega
 | m + 1,k,y,wy,hy,h1,h2 => by
  rw [spec_Rounds_L2,impl_Rounds_L2]
  by_cases hk : (k : Int) < z ∧ (k : Int) < 30
  ·have hi : (k : Int) < (if (if 30 < z then 30 else z) > 0 then (if 30 < z then 30 else z) else 0) := by split <;> split at * <;> omega
   obtain ⟨w,e1,e2,e3,e4⟩ := spec_RoundF_both n y wy (by omega) hn
   obtain ⟨v,f1,f2,f3,f4⟩ := spec_Rounds_L2_both n z s hs hn m (k + 1) w e4 (by omega) (by omega) (by omega)
   refine ⟨v,f1,f2,?_,?_⟩
   ·simp only [decide_eq_true hk.1,decide_eq_true hk.2,cond_true,e1,Option.bind_some,wrap_nat (by omega : k ≤ 1099511627776),f3]
   ·simp only [decide_eq_true hi,cond_true,e2,Option.bind_some,wrap_nat (by omega : k ≤ 1099511627776),f4]
  ·have hi : ¬ (k : Int) < (if (if 30 < z then 30 else z) > 0 then (if 30 < z then 30 else z) else 0) := by split <;> split at * <;> omega
   refine ⟨y,wy,hy,?_,?_⟩
   ·by_cases h : (k : Int) < z
    ·rw [decide_eq_true h,decide_eq_false (by omega)]; rfl
    ·rw [decide_eq_false h]; rfl
   ·rw [decide_eq_false hi]; rfl
theorem spec_RoundsF_both (n : Nat) (x : Net) (z : Int) (wx : x.wf) (hx : x.sz ≤ 1048576) (hn : 1048700 < n) : ∃ y : Net,spec_RoundsF n x z = some y ∧ impl_RoundsF n x z = some y ∧ y.sz ≤ x.sz ∧ y.wf := by
 obtain ⟨w,f1,f2,f3,f4⟩ := spec_Rounds_L2_both n z x.sz hx hn n 0 x wx (Nat.le_refl _) (by omega) (by omega)
 unfold spec_RoundsF impl_RoundsF
 rw [spec_l13CopyF_eq n x (by omega) (by omega),impl_copyNetF_eq n x (by omega) (by omega),Option.bind_some,Option.bind_some,show spec_Rounds_L2 n n z 0 x.Bridges x.Links x.Said = _ from f3,show impl_Rounds_L2 n n z 0 x.Bridges x.Links x.Said = _ from f4]
 exact ⟨w,rfl,rfl,f2,f1⟩
theorem laws_FnExactRounds_plain (x0 : Net) (x1 : Int) (w0 : x0.wf) (w1 : intWf x1) : ∃ n,laws_FnExactRoundsF n x0 x1 = some true := by
 refine ⟨1048800,?_⟩
 obtain ⟨r,e,k⟩ := laws_szNetF_ok 1048800 (x := x0) (b := 1048576) (by decide) (by decide) (by decide) w0
 simp only [laws_FnExactRoundsF,e,Option.bind_some]
 rcases k.neg with ⟨c1,_⟩ | ⟨c1,c2,c3⟩
 ·rw [c1]; rfl
 ·obtain ⟨y,h1,h2,h3,_⟩ := spec_RoundsF_both 1048800 x0 x1 w0 (by omega) (by omega)
  obtain ⟨z,c,k1,k2,m1,_⟩ := laws_markNetF_held 1048800 x0 (by omega) (by omega)
  obtain ⟨z',c',k1',k2',m1',m2'⟩ := laws_markNetF_held 1048800 y (by omega) (by omega)
  simp only [c1,cond_false,laws_toNetF_eq 1048800 x0 (by omega) (by omega),Option.bind_some,h1,h2,laws_eqNetF_refl 1048800 x0 (by omega) (by omega),laws_eqNetF_refl 1048800 y (by omega) (by omega),m1,m1',m2',decide_eq_false (show ¬ c < 0 by omega),decide_eq_false (show ¬ c' < 0 by omega),bne_self_eq_false,Bool.not_true]
end Go.Proofs.YtibocmoaaahjfaaGreat.Tw
