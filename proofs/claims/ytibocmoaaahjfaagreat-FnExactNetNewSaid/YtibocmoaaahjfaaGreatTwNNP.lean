import Derived.Test.YtibocmoaaahjfaaGreatTwNN
import Derived.Test.YtibocmoaaahjfaaGreatTlPlain
set_option linter.unusedVariables false
set_option linter.unusedSimpArgs false
set_option maxRecDepth 100000
set_option maxHeartbeats 1000000
namespace Go.Proofs.YtibocmoaaahjfaaGreat.Tw
open Go Go.TL Go.Proofs
def Vtab.sz (x : Vtab) : Nat := x.Rows.length + x.Pvid.length
theorem laws_toIntSF_eq (n : Nat) (xs : List Int) (h : xs.length ≤ 268435456) (hn : xs.length < n) : laws_toIntSF n xs = some xs := by
 unfold laws_toIntSF
 rw [decide_eq_true (by omega : (0 : Int) ≤ (xs.length : Int)),decide_eq_true (by omega : (xs.length : Int) ≤ 268435456)]
 have := copy_loop (L := laws_toIntS_L2 n) (fun m xs i ys => rfl) xs (by omega) n 0 (List.replicate ((xs.length : Int)).toNat 0) (by omega) (by omega) (by simp) rfl
 simp only [Bool.and_self,cond_true]
 rw [show (laws_toIntS_L2 n n xs 0 (List.replicate ((xs.length : Int)).toNat 0)) = _ from this]
 rfl
theorem laws_eqIntSF_refl (n : Nat) (xs : List Int) (h : xs.length ≤ 268435456) (hn : xs.length < n) : laws_eqIntSF n xs xs = some true := by
 unfold laws_eqIntSF
 have := eq_loop (L := laws_eqIntS_L2 n) (f := fun a b => some (a == b)) (fun m xs ys i => rfl) xs (by omega) (fun v _ => by simp) n 0 (by omega) (by omega)
 simp only [bne_self_eq_false,cond_false]
 rw [show (laws_eqIntS_L2 n n xs xs 0) = _ from this]
 rfl
theorem laws_eqVrowF_refl (n : Nat) (v : Vrow) : laws_eqVrowF n v v = some true := by simp [laws_eqVrowF]
theorem laws_eqVrowSF_refl (n : Nat) (xs : List Vrow) (h : xs.length ≤ 268435456) (hn : xs.length < n) : laws_eqVrowSF n xs xs = some true := by
 unfold laws_eqVrowSF
 have := eq_loop (L := laws_eqVrowS_L2 n) (f := laws_eqVrowF n) (fun m xs ys i => rfl) xs (by omega) (fun v _ => laws_eqVrowF_refl n v) n 0 (by omega) (by omega)
 simp only [bne_self_eq_false,cond_false]
 rw [show (laws_eqVrowS_L2 n n xs xs 0) = _ from this]
 rfl
theorem laws_eqVtabF_refl (n : Nat) (x : Vtab) (h : x.sz ≤ 268435456) (hn : x.sz < n) : laws_eqVtabF n x x = some true := by
 unfold Vtab.sz at h hn
 unfold laws_eqVtabF
 rw [laws_eqVrowSF_refl n x.Rows (by omega) (by omega),laws_eqIntSF_refl n x.Pvid (by omega) (by omega)]
 rfl
theorem impl_RowAt_L2_eq (n : Nat) : impl_RowAt_L2 n = spec_RowAt_L2 n := by
 funext m
 induction m with
 | zero => rfl
 | succ m ih => funext x i y; simp only [impl_RowAt_L2,spec_RowAt_L2,ih]
theorem impl_RowAtF_eq (n : Nat) : impl_RowAtF n = spec_RowAtF n := by
 funext x i; simp only [impl_RowAtF,spec_RowAtF,impl_RowAt_L2_eq]; rfl
theorem spec_RowAtF_ok (n : Nat) (x : Vtab) (id : Int) (h : x.Rows.length ≤ 1048580) (hn : x.Rows.length < n) : ∃ r,spec_RowAtF n x id = some r ∧ (r = -1 ∧ (∀ v ∈ x.Rows,v.Id ≠ id) ∨ ∃ v,0 ≤ r ∧ idx x.Rows r = some v ∧ v.Id = id) := by
 unfold spec_RowAtF
 have hf := find_loop (L := fun m xs i => spec_RowAt_L2 n m ⟨xs,x.Pvid⟩ id i) (p := fun i v => bif v.Id == id then some i else none) (fun m xs i => by
  show (bif _ then _ else _) = _
  congr 1
  congr 1
  funext v
  cases (v.Id == id) <;> rfl) x.Rows (by omega) n 0 (by omega) (by omega)
 rcases hf with ⟨e1,e2⟩ | ⟨j,hj,r,e1,e2,e3,e4⟩
 ·rw [show spec_RowAt_L2 n n x id 0 = _ from e1]
  refine ⟨-1,rfl,.inl ⟨rfl,fun v hv => ?_⟩⟩
  obtain ⟨j,hj,rfl⟩ := List.getElem_of_mem hv
  have := e2 j hj (by omega)
  intro hid
  simp [hid] at this
 ·rw [show spec_RowAt_L2 n n x id 0 = _ from e4]
  have hid : (x.Rows[j].Id == id) = true := by
   cases hc : (x.Rows[j].Id == id) with
   | true => rfl
   | false => rw [hc] at e2; cases e2
  rw [hid] at e2
  cases e2
  exact ⟨_,rfl,.inr ⟨_,by omega,idx_nat hj,by simpa using hid⟩⟩
theorem laws_eqVecF_refl (n : Nat) (v : Vec) : laws_eqVecF n v v = some true := by simp [laws_eqVecF]
theorem laws_eqPtF_refl (n : Nat) (v : Pt) : laws_eqPtF n v v = some true := by simp [laws_eqPtF,laws_eqVecF_refl]
theorem laws_eqPtSF_refl (n : Nat) (xs : List Pt) (h : xs.length ≤ 268435456) (hn : xs.length < n) : laws_eqPtSF n xs xs = some true := by
 unfold laws_eqPtSF
 have := eq_loop (L := laws_eqPtS_L2 n) (f := laws_eqPtF n) (fun m xs ys i => rfl) xs (by omega) (fun v _ => laws_eqPtF_refl n v) n 0 (by omega) (by omega)
 simp only [bne_self_eq_false,cond_false]
 rw [show (laws_eqPtS_L2 n n xs xs 0) = _ from this]
 rfl
theorem spec_l1InF_tot (n : Nat) (a b c : Int) : Tot (spec_l1InF n a b c) := Tot.bif (fun _ => .of) (fun _ => .of)
theorem impl_VecOkF_eq (n : Nat) : impl_VecOkF n = spec_VecOkF n := rfl
theorem spec_VecOkF_tot (n : Nat) (v : Vec) : Tot (spec_VecOkF n v) := by
 unfold spec_VecOkF
 repeat' first | exact Tot.of | refine Tot.bind (spec_l1InF_tot _ _ _ _) fun _ _ => ?_ | refine Tot.bif (fun _ => ?_) (fun _ => ?_)
theorem impl_StepVecF_eq (n : Nat) : impl_StepVecF n = spec_StepVecF n := rfl
theorem spec_StepVecF_tot (n : Nat) (v : Vec) (c : Int) : Tot (spec_StepVecF n v c) := by
 unfold spec_StepVecF
 repeat' first | exact Tot.of | refine Tot.bind (spec_l1InF_tot _ _ _ _) fun _ _ => ?_ | refine Tot.bind (spec_VecOkF_tot _ _) fun _ _ => ?_ | refine Tot.bif (fun _ => ?_) (fun _ => ?_)
theorem impl_LessVecF_eq (n : Nat) : impl_LessVecF n = spec_LessVecF n := rfl
theorem spec_LessVecF_tot (n : Nat) (v u : Vec) : Tot (spec_LessVecF n v u) := by
 unfold spec_LessVecF
 repeat' first | exact Tot.of | refine Tot.bif (fun _ => ?_) (fun _ => ?_)
theorem spec_BestVec_L2_tot (n : Nat) (x0 : Int) (x1 : List Pt) (h : x1.length ≤ 1048576) : ∀ (m k : Nat) (y2 y3 y4 y5 y6 y7 y8 y9 y10 : Int),k ≤ x1.length → x1.length < m + k → Tot (spec_BestVec_L2 n m x0 x1 k y2 y3 y4 y5 y6 y7 y8 y9 y10)
 | 0,k,y2,y3,y4,y5,y6,y7,y8,y9,y10,h1,h2 => by omega
 | m + 1,k,y2,y3,y4,y5,y6,y7,y8,y9,y10,h1,h2 => by
  rw [spec_BestVec_L2]
  refine Tot.step (fun hk => ?_) .of
  have ih := fun y2 y3 y4 y5 y6 y7 y8 y9 y10 => spec_BestVec_L2_tot n x0 x1 h m (k + 1) y2 y3 y4 y5 y6 y7 y8 y9 y10 (by omega) (by omega)
  simp only [spec_BestVec_J3,wrap_nat (by omega : k ≤ 1099511627776)]
  repeat' first | exact ih _ _ _ _ _ _ _ _ _ | exact Tot.of | refine Tot.bind (idx_tot hk) fun _ _ => ?_ | refine Tot.bind (spec_StepVecF_tot _ _ _) fun _ _ => ?_ | refine Tot.bind (spec_LessVecF_tot _ _ _) fun _ _ => ?_ | refine Tot.bif (fun _ => ?_) (fun _ => ?_)
theorem spec_BestVecF_tot (n : Nat) (x0 : Int) (x1 : List Pt) (h : x1.length ≤ 1048576) (hn : x1.length < n) : Tot (spec_BestVecF n x0 x1) := by
 unfold spec_BestVecF
 refine Tot.bind (spec_BestVec_L2_tot n x0 x1 h n 0 _ _ _ _ _ _ _ _ _ (by omega) (by omega)) fun o _ => ?_
 cases o <;> exact Tot.of
theorem impl_BestVec_L2_eq (n : Nat) : impl_BestVec_L2 n = spec_BestVec_L2 n := by
 funext m
 induction m with
 | zero => rfl
 | succ m ih =>
  funext x0 x1 y1 y2 y3 y4 y5 y6 y7 y8 y9 y10
  simp only [impl_BestVec_L2,spec_BestVec_L2,ih,impl_BestVec_J3,spec_BestVec_J3,impl_StepVecF_eq,impl_LessVecF_eq]
  cases idx x1 y1 <;> rfl
theorem impl_BestVecF_eq (n : Nat) : impl_BestVecF n = spec_BestVecF n := by
 funext x i; simp only [impl_BestVecF,spec_BestVecF,impl_BestVec_L2_eq]; rfl
theorem impl_SayVecF_eq (n : Nat) : impl_SayVecF n = spec_SayVecF n := by
 funext x i y; simp only [impl_SayVecF,spec_SayVecF,impl_BestVecF_eq]
theorem spec_SayVecF_tot (n : Nat) (x0 : Int) (x1 : List Pt) (x2 : Int) (h : x1.length ≤ 1048576) (hn : x1.length < n) : Tot (spec_SayVecF n x0 x1 x2) := Tot.bind (spec_BestVecF_tot n x0 x1 h hn) fun _ _ => .of
theorem impl_RoleOfF_eq (n : Nat) : impl_RoleOfF n = spec_RoleOfF n := by
 funext x i y; simp only [impl_RoleOfF,spec_RoleOfF,impl_BestVecF_eq,impl_SayVecF_eq,impl_LessVecF_eq]; rfl
theorem spec_RoleOfF_ok (n : Nat) (x0 : Int) (x1 : List Pt) (x2 : Int) (h : x1.length ≤ 1048576) (hn : x1.length < n) : ∃ r,spec_RoleOfF n x0 x1 x2 = some r ∧ 1 ≤ r ∧ r ≤ 4 := by
 unfold spec_RoleOfF spec_l1InF
 rw [wrap64 (by omega) (by omega)]
 obtain ⟨b,hb⟩ := spec_BestVecF_tot n x0 x1 h hn
 obtain ⟨s,hs⟩ := spec_SayVecF_tot n x0 x1 x2 h hn
 by_cases h1 : x2 ≥ 0
 ·by_cases h2 : x2 ≤ (x1.length : Int) - 1
  ·obtain ⟨v,hv,_⟩ := idx_of (xs := x1) h1 (by omega)
   obtain ⟨l,hl⟩ := spec_LessVecF_tot n s v.Heard
   simp only [decide_eq_true h1,decide_eq_true h2,cond_true,Option.bind_some,Bool.not_true,cond_false,hb,hs,hv,hl]
   cases v.Up <;> cases (b.2 == x2) <;> cases v.Has <;> cases l <;> exact ⟨_,rfl,by decide,by decide⟩
  ·simp only [decide_eq_true h1,decide_eq_false h2,cond_true,Option.bind_some,Bool.not_false]
   exact ⟨_,rfl,by decide,by decide⟩
 ·simp only [decide_eq_false h1,cond_false,Option.bind_some,Bool.not_false,cond_true]
  exact ⟨_,rfl,by decide,by decide⟩
theorem wrapU {k : Nat} (h : k ≤ 1099511627776) : IntKind.wrap .u64 (k : Int) = k := by
 show ((k : Int) % 18446744073709551616) = k
 omega
theorem spec_Sends_L2_both (n : Nat) (x0 : Int) (x1 : List Pt) (h : x1.length ≤ 1048576) (hn : x1.length < n) : ∀ (m k : Nat) (y2 : Int),k ≤ x1.length → x1.length < m + k → impl_Sends_L2 n m x0 x1 k y2 = spec_Sends_L2 n m x0 x1 k y2 ∧ Tot (spec_Sends_L2 n m x0 x1 k y2)
 | 0,k,y2,h1,h2 => by omega
 | m + 1,k,y2,h1,h2 => by
  rw [spec_Sends_L2,impl_Sends_L2]
  by_cases hk : k < x1.length
  ·have ih := fun y2 => spec_Sends_L2_both n x0 x1 h hn m (k + 1) y2 (by omega) (by omega)
   obtain ⟨r,hr,r1,r2⟩ := spec_RoleOfF_ok n x0 x1 k h hn
   have hk' : decide ((k : Int) < (x1.length : Int)) = true := decide_eq_true (by omega)
   have h0 : decide ((0 : Int) ≤ (k : Int)) = true := decide_eq_true (by omega)
   simp only [hk',wrap_nat (by omega : k ≤ 1099511627776),wrapU (by omega : k ≤ 1099511627776),impl_RoleOfF_eq,hr,Option.bind_some,h0,cond_true,(ih _).1,true_and]
   have hc : r = 1 ∨ r = 2 ∨ r = 3 ∨ r = 4 := by omega
   rcases hc with rfl | rfl | rfl | rfl <;> cases (decide ((k : Int) < 6)) <;> first | exact ⟨rfl,(ih _).2⟩ | exact ⟨by trivial,Tot.of⟩
  ·have hk' : decide ((k : Int) < (x1.length : Int)) = false := decide_eq_false (by omega)
   rw [hk']
   exact ⟨by trivial,Tot.of⟩
theorem spec_SendsF_both (n : Nat) (x0 : Int) (x1 : List Pt) (h : x1.length ≤ 1048576) (hn : x1.length < n) : impl_SendsF n x0 x1 = spec_SendsF n x0 x1 ∧ Tot (spec_SendsF n x0 x1) := by
 obtain ⟨h1,o,h2⟩ := spec_Sends_L2_both n x0 x1 h hn n 0 0 (by omega) (by omega)
 unfold impl_SendsF spec_SendsF
 have e1 : impl_Sends_L2 n n x0 x1 0 0 = some o := h1.trans h2
 have e2 : spec_Sends_L2 n n x0 x1 0 0 = some o := h2
 rw [e1,e2]
 cases o <;> exact ⟨by trivial,Tot.of⟩
theorem impl_inF_eq (n : Nat) : impl_inF n = spec_l1InF n := rfl
theorem spec_l1InF_val (n : Nat) (a b c : Int) : spec_l1InF n a b c = some (decide (b ≤ a) && decide (a ≤ c)) := by
 unfold spec_l1InF
 by_cases h : a ≥ b
 ·rw [decide_eq_true h]; rfl
 ·rw [decide_eq_false h]; rfl
theorem spec_VtabOk_mask {p : Int} (h0 : 1 ≤ p) (h1 : p ≤ 6) : ∃ a : Int,0 ≤ a ∧ a < 9223372036854775808 ∧ (IntKind.wrap .i64 ((IntKind.wrap .i64 (1 * 2 ^ min ((IntKind.wrap .u64 p)).toNat (IntKind.bits .i64))) - 1)) = a ∧ (IntKind.wrap .i64 ((IntKind.wrap .i64 (1 * 2 ^ min (p).toNat (IntKind.bits .i64))) - 1)) = a ∧ decide (0 ≤ (IntKind.wrap .u64 p)) = true ∧ decide (0 ≤ p) = true := by
 have hc : p = 1 ∨ p = 2 ∨ p = 3 ∨ p = 4 ∨ p = 5 ∨ p = 6 := by omega
 rcases hc with rfl | rfl | rfl | rfl | rfl | rfl
 ·exact ⟨1,by decide,by decide,by decide,by decide,by decide,by decide⟩
 ·exact ⟨3,by decide,by decide,by decide,by decide,by decide,by decide⟩
 ·exact ⟨7,by decide,by decide,by decide,by decide,by decide,by decide⟩
 ·exact ⟨15,by decide,by decide,by decide,by decide,by decide,by decide⟩
 ·exact ⟨31,by decide,by decide,by decide,by decide,by decide,by decide⟩
 ·exact ⟨63,by decide,by decide,by decide,by decide,by decide,by decide⟩
theorem spec_VtabOk_L4_both (n : Nat) (x0 : Vtab) (w0 : x0.wf) (x1 : Int) (hp0 : 1 ≤ x1) (hp1 : x1 ≤ 6) (h : x0.Rows.length ≤ 1048580) : ∀ (m k : Nat),k ≤ x0.Rows.length → x0.Rows.length < m + k → impl_VtabOk_L4 n m x0 x1 k = spec_VtabOk_L4 n m x0 x1 k ∧ Tot (spec_VtabOk_L4 n m x0 x1 k)
 | 0,k,h1,h2 => by omega
 | m + 1,k,h1,h2 => by
  rw [spec_VtabOk_L4,impl_VtabOk_L4]
  by_cases hk : k < x0.Rows.length
  ·obtain ⟨ih1,o,ih2⟩ := spec_VtabOk_L4_both n x0 w0 x1 hp0 hp1 h m (k + 1) (by omega) (by omega)
   obtain ⟨a,ha0,ha1,ha2,ha3,ha4,ha5⟩ := spec_VtabOk_mask hp0 hp1
   have hk' : decide ((k : Int) < (x0.Rows.length : Int)) = true := decide_eq_true (by omega)
   have hv : x0.Rows[k] ∈ x0.Rows := List.getElem_mem hk
   have hi := idx_nat hk
   generalize x0.Rows[k] = v at hv hi
   have hw := w0.1.2 v hv
   have hin : impl_allPortsF n x1 = some a := by unfold impl_allPortsF; rw [ha5,ha3]; rfl
   simp only [hk',wrap_nat (by omega : k ≤ 1099511627776),hi,Option.bind_some,cond_true,ih1,ih2,hin,impl_inF_eq,spec_l1InF_val,ha2]
   have hbits := fun hm0 hm1 => bits_in (B := v.Bare) (M := v.Members) hw.2.2.1 hm0 hm1
   by_cases hm : 0 ≤ v.Members ∧ v.Members ≤ a
   ·have hb := hbits hm.1 (by omega)
    simp only [decide_eq_true hm.1,decide_eq_true hm.2,Bool.and_self,Bool.not_true,cond_false]
    by_cases hz : IntKind.wrap .i64 (BitVec.ofInt (IntKind.bits .i64) v.Bare &&& ~~~BitVec.ofInt (IntKind.bits .i64) v.Members).toNat = 0
    ·have h3 := hb.1 hz
     have hz' : ((IntKind.wrap .i64 (BitVec.ofInt (IntKind.bits .i64) v.Bare &&& ~~~BitVec.ofInt (IntKind.bits .i64) v.Members).toNat) != 0) = false := by rw [hz]; rfl
     have hy' : ((IntKind.wrap .i64 (BitVec.ofInt (IntKind.bits .i64) v.Bare &&& BitVec.ofInt (IntKind.bits .i64) v.Members).toNat) != v.Bare) = false := by rw [h3.2.2]; simp
     simp only [hz',hy',decide_eq_true h3.1,decide_eq_true (show v.Bare ≤ a by omega),Bool.and_self,Bool.not_true,cond_false]
     cases k with
     | zero => cases (decide (1 ≤ v.Id) && decide (v.Id ≤ 99)) <;> exact ⟨by trivial,Tot.of⟩
     | succ k =>
      have hw2 : IntKind.wrap .i64 (((k + 1 : Nat) : Int) - 1) = (k : Int) := by rw [wrap64 (by omega) (by omega)]; omega
      have hpos : decide (((k + 1 : Nat) : Int) > 0) = true := decide_eq_true (by omega)
      simp only [hw2,hpos,cond_true,idx_nat (show k < x0.Rows.length by omega),Option.bind_some]
      cases (decide (1 ≤ v.Id) && decide (v.Id ≤ 99)) <;> cases (decide ((x0.Rows[k]'(by omega)).Id ≥ v.Id)) <;> exact ⟨by trivial,Tot.of⟩
    ·have hz' : ((IntKind.wrap .i64 (BitVec.ofInt (IntKind.bits .i64) v.Bare &&& ~~~BitVec.ofInt (IntKind.bits .i64) v.Members).toNat) != 0) = true := by simpa using hz
     have h3 : (decide (0 ≤ v.Bare) && decide (v.Bare ≤ a)) = false ∨ ((IntKind.wrap .i64 (BitVec.ofInt (IntKind.bits .i64) v.Bare &&& BitVec.ofInt (IntKind.bits .i64) v.Members).toNat) != v.Bare) = true := by
      by_cases hq : ((IntKind.wrap .i64 (BitVec.ofInt (IntKind.bits .i64) v.Bare &&& BitVec.ofInt (IntKind.bits .i64) v.Members).toNat) != v.Bare) = true
      ·exact .inr hq
      ·left
       simp at hq
       by_cases hr : 0 ≤ v.Bare ∧ v.Bare ≤ a
       ·have hle := bits_le hw.2.2.1 hm.1 (by omega) hq
        exact absurd (hb.2 ⟨hle.1,hle.2,hq⟩) hz
       ·simp only [Bool.and_eq_false_iff,decide_eq_false_iff_not]; omega
     simp only [hz',cond_true]
     have hspec : (bif !(decide (0 ≤ v.Bare) && decide (v.Bare ≤ a)) then some (Sum.inr false) else bif ((IntKind.wrap .i64 (BitVec.ofInt (IntKind.bits .i64) v.Bare &&& BitVec.ofInt (IntKind.bits .i64) v.Members).toNat) != v.Bare) then some (Sum.inr false) else (bif decide ((k : Int) > 0) then (idx x0.Rows (IntKind.wrap .i64 ((k : Int) - 1))).bind fun v13 => bif decide (v13.Id ≥ v.Id) then some (Sum.inr false) else some o else some o)) = (some (Sum.inr false) : Option (Unit ⊕ Bool)) := by
      rcases h3 with h3 | h3
      ·rw [h3]; rfl
      ·rw [h3]; cases (decide (0 ≤ v.Bare) && decide (v.Bare ≤ a)) <;> rfl
     rw [hspec]
     cases k with
     | zero => cases (decide (1 ≤ v.Id) && decide (v.Id ≤ 99)) <;> exact ⟨by trivial,Tot.of⟩
     | succ k =>
      have hw2 : IntKind.wrap .i64 (((k + 1 : Nat) : Int) - 1) = (k : Int) := by rw [wrap64 (by omega) (by omega)]; omega
      have hpos : decide (((k + 1 : Nat) : Int) > 0) = true := decide_eq_true (by omega)
      simp only [hw2,hpos,cond_true,idx_nat (show k < x0.Rows.length by omega),Option.bind_some]
      cases (decide (1 ≤ v.Id) && decide (v.Id ≤ 99)) <;> cases (decide ((x0.Rows[k]'(by omega)).Id ≥ v.Id)) <;> exact ⟨by trivial,Tot.of⟩
   ·have hm' : (decide (0 ≤ v.Members) && decide (v.Members ≤ a)) = false := by
     simp only [Bool.and_eq_false_iff,decide_eq_false_iff_not]; omega
    simp only [hm',Bool.not_false,cond_true]
    cases k with
    | zero => cases (decide (1 ≤ v.Id) && decide (v.Id ≤ 99)) <;> exact ⟨by trivial,Tot.of⟩
    | succ k =>
     have hw2 : IntKind.wrap .i64 (((k + 1 : Nat) : Int) - 1) = (k : Int) := by rw [wrap64 (by omega) (by omega)]; omega
     have hpos : decide (((k + 1 : Nat) : Int) > 0) = true := decide_eq_true (by omega)
     simp only [hw2,hpos,cond_true,idx_nat (show k < x0.Rows.length by omega),Option.bind_some]
     cases (decide (1 ≤ v.Id) && decide (v.Id ≤ 99)) <;> cases (decide ((x0.Rows[k]'(by omega)).Id ≥ v.Id)) <;> exact ⟨by trivial,Tot.of⟩
  ·have hk' : decide ((k : Int) < (x0.Rows.length : Int)) = false := decide_eq_false (by omega)
   rw [hk']
   exact ⟨by trivial,Tot.of⟩
theorem spec_VtabOk_L3_both (n : Nat) (x0 : Vtab) (h : x0.Rows.length ≤ 1048580) (hn : x0.Rows.length < n) (hq : x0.Pvid.length ≤ 1048580) : ∀ (m k : Nat),k ≤ x0.Pvid.length → x0.Pvid.length < m + k → impl_VtabOk_L3 n m x0 k = spec_VtabOk_L3 n m x0 k ∧ Tot (spec_VtabOk_L3 n m x0 k)
 | 0,k,h1,h2 => by omega
 | m + 1,k,h1,h2 => by
  rw [spec_VtabOk_L3,impl_VtabOk_L3]
  by_cases hk : k < x0.Pvid.length
  ·obtain ⟨ih1,o,ih2⟩ := spec_VtabOk_L3_both n x0 h hn hq m (k + 1) (by omega) (by omega)
   have hk' : decide ((k : Int) < (x0.Pvid.length : Int)) = true := decide_eq_true (by omega)
   obtain ⟨r,hr,_⟩ := spec_RowAtF_ok n x0 x0.Pvid[k] h hn
   simp only [hk',wrap_nat (by omega : k ≤ 1099511627776),idx_nat hk,Option.bind_some,cond_true,ih1,ih2,impl_RowAtF_eq,hr]
   cases decide (r < 0) <;> exact ⟨by trivial,Tot.of⟩
  ·have hk' : decide ((k : Int) < (x0.Pvid.length : Int)) = false := decide_eq_false (by omega)
   rw [hk']
   exact ⟨by trivial,Tot.of⟩
theorem spec_VtabOkF_both (n : Nat) (x0 : Vtab) (w0 : x0.wf) (x1 : Int) (h : x0.sz ≤ 1048580) (hn : x0.sz < n) : impl_VtabOkF n x0 x1 = spec_VtabOkF n x0 x1 ∧ Tot (spec_VtabOkF n x0 x1) := by
 have hs : x0.Rows.length + x0.Pvid.length = x0.sz := rfl
 unfold impl_VtabOkF spec_VtabOkF
 simp only [impl_inF_eq,spec_l1InF_val,Option.bind_some]
 by_cases hp : 1 ≤ x1 ∧ x1 ≤ 6
 ·obtain ⟨a,ha0,ha1,ha2,ha3,ha4,ha5⟩ := spec_VtabOk_mask hp.1 hp.2
  obtain ⟨e1,o,e2⟩ := spec_VtabOk_L4_both n x0 w0 x1 hp.1 hp.2 (by omega) n 0 (by omega) (by omega)
  obtain ⟨f1,q,f2⟩ := spec_VtabOk_L3_both n x0 (by omega) (by omega) (by omega) n 0 (by omega) (by omega)
  have e1' : impl_VtabOk_L4 n n x0 x1 0 = some o := e1.trans e2
  have e2' : spec_VtabOk_L4 n n x0 x1 0 = some o := e2
  have f1' : impl_VtabOk_L3 n n x0 0 = some q := f1.trans f2
  have f2' : spec_VtabOk_L3 n n x0 0 = some q := f2
  simp only [decide_eq_true hp.1,decide_eq_true hp.2,Bool.and_self,Bool.not_true,cond_false,ha4,cond_true,e1',e2',Option.bind_some]
  cases o with
  | inl u =>
   simp only [impl_VtabOk_J1,spec_VtabOk_J1,f1',f2',Option.bind_some]
   cases q <;> exact ⟨rfl,Tot.bif (fun _ => .of) fun _ => Tot.bif (fun _ => .of) fun _ => .of⟩
  | inr r => exact ⟨rfl,Tot.bif (fun _ => .of) fun _ => Tot.bif (fun _ => .of) fun _ => .of⟩
 ·have hp' : (decide (1 ≤ x1) && decide (x1 ≤ 6)) = false := by
   simp only [Bool.and_eq_false_iff,decide_eq_false_iff_not]; omega
  rw [hp']
  exact ⟨by trivial,Tot.of⟩
theorem laws_markVrowSF_ok (n : Nat) (xs : List Vrow) (b : Int) (h : xs.length ≤ 268435456) (hn : xs.length < n) (h0 : 0 ≤ b) (h1 : b + (3 : Nat) * xs.length ≤ 1099511627776) : laws_markVrowSF n xs b = some (b + (3 : Nat) * xs.length,markL (fun _ b => (⟨b,b + 1,b + 2⟩ : Vrow)) 3 xs b) := by
 have := mark_loop (L := laws_markVrowS_L2 n) (f := fun _ b => (⟨b,b + 1,b + 2⟩ : Vrow)) (c := 3) (fun m k ys b v hk hl hv h0 h1 => by
  rw [laws_markVrowS_L2,lt_true hk,idx_at hv]
  simp only [cond_true,Option.bind_some,idx_set hk,wrap64 (show -9223372036854775808 ≤ b + 1 by omega) (by omega),wrap64 (show -9223372036854775808 ≤ b + 1 + 1 by omega) (by omega),wrap64 (show -9223372036854775808 ≤ b + 1 + 1 + 1 by omega) (by omega),wrap_nat (show k ≤ 1099511627776 by omega)]
  rw [idx_set (by simpa using hk)]
  simp only [Option.bind_some,List.set_set,Int.toNat_natCast]
  rw [show b + 1 + 1 = b + 2 by omega,show b + 2 + 1 = b + (3 : Nat) by omega])
  (fun m ys b => by rw [laws_markVrowS_L2,lt_false]; rfl) xs n [] b (by simpa using h) h0 h1 hn
 unfold laws_markVrowSF
 simp only [List.length_nil,List.nil_append] at this
 rw [show laws_markVrowS_L2 n n 0 xs b = _ from this]
 rfl
theorem laws_heldVrowSF_ok (n : Nat) (xs : List Vrow) (b : Int) (h : xs.length ≤ 268435456) (hn : xs.length < n) (h0 : 0 ≤ b) (h1 : b + (3 : Nat) * xs.length ≤ 1099511627776) : laws_heldVrowSF n (markL (fun _ b => (⟨b,b + 1,b + 2⟩ : Vrow)) 3 xs b) b = some (b + (3 : Nat) * xs.length) := by
 have := held_loop (L := laws_heldVrowS_L2 n) (f := fun _ b => (⟨b,b + 1,b + 2⟩ : Vrow)) (c := 3) (fun m k ys b v hk hl hv h0 h1 => by
  rw [laws_heldVrowS_L2,lt_true hk,idx_at hv]
  simp only [cond_true,Option.bind_some,bne_self_eq_false,cond_false,wrap64 (show -9223372036854775808 ≤ b + 1 by omega) (by omega),wrap64 (show -9223372036854775808 ≤ b + 1 + 1 by omega) (by omega),wrap64 (show -9223372036854775808 ≤ b + 1 + 1 + 1 by omega) (by omega),wrap_nat (show k ≤ 1099511627776 by omega)]
  rw [show b + 1 + 1 = b + 2 by omega,show b + 2 + 1 = b + (3 : Nat) by omega]
  simp only [bne_self_eq_false,cond_false])
  (fun m ys b => by rw [laws_heldVrowS_L2,lt_false]; rfl) xs n [] b (by simpa using h) h0 h1 hn
 unfold laws_heldVrowSF
 simp only [List.length_nil,List.nil_append] at this
 rw [show laws_heldVrowS_L2 n n (markL (fun _ b => (⟨b,b + 1,b + 2⟩ : Vrow)) 3 xs b) 0 b = _ from this]
 rfl
theorem laws_markIntSF_ok (n : Nat) (xs : List Int) (b : Int) (h : xs.length ≤ 268435456) (hn : xs.length < n) (h0 : 0 ≤ b) (h1 : b + (1 : Nat) * xs.length ≤ 1099511627776) : laws_markIntSF n xs b = some (b + (1 : Nat) * xs.length,markL (fun _ b => b) 1 xs b) := by
 have := mark_loop (L := laws_markIntS_L2 n) (f := fun _ b => b) (c := 1) (fun m k ys b v hk hl hv h0 h1 => by
  rw [laws_markIntS_L2,lt_true hk,idx_at hv]
  simp only [cond_true,Option.bind_some,wrap64 (show -9223372036854775808 ≤ b + 1 by omega) (by omega),wrap_nat (show k ≤ 1099511627776 by omega),Int.toNat_natCast]
  rfl)
  (fun m ys b => by rw [laws_markIntS_L2,lt_false]; rfl) xs n [] b (by simpa using h) h0 h1 hn
 unfold laws_markIntSF
 simp only [List.length_nil,List.nil_append] at this
 rw [show laws_markIntS_L2 n n 0 xs b = _ from this]
 rfl
theorem laws_heldIntSF_ok (n : Nat) (xs : List Int) (b : Int) (h : xs.length ≤ 268435456) (hn : xs.length < n) (h0 : 0 ≤ b) (h1 : b + (1 : Nat) * xs.length ≤ 1099511627776) : laws_heldIntSF n (markL (fun _ b => b) 1 xs b) b = some (b + (1 : Nat) * xs.length) := by
 have := held_loop (L := laws_heldIntS_L2 n) (f := fun _ b => b) (c := 1) (fun m k ys b v hk hl hv h0 h1 => by
  rw [laws_heldIntS_L2,lt_true hk,idx_at hv]
  simp only [cond_true,Option.bind_some,bne_self_eq_false,cond_false,wrap64 (show -9223372036854775808 ≤ b + 1 by omega) (by omega),wrap_nat (show k ≤ 1099511627776 by omega)]
  rfl)
  (fun m ys b => by rw [laws_heldIntS_L2,lt_false]; rfl) xs n [] b (by simpa using h) h0 h1 hn
 unfold laws_heldIntSF
 simp only [List.length_nil,List.nil_append] at this
 rw [show laws_heldIntS_L2 n n (markL (fun _ b => b) 1 xs b) 0 b = _ from this]
 rfl
theorem spec_l9CopyF_eq (n : Nat) (x : Vtab) (h : x.sz ≤ 268435456) : spec_l9CopyF n x = some x := by
 have hs : x.Rows.length + x.Pvid.length = x.sz := rfl
 unfold spec_l9CopyF
 simp only [List.length_nil,Nat.zero_add,decide_eq_true (show x.Rows.length ≤ 268435456 by omega),decide_eq_true (show x.Pvid.length ≤ 268435456 by omega),cond_true,List.nil_append]
theorem impl_copyVtabF_eq (n : Nat) (x : Vtab) (h : x.sz ≤ 268435456) : impl_copyVtabF n x = some x := by
 have hs : x.Rows.length + x.Pvid.length = x.sz := rfl
 unfold impl_copyVtabF impl_copyIntsF
 simp only [List.length_nil,Nat.zero_add,decide_eq_true (show x.Rows.length ≤ 268435456 by omega),decide_eq_true (show x.Pvid.length ≤ 268435456 by omega),cond_true,List.nil_append,Option.bind_some]
theorem laws_eqFentF_refl (n : Nat) (v : Fent) : laws_eqFentF n v v = some true := by simp [laws_eqFentF]
theorem laws_eqFentSF_refl (n : Nat) (xs : List Fent) (h : xs.length ≤ 268435456) (hn : xs.length < n) : laws_eqFentSF n xs xs = some true := by
 unfold laws_eqFentSF
 have := eq_loop (L := laws_eqFentS_L2 n) (f := laws_eqFentF n) (fun m xs ys i => rfl) xs (by omega) (fun v _ => laws_eqFentF_refl n v) n 0 (by omega) (by omega)
 simp only [bne_self_eq_false,cond_false]
 rw [show (laws_eqFentS_L2 n n xs xs 0) = _ from this]
 rfl
def Bridge.sz (x : Bridge) : Nat := x.Name.size + x.Ports.length + x.F.length + x.V.sz
theorem laws_eqBridgeF_refl (n : Nat) (x : Bridge) (h : x.sz ≤ 268435456) (hn : x.sz < n) : laws_eqBridgeF n x x = some true := by
 unfold Bridge.sz at h hn
 unfold laws_eqBridgeF
 rw [laws_eqPtSF_refl n x.Ports (by omega) (by omega),laws_eqFentSF_refl n x.F (by omega) (by omega),laws_eqVtabF_refl n x.V (by omega) (by omega)]
 simp
theorem laws_markPtSF_ok (n : Nat) (xs : List Pt) (b : Int) (h : xs.length ≤ 268435456) (hn : xs.length < n) (h0 : 0 ≤ b) (h1 : b + (8 : Nat) * xs.length ≤ 1099511627776) : laws_markPtSF n xs b = some (b + (8 : Nat) * xs.length,markL (fun _ b => (⟨Int.tmod b 3 == 0,b + 1,Int.tmod (b + 2) 3 == 0,⟨b + 3,b + 4,b + 5,b + 6,b + 7⟩⟩ : Pt)) 8 xs b) := by
 have := mark_loop (L := laws_markPtS_L2 n) (f := fun _ b => (⟨Int.tmod b 3 == 0,b + 1,Int.tmod (b + 2) 3 == 0,⟨b + 3,b + 4,b + 5,b + 6,b + 7⟩⟩ : Pt)) (c := 8) (fun m k ys b v hk hl hv h0 h1 => by
  rw [laws_markPtS_L2,lt_true hk,idx_at hv]
  simp (disch := omega) only [cond_true,Option.bind_some,List.set_set,idx_set' hk,wrap64,wrap_nat,Int.toNat_natCast,show decide ((3 : Int) ≠ 0) = true from rfl]
  simp only [Int.add_assoc,Int.reduceAdd,show ((8 : Nat) : Int) = 8 from rfl]
  rfl)
  (fun m ys b => by rw [laws_markPtS_L2,lt_false]; rfl) xs n [] b (by simpa using h) h0 h1 hn
 unfold laws_markPtSF
 simp only [List.length_nil,List.nil_append] at this
 rw [show laws_markPtS_L2 n n 0 xs b = _ from this]
 rfl
theorem laws_heldPtSF_ok (n : Nat) (xs : List Pt) (b : Int) (h : xs.length ≤ 268435456) (hn : xs.length < n) (h0 : 0 ≤ b) (h1 : b + (8 : Nat) * xs.length ≤ 1099511627776) : laws_heldPtSF n (markL (fun _ b => (⟨Int.tmod b 3 == 0,b + 1,Int.tmod (b + 2) 3 == 0,⟨b + 3,b + 4,b + 5,b + 6,b + 7⟩⟩ : Pt)) 8 xs b) b = some (b + (8 : Nat) * xs.length) := by
 have := held_loop (L := laws_heldPtS_L2 n) (f := fun _ b => (⟨Int.tmod b 3 == 0,b + 1,Int.tmod (b + 2) 3 == 0,⟨b + 3,b + 4,b + 5,b + 6,b + 7⟩⟩ : Pt)) (c := 8) (fun m k ys b v hk hl hv h0 h1 => by
  rw [laws_heldPtS_L2,lt_true hk,idx_at hv]
  simp (disch := omega) only [cond_true,Option.bind_some,wrap64,wrap_nat,Int.toNat_natCast,show decide ((3 : Int) ≠ 0) = true from rfl]
  simp only [Int.add_assoc,Int.reduceAdd,show ((8 : Nat) : Int) = 8 from rfl,bne_self_eq_false,beq_self_eq_true,Bool.not_true,cond_false]
  rfl)
  (fun m ys b => by rw [laws_heldPtS_L2,lt_false]; rfl) xs n [] b (by simpa using h) h0 h1 hn
 unfold laws_heldPtSF
 simp only [List.length_nil,List.nil_append] at this
 rw [show laws_heldPtS_L2 n n (markL _ 8 xs b) 0 b = _ from this]
 rfl
theorem laws_markFentSF_ok (n : Nat) (xs : List Fent) (b : Int) (h : xs.length ≤ 268435456) (hn : xs.length < n) (h0 : 0 ≤ b) (h1 : b + (5 : Nat) * xs.length ≤ 1099511627776) : laws_markFentSF n xs b = some (b + (5 : Nat) * xs.length,markL (fun _ b => (⟨b,b + 1,b + 2,b + 3,Int.tmod (b + 4) 3 == 0⟩ : Fent)) 5 xs b) := by
 have := mark_loop (L := laws_markFentS_L2 n) (f := fun _ b => (⟨b,b + 1,b + 2,b + 3,Int.tmod (b + 4) 3 == 0⟩ : Fent)) (c := 5) (fun m k ys b v hk hl hv h0 h1 => by
  rw [laws_markFentS_L2,lt_true hk,idx_at hv]
  simp (disch := omega) only [cond_true,Option.bind_some,List.set_set,idx_set' hk,wrap64,wrap_nat,Int.toNat_natCast,show decide ((3 : Int) ≠ 0) = true from rfl]
  simp only [Int.add_assoc,Int.reduceAdd,show ((5 : Nat) : Int) = 5 from rfl]
  rfl)
  (fun m ys b => by rw [laws_markFentS_L2,lt_false]; rfl) xs n [] b (by simpa using h) h0 h1 hn
 unfold laws_markFentSF
 simp only [List.length_nil,List.nil_append] at this
 rw [show laws_markFentS_L2 n n 0 xs b = _ from this]
 rfl
theorem laws_heldFentSF_ok (n : Nat) (xs : List Fent) (b : Int) (h : xs.length ≤ 268435456) (hn : xs.length < n) (h0 : 0 ≤ b) (h1 : b + (5 : Nat) * xs.length ≤ 1099511627776) : laws_heldFentSF n (markL (fun _ b => (⟨b,b + 1,b + 2,b + 3,Int.tmod (b + 4) 3 == 0⟩ : Fent)) 5 xs b) b = some (b + (5 : Nat) * xs.length) := by
 have := held_loop (L := laws_heldFentS_L2 n) (f := fun _ b => (⟨b,b + 1,b + 2,b + 3,Int.tmod (b + 4) 3 == 0⟩ : Fent)) (c := 5) (fun m k ys b v hk hl hv h0 h1 => by
  rw [laws_heldFentS_L2,lt_true hk,idx_at hv]
  simp (disch := omega) only [cond_true,Option.bind_some,wrap64,wrap_nat,Int.toNat_natCast,show decide ((3 : Int) ≠ 0) = true from rfl]
  simp only [Int.add_assoc,Int.reduceAdd,show ((5 : Nat) : Int) = 5 from rfl,bne_self_eq_false,beq_self_eq_true,Bool.not_true,cond_false]
  rfl)
  (fun m ys b => by rw [laws_heldFentS_L2,lt_false]; rfl) xs n [] b (by simpa using h) h0 h1 hn
 unfold laws_heldFentSF
 simp only [List.length_nil,List.nil_append] at this
 rw [show laws_heldFentS_L2 n n (markL _ 5 xs b) 0 b = _ from this]
 rfl
theorem impl_PtOkF_eq (n : Nat) : impl_PtOkF n = spec_PtOkF n := by
 funext v
 unfold impl_PtOkF spec_PtOkF
 rw [impl_inF_eq,impl_VecOkF_eq]
 obtain ⟨b,hb⟩ := spec_l1InF_tot n v.Cost 1 1000
 rw [hb]
 cases b <;> cases v.Up <;> cases v.Has <;> rfl
theorem spec_PtOkF_tot (n : Nat) (v : Pt) : Tot (spec_PtOkF n v) := by
 unfold spec_PtOkF
 repeat' first | exact Tot.of | refine Tot.bind (spec_l1InF_tot _ _ _ _) fun _ _ => ?_ | refine Tot.bind (spec_VecOkF_tot _ _) fun _ _ => ?_ | refine Tot.bif (fun _ => ?_) (fun _ => ?_)
theorem spec_l8EntF_tot (n : Nat) (v : Fent) : Tot (spec_l8EntF n v) := by
 unfold spec_l8EntF
 repeat' first | exact Tot.of | refine Tot.bind (spec_l1InF_tot _ _ _ _) fun _ _ => ?_ | refine Tot.bif (fun _ => ?_) (fun _ => ?_)
theorem impl_fentOkF_eq (n : Nat) : impl_fentOkF n = spec_l8EntF n := rfl
theorem impl_behindF_eq (n : Nat) (v u : Fent) : impl_behindF n u v.Tag v.Mac = spec_l8AheadF n v u.Tag u.Mac := by
 unfold impl_behindF spec_l8AheadF
 by_cases h1 : v.Tag = u.Tag
 ·simp [h1]
 ·have e1 : (v.Tag != u.Tag) = true := by simpa using h1
  have e2 : (u.Tag == v.Tag) = false := by simpa using fun e : u.Tag = v.Tag => h1 e.symm
  rw [e1,e2]
  by_cases h2 : v.Tag < u.Tag
  ·rw [decide_eq_true h2]; rfl
  ·rw [decide_eq_false h2]; rfl
theorem spec_l8AheadF_tot (n : Nat) (v : Fent) (a b : Int) : Tot (spec_l8AheadF n v a b) := Tot.bif (fun _ => .of) (fun _ => .of)
theorem spec_FdbOk_L2_both (n : Nat) (xs : List Fent) (h : xs.length ≤ 1048580) : ∀ (m k : Nat),k ≤ xs.length → xs.length < m + k → impl_FdbOk_L2 n m xs k = spec_FdbOk_L2 n m xs k ∧ Tot (spec_FdbOk_L2 n m xs k)
 | 0,k,h1,h2 => by omega
 | m + 1,k,h1,h2 => by
  rw [spec_FdbOk_L2,impl_FdbOk_L2]
  by_cases hk : k < xs.length
  ·obtain ⟨ih1,o,ih2⟩ := spec_FdbOk_L2_both n xs h m (k + 1) (by omega) (by omega)
   rw [lt_true hk]
   obtain ⟨a,ha⟩ := spec_l8EntF_tot n xs[k]
   simp only [wrap_nat (by omega : k ≤ 1099511627776),idx_nat hk,Option.bind_some,cond_true,ih1,ih2,impl_fentOkF_eq,ha]
   cases k with
   | zero => cases a <;> exact ⟨by trivial,Tot.of⟩
   | succ k =>
    have hw2 : IntKind.wrap .i64 (((k + 1 : Nat) : Int) - 1) = (k : Int) := by rw [wrap64 (by omega) (by omega)]; omega
    have hpos : decide (((k + 1 : Nat) : Int) > 0) = true := decide_eq_true (by omega)
    obtain ⟨b,hb⟩ := spec_l8AheadF_tot n (xs[k]'(by omega)) xs[k + 1].Tag xs[k + 1].Mac
    simp only [hw2,hpos,cond_true,idx_nat (show k < xs.length by omega),Option.bind_some,impl_behindF_eq,hb]
    cases a <;> cases b <;> exact ⟨by trivial,Tot.of⟩
  ·have he : k = xs.length := by omega
   rw [he,lt_false]
   exact ⟨rfl,Tot.of⟩
theorem spec_FdbOkF_both (n : Nat) (xs : List Fent) (h : xs.length ≤ 1048580) (hn : xs.length < n) : ∃ b,spec_FdbOkF n xs = some b ∧ impl_FdbOkF n xs = some b := by
 obtain ⟨e1,o,e2⟩ := spec_FdbOk_L2_both n xs h n 0 (by omega) (by omega)
 have e1' : impl_FdbOk_L2 n n xs 0 = some o := e1.trans e2
 have e2' : spec_FdbOk_L2 n n xs 0 = some o := e2
 unfold spec_FdbOkF impl_FdbOkF
 rw [e1',e2']
 cases o <;> exact ⟨_,rfl,rfl⟩
theorem impl_BridgeOk_L2_eq (n : Nat) : impl_BridgeOk_L2 n = spec_BridgeOk_L2 n := by
 funext m
 induction m with
 | zero => rfl
 | succ m ih => funext x i; simp only [impl_BridgeOk_L2,spec_BridgeOk_L2,ih,impl_PtOkF_eq]
theorem spec_BridgeOk_L2_tot (n : Nat) (x : Bridge) (h : x.Ports.length ≤ 1048580) : ∀ (m k : Nat),k ≤ x.Ports.length → x.Ports.length < m + k → Tot (spec_BridgeOk_L2 n m x k)
 | 0,k,h1,h2 => by omega
 | m + 1,k,h1,h2 => by
  rw [spec_BridgeOk_L2]
  refine Tot.step (fun hk => ?_) .of
  have ih := spec_BridgeOk_L2_tot n x h m (k + 1) (by omega) (by omega)
  rw [wrap_nat (by omega : k ≤ 1099511627776)]
  exact Tot.bind (idx_tot hk) fun _ _ => Tot.bind (spec_PtOkF_tot _ _) fun _ _ => Tot.bif (fun _ => .of) fun _ => ih
theorem spec_BridgeOkF_both (n : Nat) (x : Bridge) (wx : x.wf) (h : x.sz ≤ 1048580) (hn : x.sz < n) : ∃ b,spec_BridgeOkF n x = some b ∧ impl_BridgeOkF n x = some b := by
 have hs : x.Name.size + x.Ports.length + x.F.length + x.V.sz = x.sz := rfl
 obtain ⟨o,ho⟩ := spec_BridgeOk_L2_tot n x (by omega) n 0 (by omega) (by omega)
 have ho' : spec_BridgeOk_L2 n n x 0 = some o := ho
 obtain ⟨f,hf1,hf2⟩ := spec_FdbOkF_both n x.F (by omega) (by omega)
 obtain ⟨g,v,hv⟩ := spec_VtabOkF_both n x.V ⟨wx.2.2.2.2.1,wx.2.2.2.2.2.1,trivial⟩ (x.Ports.length : Int) (by omega) (by omega)
 unfold spec_BridgeOkF impl_BridgeOkF
 rw [impl_BridgeOk_L2_eq,ho',Option.bind_some,Option.bind_some]
 cases o with
 | inr r => exact ⟨_,rfl,rfl⟩
 | inl u =>
  simp only [spec_BridgeOk_J1,impl_BridgeOk_J1,impl_inF_eq,impl_isCountF,spec_l11CountsF,spec_l1InF_val,hf1,hf2,g,hv,Option.bind_some]
  have hname : decide ((x.Name.size : Int) > 10) = !decide ((x.Name.size : Int) ≤ 10) := by
   by_cases h : (x.Name.size : Int) ≤ 10
   ·rw [decide_eq_true h,decide_eq_false (by omega)]; rfl
   ·rw [decide_eq_false h,decide_eq_true (by omega)]; rfl
  rw [hname]
  generalize decide ((x.Name.size : Int) ≤ 10) = b1
  generalize (decide (1 ≤ x.Id) && decide (x.Id ≤ 99)) = b2
  generalize (decide (1 ≤ (x.Ports.length : Int)) && decide ((x.Ports.length : Int) ≤ 6)) = b3
  generalize (decide (0 ≤ x.Ticks) && decide (x.Ticks ≤ 1000000)) = b4
  generalize (decide (0 ≤ x.Parse) && decide (x.Parse ≤ 1000000)) = b5
  generalize (decide (0 ≤ x.Word) && decide (x.Word ≤ 1000000)) = b6
  generalize (decide (0 ≤ x.Drops) && decide (x.Drops ≤ 1000000)) = b7
  generalize (decide (0 ≤ x.Vers) && decide (x.Vers ≤ 1000000)) = b8
  clear hf1 hf2 g hv hname
  revert f v b1 b2 b3 b4 b5 b6 b7 b8
  decide +kernel
theorem laws_szLinkSF_ok (n : Nat) {xs : List Link} {b : Int} (h0 : 0 ≤ b) (h1 : b ≤ 1048576) (hl : xs.length ≤ maxLen) : ∃ r,laws_szLinkSF n xs b = some r ∧ Lft b xs.length r := sz_step h0 h1 hl
def Net.sz (x : Net) : Nat := (x.Bridges.length + sumSz Bridge.sz x.Bridges) + x.Links.length + x.Said.length
theorem laws_toLinkSF_eq (n : Nat) (xs : List Link) (h : xs.length ≤ 1048576) (hn : xs.length < n) : laws_toLinkSF n xs = some xs := by
 unfold laws_toLinkSF
 rw [decide_eq_true (by omega : (0 : Int) ≤ (xs.length : Int)),decide_eq_true (by omega : (xs.length : Int) ≤ 268435456)]
 have := copyF_loop (L := laws_toLinkS_L2 n) (f := laws_toLinkF n) (fun m xs i ys => rfl) xs (by omega) (fun v _ => rfl) n 0 (List.replicate ((xs.length : Int)).toNat (⟨0,0,0,0⟩ : Link)) (by omega) (by omega) (by simp) rfl
 simp only [Bool.and_self,cond_true]
 rw [show (laws_toLinkS_L2 n n xs 0 (List.replicate ((xs.length : Int)).toNat (⟨0,0,0,0⟩ : Link))) = _ from this]
 rfl
theorem laws_eqLinkF_refl (n : Nat) (v : Link) : laws_eqLinkF n v v = some true := by simp [laws_eqLinkF]
theorem laws_eqLinkSF_refl (n : Nat) (xs : List Link) (h : xs.length ≤ 268435456) (hn : xs.length < n) : laws_eqLinkSF n xs xs = some true := by
 unfold laws_eqLinkSF
 have := eq_loop (L := laws_eqLinkS_L2 n) (f := laws_eqLinkF n) (fun m xs ys i => rfl) xs (by omega) (fun v _ => laws_eqLinkF_refl n v) n 0 (by omega) (by omega)
 simp only [bne_self_eq_false,cond_false]
 rw [show (laws_eqLinkS_L2 n n xs xs 0) = _ from this]
 rfl
theorem laws_eqSayF_refl (n : Nat) (v : Say) : laws_eqSayF n v v = some true := by simp [laws_eqSayF,laws_eqVecF_refl]
theorem laws_eqSaySF_refl (n : Nat) (xs : List Say) (h : xs.length ≤ 268435456) (hn : xs.length < n) : laws_eqSaySF n xs xs = some true := by
 unfold laws_eqSaySF
 have := eq_loop (L := laws_eqSayS_L2 n) (f := laws_eqSayF n) (fun m xs ys i => rfl) xs (by omega) (fun v _ => laws_eqSayF_refl n v) n 0 (by omega) (by omega)
 simp only [bne_self_eq_false,cond_false]
 rw [show (laws_eqSayS_L2 n n xs xs 0) = _ from this]
 rfl
theorem laws_eqBridgeSF_refl (n : Nat) (xs : List Bridge) (h : xs.length + sumSz Bridge.sz xs ≤ 268435456) (hn : xs.length + sumSz Bridge.sz xs < n) : laws_eqBridgeSF n xs xs = some true := by
 unfold laws_eqBridgeSF
 have := eq_loop (L := laws_eqBridgeS_L2 n) (f := laws_eqBridgeF n) (fun m xs ys i => rfl) xs (by omega) (fun v hv => by have := sumSz_mem (sz := Bridge.sz) hv; exact laws_eqBridgeF_refl n v (by omega) (by omega)) n 0 (by omega) (by omega)
 simp only [bne_self_eq_false,cond_false]
 rw [show (laws_eqBridgeS_L2 n n xs xs 0) = _ from this]
 rfl
theorem laws_eqNetF_refl (n : Nat) (x : Net) (h : x.sz ≤ 268435456) (hn : x.sz < n) : laws_eqNetF n x x = some true := by
 unfold Net.sz at h hn
 unfold laws_eqNetF
 rw [laws_eqBridgeSF_refl n x.Bridges (by omega) (by omega),laws_eqLinkSF_refl n x.Links (by omega) (by omega),laws_eqSaySF_refl n x.Said (by omega) (by omega)]
 rfl
theorem intWf_small {z : Int} (h0 : -1000000 ≤ z) (h1 : z ≤ 1000000) : intWf z := by
 show (Lit.int .i64 z).wf = true
 simp [Lit.wf,show IntKind.wrap .i64 z = z from wrap64 (by omega) (by omega)]
 exact ⟨by show (-9223372036854775808 : Int) ≤ z; omega,by omega⟩
def bitV (a : Int) (i : Nat) : Bool := (IntKind.wrap .i64 (BitVec.ofInt (IntKind.bits .i64) (Int.fdiv a (2 ^ min ((i : Int)).toNat (IntKind.bits .i64))) &&& BitVec.ofInt (IntKind.bits .i64) 1).toNat == 1)
theorem bitV_nine : ∀ a < 64,bitV ((a : Nat) : Int) 9 = false := by decide +kernel
theorem impl_hasPortF_val (n : Nat) (a : Int) (i : Nat) (h : i ≤ 62) : impl_hasPortF n a i = some (bitV a i) := by
 unfold impl_hasPortF
 simp only [impl_inF_eq,spec_l1InF_val,Option.bind_some,decide_eq_true (show (0 : Int) ≤ (i : Int) by omega),decide_eq_true (show (i : Int) ≤ 62 by omega),Bool.and_self,cond_true]
 rfl
theorem impl_hasPortF_neg (n : Nat) (a i : Int) (h : i < 0) : impl_hasPortF n a i = some false := by
 unfold impl_hasPortF
 simp only [impl_inF_eq,spec_l1InF_val,Option.bind_some,decide_eq_false (show ¬ (0 : Int) ≤ i by omega),Bool.false_and,cond_false]
theorem spec_l9BitF_val (n : Nat) (a : Int) (i : Nat) (h : i ≤ 7) : spec_l9BitF n a i = some (bitV a i) := by
 unfold spec_l9BitF
 have hu : IntKind.wrap .u64 (i : Int) = i := wrapU (by omega)
 simp only [spec_l1InF_val,Option.bind_some,decide_eq_true (show (0 : Int) ≤ (i : Int) by omega),decide_eq_true (show (i : Int) ≤ 7 by omega),Bool.and_self,cond_true,hu]
 rfl
theorem spec_l9BitF_out (n : Nat) (a i : Int) (h : i < 0 ∨ 7 < i) : spec_l9BitF n a i = some false := by
 unfold spec_l9BitF
 have : (decide ((0 : Int) ≤ i) && decide (i ≤ 7)) = false := by
  simp only [Bool.and_eq_false_iff,decide_eq_false_iff_not]; omega
 simp only [spec_l1InF_val,Option.bind_some,this,cond_false]
theorem idx_lt {α : Type} {xs : List α} {i : Int} {v : α} (h : idx xs i = some v) : 0 ≤ i ∧ i < xs.length := by
 obtain ⟨g1,g2⟩ := idx_get h
 have := (List.getElem?_eq_some_iff.1 g2).1
 omega
theorem bifE {c : Bool} {x : Option Bool} (h : (bif c then x else some false) = some true) : c = true ∧ x = some true := by
 cases c with
 | true => exact ⟨rfl,h⟩
 | false => cases h
theorem scan_inv {L : Nat → Int → Option (Unit ⊕ Bool)} {N : Nat} {P : Nat → Prop} (h0 : ∀ k,L 0 k = none) (hs : ∀ m (k : Nat) o,k < N → L (m + 1) (k : Int) = some o → o = .inr false ∨ (P k ∧ L m ((k + 1 : Nat) : Int) = some o)) (he : ∀ m o,L (m + 1) (N : Int) = some o → o = .inl ()) :
  ∀ (m k : Nat) o,k ≤ N → L m (k : Int) = some o → o = .inr false ∨ (o = .inl () ∧ ∀ j,k ≤ j → j < N → P j)
 | 0,k,o,_,h => by rw [h0] at h; cases h
 | m + 1,k,o,hk,h => by
  by_cases hlt : k < N
  ·rcases hs m k o hlt h with e | ⟨hp,h⟩
   ·exact .inl e
   ·rcases scan_inv h0 hs he m (k + 1) o (by omega) h with e | ⟨e,h2⟩
    ·exact .inl e
    ·refine .inr ⟨e,fun j hj hj2 => ?_⟩
     by_cases hjk : j = k
     ·subst hjk; exact hp
     ·exact h2 j (by omega) hj2
  ·have : k = N := by omega
   subst this
   exact .inr ⟨he m o h,fun j hj hj2 => by omega⟩
theorem spec_BridgeOkF_ports (n : Nat) (x : Bridge) (hl : x.Ports.length ≤ 1048580) {o : Unit ⊕ Bool} (h : spec_BridgeOk_L2 n n x 0 = some o) : o = .inr false ∨ (o = .inl () ∧ ∀ j (hj : j < x.Ports.length),spec_PtOkF n x.Ports[j] = some true) := by
 rcases scan_inv (L := fun m k => spec_BridgeOk_L2 n m x k) (N := x.Ports.length) (P := fun j => ∀ hj : j < x.Ports.length,spec_PtOkF n x.Ports[j] = some true) (fun k => rfl) (fun m k o hk h => by
  simp only [spec_BridgeOk_L2] at h
  rw [lt_true hk,cond_true,idx_nat hk,Option.bind_some,wrap_nat (by omega : k ≤ 1099511627776)] at h
  obtain ⟨b,hb⟩ := spec_PtOkF_tot n x.Ports[k]
  rw [hb,Option.bind_some] at h
  cases b with
  | true => exact .inr ⟨fun _ => hb,h⟩
  | false => cases h; exact .inl rfl) (fun m o h => by
  simp only [spec_BridgeOk_L2] at h
  rw [lt_false] at h; cases h; rfl) n 0 o (by omega) h with e | ⟨e,h2⟩
 ·exact .inl e
 ·exact .inr ⟨e,fun j hj => h2 j (by omega) hj hj⟩
theorem spec_BridgeOkF_parts (n : Nat) (x : Bridge) (hl : x.Ports.length ≤ 1048580) (h : spec_BridgeOkF n x = some true) : 1 ≤ x.Ports.length ∧ x.Ports.length ≤ 6 ∧ 1 ≤ x.Id ∧ x.Id ≤ 99 ∧ x.Name.size ≤ 10 ∧ spec_FdbOkF n x.F = some true ∧ spec_VtabOkF n x.V (x.Ports.length : Int) = some true ∧
  (0 ≤ x.Ticks ∧ x.Ticks ≤ 1000000) ∧ (0 ≤ x.Parse ∧ x.Parse ≤ 1000000) ∧ (0 ≤ x.Word ∧ x.Word ≤ 1000000) ∧ (0 ≤ x.Drops ∧ x.Drops ≤ 1000000) ∧ (0 ≤ x.Vers ∧ x.Vers ≤ 1000000) ∧ ∀ j (hj : j < x.Ports.length),spec_PtOkF n x.Ports[j] = some true := by
 unfold spec_BridgeOkF at h
 obtain ⟨o,ho,h⟩ := bind_some h
 rcases spec_BridgeOkF_ports n x hl ho with rfl | ⟨rfl,hp⟩
 ·cases h
 ·simp only [spec_BridgeOk_J1,spec_l11CountsF,spec_l1InF_val,Option.bind_some] at h
  obtain ⟨h1,h⟩ := bifE h
  obtain ⟨h2,h⟩ := bifE h
  obtain ⟨h3,h⟩ := bifE h
  obtain ⟨b4,h4,h⟩ := bind_some h
  obtain ⟨rfl,h⟩ := bifE h
  obtain ⟨b5,h5,h⟩ := bind_some h
  obtain ⟨rfl,h⟩ := bifE h
  obtain ⟨b6,h6,h⟩ := bind_some h
  cases h
  obtain ⟨h7,h6⟩ := bifE h6
  obtain ⟨h8,h6⟩ := bifE h6
  obtain ⟨h9,h6⟩ := bifE h6
  obtain ⟨h10,h6⟩ := bifE h6
  have h11 := Option.some.inj h6
  simp only [Bool.and_eq_true,decide_eq_true_eq] at h1 h2 h3 h7 h8 h9 h10 h11
  exact ⟨by omega,by omega,h1.1,h1.2,by omega,h4,h5,h7,h8,h9,h10,h11,hp⟩
theorem impl_moreF_eq (n : Nat) (z : Int) (h0 : 0 ≤ z) (h1 : z ≤ 1000000) : ∃ y,spec_l11OneF n z = some y ∧ impl_moreF n z = some y ∧ 0 ≤ y ∧ y ≤ 1000000 := by
 unfold spec_l11OneF impl_moreF
 rw [wrap64 (by omega) (by omega)]
 by_cases h : z ≥ 1000000
 ·rw [decide_eq_true h,if_pos (by omega)]; exact ⟨z,rfl,by rw [show z = 1000000 by omega],h0,h1⟩
 ·rw [decide_eq_false h,if_neg (by omega)]; exact ⟨_,rfl,rfl,by omega,by omega⟩
theorem filt_loop {α β : Type} {p : α → Bool} {L : Nat → Int → List α → Option (List α ⊕ β)} (xs : List α) (hx : xs.length ≤ 134217728)
  (h : ∀ m (k : Nat) (acc : List α) (hk : k < xs.length),acc.length ≤ k → L (m + 1) k acc = L m ((k + 1 : Nat) : Int) (acc ++ if p xs[k] then [xs[k]] else [])) (he : ∀ m (acc : List α),L (m + 1) (xs.length : Int) acc = some (.inl acc)) :
  ∀ (m k : Nat) (acc : List α),k ≤ xs.length → xs.length < m + k → acc.length ≤ k → L m k acc = some (.inl (acc ++ (xs.drop k).filter p))
 | 0,k,acc,h1,h2,h3 => by omega
 | m + 1,k,acc,h1,h2,h3 => by
  by_cases hk : k < xs.length
  ·rw [h m k acc hk h3,filt_loop xs hx h he m (k + 1) _ (by omega) (by omega) (by split <;> simp <;> omega),List.drop_eq_getElem_cons hk,List.filter_cons,List.append_assoc]
   split <;> simp
  ·have : k = xs.length := by omega
   subst this
   rw [he m acc]
   simp
theorem spec_FlushPortF_val (n : Nat) (xs : List Fent) (p : Int) (h : xs.length ≤ 134217728) (hn : xs.length < n) : spec_FlushPortF n xs p = some (xs.filter fun v => v.Static || v.Port != p) := by
 have := filt_loop (p := fun v : Fent => v.Static || v.Port != p) (L := fun m k acc => spec_FlushPort_L2 n m xs p k acc) xs h (fun m k acc hk ha => by
  simp only [spec_FlushPort_L2]
  rw [lt_true hk,cond_true,idx_nat hk,Option.bind_some,wrap_nat (by omega : k ≤ 1099511627776)]
  have hg : ∀ v : Fent,decide (acc.length + [v].length ≤ 268435456) = true := fun v => decide_eq_true (by simp; omega)
  simp only [Option.bind_some,hg,cond_true]
  cases hs : xs[k].Static <;> cases hq : (xs[k].Port != p) <;> simp [hs,hq]) (fun m acc => by simp only [spec_FlushPort_L2]; rw [lt_false]; rfl) n 0 [] (by omega) (by omega) (by simp)
 unfold spec_FlushPortF
 rw [show spec_FlushPort_L2 n n xs p 0 [] = _ from this]
 simp [spec_FlushPort_J1]
theorem impl_FlushPortF_val (n : Nat) (xs : List Fent) (p : Int) (h : xs.length ≤ 134217728) (hn : xs.length < n) : impl_FlushPortF n xs p = some (xs.filter fun v => v.Static || v.Port != p) := by
 have := filt_loop (p := fun v : Fent => v.Static || v.Port != p) (L := fun m k acc => impl_FlushPort_L2 n m xs p k acc) xs h (fun m k acc hk ha => by
  simp only [impl_FlushPort_L2]
  rw [lt_true hk,cond_true,idx_nat hk,Option.bind_some,wrap_nat (by omega : k ≤ 1099511627776)]
  have hg : ∀ v : Fent,decide (acc.length + [v].length ≤ 268435456) = true := fun v => decide_eq_true (by simp; omega)
  simp only [Option.bind_some,hg,cond_true]
  cases hs : xs[k].Static <;> cases hq : (xs[k].Port != p) <;> simp [hs,hq]) (fun m acc => by simp only [impl_FlushPort_L2]; rw [lt_false]; rfl) n 0 [] (by omega) (by omega) (by simp)
 unfold impl_FlushPortF
 rw [show impl_FlushPort_L2 n n xs p 0 [] = _ from this]
 simp [impl_FlushPort_J1]
theorem spec_l11Turned_L2_ok (n : Nat) (bits : Int) (x : Bridge) (h : x.Ports.length ≤ 6) : ∀ (m k : Nat) (ys : List Fent),k ≤ x.Ports.length → x.Ports.length < m + k → ys.length ≤ 134217728 → ys.length < n → ∃ zs : List Fent,spec_l11Turned_L2 n m bits x k ys = some (.inl zs) ∧ impl_Bridge_turn_L2 n m bits x k ys = some (.inl zs) ∧ zs.length ≤ ys.length ∧ (∀ v ∈ zs,v ∈ ys) ∧ ∀ v ∈ zs,v.Static = true ∨ ∀ j : Nat,k ≤ j → j < x.Ports.length → bitV bits j = false → v.Port ≠ j
 | 0,k,ys,h1,h2,h3,h4 => by omega
 | m + 1,k,ys,h1,h2,h3,h4 => by
  rw [spec_l11Turned_L2,impl_Bridge_turn_L2]
  by_cases hk : k < x.Ports.length
  ·rw [lt_true hk,cond_true,cond_true,spec_l9BitF_val n bits k (by omega),impl_hasPortF_val n bits k (by omega),Option.bind_some,Option.bind_some,wrap_nat (by omega : k ≤ 1099511627776),spec_FlushPortF_val n ys _ h3 h4,impl_FlushPortF_val n ys _ h3 h4]
   cases hb : bitV bits k with
   | true =>
    simp only [Bool.not_true,cond_false]
    obtain ⟨zs,e1,e2,e3,e4,e5⟩ := spec_l11Turned_L2_ok n bits x h m (k + 1) ys (by omega) (by omega) h3 h4
    refine ⟨zs,e1,e2,e3,e4,fun v hv => (e5 v hv).imp id fun h5 j hj hj2 hj3 => ?_⟩
    by_cases hjk : j = k
    ·subst hjk; rw [hb] at hj3; cases hj3
    ·exact h5 j (by omega) hj2 hj3
   | false =>
    simp only [Bool.not_false,cond_true,Option.bind_some]
    have hle := List.length_filter_le (fun v : Fent => v.Static || v.Port != (k : Int)) ys
    obtain ⟨zs,e1,e2,e3,e4,e5⟩ := spec_l11Turned_L2_ok n bits x h m (k + 1) (ys.filter fun v => v.Static || v.Port != (k : Int)) (by omega) (by omega) (by omega) (by omega)
    refine ⟨zs,e1,e2,by omega,fun v hv => (List.mem_filter.1 (e4 v hv)).1,fun v hv => ?_⟩
    have hf := (List.mem_filter.1 (e4 v hv)).2
    rcases e5 v hv with h5 | h5
    ·exact .inl h5
    ·cases hs : v.Static with
     | true => exact .inl rfl
     | false =>
      refine .inr fun j hj hj2 hj3 => ?_
      by_cases hjk : j = k
      ·subst hjk; rw [hs] at hf; simpa using hf
      ·exact h5 j (by omega) hj2 hj3
  ·have he : k = x.Ports.length := by omega
   subst he
   rw [lt_false]
   exact ⟨ys,rfl,rfl,Nat.le_refl _,fun v hv => hv,fun v hv => .inr fun j hj hj2 => by omega⟩
theorem spec_l11TurnedF_both (n : Nat) (x : Bridge) (h : x.Ports.length ≤ 6) (hf : x.F.length ≤ 134217728) (hn : x.F.length < n) (hn6 : 6 < n) (hv0 : 0 ≤ x.Vers) (hv1 : x.Vers ≤ 1000000) : ∃ (zs : List Fent) (v b : Int),spec_l11TurnedF n x = some ⟨x.Id,x.Name,x.Ports,zs,x.V,x.Ticks,x.Parse,x.Word,x.Drops,v⟩ ∧ impl_Bridge_turnF n x = some ⟨x.Id,x.Name,x.Ports,zs,x.V,x.Ticks,x.Parse,x.Word,x.Drops,v⟩ ∧
  zs.length ≤ x.F.length ∧ (∀ u ∈ zs,u ∈ x.F) ∧ 0 ≤ v ∧ v ≤ 1000000 ∧ spec_SendsF n x.Id x.Ports = some b ∧ ∀ u ∈ zs,u.Static = true ∨ ∀ j : Nat,j < x.Ports.length → bitV b j = false → u.Port ≠ j := by
 obtain ⟨v,h1,h2,h3,h4⟩ := impl_moreF_eq n x.Vers hv0 hv1
 obtain ⟨e,b,hb⟩ := spec_SendsF_both n x.Id x.Ports (by omega) (by omega)
 obtain ⟨zs,k1,k2,k3,k4,k5⟩ := spec_l11Turned_L2_ok n b x h n 0 x.F (by omega) (by omega) hf hn
 refine ⟨zs,v,b,?_,?_,k3,k4,h3,h4,hb,fun u hu => (k5 u hu).imp id fun h5 j hj => h5 j (by omega) hj⟩
 ·unfold spec_l11TurnedF
  rw [h1,Option.bind_some,hb,Option.bind_some,show spec_l11Turned_L2 n n b x 0 x.F = _ from k1]
  rfl
 ·unfold impl_Bridge_turnF
  rw [h2,Option.bind_some,e,hb,Option.bind_some,show impl_Bridge_turn_L2 n n b x 0 x.F = _ from k2]
  rfl
theorem spec_l11CopyF_eq (n : Nat) (x : Bridge) (h : x.sz ≤ 268435456) : spec_l11CopyF n x = some x := by
 have hs : x.Name.size + x.Ports.length + x.F.length + x.V.sz = x.sz := rfl
 unfold spec_l11CopyF spec_l8CopyF
 rw [spec_l9CopyF_eq n x.V (by omega),decide_eq_true (by simp; omega),decide_eq_true (by simp; omega)]
 rfl
theorem impl_copyBridgeF_eq (n : Nat) (x : Bridge) (h : x.sz ≤ 268435456) : impl_copyBridgeF n x = some x := by
 have hs : x.Name.size + x.Ports.length + x.F.length + x.V.sz = x.sz := rfl
 unfold impl_copyBridgeF impl_copyFdbF
 rw [impl_copyVtabF_eq n x.V (by omega),decide_eq_true (by simp; omega),decide_eq_true (by simp; omega)]
 rfl
theorem spec_l11ThereF_val (n : Nat) (x : Bridge) (p : Int) (b : Bool) (hb : spec_BridgeOkF n x = some b) (hl : x.Ports.length ≤ 1048580) : spec_l11ThereF n x p = some (b && (decide (0 ≤ p) && decide (p < x.Ports.length))) := by
 unfold spec_l11ThereF
 rw [hb,Option.bind_some,spec_l1InF_val,wrap64 (by omega) (by omega)]
 have : decide (p ≤ (x.Ports.length : Int) - 1) = decide (p < x.Ports.length) := by
  by_cases h : p < x.Ports.length
  ·rw [decide_eq_true h,decide_eq_true (by omega)]
  ·rw [decide_eq_false h,decide_eq_false (by omega)]
 rw [this]
 cases b <;> rfl
theorem impl_isPortF_val (n : Nat) (x : Bridge) (p : Int) (b : Bool) (hb : impl_BridgeOkF n x = some b) (hl : x.Ports.length ≤ 1048580) : impl_isPortF n x p = some (b && (decide (0 ≤ p) && decide (p < x.Ports.length))) := by
 unfold impl_isPortF
 rw [hb,Option.bind_some,impl_inF_eq,spec_l1InF_val,wrap64 (by omega) (by omega)]
 have : decide (p ≤ (x.Ports.length : Int) - 1) = decide (p < x.Ports.length) := by
  by_cases h : p < x.Ports.length
  ·rw [decide_eq_true h,decide_eq_true (by omega)]
  ·rw [decide_eq_false h,decide_eq_false (by omega)]
 rw [this]
 cases b <;> rfl
theorem spec_turn_set (n : Nat) (x : Bridge) (hn : 1048577 < n) (hx : x.sz ≤ 1048576) (hb : spec_BridgeOkF n x = some true) (ps : List Pt) (hp : ps.length = x.Ports.length) (fs : List Fent) (hf : fs.length ≤ x.F.length) (t : Int) : ∃ (zs : List Fent) (v b : Int),spec_l11TurnedF n ⟨x.Id,x.Name,ps,fs,x.V,t,x.Parse,x.Word,x.Drops,x.Vers⟩ = some ⟨x.Id,x.Name,ps,zs,x.V,t,x.Parse,x.Word,x.Drops,v⟩ ∧
  impl_Bridge_turnF n ⟨x.Id,x.Name,ps,fs,x.V,t,x.Parse,x.Word,x.Drops,x.Vers⟩ = some ⟨x.Id,x.Name,ps,zs,x.V,t,x.Parse,x.Word,x.Drops,v⟩ ∧ zs.length ≤ fs.length ∧ (∀ u ∈ zs,u ∈ fs) ∧ 0 ≤ v ∧ v ≤ 1000000 ∧ spec_SendsF n x.Id ps = some b ∧ ∀ u ∈ zs,u.Static = true ∨ ∀ j : Nat,j < ps.length → bitV b j = false → u.Port ≠ j := by
 have hs : x.Name.size + x.Ports.length + x.F.length + x.V.sz = x.sz := rfl
 obtain ⟨p1,p2,p3,p4,p5,p6,p7,p8,p9,p10,p11,p12,p13⟩ := spec_BridgeOkF_parts n x (by omega) hb
 exact spec_l11TurnedF_both n ⟨x.Id,x.Name,ps,fs,x.V,t,x.Parse,x.Word,x.Drops,x.Vers⟩ (by simp only; omega) (by simp only; omega) (by simp only; omega) (by omega) p12.1 p12.2
theorem strOf_one (z : Int) : (strOf [z]).size = 1 := rfl
theorem laws_markText_L2_ok (n : Nat) : ∀ (d m : Nat) (y1 : ByteArray) (y2 : Int),0 ≤ y2 → y2 < 10 ^ d → d < m → y1.size + d ≤ 1000 → y2 ≤ 1099511627776 → ∃ t,laws_markText_L2 n m y1 y2 = some (.inl t) ∧ t.size ≤ 1000
 | d,0,y1,y2,h0,h1,h2,h3,h4 => by omega
 | d,m + 1,y1,y2,h0,h1,h2,h3,h4 => by
  rw [laws_markText_L2]
  by_cases hp : y2 > 0
  ·cases d with
   | zero => simp at h1; omega
   | succ d =>
    have hq : Int.tdiv y2 10 = y2 / 10 := Int.tdiv_eq_ediv_of_nonneg h0
    have hw : IntKind.wrap .i64 (y2 / 10) = y2 / 10 := wrap64 (by omega) (by omega)
    rw [decide_eq_true hp,cond_true,show decide ((10 : Int) ≠ 0) = true from rfl,cond_true,cond_true,strOf_one,decide_eq_true (by omega),cond_true,hq,hw]
    refine laws_markText_L2_ok n d m _ _ (by omega) ?_ (by omega) ?_ (by omega)
    ·have : (10 : Int) ^ (d + 1) = 10 ^ d * 10 := Int.pow_succ ..
     omega
    ·rw [ByteArray.size_append,strOf_one]; omega
  ·rw [decide_eq_false hp]
   exact ⟨y1,rfl,by omega⟩
theorem laws_markTextF_ok (n : Nat) (hn : 1000 < n) (b : Int) (h0 : 0 < b) (h1 : b ≤ 1099511627776) : ∃ t,laws_markTextF n b = some t := by
 unfold laws_markTextF
 rw [decide_eq_false (by omega)]
 obtain ⟨t,ht,hs⟩ := laws_markText_L2_ok n 20 n ⟨#[]⟩ b (by omega) (by omega) (by omega) (by decide) h1
 rw [ht]
 simp only [cond_false,Option.bind_some,laws_markText_J1]
 have : (⟨#[109]⟩ : ByteArray).size = 1 := rfl
 rw [this,decide_eq_true (by omega)]
 exact ⟨_,rfl⟩
theorem laws_markLinkSF_ok (n : Nat) (xs : List Link) (b : Int) (h : xs.length ≤ 268435456) (hn : xs.length < n) (h0 : 0 ≤ b) (h1 : b + (4 : Nat) * xs.length ≤ 1099511627776) : laws_markLinkSF n xs b = some (b + (4 : Nat) * xs.length,markL (fun _ b => (⟨b,b + 1,b + 2,b + 3⟩ : Link)) 4 xs b) := by
 have := mark_loop (L := laws_markLinkS_L2 n) (f := fun _ b => (⟨b,b + 1,b + 2,b + 3⟩ : Link)) (c := 4) (fun m k ys b v hk hl hv h0 h1 => by
  rw [laws_markLinkS_L2,lt_true hk,idx_at hv]
  simp (disch := omega) only [cond_true,Option.bind_some,List.set_set,idx_set' hk,wrap64,wrap_nat,Int.toNat_natCast]
  simp only [Int.add_assoc,Int.reduceAdd,show ((4 : Nat) : Int) = 4 from rfl]
  rfl)
  (fun m ys b => by rw [laws_markLinkS_L2,lt_false]; rfl) xs n [] b (by simpa using h) h0 h1 hn
 unfold laws_markLinkSF
 simp only [List.length_nil,List.nil_append] at this
 rw [show laws_markLinkS_L2 n n 0 xs b = _ from this]
 rfl
theorem laws_markSaySF_ok (n : Nat) (xs : List Say) (b : Int) (h : xs.length ≤ 268435456) (hn : xs.length < n) (h0 : 0 ≤ b) (h1 : b + (7 : Nat) * xs.length ≤ 1099511627776) : laws_markSaySF n xs b = some (b + (7 : Nat) * xs.length,markL (fun _ b => (⟨b,Int.tmod (b + 1) 3 == 0,⟨b + 2,b + 3,b + 4,b + 5,b + 6⟩⟩ : Say)) 7 xs b) := by
 have := mark_loop (L := laws_markSayS_L2 n) (f := fun _ b => (⟨b,Int.tmod (b + 1) 3 == 0,⟨b + 2,b + 3,b + 4,b + 5,b + 6⟩⟩ : Say)) (c := 7) (fun m k ys b v hk hl hv h0 h1 => by
  rw [laws_markSayS_L2,lt_true hk,idx_at hv]
  simp (disch := omega) only [cond_true,Option.bind_some,List.set_set,idx_set' hk,wrap64,wrap_nat,Int.toNat_natCast,show decide ((3 : Int) ≠ 0) = true from rfl]
  simp only [Int.add_assoc,Int.reduceAdd,show ((7 : Nat) : Int) = 7 from rfl]
  rfl)
  (fun m ys b => by rw [laws_markSayS_L2,lt_false]; rfl) xs n [] b (by simpa using h) h0 h1 hn
 unfold laws_markSaySF
 simp only [List.length_nil,List.nil_append] at this
 rw [show laws_markSayS_L2 n n 0 xs b = _ from this]
 rfl
theorem in_range_dec (n : Nat) (z : Int) (N : Nat) (h : N ≤ 1048600) : spec_l1InF n z 0 (IntKind.wrap .i64 ((N : Int) - 1)) = some (decide (0 ≤ z ∧ z < N)) := by
 rw [spec_l1InF_val,wrap64 (by omega) (by omega)]
 by_cases h : 0 ≤ z ∧ z < N
 ·rw [decide_eq_true h,decide_eq_true h.1,decide_eq_true (by omega)]; rfl
 ·rw [decide_eq_false h]
  congr 1
  simp only [Bool.and_eq_false_iff,decide_eq_false_iff_not]; omega
def usedBy (b p : Int) (l : Link) : Bool := (l.A == b && l.P == p) || (l.B == b && l.Q == p)
def cntE (b p : Int) (l : Link) : Nat := (bif l.A == b && l.P == p then 1 else 0) + (bif l.B == b && l.Q == p then 1 else 0)
theorem usedBy_iff {b p : Int} {l : Link} : usedBy b p l = true ↔ (l.A = b ∧ l.P = p) ∨ (l.B = b ∧ l.Q = p) := by simp [usedBy]
theorem cntE_pos {b p : Int} {l : Link} : usedBy b p l = true ↔ 0 < cntE b p l := by
 unfold usedBy cntE
 cases l.A == b <;> cases l.P == p <;> cases l.B == b <;> cases l.Q == p <;> simp
def sumN {α : Type} (f : α → Nat) : List α → Nat
 | [] => 0
 | x :: xs => f x + sumN f xs
theorem sumN_append {α : Type} (f : α → Nat) : ∀ (xs ys : List α),sumN f (xs ++ ys) = sumN f xs + sumN f ys
 | [],ys => by simp [sumN]
 | x :: xs,ys => by simp only [List.cons_append,sumN,sumN_append f xs ys]; omega
theorem sumN_zero {α : Type} (f : α → Nat) : ∀ (xs : List α),(∀ x ∈ xs,f x = 0) → sumN f xs = 0
 | [],_ => rfl
 | x :: xs,h => by rw [sumN,h x (by simp),sumN_zero f xs (fun y hy => h y (by simp [hy]))]
theorem sumN_mem {α : Type} (f : α → Nat) : ∀ (xs : List α) (x : α),x ∈ xs → f x ≤ sumN f xs
 | y :: xs,x,h => by
  rcases List.mem_cons.1 h with e | h
  ·subst e; rw [sumN]; omega
  ·have := sumN_mem f xs x h; rw [sumN]; omega
theorem sumN_two {α : Type} (f : α → Nat) (xs : List α) (i j : Nat) (hij : i < j) (hj : j < xs.length) : f (xs[i]'(by omega)) + f xs[j] ≤ sumN f xs := by
 have e : xs = xs.take j ++ xs.drop j := (List.take_append_drop j xs).symm
 have h1 : f (xs[i]'(by omega)) ≤ sumN f (xs.take j) := sumN_mem f _ _ (by
  have : (xs.take j)[i]? = some (xs[i]'(by omega)) := by rw [List.getElem?_take,if_pos hij]; exact List.getElem?_eq_getElem _
  exact List.mem_of_getElem? this)
 have h2 : f xs[j] ≤ sumN f (xs.drop j) := sumN_mem f _ _ (List.drop_eq_getElem_cons hj ▸ List.mem_cons_self)
 have h3 := sumN_append f (xs.take j) (xs.drop j)
 rw [← e] at h3
 omega
theorem sumN_one {α : Type} (f : α → Nat) (xs : List α) (k : Nat) (hk : k < xs.length) (h : ∀ j (hj : j < xs.length),j ≠ k → f xs[j] = 0) : sumN f xs = f xs[k] := by
 have e : xs = xs.take k ++ xs[k] :: xs.drop (k + 1) := by rw [← List.drop_eq_getElem_cons hk]; exact (List.take_append_drop k xs).symm
 have h1 : sumN f (xs.take k) = 0 := sumN_zero f _ fun x hx => by
  obtain ⟨i,hi,rfl⟩ := List.getElem_of_mem hx
  simp only [List.length_take] at hi
  rw [List.getElem_take]
  exact h i (by omega) (by omega)
 have h2 : sumN f (xs.drop (k + 1)) = 0 := sumN_zero f _ fun x hx => by
  obtain ⟨i,hi,rfl⟩ := List.getElem_of_mem hx
  simp only [List.length_drop] at hi
  rw [List.getElem_drop]
  exact h _ (by omega) (by omega)
 have h3 := sumN_append f (xs.take k) (xs[k] :: xs.drop (k + 1))
 rw [← e] at h3
 rw [sumN,h1,h2] at h3
 omega
theorem ends_apart (xs : List Link) (hne : ∀ l ∈ xs,l.A ≠ l.B) : (∀ k (hk : k < xs.length),sumN (cntE xs[k].A xs[k].P) xs = 1 ∧ sumN (cntE xs[k].B xs[k].Q) xs = 1) ↔ (∀ k (hk : k < xs.length),(xs.take k).any (usedBy xs[k].A xs[k].P) = false ∧ (xs.take k).any (usedBy xs[k].B xs[k].Q) = false) := by
 have own1 : ∀ k (hk : k < xs.length),cntE xs[k].A xs[k].P xs[k] = 1 := fun k hk => by
  have := hne xs[k] (List.getElem_mem hk)
  have h2 : (xs[k].B == xs[k].A) = false := by simpa using fun e => this e.symm
  simp [cntE,h2]
 have own2 : ∀ k (hk : k < xs.length),cntE xs[k].B xs[k].Q xs[k] = 1 := fun k hk => by
  have := hne xs[k] (List.getElem_mem hk)
  have h2 : (xs[k].A == xs[k].B) = false := by simpa using this
  simp [cntE,h2]
 constructor
 ·intro h k hk
  have key : ∀ b p,cntE b p xs[k] = 1 → sumN (cntE b p) xs = 1 → (xs.take k).any (usedBy b p) = false := fun b p h1 h2 => by
   rw [List.any_eq_false]
   intro l hl hu
   obtain ⟨i,hi,rfl⟩ := List.getElem_of_mem hl
   simp only [List.length_take] at hi
   rw [List.getElem_take] at hu
   have := sumN_two (cntE b p) xs i k (by omega) hk
   have := cntE_pos.1 hu
   omega
  exact ⟨key _ _ (own1 k hk) (h k hk).1,key _ _ (own2 k hk) (h k hk).2⟩
 ·intro h k hk
  have key : ∀ b p,cntE b p xs[k] = 1 → usedBy b p xs[k] = true → (xs.take k).any (usedBy b p) = false → sumN (cntE b p) xs = 1 := fun b p h1 hu h2 => by
   rw [sumN_one (cntE b p) xs k hk (fun j hj hjk => ?_),h1]
   rw [List.any_eq_false] at h2
   refine Classical.byContradiction fun hc => ?_
   have hpos := cntE_pos.2 (show 0 < cntE b p xs[j] by omega)
   by_cases hlt : j < k
   ·refine h2 xs[j] ?_ hpos
    have : (xs.take k)[j]? = some xs[j] := by rw [List.getElem?_take,if_pos hlt]; exact List.getElem?_eq_getElem _
    exact List.mem_of_getElem? this
   ·have hkj : k < j := by omega
    have hmem : xs[k] ∈ xs.take j := by
     have : (xs.take j)[k]? = some xs[k] := by rw [List.getElem?_take,if_pos hkj]; exact List.getElem?_eq_getElem _
     exact List.mem_of_getElem? this
    have hh := h j hj
    rw [List.any_eq_false,List.any_eq_false] at hh
    rcases usedBy_iff.1 hpos with ⟨e1,e2⟩ | ⟨e1,e2⟩
    ·exact hh.1 _ hmem (by rw [e1,e2]; exact hu)
    ·exact hh.2 _ hmem (by rw [e1,e2]; exact hu)
  exact ⟨key _ _ (own1 k hk) (usedBy_iff.2 (.inl ⟨rfl,rfl⟩)) (h k hk).1,key _ _ (own2 k hk) (usedBy_iff.2 (.inr ⟨rfl,rfl⟩)) (h k hk).2⟩
theorem impl_ends_L2_val (n : Nat) (xs : List Link) (b p : Int) (h : xs.length ≤ 1048600) : ∀ (m k : Nat),k ≤ xs.length → xs.length < m + k → impl_ends_L2 n m xs b p k = some (if (xs.drop k).any (usedBy b p) then .inr true else .inl ())
 | 0,k,h1,h2 => by omega
 | m + 1,k,h1,h2 => by
  rw [impl_ends_L2]
  by_cases hk : k < xs.length
  ·have ih := impl_ends_L2_val n xs b p h m (k + 1) (by omega) (by omega)
   rw [lt_true hk,cond_true,idx_nat hk,Option.bind_some,wrap_nat (by omega : k ≤ 1099511627776),ih,List.drop_eq_getElem_cons hk,List.any_cons]
   unfold usedBy
   cases xs[k].A == b <;> cases xs[k].P == p <;> cases xs[k].B == b <;> cases xs[k].Q == p <;> rfl
  ·have he : k = xs.length := by omega
   subst he
   rw [lt_false]; simp
theorem impl_endsF_val (n : Nat) (xs : List Link) (b p : Int) (h : xs.length ≤ 1048600) (hn : xs.length < n) : impl_endsF n xs b p = some (xs.any (usedBy b p)) := by
 unfold impl_endsF
 rw [show impl_ends_L2 n n xs b p 0 = _ from impl_ends_L2_val n xs b p h n 0 (by omega) (by omega),List.drop_zero]
 cases xs.any (usedBy b p) <;> rfl
theorem spec_l13Used_L2_val (n : Nat) (x : Net) (b p : Int) (h : x.Links.length ≤ 1048600) : ∀ (m k c : Nat),k ≤ x.Links.length → x.Links.length < m + k → c ≤ 2 * k → spec_l13Used_L2 n m x b p k c = some (.inl ((c + sumN (cntE b p) (x.Links.drop k) : Nat) : Int))
 | 0,k,c,h1,h2,h3 => by omega
 | m + 1,k,c,h1,h2,h3 => by
  rw [spec_l13Used_L2]
  by_cases hk : k < x.Links.length
  ·have ih := fun c' h3' => spec_l13Used_L2_val n x b p h m (k + 1) c' (by omega) (by omega) h3'
   have hw : ∀ z : Nat,z ≤ 4194304 → IntKind.wrap .i64 ((z : Int) + 1) = ((z + 1 : Nat) : Int) := fun z hz => wrap_nat (by omega)
   rw [lt_true hk,cond_true,idx_nat hk,Option.bind_some,List.drop_eq_getElem_cons hk,sumN]
   simp only [spec_l13Used_J3,hw k (by omega),hw c (by omega)]
   have hw2 := hw (c + 1) (by omega)
   simp only [hw2]
   unfold cntE
   generalize (x.Links[k].A == b) = qA
   generalize (x.Links[k].P == p) = qP
   generalize (x.Links[k].B == b) = qB
   generalize (x.Links[k].Q == p) = qQ
   have z0 := ih c (by omega)
   have z1 := ih (c + 1) (by omega)
   have z2 := ih (c + 1 + 1) (by omega)
   unfold cntE at z0 z1 z2
   cases qA <;> cases qP <;> cases qB <;> cases qQ <;> simp only [cond_true,cond_false,Bool.and_true,Bool.and_false,Bool.true_and,Bool.false_and,Nat.zero_add,Nat.add_zero,z0,z1,z2] <;> simp only [Nat.add_assoc,Nat.reduceAdd]
  ·have he : k = x.Links.length := by omega
   subst he
   rw [lt_false]; simp [sumN]
theorem spec_l13UsedF_val (n : Nat) (x : Net) (b p : Int) (h : x.Links.length ≤ 1048600) (hn : x.Links.length < n) : spec_l13UsedF n x b p = some ((sumN (cntE b p) x.Links : Nat) : Int) := by
 unfold spec_l13UsedF
 rw [show spec_l13Used_L2 n n x b p 0 0 = _ from spec_l13Used_L2_val n x b p h n 0 0 (by omega) (by omega) (by omega),List.drop_zero,Nat.zero_add]
 rfl
theorem used_any {b p : Int} : ∀ {xs : List Link},(sumN (cntE b p) xs = 0 ↔ xs.any (usedBy b p) = false)
 | [] => by simp [sumN]
 | l :: xs => by
  have ih := used_any (b := b) (p := p) (xs := xs)
  have h := cntE_pos (b := b) (p := p) (l := l)
  rw [sumN,List.any_cons,Bool.or_eq_false_iff,← ih]
  cases hu : usedBy b p l with
  | true => have := h.1 hu; constructor <;> intro h' <;> first | omega | (exact absurd h'.1 (by simp))
  | false =>
   have : cntE b p l = 0 := by
    refine Classical.byContradiction fun hc => ?_
    have := h.2 (by omega)
    rw [hu] at this; cases this
   constructor
   ·intro h'; exact ⟨rfl,by omega⟩
   ·intro h'; omega
theorem check_loop {α : Type} {L : Nat → Int → Option (α ⊕ Bool)} {N : Nat} {P : Nat → Prop} (hs : ∀ m (k : Nat),k < N → (P k ∧ L (m + 1) (k : Int) = L m ((k + 1 : Nat) : Int)) ∨ (¬ P k ∧ L (m + 1) (k : Int) = some (.inr false))) (he : ∀ m,∃ a,L (m + 1) (N : Int) = some (.inl a)) :
  ∀ (m k : Nat),k ≤ N → N < m + k → (∃ a,L m (k : Int) = some (.inl a) ∧ ∀ j,k ≤ j → j < N → P j) ∨ (L m (k : Int) = some (.inr false) ∧ ¬ ∀ j,k ≤ j → j < N → P j)
 | 0,k,h1,h2 => by omega
 | m + 1,k,h1,h2 => by
  by_cases hk : k < N
  ·rcases hs m k hk with ⟨hp,e⟩ | ⟨hp,e⟩
   ·rcases check_loop hs he m (k + 1) (by omega) (by omega) with ⟨a,h3,h4⟩ | ⟨h3,h4⟩
    ·refine .inl ⟨a,e.trans h3,fun j hj hj2 => ?_⟩
     by_cases hjk : j = k
     ·subst hjk; exact hp
     ·exact h4 j (by omega) hj2
    ·exact .inr ⟨e.trans h3,fun h => h4 fun j hj hj2 => h j (by omega) hj2⟩
   ·exact .inr ⟨e,fun h => hp (h k (Nat.le_refl _) hk)⟩
  ·have : k = N := by omega
   subst this
   obtain ⟨a,ha⟩ := he m
   exact .inl ⟨a,ha,fun j hj hj2 => by omega⟩
def BOk (n : Nat) (x : Net) (k : Nat) : Prop := ∀ hk : k < x.Bridges.length,spec_BridgeOkF n x.Bridges[k] = some true ∧ (∀ j (hj : j < k),(x.Bridges[j]'(by omega)).Id ≠ x.Bridges[k].Id) ∧ ∀ p (hp : p < x.Bridges[k].Ports.length),x.Bridges[k].Ports[p].Has = true → x.Links.any (usedBy k p) = true
theorem bridge_wf {x : Net} (wx : x.wf) {k : Nat} (hk : k < x.Bridges.length) : x.Bridges[k].wf := wx.1.2 _ (List.getElem_mem hk)
def portOf (x : Net) (b p : Int) : Option Pt := (idx x.Bridges b).bind fun v => idx v.Ports p
theorem idx_some_iff {α : Type} {xs : List α} {i : Int} : (∃ v,idx xs i = some v) ↔ 0 ≤ i ∧ i < xs.length := by
 constructor
 ·rintro ⟨v,hv⟩; exact idx_lt hv
 ·intro h
  obtain ⟨j,rfl⟩ := Int.eq_ofNat_of_zero_le h.1
  exact ⟨_,idx_nat (by omega)⟩
theorem idx_none_of {α : Type} {xs : List α} {i : Int} (h : ¬ (0 ≤ i ∧ i < xs.length)) : idx xs i = none := by
 cases hc : idx xs i with
 | none => rfl
 | some v => exact absurd (idx_lt hc) h
def LOk (x : Net) (l : Link) : Prop := l.A ≠ l.B ∧ ∃ p q,portOf x l.A l.P = some p ∧ portOf x l.B l.Q = some q ∧ p.Up = q.Up
theorem portOf_some {x : Net} {b p : Int} {q : Pt} (h : portOf x b p = some q) : ∃ v,idx x.Bridges b = some v ∧ idx v.Ports p = some q := by
 unfold portOf at h
 exact bind_some h
theorem markH_loop {α β γ : Type} {L : Nat → Int → List α → Int → Option ((List α × Int) ⊕ β)} {H : Nat → List α → Int → Int → Option (Int ⊕ γ)} (w : α → Nat) (good : α → Prop)
  (h : ∀ (k : Nat) (ys : List α) (b : Int) (v : α),k < ys.length → ys.length ≤ 268435456 → ys[k]? = some v → good v → 0 < b → b ≤ 274877906944 → ∃ v' c,b ≤ c ∧ c ≤ b + 16 * w v ∧ (∀ m,L (m + 1) k ys b = L m ((k + 1 : Nat) : Int) (ys.set k v') c) ∧ ∀ m (ys' : List α),ys'.length ≤ 268435456 → k < ys'.length → ys'[k]? = some v' → H (m + 1) ys' k b = H m ys' ((k + 1 : Nat) : Int) c)
  (hend : ∀ m (ys : List α) b,L (m + 1) (ys.length : Int) ys b = some (.inl (ys,b))) (hendH : ∀ m (ys : List α) b,H (m + 1) ys (ys.length : Int) b = some (.inl b)) : ∀ (post pre : List α) (b : Int),(pre ++ post).length ≤ 268435456 → (∀ v ∈ post,good v) → 0 < b → b + 16 * sumSz w post ≤ 274877906944 →
   ∃ (zs : List α) (c : Int),zs.length = post.length ∧ b ≤ c ∧ c ≤ b + 16 * sumSz w post ∧ (∀ m,post.length < m → L m (pre.length : Int) (pre ++ post) b = some (.inl (pre ++ zs,c))) ∧ ∀ m,post.length < m → H m (pre ++ zs) (pre.length : Int) b = some (.inl c)
 | [],pre,b,h1,h2,h3,h4 => by
  refine ⟨[],b,rfl,by omega,by simp only [sumSz]; omega,fun m hm => ?_,fun m hm => ?_⟩
  ·obtain ⟨m,rfl⟩ : ∃ m',m = m' + 1 := ⟨m - 1,by have : 0 < m := hm; omega⟩
   rw [List.append_nil,hend m pre b]
  ·obtain ⟨m,rfl⟩ : ∃ m',m = m' + 1 := ⟨m - 1,by have : 0 < m := hm; omega⟩
   rw [List.append_nil,hendH m pre b]
 | v :: post,pre,b,h1,h2,h3,h4 => by
  simp only [sumSz] at h4
  obtain ⟨v',c,k1,k2,k3,k4⟩ := h pre.length (pre ++ v :: post) b v (by simp) h1 (by simp) (h2 v (by simp)) h3 (by omega)
  obtain ⟨zs,c',e0,e1,e2,e3,e4⟩ := markH_loop w good h hend hendH post (pre ++ [v']) c (by simpa using h1) (fun u hu => h2 u (by simp [hu])) (by omega) (by omega)
  refine ⟨v' :: zs,c',by simp [e0],by omega,by simp only [sumSz]; omega,fun m hm => ?_,fun m hm => ?_⟩
  ·obtain ⟨m,rfl⟩ : ∃ m',m = m' + 1 := ⟨m - 1,by simp only [List.length_cons] at hm; omega⟩
   rw [k3 m,set_append_len]
   have := e3 m (by simp only [List.length_cons] at hm; omega)
   simpa using this
  ·obtain ⟨m,rfl⟩ : ∃ m',m = m' + 1 := ⟨m - 1,by simp only [List.length_cons] at hm; omega⟩
   have hlen : (pre ++ v' :: zs).length ≤ 268435456 := by simp only [List.length_append,List.length_cons,e0] at h1 ⊢; omega
   rw [k4 m (pre ++ v' :: zs) hlen (by simp) (by simp)]
   have := e4 m (by simp only [List.length_cons] at hm; omega)
   simpa using this
theorem laws_heldLinkSF_ok (n : Nat) (xs : List Link) (b : Int) (h : xs.length ≤ 268435456) (hn : xs.length < n) (h0 : 0 ≤ b) (h1 : b + (4 : Nat) * xs.length ≤ 1099511627776) : laws_heldLinkSF n (markL (fun _ b => (⟨b,b + 1,b + 2,b + 3⟩ : Link)) 4 xs b) b = some (b + (4 : Nat) * xs.length) := by
 have := held_loop (L := laws_heldLinkS_L2 n) (f := fun _ b => (⟨b,b + 1,b + 2,b + 3⟩ : Link)) (c := 4) (fun m k ys b v hk hl hv h0 h1 => by
  rw [laws_heldLinkS_L2,lt_true hk,idx_at hv]
  simp (disch := omega) only [cond_true,Option.bind_some,wrap64,wrap_nat,Int.add_assoc,Int.reduceAdd,bne_self_eq_false,cond_false,show ((4 : Nat) : Int) = 4 from rfl]
  rfl)
  (fun m ys b => by rw [laws_heldLinkS_L2,lt_false]; rfl) xs n [] b (by simpa using h) h0 h1 hn
 unfold laws_heldLinkSF
 simp only [List.length_nil,List.nil_append] at this
 rw [show laws_heldLinkS_L2 n n (markL _ 4 xs b) 0 b = _ from this]
 rfl
theorem laws_heldSaySF_ok (n : Nat) (xs : List Say) (b : Int) (h : xs.length ≤ 268435456) (hn : xs.length < n) (h0 : 0 ≤ b) (h1 : b + (7 : Nat) * xs.length ≤ 1099511627776) : laws_heldSaySF n (markL (fun _ b => (⟨b,Int.tmod (b + 1) 3 == 0,⟨b + 2,b + 3,b + 4,b + 5,b + 6⟩⟩ : Say)) 7 xs b) b = some (b + (7 : Nat) * xs.length) := by
 have := held_loop (L := laws_heldSayS_L2 n) (f := fun _ b => (⟨b,Int.tmod (b + 1) 3 == 0,⟨b + 2,b + 3,b + 4,b + 5,b + 6⟩⟩ : Say)) (c := 7) (fun m k ys b v hk hl hv h0 h1 => by
  rw [laws_heldSayS_L2,lt_true hk,idx_at hv]
  simp (disch := omega) only [cond_true,Option.bind_some,wrap64,wrap_nat,Int.add_assoc,Int.reduceAdd,bne_self_eq_false,beq_self_eq_true,Bool.not_true,cond_false,show ((7 : Nat) : Int) = 7 from rfl,show decide ((3 : Int) ≠ 0) = true from rfl]
  rfl)
  (fun m ys b => by rw [laws_heldSayS_L2,lt_false]; rfl) xs n [] b (by simpa using h) h0 h1 hn
 unfold laws_heldSaySF
 simp only [List.length_nil,List.nil_append] at this
 rw [show laws_heldSayS_L2 n n (markL _ 7 xs b) 0 b = _ from this]
 rfl
theorem laws_markBridgeSF_held (n : Nat) (xs : List Bridge) (b : Int) (h : xs.length + sumSz Bridge.sz xs ≤ 1048576) (hn : 1048577 < n) (h0 : 0 < b) (h1 : b ≤ 1048576) : ∃ (zs : List Bridge) (c : Int),b ≤ c ∧ c ≤ b + 16 * sumSz (fun v => v.sz + 1) xs ∧ laws_markBridgeSF n xs b = some (c,zs) ∧ laws_heldBridgeSF n zs b = some c := by
 have hsum : ∀ ys : List Bridge,sumSz (fun v => v.sz + 1) ys = ys.length + sumSz Bridge.sz ys := fun ys => by
  induction ys with
  | nil => rfl
  | cons y ys ih => simp only [sumSz,List.length_cons,ih]; omega
 obtain ⟨zs,c,e0,e1,e2,e3,e4⟩ := markH_loop (L := laws_markBridgeS_L2 n) (H := laws_heldBridgeS_L2 n) (fun v : Bridge => v.sz + 1) (fun v => v.sz ≤ 1048576) (fun k ys b v hk hl hv hg h0 h1 => by
  have hs : v.Name.size + v.Ports.length + v.F.length + v.V.sz = v.sz := rfl
  have hs2 : v.V.Rows.length + v.V.Pvid.length = v.V.sz := rfl
  obtain ⟨t,ht⟩ := laws_markTextF_ok n (by omega) (b + 1) (by omega) (by omega)
  have hP := laws_markPtSF_ok n v.Ports (b + 1 + 1) (by omega) (by omega) (by omega) (by omega)
  have hF := laws_markFentSF_ok n v.F (b + 1 + 1 + (8 : Nat) * v.Ports.length) (by omega) (by omega) (by omega) (by omega)
  have hR := laws_markVrowSF_ok n v.V.Rows (b + 1 + 1 + (8 : Nat) * v.Ports.length + (5 : Nat) * v.F.length) (by omega) (by omega) (by omega) (by omega)
  have hQ := laws_markIntSF_ok n v.V.Pvid (b + 1 + 1 + (8 : Nat) * v.Ports.length + (5 : Nat) * v.F.length + (3 : Nat) * v.V.Rows.length) (by omega) (by omega) (by omega) (by omega)
  have hP' := laws_heldPtSF_ok n v.Ports (b + 1 + 1) (by omega) (by omega) (by omega) (by omega)
  have hF' := laws_heldFentSF_ok n v.F (b + 1 + 1 + (8 : Nat) * v.Ports.length) (by omega) (by omega) (by omega) (by omega)
  have hR' := laws_heldVrowSF_ok n v.V.Rows (b + 1 + 1 + (8 : Nat) * v.Ports.length + (5 : Nat) * v.F.length) (by omega) (by omega) (by omega) (by omega)
  have hQ' := laws_heldIntSF_ok n v.V.Pvid (b + 1 + 1 + (8 : Nat) * v.Ports.length + (5 : Nat) * v.F.length + (3 : Nat) * v.V.Rows.length) (by omega) (by omega) (by omega) (by omega)
  refine ⟨?v,?c,?a1,?a2,?a3,?a4⟩
  case a3 =>
   intro m
   rw [laws_markBridgeS_L2,lt_true hk,idx_at hv]
   simp (disch := omega) only [cond_true,Option.bind_some,List.set_set,idx_set' hk,wrap64,wrap_nat,Int.toNat_natCast,ht,hP,hF,hR,hQ]
   exact rfl
  case a1 => omega
  case a2 => omega
  case a4 =>
   intro m ys' hl' hk' hv'
   rw [laws_heldBridgeS_L2,lt_true hk',idx_at hv']
   simp (disch := omega) only [cond_true,Option.bind_some,wrap64,wrap_nat,ht,hP',hF',hR',hQ',decide_eq_false,bne_self_eq_false,beq_self_eq_true,Bool.not_true,cond_false]
   rfl)
  (fun m ys b => by rw [laws_markBridgeS_L2,lt_false]; rfl) (fun m ys b => by rw [laws_heldBridgeS_L2,lt_false]; rfl) xs [] b (by simp; omega) (fun v hv => by have := sumSz_mem (sz := Bridge.sz) hv; omega) h0 (by rw [hsum]; omega)
 refine ⟨zs,c,e1,e2,?_,?_⟩
 ·unfold laws_markBridgeSF
  have := e3 n (by omega)
  simp only [List.length_nil,List.nil_append] at this
  rw [show laws_markBridgeS_L2 n n 0 xs b = _ from this]
  rfl
 ·unfold laws_heldBridgeSF
  have := e4 n (by omega)
  simp only [List.length_nil,List.nil_append] at this
  rw [show laws_heldBridgeS_L2 n n zs 0 b = _ from this]
  rfl
theorem laws_markNetF_held (n : Nat) (x : Net) (h : x.sz ≤ 1048576) (hn : 1048577 < n) : ∃ (y : Net) (c : Int),1 ≤ c ∧ c ≤ 100000000 ∧ laws_markNetF n x 1 = some (c,y) ∧ laws_heldNetF n y 1 = some c := by
 have hs : (x.Bridges.length + sumSz Bridge.sz x.Bridges) + x.Links.length + x.Said.length = x.sz := rfl
 have hsum : ∀ ys : List Bridge,sumSz (fun v => v.sz + 1) ys = ys.length + sumSz Bridge.sz ys := fun ys => by
  induction ys with
  | nil => rfl
  | cons y ys ih => simp only [sumSz,List.length_cons,ih]; omega
 obtain ⟨zs,c,e1,e2,e3,e4⟩ := laws_markBridgeSF_held n x.Bridges 1 (by omega) hn (by omega) (by omega)
 have := hsum x.Bridges
 refine ⟨_,_,?_,?_,by unfold laws_markNetF; rw [e3,Option.bind_some,laws_markLinkSF_ok n x.Links _ (by omega) (by omega) (by omega) (by omega),Option.bind_some,laws_markSaySF_ok n x.Said _ (by omega) (by omega) (by simp only; omega) (by simp only; omega)]; exact rfl,?_⟩
 ·simp only; omega
 ·simp only; omega
 ·unfold laws_heldNetF
  rw [e4,Option.bind_some,laws_heldLinkSF_ok n x.Links _ (by omega) (by omega) (by omega) (by omega),Option.bind_some,laws_heldSaySF_ok n x.Said _ (by omega) (by omega) (by simp only; omega) (by simp only; omega),Option.bind_some,decide_eq_false (by omega),decide_eq_false (by simp only; omega),decide_eq_false (by simp only; omega)]
  rfl
def Big (x : Net) : Prop := x.Bridges.length ≤ 1048576 ∧ (∀ a ∈ x.Bridges,a.sz ≤ 1048576) ∧ x.Links.length ≤ 1048576 ∧ x.Said.length ≤ 1048576
theorem spec_l13Bridges_L2_stepB (n : Nat) (x : Net) (wx : x.wf) (h : Big x) (hn : 1048700 < n) (m k : Nat) (hk : k < x.Bridges.length) : (BOk n x k ∧ spec_l13Bridges_L2 n (m + 1) x k = spec_l13Bridges_L2 n m x ((k + 1 : Nat) : Int)) ∨ (¬ BOk n x k ∧ spec_l13Bridges_L2 n (m + 1) x k = some (.inr false)) := by
 have ⟨hl1,hl2,hl3,hl4⟩ := h
 have hps := hl2 _ (List.getElem_mem hk)
 have hs2 : x.Bridges[k].Name.size + x.Bridges[k].Ports.length + x.Bridges[k].F.length + x.Bridges[k].V.sz = x.Bridges[k].sz := rfl
 obtain ⟨b,hb,_⟩ := spec_BridgeOkF_both n x.Bridges[k] (bridge_wf wx hk) (by omega) (by omega)
 rw [spec_l13Bridges_L2,lt_true hk,cond_true,idx_nat hk,Option.bind_some,hb,Option.bind_some]
 cases b with
 | false => exact .inr ⟨fun hc => absurd ((hc hk).1.symm.trans hb) (by simp),rfl⟩
 | true =>
  simp only [Bool.not_true,cond_false]
  have h6 := check_loop (L := fun m j => spec_l13Bridges_L6 n m x k j) (N := k) (P := fun j => ∀ hj : j < k,(x.Bridges[j]'(by omega)).Id ≠ x.Bridges[k].Id) (fun m j hj => by
   simp only [spec_l13Bridges_L6]
   rw [lt_true hj,cond_true,idx_nat (show j < x.Bridges.length by omega),Option.bind_some,idx_nat hk,Option.bind_some,wrap_nat (by omega : j ≤ 1099511627776)]
   by_cases he : (x.Bridges[j]'(by omega)).Id = x.Bridges[k].Id
   ·exact .inr ⟨fun hc => hc hj he,by rw [show ((x.Bridges[j]'(by omega)).Id == x.Bridges[k].Id) = true from by simpa using he]; rfl⟩
   ·exact .inl ⟨fun _ => he,by rw [show ((x.Bridges[j]'(by omega)).Id == x.Bridges[k].Id) = false from by simpa using he]; rfl⟩) (fun m => ⟨_,by simp only [spec_l13Bridges_L6]; rw [lt_false]; rfl⟩) n 0 (by omega) (by omega)
  rcases h6 with ⟨_,e6,p6⟩ | ⟨e6,p6⟩
  ·rw [show spec_l13Bridges_L6 n n x k 0 = _ from e6,Option.bind_some]
   simp only [spec_l13Bridges_J3]
   have h5 := check_loop (L := fun m j => spec_l13Bridges_L5 n m x k j) (N := x.Bridges[k].Ports.length) (P := fun j => ∀ hp : j < x.Bridges[k].Ports.length,x.Bridges[k].Ports[j].Has = true → x.Links.any (usedBy k j) = true) (fun m j hj => by
    simp only [spec_l13Bridges_L5]
    rw [idx_nat hk,Option.bind_some,lt_true hj,cond_true,Option.bind_some,idx_nat hj,Option.bind_some,wrap_nat (by omega : j ≤ 1099511627776)]
    cases hh : x.Bridges[k].Ports[j].Has with
    | false => exact .inl ⟨fun _ hc => absurd (hh.symm.trans hc) (by simp),rfl⟩
    | true =>
     rw [cond_true,spec_l13UsedF_val n x k j (by omega) (by omega),Option.bind_some]
     cases hu : x.Links.any (usedBy k j) with
     | false => exact .inr ⟨fun hc => absurd (hc hj hh) (by simp),by rw [used_any.2 hu]; rfl⟩
     | true =>
      have : sumN (cntE k j) x.Links ≠ 0 := fun e => by rw [used_any.1 e] at hu; cases hu
      exact .inl ⟨fun _ _ => rfl,by rw [show (((sumN (cntE k j) x.Links : Nat) : Int) == 0) = false from by simpa using this]; rfl⟩) (fun m => ⟨_,by simp only [spec_l13Bridges_L5]; rw [idx_nat hk,Option.bind_some,lt_false]; rfl⟩) n 0 (by omega) (by omega)
   rcases h5 with ⟨a,e5,p5⟩ | ⟨e5,p5⟩
   ·rw [show spec_l13Bridges_L5 n n x k 0 = _ from e5,Option.bind_some]
    refine .inl ⟨fun _ => ⟨hb,fun j hj => p6 j (by omega) hj hj,fun p hp => p5 p (by omega) hp hp⟩,?_⟩
    simp only [spec_l13Bridges_J4,wrap_nat (by omega : k ≤ 1099511627776)]
   ·rw [show spec_l13Bridges_L5 n n x k 0 = _ from e5,Option.bind_some]
    exact .inr ⟨fun hc => p5 fun j _ hj2 _ => (hc hk).2.2 j hj2,rfl⟩
  ·rw [show spec_l13Bridges_L6 n n x k 0 = _ from e6,Option.bind_some]
   exact .inr ⟨fun hc => p6 fun j _ hj2 _ => (hc hk).2.1 j hj2,rfl⟩
theorem impl_NetOk_L4_stepB (n : Nat) (x : Net) (wx : x.wf) (h : Big x) (hn : 1048700 < n) (m k : Nat) (hk : k < x.Bridges.length) : (BOk n x k ∧ impl_NetOk_L4 n (m + 1) x k = impl_NetOk_L4 n m x ((k + 1 : Nat) : Int)) ∨ (¬ BOk n x k ∧ impl_NetOk_L4 n (m + 1) x k = some (.inr false)) := by
 have ⟨hl1,hl2,hl3,hl4⟩ := h
 have hps := hl2 _ (List.getElem_mem hk)
 have hs2 : x.Bridges[k].Name.size + x.Bridges[k].Ports.length + x.Bridges[k].F.length + x.Bridges[k].V.sz = x.Bridges[k].sz := rfl
 obtain ⟨b,hb,hb2⟩ := spec_BridgeOkF_both n x.Bridges[k] (bridge_wf wx hk) (by omega) (by omega)
 have hg : (decide ((0 : Int) ≤ 0) && (decide ((0 : Int) ≤ (k : Int)) && decide ((k : Int) ≤ (x.Bridges.length : Int)))) = true := by
  rw [decide_eq_true (by omega),decide_eq_true (by omega),decide_eq_true (by omega)]; rfl
 rw [impl_NetOk_L4,lt_true hk,cond_true,idx_nat hk,Option.bind_some,hb2,Option.bind_some]
 cases b with
 | false => exact .inr ⟨fun hc => absurd ((hc hk).1.symm.trans hb) (by simp),rfl⟩
 | true =>
  simp only [Bool.not_true,cond_false,hg,cond_true]
  have ht : (x.Bridges.drop ((0 : Int)).toNat).take (((k : Int)).toNat - ((0 : Int)).toNat) = x.Bridges.take k := by simp
  have hl : (x.Bridges.take k).length = k := by simp; omega
  have h8 := check_loop (L := fun m j => impl_NetOk_L8 n m x.Bridges[k] x k j) (N := k) (P := fun j => ∀ hj : j < k,(x.Bridges[j]'(by omega)).Id ≠ x.Bridges[k].Id) (fun m j hj => by
   simp only [impl_NetOk_L8,ht]
   rw [hl,lt_true hj,cond_true,idx_nat (show j < (x.Bridges.take k).length by omega),Option.bind_some,List.getElem_take,wrap_nat (by omega : j ≤ 1099511627776)]
   by_cases he : (x.Bridges[j]'(by omega)).Id = x.Bridges[k].Id
   ·exact .inr ⟨fun hc => hc hj he,by rw [show ((x.Bridges[j]'(by omega)).Id == x.Bridges[k].Id) = true from by simpa using he]; rfl⟩
   ·exact .inl ⟨fun _ => he,by rw [show ((x.Bridges[j]'(by omega)).Id == x.Bridges[k].Id) = false from by simpa using he]; rfl⟩) (fun m => ⟨_,by simp only [impl_NetOk_L8,ht]; rw [hl,lt_false]; rfl⟩) n 0 (by omega) (by omega)
  rcases h8 with ⟨a1,e8,p8⟩ | ⟨e8,p8⟩
  ·rw [show impl_NetOk_L8 n n x.Bridges[k] x k 0 = _ from e8,Option.bind_some]
   simp only [impl_NetOk_J5]
   have h7 := check_loop (L := fun m j => impl_NetOk_L7 n m x.Bridges[k] x k j) (N := x.Bridges[k].Ports.length) (P := fun j => ∀ hp : j < x.Bridges[k].Ports.length,x.Bridges[k].Ports[j].Has = true → x.Links.any (usedBy k j) = true) (fun m j hj => by
    simp only [impl_NetOk_L7]
    rw [lt_true hj,cond_true,idx_nat hj,Option.bind_some,wrap_nat (by omega : j ≤ 1099511627776)]
    cases hh : x.Bridges[k].Ports[j].Has with
    | false => exact .inl ⟨fun _ hc => absurd (hh.symm.trans hc) (by simp),rfl⟩
    | true =>
     rw [cond_true,impl_endsF_val n x.Links k j (by omega) (by omega),Option.bind_some]
     cases hu : x.Links.any (usedBy k j) with
     | false => exact .inr ⟨fun hc => absurd (hc hj hh) (by simp),rfl⟩
     | true => exact .inl ⟨fun _ _ => rfl,rfl⟩) (fun m => ⟨_,by simp only [impl_NetOk_L7]; rw [lt_false]; rfl⟩) n 0 (by omega) (by omega)
   rcases h7 with ⟨a,e7,p7⟩ | ⟨e7,p7⟩
   ·rw [show impl_NetOk_L7 n n x.Bridges[k] x k 0 = _ from e7,Option.bind_some]
    refine .inl ⟨fun _ => ⟨hb,fun j hj => p8 j (by omega) hj hj,fun p hp => p7 p (by omega) hp hp⟩,?_⟩
    simp only [impl_NetOk_J6,wrap_nat (by omega : k ≤ 1099511627776)]
   ·rw [show impl_NetOk_L7 n n x.Bridges[k] x k 0 = _ from e7,Option.bind_some]
    exact .inr ⟨fun hc => p7 fun j _ hj2 _ => (hc hk).2.2 j hj2,rfl⟩
  ·rw [show impl_NetOk_L8 n n x.Bridges[k] x k 0 = _ from e8,Option.bind_some]
   exact .inr ⟨fun hc => p8 fun j _ hj2 _ => (hc hk).2.1 j hj2,rfl⟩
theorem spec_l13BridgesF_iffB (n : Nat) (x : Net) (wx : x.wf) (h : Big x) (hn : 1048700 < n) : ∃ b,spec_l13BridgesF n x = some b ∧ (b = true ↔ (∀ k,k < x.Bridges.length → BOk n x k) ∧ 1 ≤ x.Bridges.length ∧ x.Bridges.length ≤ 6) := by
 have ⟨hl1,hl2,hl3,hl4⟩ := h
 unfold spec_l13BridgesF
 rcases check_loop (L := fun m k => spec_l13Bridges_L2 n m x k) (N := x.Bridges.length) (P := BOk n x) (fun m k hk => spec_l13Bridges_L2_stepB n x wx h hn m k hk) (fun m => ⟨(),by simp only [spec_l13Bridges_L2]; rw [lt_false]; rfl⟩) n 0 (by omega) (by omega) with ⟨a,e,p⟩ | ⟨e,p⟩
 ·rw [show spec_l13Bridges_L2 n n x 0 = _ from e,Option.bind_some]
  simp only [spec_l13Bridges_J1,spec_l1InF_val,Option.bind_some]
  refine ⟨_,rfl,?_⟩
  rw [Bool.and_eq_true,decide_eq_true_eq,decide_eq_true_eq]
  exact ⟨fun hc => ⟨fun k hk => p k (by omega) hk,by omega,by omega⟩,fun hc => ⟨by omega,by omega⟩⟩
 ·rw [show spec_l13Bridges_L2 n n x 0 = _ from e,Option.bind_some]
  exact ⟨false,rfl,⟨fun hc => (by cases hc),fun hc => absurd (fun k _ hk => hc.1 k hk) p⟩⟩
theorem impl_portAtF_valB (n : Nat) (x : Net) (h : Big x) (b p : Int) : impl_portAtF n x b p = some (match portOf x b p with | some q => (q,true) | none => (⟨false,0,false,⟨0,0,0,0,0⟩⟩,false)) := by
 have ⟨hl1,hl2,hl3,hl4⟩ := h
 unfold impl_portAtF portOf
 rw [impl_inF_eq,in_range_dec n b _ (show x.Bridges.length ≤ 1048600 by omega),Option.bind_some]
 by_cases hb : 0 ≤ b ∧ b < x.Bridges.length
 ·obtain ⟨v,hv⟩ := idx_some_iff.2 hb
  have := hl2 _ (List.mem_of_getElem? (idx_get hv).2)
  have hs2 : v.Name.size + v.Ports.length + v.F.length + v.V.sz = v.sz := rfl
  rw [decide_eq_true hb,hv]
  simp only [Bool.not_true,cond_false,cond_true,Option.bind_some,in_range_dec n p _ (show v.Ports.length ≤ 1048600 by omega)]
  by_cases hp : 0 ≤ p ∧ p < v.Ports.length
  ·obtain ⟨q,hq⟩ := idx_some_iff.2 hp
   simp [hp,hq,hv]
  ·simp [hp,idx_none_of hp]
 ·simp [hb,idx_none_of hb]
theorem spec_l13EndF_valB (n : Nat) (x : Net) (h : Big x) (hn : 1048700 < n) (b p : Int) : spec_l13EndF n x b p = some (match portOf x b p with | some q => decide (sumN (cntE b p) x.Links = 1) | none => false) := by
 have ⟨hl1,hl2,hl3,hl4⟩ := h
 unfold spec_l13EndF portOf
 rw [in_range_dec n b _ (show x.Bridges.length ≤ 1048600 by omega),Option.bind_some]
 by_cases hb : 0 ≤ b ∧ b < x.Bridges.length
 ·obtain ⟨v,hv⟩ := idx_some_iff.2 hb
  have := hl2 _ (List.mem_of_getElem? (idx_get hv).2)
  have hs2 : v.Name.size + v.Ports.length + v.F.length + v.V.sz = v.sz := rfl
  rw [decide_eq_true hb,hv]
  simp only [cond_true,Option.bind_some,in_range_dec n p _ (show v.Ports.length ≤ 1048600 by omega)]
  by_cases hp : 0 ≤ p ∧ p < v.Ports.length
  ·obtain ⟨q,hq⟩ := idx_some_iff.2 hp
   rw [decide_eq_true hp,hq,cond_true,spec_l13UsedF_val n x b p (by omega) (by omega),Option.bind_some]
   by_cases h1 : sumN (cntE b p) x.Links = 1
   ·simp [h1]
   ·have : ((sumN (cntE b p) x.Links : Nat) : Int) ≠ 1 := by omega
    simp [h1,this]
  ·simp [hp,idx_none_of hp]
 ·simp [hb,idx_none_of hb]
theorem spec_NetOk_L4_stepB (n : Nat) (x : Net) (h : Big x) (hn : 1048700 < n) (m k : Nat) (hk : k < x.Links.length) :
  ((∀ hk : k < x.Links.length,LOk x x.Links[k] ∧ sumN (cntE x.Links[k].A x.Links[k].P) x.Links = 1 ∧ sumN (cntE x.Links[k].B x.Links[k].Q) x.Links = 1) ∧ spec_NetOk_L4 n (m + 1) x k = spec_NetOk_L4 n m x ((k + 1 : Nat) : Int)) ∨
  (¬ (∀ hk : k < x.Links.length,LOk x x.Links[k] ∧ sumN (cntE x.Links[k].A x.Links[k].P) x.Links = 1 ∧ sumN (cntE x.Links[k].B x.Links[k].Q) x.Links = 1) ∧ spec_NetOk_L4 n (m + 1) x k = some (.inr false)) := by
 have ⟨hl1,hl2,hl3,hl4⟩ := h
 rw [spec_NetOk_L4,lt_true hk,cond_true,idx_nat hk,Option.bind_some,spec_l13EndF_valB n x h hn,spec_l13EndF_valB n x h hn,wrap_nat (by omega : k ≤ 1099511627776)]
 by_cases hab : x.Links[k].A = x.Links[k].B
 ·exact .inr ⟨fun hc => (hc hk).1.1 (hab),by rw [show (x.Links[k].A == x.Links[k].B) = true from by simpa using hab]; rfl⟩
 ·rw [show (x.Links[k].A == x.Links[k].B) = false from by simpa using hab]
  simp only [cond_false,Option.bind_some]
  cases hp : portOf x x.Links[k].A x.Links[k].P with
  | none => exact .inr ⟨fun hc => (by obtain ⟨p,q,e,_⟩ := (hc hk).1.2; rw [hp] at e; cases e),rfl⟩
  | some p =>
   by_cases h1 : sumN (cntE x.Links[k].A x.Links[k].P) x.Links = 1
   ·simp only [decide_eq_true h1,Bool.not_true,cond_false]
    cases hq : portOf x x.Links[k].B x.Links[k].Q with
    | none => exact .inr ⟨fun hc => (by obtain ⟨p,q,_,e,_⟩ := (hc hk).1.2; rw [hq] at e; cases e),rfl⟩
    | some q =>
     by_cases h2 : sumN (cntE x.Links[k].B x.Links[k].Q) x.Links = 1
     ·obtain ⟨v,v1,v2⟩ := portOf_some hp
      obtain ⟨u,u1,u2⟩ := portOf_some hq
      simp only [decide_eq_true h2,Bool.not_true,cond_false,v1,v2,u1,u2,Option.bind_some]
      by_cases h3 : p.Up = q.Up
      ·exact .inl ⟨fun _ => ⟨⟨hab,p,q,hp,hq,h3⟩,h1,h2⟩,by rw [h3]; simp⟩
      ·refine .inr ⟨fun hc => ?_,by rw [show (p.Up == q.Up) = false from by simpa using h3]; rfl⟩
       obtain ⟨p',q',e1,e2,e3⟩ := (hc hk).1.2
       rw [hp] at e1; rw [hq] at e2
       cases e1; cases e2; exact h3 e3
     ·exact .inr ⟨fun hc => h2 (hc hk).2.2,by simp only [decide_eq_false h2]; rfl⟩
   ·exact .inr ⟨fun hc => h1 (hc hk).2.1,by simp only [decide_eq_false h1]; rfl⟩
theorem impl_linksOk_L2_stepB (n : Nat) (x : Net) (h : Big x) (hn : 1048700 < n) (m k : Nat) (hk : k < x.Links.length) :
  ((∀ hk : k < x.Links.length,k < 9 ∧ LOk x x.Links[k] ∧ (x.Links.take k).any (usedBy x.Links[k].A x.Links[k].P) = false ∧ (x.Links.take k).any (usedBy x.Links[k].B x.Links[k].Q) = false) ∧ impl_linksOk_L2 n (m + 1) x k = impl_linksOk_L2 n m x ((k + 1 : Nat) : Int)) ∨
  (¬ (∀ hk : k < x.Links.length,k < 9 ∧ LOk x x.Links[k] ∧ (x.Links.take k).any (usedBy x.Links[k].A x.Links[k].P) = false ∧ (x.Links.take k).any (usedBy x.Links[k].B x.Links[k].Q) = false) ∧ impl_linksOk_L2 n (m + 1) x k = some (.inr false)) := by
 have ⟨hl1,hl2,hl3,hl4⟩ := h
 have hg : (decide ((0 : Int) ≤ 0) && (decide ((0 : Int) ≤ (k : Int)) && decide ((k : Int) ≤ (x.Links.length : Int)))) = true := by
  rw [decide_eq_true (by omega),decide_eq_true (by omega),decide_eq_true (by omega)]; rfl
 have ht : (x.Links.drop ((0 : Int)).toNat).take (((k : Int)).toNat - ((0 : Int)).toNat) = x.Links.take k := by simp
 have hlen : (x.Links.take k).length ≤ 1048600 := by simp; omega
 rw [impl_linksOk_L2,lt_true hk,cond_true,idx_nat hk,Option.bind_some,impl_portAtF_valB n x h,Option.bind_some,impl_portAtF_valB n x h,Option.bind_some]
 simp only [hg,cond_true,ht,impl_endsF_val n (x.Links.take k) _ _ hlen (by omega),Option.bind_some,wrap_nat (by omega : k ≤ 1099511627776)]
 by_cases h9 : k < 9
 ·rw [decide_eq_false (show ¬ ((k : Nat) : Int) ≥ 9 by omega),cond_false]
  cases hp : portOf x x.Links[k].A x.Links[k].P with
  | none => exact .inr ⟨fun hc => (by obtain ⟨p,q,e,_⟩ := (hc hk).2.1.2; rw [hp] at e; cases e),rfl⟩
  | some p =>
   cases hq : portOf x x.Links[k].B x.Links[k].Q with
   | none => exact .inr ⟨fun hc => (by obtain ⟨p,q,_,e,_⟩ := (hc hk).2.1.2; rw [hq] at e; cases e),rfl⟩
   | some q =>
    simp only [Bool.not_true,cond_false]
    by_cases hab : x.Links[k].A = x.Links[k].B
    ·exact .inr ⟨fun hc => (hc hk).2.1.1 (hab),by rw [show (x.Links[k].A == x.Links[k].B) = true from by simpa using hab]; rfl⟩
    ·rw [show (x.Links[k].A == x.Links[k].B) = false from by simpa using hab,cond_false]
     by_cases h3 : p.Up = q.Up
     ·rw [show (!(p.Up == q.Up)) = false from by simp [h3],cond_false]
      cases h1 : (x.Links.take k).any (usedBy x.Links[k].A x.Links[k].P) with
      | true => exact .inr ⟨fun hc => (by have := (hc hk).2.2.1; rw [h1] at this; cases this),rfl⟩
      | false =>
       cases h2 : (x.Links.take k).any (usedBy x.Links[k].B x.Links[k].Q) with
       | true => exact .inr ⟨fun hc => (by have := (hc hk).2.2.2; rw [h2] at this; cases this),rfl⟩
       | false => exact .inl ⟨fun _ => ⟨h9,⟨hab,p,q,hp,hq,h3⟩,h1,h2⟩,rfl⟩
     ·refine .inr ⟨fun hc => ?_,by rw [show (p.Up == q.Up) = false from by simpa using h3]; rfl⟩
      obtain ⟨p',q',e1,e2,e3⟩ := (hc hk).2.1.2
      rw [hp] at e1; rw [hq] at e2
      cases e1; cases e2; exact h3 e3
 ·exact .inr ⟨fun hc => h9 (hc hk).1,by rw [decide_eq_true (show ((k : Nat) : Int) ≥ 9 by omega)]; rfl⟩
def NetC (n : Nat) (x : Net) : Prop := (∀ k,k < x.Bridges.length → BOk n x k) ∧ (1 ≤ x.Bridges.length ∧ x.Bridges.length ≤ 6) ∧ x.Links.length ≤ 9 ∧ x.Said.length ≤ 40 ∧ ∀ k (hk : k < x.Links.length),LOk x x.Links[k] ∧ sumN (cntE x.Links[k].A x.Links[k].P) x.Links = 1 ∧ sumN (cntE x.Links[k].B x.Links[k].Q) x.Links = 1
theorem spec_NetOkF_bothB (n : Nat) (x : Net) (wx : x.wf) (h : Big x) (hn : 1048700 < n) : ∃ b,spec_NetOkF n x = some b ∧ impl_NetOkF n x = some b ∧ (b = true → NetC n x) ∧ (x.Said = [] → NetC n x → b = true) := by
 have ⟨hl1,hl2,hl3,hl4⟩ := h
 obtain ⟨bB,eB,iB⟩ := spec_l13BridgesF_iffB n x wx h hn
 have hsaid : ∃ bS : Bool,(∃ o,spec_NetOk_L3 n n x 0 = some o ∧ impl_NetOk_L3 n n x 0 = some o ∧ (o = .inl () ∧ bS = true ∨ o = .inr false ∧ bS = false)) := by
  have step : ∀ m (k : Nat),k < x.Said.length → ∃ b : Bool,spec_NetOk_L3 n (m + 1) x k = (bif b then spec_NetOk_L3 n m x ((k + 1 : Nat) : Int) else some (.inr false)) ∧ impl_NetOk_L3 n (m + 1) x k = (bif b then impl_NetOk_L3 n m x ((k + 1 : Nat) : Int) else some (.inr false)) := fun m k hk => by
   obtain ⟨c,hc⟩ := spec_VecOkF_tot n x.Said[k].V
   rw [spec_NetOk_L3,impl_NetOk_L3,lt_true hk,idx_nat hk]
   simp only [cond_true,Option.bind_some,impl_inF_eq,in_range_dec n _ _ (show x.Links.length ≤ 1048600 by omega),impl_VecOkF_eq,hc,wrap_nat (by omega : k ≤ 1099511627776)]
   by_cases hr : 0 ≤ x.Said[k].Link ∧ x.Said[k].Link < x.Links.length
   ·rw [decide_eq_true hr]
    cases c with
    | false => exact ⟨false,rfl,rfl⟩
    | true => exact ⟨true,rfl,rfl⟩
   ·rw [decide_eq_false hr]; exact ⟨false,rfl,rfl⟩
  have all : ∀ (m k : Nat),k ≤ x.Said.length → x.Said.length < m + k → ∃ o,spec_NetOk_L3 n m x k = some o ∧ impl_NetOk_L3 n m x k = some o ∧ (o = .inl () ∨ o = .inr false) := by
   intro m
   induction m with
   | zero => intro k h1 h2; omega
   | succ m ih =>
    intro k h1 h2
    by_cases hk : k < x.Said.length
    ·obtain ⟨b,e1,e2⟩ := step m k hk
     rw [e1,e2]
     cases b with
     | true => exact ih (k + 1) (by omega) (by omega)
     | false => exact ⟨_,rfl,rfl,.inr rfl⟩
    ·have he : k = x.Said.length := by omega
     subst he
     rw [spec_NetOk_L3,impl_NetOk_L3,lt_false]
     exact ⟨_,rfl,rfl,.inl rfl⟩
  obtain ⟨o,e1,e2,e3⟩ := all n 0 (by omega) (by omega)
  rcases e3 with e3 | e3
  ·exact ⟨true,o,e1,e2,.inl ⟨e3,rfl⟩⟩
  ·exact ⟨false,o,e1,e2,.inr ⟨e3,rfl⟩⟩
 obtain ⟨bS,oS,s1,s2,s3⟩ := hsaid
 have s1' : spec_NetOk_L3 n n x 0 = some oS := s1
 have s2' : impl_NetOk_L3 n n x 0 = some oS := s2
 have l4 := check_loop (L := fun m k => spec_NetOk_L4 n m x k) (N := x.Links.length) (P := fun k => ∀ hk : k < x.Links.length,LOk x x.Links[k] ∧ sumN (cntE x.Links[k].A x.Links[k].P) x.Links = 1 ∧ sumN (cntE x.Links[k].B x.Links[k].Q) x.Links = 1) (fun m k hk => spec_NetOk_L4_stepB n x h hn m k hk) (fun m => ⟨(),by simp only [spec_NetOk_L4]; rw [lt_false]; rfl⟩) n 0 (by omega) (by omega)
 have l2 := check_loop (L := fun m k => impl_linksOk_L2 n m x k) (N := x.Links.length) (P := fun k => ∀ hk : k < x.Links.length,k < 9 ∧ LOk x x.Links[k] ∧ (x.Links.take k).any (usedBy x.Links[k].A x.Links[k].P) = false ∧ (x.Links.take k).any (usedBy x.Links[k].B x.Links[k].Q) = false) (fun m k hk => impl_linksOk_L2_stepB n x h hn m k hk) (fun m => ⟨(),by simp only [impl_linksOk_L2]; rw [lt_false]; rfl⟩) n 0 (by omega) (by omega)
 have lB := check_loop (L := fun m k => impl_NetOk_L4 n m x k) (N := x.Bridges.length) (P := BOk n x) (fun m k hk => impl_NetOk_L4_stepB n x wx h hn m k hk) (fun m => ⟨(),by simp only [impl_NetOk_L4]; rw [lt_false]; rfl⟩) n 0 (by omega) (by omega)
 have hiff : (x.Links.length ≤ 9 ∧ ∀ j,0 ≤ j → j < x.Links.length → ∀ hk : j < x.Links.length,LOk x x.Links[j] ∧ sumN (cntE x.Links[j].A x.Links[j].P) x.Links = 1 ∧ sumN (cntE x.Links[j].B x.Links[j].Q) x.Links = 1) ↔
   (∀ j,0 ≤ j → j < x.Links.length → ∀ hk : j < x.Links.length,j < 9 ∧ LOk x x.Links[j] ∧ (x.Links.take j).any (usedBy x.Links[j].A x.Links[j].P) = false ∧ (x.Links.take j).any (usedBy x.Links[j].B x.Links[j].Q) = false) := by
  constructor
  ·rintro ⟨h9,hc⟩ j _ hj hj'
   have hne : ∀ l ∈ x.Links,l.A ≠ l.B := fun l hl => by
    obtain ⟨i,hi,rfl⟩ := List.getElem_of_mem hl
    exact (hc i (by omega) hi hi).1.1
   exact ⟨by omega,(hc j (by omega) hj hj).1,(ends_apart x.Links hne).1 (fun k hk => (hc k (by omega) hk hk).2) j hj⟩
  ·intro hc
   have hne : ∀ l ∈ x.Links,l.A ≠ l.B := fun l hl => by
    obtain ⟨i,hi,rfl⟩ := List.getElem_of_mem hl
    exact (hc i (by omega) hi hi).2.1.1
   refine ⟨?_,fun j _ hj _ => ⟨(hc j (by omega) hj hj).2.1,(ends_apart x.Links hne).2 (fun k hk => (hc k (by omega) hk hk).2.2) j hj⟩⟩
   by_cases h0 : x.Links.length = 0
   ·omega
   ·have := (hc (x.Links.length - 1) (by omega) (by omega) (by omega)).1
    omega
 have hS : ∀ (bb : Bool),(bif decide ((x.Said.length : Int) > 40) then (some false : Option Bool) else some bb) = some (decide (x.Said.length ≤ 40) && bb) := fun bb => by
  by_cases h40 : x.Said.length ≤ 40
  ·rw [decide_eq_false (by omega),decide_eq_true h40]; cases bb <;> rfl
  ·rw [decide_eq_true (by omega),decide_eq_false h40]; rfl
 have hn6 : (decide ((1 : Int) ≤ (x.Bridges.length : Int)) && decide ((x.Bridges.length : Int) ≤ 6)) = decide (1 ≤ x.Bridges.length ∧ x.Bridges.length ≤ 6) := by
  by_cases h6 : 1 ≤ x.Bridges.length ∧ x.Bridges.length ≤ 6
  ·rw [decide_eq_true h6,decide_eq_true (by omega),decide_eq_true (by omega)]; rfl
  ·rw [decide_eq_false h6]; simp only [Bool.and_eq_false_iff,decide_eq_false_iff_not]; omega
 have hL : ∀ (b' : Bool),(bif decide ((x.Links.length : Int) > 9) then (some false : Option Bool) else some b') = some (decide (x.Links.length ≤ 9) && b') := fun b' => by
  by_cases h9 : x.Links.length ≤ 9
  ·rw [decide_eq_false (by omega),decide_eq_true h9]; cases b' <;> rfl
  ·rw [decide_eq_true (by omega),decide_eq_false h9]; rfl
 have hN : ∀ (c b' : Bool),(bif !c then (some false : Option Bool) else some b') = some (c && b') := fun c b' => by cases c <;> rfl
 have hJ1 : spec_NetOk_J1 n x = some bS := by
  unfold spec_NetOk_J1
  rw [s1']
  rcases s3 with ⟨rfl,rfl⟩ | ⟨rfl,rfl⟩ <;> rfl
 have hspec : ∃ b4 : Bool,spec_NetOkF n x = some (bB && (decide (x.Links.length ≤ 9) && (decide (x.Said.length ≤ 40) && (b4 && bS)))) ∧ (b4 = true ↔ ∀ j,0 ≤ j → j < x.Links.length → ∀ hk : j < x.Links.length,LOk x x.Links[j] ∧ sumN (cntE x.Links[j].A x.Links[j].P) x.Links = 1 ∧ sumN (cntE x.Links[j].B x.Links[j].Q) x.Links = 1) := by
  unfold spec_NetOkF
  rw [eB,Option.bind_some]
  rcases l4 with ⟨a,e,p⟩ | ⟨e,p⟩
  ·rw [show spec_NetOk_L4 n n x 0 = _ from e]
   refine ⟨true,?_,⟨fun _ => p,fun _ => rfl⟩⟩
   simp only [Option.bind_some,hJ1,hS,hL,hN,Bool.true_and]
  ·rw [show spec_NetOk_L4 n n x 0 = _ from e]
   refine ⟨false,?_,⟨fun hc => (by cases hc),fun hc => absurd hc p⟩⟩
   simp only [Option.bind_some,hS,hL,hN,Bool.false_and]
 have hlk : ∃ b2 : Bool,impl_linksOkF n x = some b2 ∧ (b2 = true ↔ (∀ j,0 ≤ j → j < x.Links.length → ∀ hk : j < x.Links.length,j < 9 ∧ LOk x x.Links[j] ∧ (x.Links.take j).any (usedBy x.Links[j].A x.Links[j].P) = false ∧ (x.Links.take j).any (usedBy x.Links[j].B x.Links[j].Q) = false)) := by
  unfold impl_linksOkF
  rcases l2 with ⟨a,e,p⟩ | ⟨e,p⟩
  ·rw [show impl_linksOk_L2 n n x 0 = _ from e]; exact ⟨true,rfl,⟨fun _ => p,fun _ => rfl⟩⟩
  ·rw [show impl_linksOk_L2 n n x 0 = _ from e]; exact ⟨false,rfl,⟨fun hc => (by cases hc),fun hc => absurd hc p⟩⟩
 obtain ⟨b2,e2,i2⟩ := hlk
 have hJ2 : impl_NetOk_J1 n x = some (bS && b2) := by
  unfold impl_NetOk_J1
  rw [s2']
  rcases s3 with ⟨rfl,rfl⟩ | ⟨rfl,rfl⟩
  ·simp only [Option.bind_some,impl_NetOk_J2,e2,Bool.true_and]
  ·rfl
 have himpl : ∃ bb : Bool,impl_NetOkF n x = some (decide (1 ≤ x.Bridges.length ∧ x.Bridges.length ≤ 6) && (decide (x.Said.length ≤ 40) && (bb && (bS && b2)))) ∧ (bb = true ↔ ∀ j,0 ≤ j → j < x.Bridges.length → BOk n x j) := by
  unfold impl_NetOkF
  rw [impl_inF_eq,spec_l1InF_val,Option.bind_some,hn6]
  rcases lB with ⟨a,e,p⟩ | ⟨e,p⟩
  ·rw [show impl_NetOk_L4 n n x 0 = _ from e]
   refine ⟨true,?_,⟨fun _ => p,fun _ => rfl⟩⟩
   simp only [Option.bind_some,hJ2,hS,hN,Bool.true_and]
  ·rw [show impl_NetOk_L4 n n x 0 = _ from e]
   refine ⟨false,?_,⟨fun hc => (by cases hc),fun hc => absurd hc p⟩⟩
   simp only [Option.bind_some,hS,hN,Bool.false_and]
 obtain ⟨b4,e4,i4⟩ := hspec
 obtain ⟨bb,eb,ib⟩ := himpl
 have heq : (bB && (decide (x.Links.length ≤ 9) && (decide (x.Said.length ≤ 40) && (b4 && bS)))) = (decide (1 ≤ x.Bridges.length ∧ x.Bridges.length ≤ 6) && (decide (x.Said.length ≤ 40) && (bb && (bS && b2)))) := by
  rw [Bool.eq_iff_iff]
  simp only [Bool.and_eq_true,decide_eq_true_eq,iB,i4,ib,i2]
  constructor
  ·rintro ⟨⟨h1,h2⟩,h3,h4,h5,h6⟩
   exact ⟨h2,h4,fun j _ hj => h1 j hj,h6,hiff.1 ⟨h3,h5⟩⟩
  ·rintro ⟨h2,h4,h1,h6,h7⟩
   obtain ⟨h3,h5⟩ := hiff.2 h7
   exact ⟨⟨fun k hk => h1 k (by omega) hk,h2⟩,h3,h4,h5,h6⟩
 refine ⟨_,e4,by rw [heq]; exact eb,fun hc => ?_,fun hS0 ⟨h1,h2,h3,h4,h5⟩ => ?_⟩
 ·simp only [Bool.and_eq_true,decide_eq_true_eq,iB,i4] at hc
  obtain ⟨⟨h1,h2⟩,h3,h4,h5,h6⟩ := hc
  exact ⟨h1,h2,h3,h4,fun k hk => h5 k (by omega) hk hk⟩
 ·have hb : bS = true := by
   rcases s3 with ⟨_,r⟩ | ⟨r,_⟩
   ·exact r
   ·rw [r] at s1'
    obtain ⟨m,hm⟩ : ∃ m,n = m + 1 := ⟨n - 1,by omega⟩
    rw [hm,spec_NetOk_L3,hS0] at s1'
    cases s1'
  simp only [Bool.and_eq_true,decide_eq_true_eq,iB,i4]
  exact ⟨⟨h1,h2⟩,h3,h4,fun j _ hj hk => h5 j hk,hb⟩
theorem spec_BridgeOkF_mk (n : Nat) (x : Bridge) (hn : x.Ports.length < n) (h1 : 1 ≤ x.Ports.length) (h2 : x.Ports.length ≤ 6) (h3 : 1 ≤ x.Id) (h4 : x.Id ≤ 99) (h5 : x.Name.size ≤ 10) (h6 : spec_FdbOkF n x.F = some true) (h7 : spec_VtabOkF n x.V (x.Ports.length : Int) = some true) (h8 : 0 ≤ x.Ticks ∧ x.Ticks ≤ 1000000) (h9 : 0 ≤ x.Parse ∧ x.Parse ≤ 1000000) (h10 : 0 ≤ x.Word ∧ x.Word ≤ 1000000) (h11 : 0 ≤ x.Drops ∧ x.Drops ≤ 1000000) (h12 : 0 ≤ x.Vers ∧ x.Vers ≤ 1000000) (h13 : ∀ j (hj : j < x.Ports.length),spec_PtOkF n x.Ports[j] = some true) : spec_BridgeOkF n x = some true := by
 have two : ∀ {a b c : Int},a ≤ b → b ≤ c → (decide (a ≤ b) && decide (b ≤ c)) = true := fun h h' => by rw [decide_eq_true h,decide_eq_true h']; rfl
 unfold spec_BridgeOkF
 rcases check_loop (L := fun m k => spec_BridgeOk_L2 n m x k) (N := x.Ports.length) (P := fun k => ∀ hk : k < x.Ports.length,spec_PtOkF n x.Ports[k] = some true) (fun m k hk => by
  simp only [spec_BridgeOk_L2]
  rw [lt_true hk,cond_true,idx_nat hk,Option.bind_some,h13 k hk,Option.bind_some,wrap_nat (by omega : k ≤ 1099511627776)]
  exact .inl ⟨fun _ => h13 k hk,rfl⟩) (fun m => ⟨(),by simp only [spec_BridgeOk_L2]; rw [lt_false]; rfl⟩) n 0 (by omega) (by omega) with ⟨a,e,_⟩ | ⟨_,p⟩
 ·rw [show spec_BridgeOk_L2 n n x 0 = _ from e]
  simp only [Option.bind_some,spec_BridgeOk_J1,spec_l11CountsF,spec_l1InF_val,two h3 h4,two h8.1 h8.2,two h9.1 h9.2,two h10.1 h10.2,two h11.1 h11.2,two h12.1 h12.2,two (show (1 : Int) ≤ (x.Ports.length : Int) by omega) (show (x.Ports.length : Int) ≤ 6 by omega),decide_eq_true (show (x.Name.size : Int) ≤ 10 by omega),h6,h7,cond_true]
 ·exact absurd (fun j _ _ hj => h13 j hj) p
def dnP : Pt := ⟨false,1,false,⟨0,0,0,0,0⟩⟩
def upP : Pt := ⟨true,1,false,⟨0,0,0,0,0⟩⟩
def psK (p k : Nat) : List Pt := List.replicate k upP ++ List.replicate (p - k) dnP
theorem psK_len {p k : Nat} (h : k ≤ p) : (psK p k).length = p := by simp [psK]; omega
theorem psK_get {p k j : Nat} (hj : j < (psK p k).length) : (psK p k)[j] = if j < k then upP else dnP := by
 unfold psK at hj ⊢
 by_cases h : j < k
 ·rw [List.getElem_append_left (by simpa using h),if_pos h]; simp
 ·rw [List.getElem_append_right (by simpa using h),if_neg h]; simp
theorem psK_set {p k : Nat} (h : k < p) : (psK p k).set k upP = psK p (k + 1) := by
 refine List.ext_getElem (by rw [List.length_set,psK_len (by omega),psK_len (by omega)]) fun j h1 h2 => ?_
 rw [List.length_set] at h1
 rw [List.getElem_set,psK_get,psK_get]
 by_cases hj : k = j
 ·subst hj; rw [if_pos rfl,if_pos (by omega)]
 ·rw [if_neg hj]
  by_cases hk : j < k
  ·rw [if_pos hk,if_pos (by omega)]
  ·rw [if_neg hk,if_neg (by omega)]
def nbB (z : Int) (vt : Vtab) (ps : List Pt) (v : Int) : Bridge := ⟨z,⟨#[]⟩,ps,[],vt,0,0,0,0,v⟩
def noB : Bridge := ⟨0,⟨#[]⟩,[],[],⟨[],[]⟩,0,0,0,0,0⟩
theorem newVt (p : Nat) (h1 : 1 ≤ p) (h6 : p ≤ 6) : ∃ vt : Vtab,spec_VtabNewF 1048800 p = some vt ∧ impl_VtabNewF 1048800 p = some vt ∧ spec_VtabOkF 1048800 vt p = some true ∧ vt.sz ≤ 10 ∧ vt.wf := by
 have wf : ∀ (m : Int) (k : Nat),0 ≤ m → m ≤ 63 → k ≤ 6 → (⟨[⟨1,m,m⟩],List.replicate k 1⟩ : Vtab).wf := fun m k h0 h1 hk => by
  refine ⟨⟨by simp only [List.length_singleton]; decide,fun r hr => ?_⟩,⟨?_,fun r hr => ?_⟩,trivial⟩
  ·rw [List.mem_singleton] at hr; subst hr
   exact ⟨intWf_small (by simp only; omega) (by simp only; omega),intWf_small (by simp only; omega) (by simp only; omega),intWf_small (by simp only; omega) (by simp only; omega),trivial⟩
  ·have : maxLen = 9223372036854775807 := by decide
   simp only [List.length_replicate]; omega
  ·obtain ⟨_,rfl⟩ := List.mem_replicate.1 hr
   exact intWf_small (by omega) (by omega)
 have hc : p = 1 ∨ p = 2 ∨ p = 3 ∨ p = 4 ∨ p = 5 ∨ p = 6 := by omega
 rcases hc with rfl | rfl | rfl | rfl | rfl | rfl
 ·exact ⟨⟨[⟨1,1,1⟩],List.replicate 1 1⟩,by kernel_rfl,by kernel_rfl,by kernel_rfl,by decide,wf _ _ (by decide) (by decide) (by decide)⟩
 ·exact ⟨⟨[⟨1,3,3⟩],List.replicate 2 1⟩,by kernel_rfl,by kernel_rfl,by kernel_rfl,by decide,wf _ _ (by decide) (by decide) (by decide)⟩
 ·exact ⟨⟨[⟨1,7,7⟩],List.replicate 3 1⟩,by kernel_rfl,by kernel_rfl,by kernel_rfl,by decide,wf _ _ (by decide) (by decide) (by decide)⟩
 ·exact ⟨⟨[⟨1,15,15⟩],List.replicate 4 1⟩,by kernel_rfl,by kernel_rfl,by kernel_rfl,by decide,wf _ _ (by decide) (by decide) (by decide)⟩
 ·exact ⟨⟨[⟨1,31,31⟩],List.replicate 5 1⟩,by kernel_rfl,by kernel_rfl,by kernel_rfl,by decide,wf _ _ (by decide) (by decide) (by decide)⟩
 ·exact ⟨⟨[⟨1,63,63⟩],List.replicate 6 1⟩,by kernel_rfl,by kernel_rfl,by kernel_rfl,by decide,wf _ _ (by decide) (by decide) (by decide)⟩
theorem newPorts (p : Nat) (h1 : 1 ≤ p) (h6 : p ≤ 6) : spec_BridgeNew_L2 1048800 1048800 p 0 [] = some (.inl (psK p 0)) ∧ impl_BridgeNew_L2 1048800 1048800 p 0 [] = some (.inl (psK p 0)) := by
 have hc : p = 1 ∨ p = 2 ∨ p = 3 ∨ p = 4 ∨ p = 5 ∨ p = 6 := by omega
 rcases hc with rfl | rfl | rfl | rfl | rfl | rfl <;> exact ⟨by kernel_rfl,by kernel_rfl⟩
theorem newBridge (z : Int) (q : Int) : (¬ ((1 ≤ z ∧ z ≤ 99) ∧ 1 ≤ q ∧ q ≤ 6) ∧ spec_BridgeNewF 1048800 z q = some noB ∧ impl_BridgeNewF 1048800 z q = some noB) ∨ ∃ (p : Nat) (vt : Vtab),q = p ∧ (1 ≤ z ∧ z ≤ 99) ∧ 1 ≤ p ∧ p ≤ 6 ∧ vt.sz ≤ 10 ∧ vt.wf ∧ spec_VtabOkF 1048800 vt p = some true ∧ spec_BridgeNewF 1048800 z q = some (nbB z vt (psK p 0) 0) ∧ impl_BridgeNewF 1048800 z q = some (nbB z vt (psK p 0) 0) := by
 unfold spec_BridgeNewF impl_BridgeNewF
 simp only [impl_inF_eq,spec_l1InF_val,Option.bind_some]
 by_cases hz : 1 ≤ z ∧ z ≤ 99
 ·rw [decide_eq_true hz.1,decide_eq_true hz.2]
  by_cases hq : 1 ≤ q ∧ q ≤ 6
  ·obtain ⟨p,rfl⟩ := Int.eq_ofNat_of_zero_le (show 0 ≤ q by omega)
   obtain ⟨vt,e1,e2,e3,e4,e5⟩ := newVt p (by omega) (by omega)
   obtain ⟨f1,f2⟩ := newPorts p (by omega) (by omega)
   refine .inr ⟨p,vt,rfl,hz,by omega,by omega,e4,e5,e3,?_,?_⟩
   ·rw [decide_eq_true hq.1,decide_eq_true hq.2]
    simp only [Bool.and_self,Bool.not_true,cond_false,e1,Option.bind_some,f1]
    rfl
   ·rw [decide_eq_true hq.1,decide_eq_true hq.2]
    simp only [Bool.and_self,Bool.not_true,cond_false,e2,Option.bind_some,f2]
    rfl
  ·refine .inl ⟨fun h => hq h.2,?_⟩
   have : (decide (1 ≤ q) && decide (q ≤ 6)) = false := by
    simp only [Bool.and_eq_false_iff,decide_eq_false_iff_not]; omega
   rw [this]
   exact ⟨rfl,rfl⟩
 ·refine .inl ⟨fun h => hz h.1,?_⟩
  have : (decide (1 ≤ z) && decide (z ≤ 99)) = false := by
   simp only [Bool.and_eq_false_iff,decide_eq_false_iff_not]; omega
  rw [this]
  exact ⟨rfl,rfl⟩
theorem nbB_sz {z : Int} {vt : Vtab} {ps : List Pt} {v : Int} : (nbB z vt ps v).sz = ps.length + vt.sz := by
 show 0 + ps.length + 0 + vt.sz = _
 omega
theorem nbB_ok {z : Int} {vt : Vtab} {p k : Nat} {v : Int} (hz : 1 ≤ z ∧ z ≤ 99) (h1 : 1 ≤ p) (h6 : p ≤ 6) (hk : k ≤ p) (hv : spec_VtabOkF 1048800 vt p = some true) (v0 : 0 ≤ v) (v1 : v ≤ 1000000) : spec_BridgeOkF 1048800 (nbB z vt (psK p k) v) = some true := by
 have hl := psK_len hk
 have d0 : (0 : Int) ≤ 0 ∧ (0 : Int) ≤ 1000000 := by decide
 refine spec_BridgeOkF_mk 1048800 (nbB z vt (psK p k) v) (by show (psK p k).length < _; omega) (by show 1 ≤ (psK p k).length; omega) (by show (psK p k).length ≤ 6; omega) hz.1 hz.2 (Nat.zero_le 10) (by kernel_rfl) (by show spec_VtabOkF 1048800 vt ((psK p k).length : Int) = _; rw [hl]; exact hv) d0 d0 d0 d0 ⟨v0,v1⟩ (fun j hj => ?_)
 have e : (nbB z vt (psK p k) v).Ports[j] = if j < k then upP else dnP := psK_get hj
 rw [e]
 split <;> rfl
theorem nbB_wf {z : Int} {vt : Vtab} {p k : Nat} {v : Int} (hz : 1 ≤ z ∧ z ≤ 99) (h6 : p ≤ 6) (hk : k ≤ p) (wv : vt.wf) (v0 : 0 ≤ v) (v1 : v ≤ 1000000) : (nbB z vt (psK p k) v).wf := by
 have hm : maxLen = 9223372036854775807 := by decide
 have z0 : intWf 0 := intWf_small (by omega) (by omega)
 have o1 : intWf 1 := intWf_small (by omega) (by omega)
 have wz : intWf z := intWf_small (by omega) (by omega)
 have wv' : intWf v := intWf_small (by omega) (by omega)
 refine ⟨wz,Nat.zero_le _,⟨by show (psK p k).length ≤ maxLen; rw [psK_len hk]; omega,fun q hq => ?_⟩,⟨Nat.zero_le _,fun q hq => by cases hq⟩,wv.1,wv.2.1,z0,z0,z0,z0,wv',trivial⟩
 obtain ⟨j,hj,rfl⟩ := List.getElem_of_mem hq
 have e : (nbB z vt (psK p k) v).Ports[j] = if j < k then upP else dnP := psK_get hj
 rw [e]
 split <;> exact ⟨o1,z0,z0,z0,z0,z0,trivial⟩
theorem noB_wf : noB.wf := by
 have z0 : intWf 0 := intWf_small (by omega) (by omega)
 exact ⟨z0,Nat.zero_le _,⟨Nat.zero_le _,fun q hq => by cases hq⟩,⟨Nat.zero_le _,fun q hq => by cases hq⟩,⟨Nat.zero_le _,fun q hq => by cases hq⟩,⟨Nat.zero_le _,fun q hq => by cases hq⟩,z0,z0,z0,z0,z0,trivial⟩
theorem nbB_up {z : Int} {vt : Vtab} {p k : Nat} {v : Int} (hz : 1 ≤ z ∧ z ≤ 99) (h1 : 1 ≤ p) (h6 : p ≤ 6) (hk : k < p) (hv : spec_VtabOkF 1048800 vt p = some true) (hs : vt.sz ≤ 10) (wv : vt.wf) (v0 : 0 ≤ v) (v1 : v ≤ 1000000) : ∃ v',0 ≤ v' ∧ v' ≤ 1000000 ∧ spec_LinkSetF 1048800 (nbB z vt (psK p k) v) k true = some (nbB z vt (psK p (k + 1)) v') ∧ impl_LinkSetF 1048800 (nbB z vt (psK p k) v) k true = some (nbB z vt (psK p (k + 1)) v') := by
 have hl : (nbB z vt (psK p k) v).Ports.length = p := psK_len (by omega)
 have hsz : (nbB z vt (psK p k) v).sz ≤ 16 := by rw [nbB_sz,psK_len (by omega)]; omega
 have ok := nbB_ok (k := k) hz h1 h6 (by omega) hv v0 v1
 have wx := nbB_wf (v := v) hz h6 (show k ≤ p by omega) wv v0 v1
 obtain ⟨b,e1,e2⟩ := spec_BridgeOkF_both 1048800 _ wx (by omega) (by omega)
 rw [ok] at e1
 cases e1
 have hk' : k < (nbB z vt (psK p k) v).Ports.length := by omega
 have hg : (nbB z vt (psK p k) v).Ports[k].Cost = 1 := by
  have e : (nbB z vt (psK p k) v).Ports[k] = if k < k then upP else dnP := psK_get hk'
  rw [e]; split <;> rfl
 obtain ⟨zs,v',bb,f1,f2,f3,f4,f5,f6,_⟩ := spec_turn_set 1048800 (nbB z vt (psK p k) v) (by omega) (by omega) ok ((nbB z vt (psK p k) v).Ports.set k upP) (by simp) [] (Nat.zero_le _) 0
 have hzs : zs = [] := List.eq_nil_of_length_eq_zero (Nat.le_zero.1 f3)
 subst hzs
 have hset : (nbB z vt (psK p k) v).Ports.set k upP = psK p (k + 1) := psK_set hk
 rw [hset] at f1 f2
 have there : (true && (decide ((0 : Int) ≤ k) && decide ((k : Int) < (nbB z vt (psK p k) v).Ports.length))) = true := by
  rw [decide_eq_true (by omega),decide_eq_true (by omega)]; rfl
 refine ⟨v',f5,f6,?_,?_⟩
 ·unfold spec_LinkSetF
  rw [spec_l11CopyF_eq 1048800 _ (by omega),Option.bind_some,spec_l11ThereF_val 1048800 _ k true ok (by omega),Option.bind_some,there]
  simp only [Bool.not_true,cond_false,idx_nat hk',Option.bind_some,hg,Int.toNat_natCast]
  rw [show (⟨true,1,false,(⟨0,0,0,0,0⟩ : Vec)⟩ : Pt) = upP from rfl,hset]
  have : spec_l11TurnedF 1048800 ⟨(nbB z vt (psK p k) v).Id,(nbB z vt (psK p k) v).Name,psK p (k + 1),(nbB z vt (psK p k) v).F,(nbB z vt (psK p k) v).V,(nbB z vt (psK p k) v).Ticks,(nbB z vt (psK p k) v).Parse,(nbB z vt (psK p k) v).Word,(nbB z vt (psK p k) v).Drops,(nbB z vt (psK p k) v).Vers⟩ = some (nbB z vt (psK p (k + 1)) v') := f1
  rw [this]
  rfl
 ·unfold impl_LinkSetF
  rw [impl_copyBridgeF_eq 1048800 _ (by omega),Option.bind_some,impl_isPortF_val 1048800 _ k true e2 (by omega),Option.bind_some,there]
  simp only [cond_true,idx_nat hk',Option.bind_some,hg,Int.toNat_natCast]
  rw [show (⟨true,1,false,(⟨0,0,0,0,0⟩ : Vec)⟩ : Pt) = upP from rfl,hset]
  have : impl_Bridge_turnF 1048800 ⟨(nbB z vt (psK p k) v).Id,(nbB z vt (psK p k) v).Name,psK p (k + 1),(nbB z vt (psK p k) v).F,(nbB z vt (psK p k) v).V,(nbB z vt (psK p k) v).Ticks,(nbB z vt (psK p k) v).Parse,(nbB z vt (psK p k) v).Word,(nbB z vt (psK p k) v).Drops,(nbB z vt (psK p k) v).Vers⟩ = some (nbB z vt (psK p (k + 1)) v') := f2
  rw [this]
  rfl
theorem ups_loop {z : Int} {vt : Vtab} {p : Nat} (hz : 1 ≤ z ∧ z ≤ 99) (h1 : 1 ≤ p) (h6 : p ≤ 6) (hv : spec_VtabOkF 1048800 vt p = some true) (hs : vt.sz ≤ 10) (wv : vt.wf) (r8 : Bridge) (hr : r8.Ports.length = p) : ∀ (m k : Nat) (v : Int),k ≤ p → p < m + k → 0 ≤ v → v ≤ 1000000 → ∃ w,0 ≤ w ∧ w ≤ 1000000 ∧
  impl_NetNew_L4 1048800 m r8 k z ⟨#[]⟩ (psK p k) [] vt.Rows vt.Pvid 0 0 0 0 v = some (.inl (z,⟨#[]⟩,psK p p,[],vt.Rows,vt.Pvid,0,0,0,0,w)) ∧
  ∀ (i : Nat) (zs : List Bridge) (hi : i < zs.length),zs[i] = nbB z vt (psK p k) v → spec_NetNew_L5 1048800 m p i k zs = some (.inl (zs.set i (nbB z vt (psK p p) w)))
 | 0,k,v,hk,hm,v0,v1 => by omega
 | m + 1,k,v,hk,hm,v0,v1 => by
  rw [impl_NetNew_L4,hr]
  by_cases hkp : k < p
  ·obtain ⟨v',a0,a1,e1,e2⟩ := nbB_up hz h1 h6 hkp hv hs wv v0 v1
   obtain ⟨w,b0,b1,f1,f2⟩ := ups_loop hz h1 h6 hv hs wv r8 hr m (k + 1) v' hkp (by omega) a0 a1
   refine ⟨w,b0,b1,?_,fun i zs hi hzi => ?_⟩
   ·have e2' : impl_LinkSetF 1048800 ⟨z,⟨#[]⟩,psK p k,[],⟨vt.Rows,vt.Pvid⟩,0,0,0,0,v⟩ k true = some (nbB z vt (psK p (k + 1)) v') := e2
    rw [decide_eq_true (show (k : Int) < (p : Int) by omega),cond_true,e2',Option.bind_some,wrap_nat (by omega : k ≤ 1099511627776)]
    exact f1
   ·rw [spec_NetNew_L5,decide_eq_true (show (k : Int) < (p : Int) by omega),cond_true,idx_nat hi,Option.bind_some,hzi,e1,Option.bind_some,wrap_nat (by omega : k ≤ 1099511627776),Int.toNat_natCast,f2 i (zs.set i (nbB z vt (psK p (k + 1)) v')) (by simpa using hi) (by simp),List.set_set]
  ·obtain rfl : k = p := by omega
   refine ⟨v,v0,v1,?_,fun i zs hi hzi => ?_⟩
   ·rw [decide_eq_false (show ¬ (k : Int) < (k : Int) by omega)]; rfl
   ·rw [spec_NetNew_L5,decide_eq_false (show ¬ (k : Int) < (k : Int) by omega),cond_false,← hzi,List.set_getElem_self]
def NU (q : Int) (y y' : Bridge) : Prop := (y = noB ∧ y' = noB) ∨ ∃ (z : Int) (p : Nat) (vt : Vtab) (w : Int),q = p ∧ (1 ≤ z ∧ z ≤ 99) ∧ 1 ≤ p ∧ p ≤ 6 ∧ vt.sz ≤ 10 ∧ vt.wf ∧ spec_VtabOkF 1048800 vt p = some true ∧ 0 ≤ w ∧ w ≤ 1000000 ∧ y = nbB z vt (psK p 0) 0 ∧ y' = nbB z vt (psK p p) w ∧ ∀ (i : Nat) (zs : List Bridge) (hi : i < zs.length),zs[i] = y → spec_NetNew_L5 1048800 1048800 q i 0 zs = some (.inl (zs.set i y'))
theorem NU.make (z q : Int) : ∃ y y',NU q y y' ∧ spec_BridgeNewF 1048800 z q = some y ∧ impl_BridgeNewF 1048800 z q = some y ∧ impl_NetNew_L4 1048800 1048800 y 0 y.Id y.Name y.Ports y.F y.V.Rows y.V.Pvid y.Ticks y.Parse y.Word y.Drops y.Vers = some (.inl (y'.Id,y'.Name,y'.Ports,y'.F,y'.V.Rows,y'.V.Pvid,y'.Ticks,y'.Parse,y'.Word,y'.Drops,y'.Vers)) := by
 rcases newBridge z q with ⟨_,e1,e2⟩ | ⟨p,vt,rfl,hz,h1,h6,hs,wv,hv,e1,e2⟩
 ·exact ⟨noB,noB,.inl ⟨rfl,rfl⟩,e1,e2,by kernel_rfl⟩
 ·obtain ⟨w,b0,b1,f1,f2⟩ := ups_loop hz h1 h6 hv hs wv (nbB z vt (psK p 0) 0) (psK_len (by omega)) 1048800 0 0 (by omega) (by omega) (by omega) (by omega)
  exact ⟨_,_,.inr ⟨z,p,vt,w,rfl,hz,h1,h6,hs,wv,hv,b0,b1,rfl,rfl,fun i zs hi hzi => f2 i zs hi hzi⟩,e1,e2,f1⟩
theorem NU.facts {q : Int} {y y' : Bridge} (h : NU q y y') : y.wf ∧ y'.wf ∧ y.sz ≤ 16 ∧ y'.sz ≤ 16 ∧ y.Id = y'.Id ∧ y.Ports.length = y'.Ports.length ∧ (spec_BridgeOkF 1048800 y = some true ↔ spec_BridgeOkF 1048800 y' = some true) ∧ (∀ j (hj : j < y.Ports.length),y.Ports[j].Up = false ∧ y.Ports[j].Has = false) ∧ (∀ j (hj : j < y'.Ports.length),y'.Ports[j].Up = true ∧ y'.Ports[j].Has = false) := by
 rcases h with ⟨rfl,rfl⟩ | ⟨z,p,vt,w,rfl,hz,h1,h6,hs,wv,hv,w0,w1,rfl,rfl,_⟩
 ·exact ⟨noB_wf,noB_wf,by decide,by decide,rfl,rfl,Iff.rfl,fun j hj => absurd hj (Nat.not_lt_zero j),fun j hj => absurd hj (Nat.not_lt_zero j)⟩
 ·refine ⟨nbB_wf hz h6 (by omega) wv (by omega) (by omega),nbB_wf hz h6 (by omega) wv w0 w1,?_,?_,rfl,?_,?_,fun j hj => ?_,fun j hj => ?_⟩
  ·rw [nbB_sz,psK_len (by omega)]; omega
  ·rw [nbB_sz,psK_len (by omega)]; omega
  ·show (psK p 0).length = (psK p p).length
   rw [psK_len (by omega),psK_len (by omega)]
  ·exact ⟨fun _ => nbB_ok hz h1 h6 (by omega) hv w0 w1,fun _ => nbB_ok hz h1 h6 (by omega) hv (by omega) (by omega)⟩
  ·have e : (nbB z vt (psK p 0) 0).Ports[j] = if j < 0 then upP else dnP := psK_get hj
   rw [e,if_neg (by omega)]; exact ⟨rfl,rfl⟩
  ·have e : (nbB z vt (psK p p) w).Ports[j] = if j < p then upP else dnP := psK_get hj
   have hl : (nbB z vt (psK p p) w).Ports.length = p := psK_len (by omega)
   rw [e,if_pos (by omega)]; exact ⟨rfl,rfl⟩
theorem spec_NetNew_L6_ok (xs : List Int) (q : Int) (h : xs.length ≤ 1048576) : ∀ (m k : Nat) (acc : List Bridge),k ≤ xs.length → xs.length < m + k → acc.length = k → (∀ y ∈ acc,∃ y',NU q y y') → ∃ ys,spec_NetNew_L6 1048800 m xs q k acc = some (.inl ys) ∧ ys.length = xs.length ∧ ∀ y ∈ ys,∃ y',NU q y y'
 | 0,k,acc,h1,h2,h3,h4 => by omega
 | m + 1,k,acc,h1,h2,h3,h4 => by
  rw [spec_NetNew_L6]
  by_cases hk : k < xs.length
  ·obtain ⟨y,y',u,e1,e2,e3⟩ := NU.make xs[k] q
   rw [lt_true hk,cond_true,idx_nat hk,Option.bind_some,e1,Option.bind_some,decide_eq_true (by simp; omega),cond_true,wrap_nat (by omega : k ≤ 1099511627776)]
   exact spec_NetNew_L6_ok xs q h m (k + 1) (acc ++ [y]) (by omega) (by omega) (by simp; omega) (fun v hv => by
    rcases List.mem_append.1 hv with hv | hv
    ·exact h4 v hv
    ·rw [List.mem_singleton] at hv; subst hv; exact ⟨y',u⟩)
  ·obtain rfl : k = xs.length := by omega
   rw [lt_false]
   exact ⟨acc,rfl,h3,h4⟩
theorem spec_NetNew_L6_both (xs : List Int) (q : Int) (h : xs.length ≤ 1048576) : ∀ (m k : Nat) (acc acc' : List Bridge),k ≤ xs.length → xs.length < m + k → acc.length = k → acc'.length = k → (∀ j (hj : j < acc.length) (hj' : j < acc'.length),NU q acc[j] acc'[j]) → ∃ ys ys',spec_NetNew_L6 1048800 m xs q k acc = some (.inl ys) ∧ impl_NetNew_L2 1048800 m xs q k acc' = some (.inl ys') ∧ ys.length = xs.length ∧ ys'.length = xs.length ∧ ∀ j (hj : j < ys.length) (hj' : j < ys'.length),NU q ys[j] ys'[j]
 | 0,k,acc,acc',h1,h2,h3,h3',h4 => by omega
 | m + 1,k,acc,acc',h1,h2,h3,h3',h4 => by
  rw [spec_NetNew_L6,impl_NetNew_L2]
  by_cases hk : k < xs.length
  ·obtain ⟨y,y',u,e1,e2,e3⟩ := NU.make xs[k] q
   rw [lt_true hk,cond_true,cond_true,idx_nat hk,Option.bind_some,Option.bind_some,e1,Option.bind_some,decide_eq_true (by simp; omega),cond_true,wrap_nat (by omega : k ≤ 1099511627776),e2,Option.bind_some,e3]
   obtain ⟨ys,ys',f1,f2,f3⟩ := spec_NetNew_L6_both xs q h m (k + 1) (acc ++ [y]) (acc' ++ [y']) (by omega) (by omega) (by simp; omega) (by simp; omega) (fun j hj hj' => by
    by_cases hjk : j < k
    ·rw [List.getElem_append_left (by omega),List.getElem_append_left (by omega)]; exact h4 j (by omega) (by omega)
    ·have : j = k := by simp at hj; omega
     subst this
     rw [List.getElem_append_right (by omega),List.getElem_append_right (by omega)]
     simp only [h3,h3',Nat.sub_self,List.getElem_cons_zero]
     exact u)
   refine ⟨ys,ys',f1,?_,f3⟩
   simp only [Option.bind_some,impl_NetNew_J3]
   rw [decide_eq_true (by simp; omega),cond_true,wrap_nat (by omega : k ≤ 1099511627776)]
   exact f2
  ·obtain rfl : k = xs.length := by omega
   rw [lt_false]
   exact ⟨acc,acc',rfl,rfl,h3,h3',h4⟩
theorem spec_NetNew_L3_ok (q : Int) (ys ys' : List Bridge) (hl : ys'.length = ys.length) (h6 : ys.length ≤ 6) (hu : ∀ j (hj : j < ys.length) (hj' : j < ys'.length),NU q ys[j] ys'[j]) (hok : ∀ j (hj : j < ys.length),ys[j] ≠ noB) : ∀ (m k : Nat) (zs : List Bridge),k ≤ ys.length → ys.length < m + k → (hz : zs.length = ys.length) → (∀ j (hj : j < zs.length),zs[j] = if j < k then ys'[j]'(by omega) else ys[j]'(by omega)) → spec_NetNew_L3 1048800 m q k zs = some (.inl ys')
 | 0,k,zs,h1,h2,hz,h3 => by omega
 | m + 1,k,zs,h1,h2,hz,h3 => by
  rw [spec_NetNew_L3]
  by_cases hk : k < ys.length
  ·rcases hu k hk (by omega) with ⟨e,_⟩ | ⟨z,p,vt,w,rfl,_,_,_,_,_,_,_,_,_,_,f⟩
   ·exact absurd e (hok k hk)
   ·rw [decide_eq_true (show (k : Int) < (zs.length : Int) by omega),cond_true,f k zs (by omega) (by rw [h3 k (by omega),if_neg (by omega)])]
    simp only [Option.bind_some,spec_NetNew_J4]
    rw [wrap_nat (by omega : k ≤ 1099511627776)]
    refine spec_NetNew_L3_ok _ ys ys' hl h6 hu hok m (k + 1) _ (by omega) (by omega) (by simpa using hz) (fun j hj => ?_)
    rw [List.length_set] at hj
    rw [List.getElem_set]
    by_cases hjk : k = j
    ·subst hjk; rw [if_pos rfl,if_pos (by omega)]
    ·rw [if_neg hjk,h3 j hj]
     by_cases hlt : j < k
     ·rw [if_pos hlt,if_pos (by omega)]
     ·rw [if_neg hlt,if_neg (by omega)]
  ·obtain rfl : k = ys.length := by omega
   rw [decide_eq_false (show ¬ ((ys.length : Nat) : Int) < (zs.length : Int) by omega),cond_false]
   congr 2
   refine List.ext_getElem (by omega) fun j a b => ?_
   rw [h3 j a,if_pos (by omega)]
theorem netNew_C (q : Int) (ls : List Link) (ys ys' : List Bridge) (hl : ys'.length = ys.length) (hu : ∀ j (hj : j < ys.length) (hj' : j < ys'.length),NU q ys[j] ys'[j]) : NetC 1048800 ⟨ys,ls,[]⟩ ↔ NetC 1048800 ⟨ys',ls,[]⟩ := by
 have bok : ∀ k,BOk 1048800 ⟨ys,ls,[]⟩ k ↔ BOk 1048800 ⟨ys',ls,[]⟩ k := fun k => by
  constructor
  ·intro h hk'
   have hk : k < ys.length := by simp only at hk'; omega
   have f := (hu k hk (by simp only at hk'; exact hk')).facts
   obtain ⟨a,b,_⟩ := h hk
   refine ⟨f.2.2.2.2.2.2.1.1 a,fun j hj => ?_,fun p hp hh => ?_⟩
   ·have g := (hu j (by omega) (by omega)).facts
    have := b j hj
    simp only at this ⊢
    rw [← g.2.2.2.2.1,← f.2.2.2.2.1]; exact this
   ·exact absurd (hh.symm.trans (f.2.2.2.2.2.2.2.2 p hp).2) (by simp)
  ·intro h hk
   have hk' : k < ys'.length := by simp only at hk; omega
   have f := (hu k (by simp only at hk; exact hk) hk').facts
   obtain ⟨a,b,_⟩ := h hk'
   refine ⟨f.2.2.2.2.2.2.1.2 a,fun j hj => ?_,fun p hp hh => ?_⟩
   ·have g := (hu j (by omega) (by omega)).facts
    have := b j hj
    simp only at this ⊢
    rw [g.2.2.2.2.1,f.2.2.2.2.1]; exact this
   ·exact absurd (hh.symm.trans (f.2.2.2.2.2.2.2.1 p hp).2) (by simp)
 have port : ∀ b p,(∃ v,portOf ⟨ys,ls,[]⟩ b p = some v) ↔ ∃ v,portOf ⟨ys',ls,[]⟩ b p = some v := fun b p => by
  constructor
  ·rintro ⟨v,hv⟩
   obtain ⟨a,h1,h2⟩ := portOf_some hv
   obtain ⟨i0,i1⟩ := idx_lt h1
   obtain ⟨j0,j1⟩ := idx_lt h2
   obtain ⟨i,rfl⟩ := Int.eq_ofNat_of_zero_le i0
   obtain ⟨j,rfl⟩ := Int.eq_ofNat_of_zero_le j0
   have hi : i < ys.length := by simp only at i1; omega
   rw [idx_nat hi] at h1
   obtain rfl := Option.some.inj h1
   have f := (hu i hi (by omega)).facts.2.2.2.2.2.1
   exact ⟨_,by unfold portOf; rw [idx_nat (show i < ys'.length by omega),Option.bind_some,idx_nat (show j < ys'[i].Ports.length by omega)]⟩
  ·rintro ⟨v,hv⟩
   obtain ⟨a,h1,h2⟩ := portOf_some hv
   obtain ⟨i0,i1⟩ := idx_lt h1
   obtain ⟨j0,j1⟩ := idx_lt h2
   obtain ⟨i,rfl⟩ := Int.eq_ofNat_of_zero_le i0
   obtain ⟨j,rfl⟩ := Int.eq_ofNat_of_zero_le j0
   have hi : i < ys'.length := by simp only at i1; omega
   rw [idx_nat hi] at h1
   obtain rfl := Option.some.inj h1
   have f := (hu i (by omega) hi).facts.2.2.2.2.2.1
   exact ⟨_,by unfold portOf; rw [idx_nat (show i < ys.length by omega),Option.bind_some,idx_nat (show j < ys[i].Ports.length by omega)]⟩
 have down : ∀ b p v,portOf ⟨ys,ls,[]⟩ b p = some v → v.Up = false := fun b p v hv => by
  obtain ⟨a,h1,h2⟩ := portOf_some hv
  obtain ⟨i0,i1⟩ := idx_lt h1
  obtain ⟨j0,j1⟩ := idx_lt h2
  obtain ⟨i,rfl⟩ := Int.eq_ofNat_of_zero_le i0
  obtain ⟨j,rfl⟩ := Int.eq_ofNat_of_zero_le j0
  have hi : i < ys.length := by simp only at i1; omega
  rw [idx_nat hi] at h1
  obtain rfl := Option.some.inj h1
  have hj : j < ys[i].Ports.length := by omega
  rw [idx_nat hj] at h2
  obtain rfl := Option.some.inj h2
  exact ((hu i hi (by omega)).facts.2.2.2.2.2.2.2.1 j hj).1
 have up : ∀ b p v,portOf ⟨ys',ls,[]⟩ b p = some v → v.Up = true := fun b p v hv => by
  obtain ⟨a,h1,h2⟩ := portOf_some hv
  obtain ⟨i0,i1⟩ := idx_lt h1
  obtain ⟨j0,j1⟩ := idx_lt h2
  obtain ⟨i,rfl⟩ := Int.eq_ofNat_of_zero_le i0
  obtain ⟨j,rfl⟩ := Int.eq_ofNat_of_zero_le j0
  have hi : i < ys'.length := by simp only at i1; omega
  rw [idx_nat hi] at h1
  obtain rfl := Option.some.inj h1
  have hj : j < ys'[i].Ports.length := by omega
  rw [idx_nat hj] at h2
  obtain rfl := Option.some.inj h2
  exact ((hu i (by omega) hi).facts.2.2.2.2.2.2.2.2 j hj).1
 have lok : ∀ l,LOk ⟨ys,ls,[]⟩ l ↔ LOk ⟨ys',ls,[]⟩ l := fun l => by
  constructor
  ·rintro ⟨hab,p,q,e1,e2,_⟩
   obtain ⟨p',e1'⟩ := (port _ _).1 ⟨p,e1⟩
   obtain ⟨q',e2'⟩ := (port _ _).1 ⟨q,e2⟩
   exact ⟨hab,p',q',e1',e2',(up _ _ _ e1').trans (up _ _ _ e2').symm⟩
  ·rintro ⟨hab,p,q,e1,e2,_⟩
   obtain ⟨p',e1'⟩ := (port _ _).2 ⟨p,e1⟩
   obtain ⟨q',e2'⟩ := (port _ _).2 ⟨q,e2⟩
   exact ⟨hab,p',q',e1',e2',(down _ _ _ e1').trans (down _ _ _ e2').symm⟩
 unfold NetC
 constructor
 ·rintro ⟨h1,h2,h3,h4,h5⟩
  exact ⟨fun k hk => (bok k).1 (h1 k (by simp only at hk ⊢; omega)),⟨by simp only at h2 ⊢; omega,by simp only at h2 ⊢; omega⟩,h3,h4,fun k hk => ⟨(lok _).1 (h5 k hk).1,(h5 k hk).2⟩⟩
 ·rintro ⟨h1,h2,h3,h4,h5⟩
  exact ⟨fun k hk => (bok k).2 (h1 k (by simp only at hk ⊢; omega)),⟨by simp only at h2 ⊢; omega,by simp only at h2 ⊢; omega⟩,h3,h4,fun k hk => ⟨(lok _).2 (h5 k hk).1,(h5 k hk).2⟩⟩
theorem spec_NetNewF_both (xs : List Int) (q : Int) (ls : List Link) (wl : listWf Link.wf ls) (h : xs.length ≤ 1048576) (hl : ls.length ≤ 1048576) : ∃ y : Net,spec_NetNewF 1048800 xs q ls = some y ∧ impl_NetNewF 1048800 xs q ls = some y ∧ y.sz ≤ 1000 := by
 have hm : maxLen = 9223372036854775807 := by decide
 have big : ∀ ys : List Bridge,ys.length ≤ 1048576 → (∀ y ∈ ys,y.wf ∧ y.sz ≤ 16) → (⟨ys,ls,[]⟩ : Net).wf ∧ Big ⟨ys,ls,[]⟩ := fun ys hy hw => ⟨⟨⟨by simp only; omega,fun y hy => (hw y hy).1⟩,wl,⟨Nat.zero_le _,fun _ hs => by cases hs⟩,trivial⟩,hy,fun a ha => by have := (hw a ha).2; omega,hl,Nat.zero_le _⟩
 have hg : decide (([] : List Link).length + ls.length ≤ 268435456) = true := decide_eq_true (by simp; omega)
 have none_sz : (⟨[],[],[]⟩ : Net).sz ≤ 1000 := by decide
 unfold spec_NetNewF impl_NetNewF
 rw [hg,cond_true,cond_true]
 by_cases h6 : xs.length ≤ 6
 ·obtain ⟨ys,ys',e1,e2,l1,l2,hu⟩ := spec_NetNew_L6_both xs q h 1048800 0 [] [] (by omega) (by omega) rfl rfl (fun j hj => absurd hj (Nat.not_lt_zero j))
  rw [decide_eq_false (show ¬ (xs.length : Int) > 6 by omega),cond_false,show spec_NetNew_L6 1048800 1048800 xs q 0 [] = _ from e1,show impl_NetNew_L2 1048800 1048800 xs q 0 [] = _ from e2]
  simp only [Option.bind_some,spec_NetNew_J1,impl_NetNew_J1,List.nil_append]
  have fy : ∀ y ∈ ys,y.wf ∧ y.sz ≤ 16 := fun y hy => by
   obtain ⟨j,hj,rfl⟩ := List.getElem_of_mem hy
   have f := (hu j hj (by omega)).facts
   exact ⟨f.1,f.2.2.1⟩
  have fy' : ∀ y ∈ ys',y.wf ∧ y.sz ≤ 16 := fun y hy => by
   obtain ⟨j,hj,rfl⟩ := List.getElem_of_mem hy
   have f := (hu j (by omega) hj).facts
   exact ⟨f.2.1,f.2.2.2.1⟩
  obtain ⟨w1,b1⟩ := big ys (by omega) fy
  obtain ⟨w2,b2⟩ := big ys' (by omega) fy'
  obtain ⟨b,o1,_,o3,o4⟩ := spec_NetOkF_bothB 1048800 _ w1 b1 (by omega)
  obtain ⟨b',o1',o2',o3',o4'⟩ := spec_NetOkF_bothB 1048800 _ w2 b2 (by omega)
  have hc := netNew_C q ls ys ys' (by omega) hu
  have hbb : b = b' := by
   cases b with
   | true => exact (o4' rfl (hc.1 (o3 rfl))).symm
   | false =>
    cases b' with
    | false => rfl
    | true => exact o4 rfl (hc.2 (o3' rfl))
  subst hbb
  rw [o1,o2',Option.bind_some,Option.bind_some]
  cases b with
  | false => exact ⟨_,rfl,rfl,none_sz⟩
  | true =>
   obtain ⟨c1,c2,c3,_⟩ := o3 rfl
   have nob : ∀ j (hj : j < ys.length),ys[j] ≠ noB := fun j hj e => by
    have := (c1 j hj hj).1
    simp only at this
    rw [e] at this
    exact absurd (this.symm.trans (show spec_BridgeOkF 1048800 noB = some false by kernel_rfl)) (by simp)
   have l3 := spec_NetNew_L3_ok q ys ys' (by omega) (by omega) hu nob 1048800 0 ys (by omega) (by omega) rfl (fun j hj => by rw [if_neg (by omega)])
   simp only [Bool.not_true,cond_false]
   rw [show spec_NetNew_L3 1048800 1048800 q 0 ys = _ from l3]
   refine ⟨⟨ys',ls,[]⟩,rfl,rfl,?_⟩
   have sum : ∀ zs : List Bridge,(∀ y ∈ zs,y.sz ≤ 16) → sumSz Bridge.sz zs ≤ 16 * zs.length := fun zs => by
    induction zs with
    | nil => intro _; exact Nat.zero_le _
    | cons y zs ih =>
     intro hh
     have h1 := hh y (by simp)
     have h2 := ih fun v hv => hh v (by simp [hv])
     simp only [sumSz,List.length_cons]
     omega
   have := sum ys' fun y hy => (fy' y hy).2
   simp only at c3
   show (ys'.length + sumSz Bridge.sz ys') + ls.length + ([] : List Say).length ≤ 1000
   simp only [List.length_nil]
   omega
 ·obtain ⟨ys,e1,l1,hu⟩ := spec_NetNew_L6_ok xs q h 1048800 0 [] (by omega) (by omega) rfl (fun y hy => by cases hy)
  rw [decide_eq_true (show (xs.length : Int) > 6 by omega),cond_true,show spec_NetNew_L6 1048800 1048800 xs q 0 [] = _ from e1]
  simp only [Option.bind_some,spec_NetNew_J1,List.nil_append]
  obtain ⟨w1,b1⟩ := big ys (by omega) (fun y hy => by obtain ⟨y',u⟩ := hu y hy; exact ⟨u.facts.1,u.facts.2.2.1⟩)
  obtain ⟨b,o1,_,o3,_⟩ := spec_NetOkF_bothB 1048800 _ w1 b1 (by omega)
  rw [o1,Option.bind_some]
  cases b with
  | false => exact ⟨_,rfl,rfl,none_sz⟩
  | true =>
   have := (o3 rfl).2.1.2
   simp only at this
   omega
theorem laws_FnExactNetNew_plain (x0 : List Int) (x1 : Int) (x2 : List Link) (w0 : listWf intWf x0) (w1 : intWf x1) (w2 : listWf Link.wf x2) : ∃ n,laws_FnExactNetNewF n x0 x1 x2 = some true := by
 refine ⟨1048800,?_⟩
 unfold laws_FnExactNetNewF
 by_cases hb : (x0.length : Int) > 1048576
 ·rw [decide_eq_true hb]; rfl
 ·rw [decide_eq_false hb,cond_false]
  obtain ⟨r,e,k⟩ := laws_szLinkSF_ok 1048800 (xs := x2) (b := 1048576) (by decide) (by decide) w2.1
  simp only [e,Option.bind_some]
  rcases k.neg with ⟨c1,_⟩ | ⟨c1,c2,c3⟩
  ·rw [c1]; rfl
  ·obtain ⟨y,h1,h2,h3⟩ := spec_NetNewF_both x0 x1 x2 w2 (by omega) (by omega)
   obtain ⟨z',c',k1',k2',m1',m2'⟩ := laws_markNetF_held 1048800 y (by omega) (by omega)
   have mi := laws_markIntSF_ok 1048800 x0 1 (by omega) (by omega) (by omega) (by omega)
   have ml := laws_markLinkSF_ok 1048800 x2 (1 + (1 : Nat) * x0.length) (by omega) (by omega) (by omega) (by omega)
   simp only [c1,cond_false,laws_toIntSF_eq 1048800 x0 (by omega) (by omega),laws_toLinkSF_eq 1048800 x2 (by omega) (by omega),Option.bind_some,h1,h2,laws_eqIntSF_refl 1048800 x0 (by omega) (by omega),laws_eqLinkSF_refl 1048800 x2 (by omega) (by omega),laws_eqNetF_refl 1048800 y (by omega) (by omega),mi,ml,m1',m2',decide_eq_false (show ¬ 1 + ((1 : Nat) : Int) * (x0.length : Int) + ((4 : Nat) : Int) * (x2.length : Int) < 0 by omega),decide_eq_false (show ¬ c' < 0 by omega),bne_self_eq_false,Bool.not_true]
end Go.Proofs.YtibocmoaaahjfaaGreat.Tw
