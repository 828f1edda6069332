import Derived.Test.YtcegokjpmppdbaaTwNB
import Derived.Test.YtcegokjpmppdbaaTlPlain
set_option linter.unusedVariables false
set_option linter.unusedSimpArgs false
set_option maxRecDepth 100000
set_option maxHeartbeats 1000000
namespace Go.Proofs.Ytcegokjpmppdbaa.Tw
open Go Go.TL Go.Proofs
def Vtab.sz (x : Vtab) : Nat := x.Rows.length + x.Pvid.length
theorem impl_RowAt_L2_eq (n : Nat) : impl_RowAt_L2 n = spec_RowAt_L2 n := by
 funext m
 induction m with
 | zero => rfl
 | succ m ih => funext x i y; simp only [impl_RowAt_L2,spec_RowAt_L2,ih]
theorem impl_RowAtF_eq (n : Nat) : impl_RowAtF n = spec_RowAtF n := by
 funext x i; simp only [impl_RowAtF,spec_RowAtF,impl_RowAt_L2_eq]; rfl
theorem spec_RowAtF_ok (n : Nat) (x : Vtab) (id : Int) (h : x.Rows.length ≤ 1048580) (hn : x.Rows.length < n) : ∃ r,spec_RowAtF n x id = some r ∧ (r = -1 ∧ (∀ v ∈ x.Rows,v.Id ≠ id) ∨ ∃ v,0 ≤ r ∧ idx x.Rows r = some v ∧ v.Id = id) := by
 unfold spec_RowAtF
 have hf := find_loop (L := fun m xs i => spec_RowAt_L2 n m ⟨xs,x.Pvid⟩ id i) (p := fun i v => bif v.Id == id then some i else none) (fun m xs i => by
  show (bif _ then _ else _) = _
  congr 1
  congr 1
  funext v
  cases (v.Id == id) <;> rfl) x.Rows (by omega) n 0 (by omega) (by omega)
 rcases hf with ⟨e1,e2⟩ | ⟨j,hj,r,e1,e2,e3,e4⟩
 ·rw [show spec_RowAt_L2 n n x id 0 = _ from e1]
  refine ⟨-1,rfl,.inl ⟨rfl,fun v hv => ?_⟩⟩
  obtain ⟨j,hj,rfl⟩ := List.getElem_of_mem hv
  have := e2 j hj (by omega)
  intro hid
  simp [hid] at this
 ·rw [show spec_RowAt_L2 n n x id 0 = _ from e4]
  have hid : (x.Rows[j].Id == id) = true := by
   cases hc : (x.Rows[j].Id == id) with
   | true => rfl
   | false => rw [hc] at e2; cases e2
  rw [hid] at e2
  cases e2
  exact ⟨_,rfl,.inr ⟨_,by omega,idx_nat hj,by simpa using hid⟩⟩
theorem impl_inF_eq (n : Nat) : impl_inF n = spec_l1InF n := rfl
theorem spec_l1InF_val (n : Nat) (a b c : Int) : spec_l1InF n a b c = some (decide (b ≤ a) && decide (a ≤ c)) := by
 unfold spec_l1InF
 by_cases h : a ≥ b
 ·rw [decide_eq_true h]; rfl
 ·rw [decide_eq_false h]; rfl
theorem spec_VtabOk_mask {p : Int} (h0 : 1 ≤ p) (h1 : p ≤ 6) : ∃ a : Int,0 ≤ a ∧ a < 9223372036854775808 ∧ (IntKind.wrap .i64 ((IntKind.wrap .i64 (1 * 2 ^ min ((IntKind.wrap .u64 p)).toNat (IntKind.bits .i64))) - 1)) = a ∧ (IntKind.wrap .i64 ((IntKind.wrap .i64 (1 * 2 ^ min (p).toNat (IntKind.bits .i64))) - 1)) = a ∧ decide (0 ≤ (IntKind.wrap .u64 p)) = true ∧ decide (0 ≤ p) = true := by
 have hc : p = 1 ∨ p = 2 ∨ p = 3 ∨ p = 4 ∨ p = 5 ∨ p = 6 := by omega
 rcases hc with rfl | rfl | rfl | rfl | rfl | rfl
 ·exact ⟨1,by decide,by decide,by decide,by decide,by decide,by decide⟩
 ·exact ⟨3,by decide,by decide,by decide,by decide,by decide,by decide⟩
 ·exact ⟨7,by decide,by decide,by decide,by decide,by decide,by decide⟩
 ·exact ⟨15,by decide,by decide,by decide,by decide,by decide,by decide⟩
 ·exact ⟨31,by decide,by decide,by decide,by decide,by decide,by decide⟩
 ·exact ⟨63,by decide,by decide,by decide,by decide,by decide,by decide⟩
theorem spec_VtabOk_L4_both (n : Nat) (x0 : Vtab) (w0 : x0.wf) (x1 : Int) (hp0 : 1 ≤ x1) (hp1 : x1 ≤ 6) (h : x0.Rows.length ≤ 1048580) : ∀ (m k : Nat),k ≤ x0.Rows.length → x0.Rows.length < m + k → impl_VtabOk_L4 n m x0 x1 k = spec_VtabOk_L4 n m x0 x1 k ∧ Tot (spec_VtabOk_L4 n m x0 x1 k)
 | 0,k,h1,h2 => by omega
 | m + 1,k,h1,h2 => by
  rw [spec_VtabOk_L4,impl_VtabOk_L4]
  by_cases hk : k < x0.Rows.length
  ·obtain ⟨ih1,o,ih2⟩ := spec_VtabOk_L4_both n x0 w0 x1 hp0 hp1 h m (k + 1) (by omega) (by omega)
   obtain ⟨a,ha0,ha1,ha2,ha3,ha4,ha5⟩ := spec_VtabOk_mask hp0 hp1
   have hk' : decide ((k : Int) < (x0.Rows.length : Int)) = true := decide_eq_true (by omega)
   have hv : x0.Rows[k] ∈ x0.Rows := List.getElem_mem hk
   have hi := idx_nat hk
   generalize x0.Rows[k] = v at hv hi
   have hw := w0.1.2 v hv
   have hin : impl_allPortsF n x1 = some a := by unfold impl_allPortsF; rw [ha5,ha3]; rfl
   simp only [hk',wrap_nat (by omega : k ≤ 1099511627776),hi,Option.bind_some,cond_true,ih1,ih2,hin,impl_inF_eq,spec_l1InF_val,ha2]
   have hbits := fun hm0 hm1 => bits_in (B := v.Bare) (M := v.Members) hw.2.2.1 hm0 hm1
   by_cases hm : 0 ≤ v.Members ∧ v.Members ≤ a
   ·have hb := hbits hm.1 (by omega)
    simp only [decide_eq_true hm.1,decide_eq_true hm.2,Bool.and_self,Bool.not_true,cond_false]
    by_cases hz : IntKind.wrap .i64 (BitVec.ofInt (IntKind.bits .i64) v.Bare &&& ~~~BitVec.ofInt (IntKind.bits .i64) v.Members).toNat = 0
    ·have h3 := hb.1 hz
     have hz' : ((IntKind.wrap .i64 (BitVec.ofInt (IntKind.bits .i64) v.Bare &&& ~~~BitVec.ofInt (IntKind.bits .i64) v.Members).toNat) != 0) = false := by rw [hz]; rfl
     have hy' : ((IntKind.wrap .i64 (BitVec.ofInt (IntKind.bits .i64) v.Bare &&& BitVec.ofInt (IntKind.bits .i64) v.Members).toNat) != v.Bare) = false := by rw [h3.2.2]; simp
     simp only [hz',hy',decide_eq_true h3.1,decide_eq_true (show v.Bare ≤ a by omega),Bool.and_self,Bool.not_true,cond_false]
     cases k with
     | zero => cases (decide (1 ≤ v.Id) && decide (v.Id ≤ 99)) <;> exact ⟨by trivial,Tot.of⟩
     | succ k =>
      have hw2 : IntKind.wrap .i64 (((k + 1 : Nat) : Int) - 1) = (k : Int) := by rw [wrap64 (by omega) (by omega)]; omega
      have hpos : decide (((k + 1 : Nat) : Int) > 0) = true := decide_eq_true (by omega)
      simp only [hw2,hpos,cond_true,idx_nat (show k < x0.Rows.length by omega),Option.bind_some]
      cases (decide (1 ≤ v.Id) && decide (v.Id ≤ 99)) <;> cases (decide ((x0.Rows[k]'(by omega)).Id ≥ v.Id)) <;> exact ⟨by trivial,Tot.of⟩
    ·have hz' : ((IntKind.wrap .i64 (BitVec.ofInt (IntKind.bits .i64) v.Bare &&& ~~~BitVec.ofInt (IntKind.bits .i64) v.Members).toNat) != 0) = true := by simpa using hz
     have h3 : (decide (0 ≤ v.Bare) && decide (v.Bare ≤ a)) = false ∨ ((IntKind.wrap .i64 (BitVec.ofInt (IntKind.bits .i64) v.Bare &&& BitVec.ofInt (IntKind.bits .i64) v.Members).toNat) != v.Bare) = true := by
      by_cases hq : ((IntKind.wrap .i64 (BitVec.ofInt (IntKind.bits .i64) v.Bare &&& BitVec.ofInt (IntKind.bits .i64) v.Members).toNat) != v.Bare) = true
      ·exact .inr hq
      ·left
       simp at hq
       by_cases hr : 0 ≤ v.Bare ∧ v.Bare ≤ a
       ·have hle := bits_le hw.2.2.1 hm.1 (by omega) hq
        exact absurd (hb.2 ⟨hle.1,hle.2,hq⟩) hz
       ·simp only [Bool.and_eq_false_iff,decide_eq_false_iff_not]; omega
     simp only [hz',cond_true]
     have hspec : (bif !(decide (0 ≤ v.Bare) && decide (v.Bare ≤ a)) then some (Sum.inr false) else bif ((IntKind.wrap .i64 (BitVec.ofInt (IntKind.bits .i64) v.Bare &&& BitVec.ofInt (IntKind.bits .i64) v.Members).toNat) != v.Bare) then some (Sum.inr false) else (bif decide ((k : Int) > 0) then (idx x0.Rows (IntKind.wrap .i64 ((k : Int) - 1))).bind fun v13 => bif decide (v13.Id ≥ v.Id) then some (Sum.inr false) else some o else some o)) = (some (Sum.inr false) : Option (Unit ⊕ Bool)) := by
      rcases h3 with h3 | h3
      ·rw [h3]; rfl
      ·rw [h3]; cases (decide (0 ≤ v.Bare) && decide (v.Bare ≤ a)) <;> rfl
     rw [hspec]
     cases k with
     | zero => cases (decide (1 ≤ v.Id) && decide (v.Id ≤ 99)) <;> exact ⟨by trivial,Tot.of⟩
     | succ k =>
      have hw2 : IntKind.wrap .i64 (((k + 1 : Nat) : Int) - 1) = (k : Int) := by rw [wrap64 (by omega) (by omega)]; omega
      have hpos : decide (((k + 1 : Nat) : Int) > 0) = true := decide_eq_true (by omega)
      simp only [hw2,hpos,cond_true,idx_nat (show k < x0.Rows.length by omega),Option.bind_some]
      cases (decide (1 ≤ v.Id) && decide (v.Id ≤ 99)) <;> cases (decide ((x0.Rows[k]'(by omega)).Id ≥ v.Id)) <;> exact ⟨by trivial,Tot.of⟩
   ·have hm' : (decide (0 ≤ v.Members) && decide (v.Members ≤ a)) = false := by
     simp only [Bool.and_eq_false_iff,decide_eq_false_iff_not]; omega
    simp only [hm',Bool.not_false,cond_true]
    cases k with
    | zero => cases (decide (1 ≤ v.Id) && decide (v.Id ≤ 99)) <;> exact ⟨by trivial,Tot.of⟩
    | succ k =>
     have hw2 : IntKind.wrap .i64 (((k + 1 : Nat) : Int) - 1) = (k : Int) := by rw [wrap64 (by omega) (by omega)]; omega
     have hpos : decide (((k + 1 : Nat) : Int) > 0) = true := decide_eq_true (by omega)
     simp only [hw2,hpos,cond_true,idx_nat (show k < x0.Rows.length by omega),Option.bind_some]
     cases (decide (1 ≤ v.Id) && decide (v.Id ≤ 99)) <;> cases (decide ((x0.Rows[k]'(by omega)).Id ≥ v.Id)) <;> exact ⟨by trivial,Tot.of⟩
  ·have hk' : decide ((k : Int) < (x0.Rows.length : Int)) = false := decide_eq_false (by omega)
   rw [hk']
   exact ⟨by trivial,Tot.of⟩
theorem spec_VtabOk_L3_both (n : Nat) (x0 : Vtab) (h : x0.Rows.length ≤ 1048580) (hn : x0.Rows.length < n) (hq : x0.Pvid.length ≤ 1048580) : ∀ (m k : Nat),k ≤ x0.Pvid.length → x0.Pvid.length < m + k → impl_VtabOk_L3 n m x0 k = spec_VtabOk_L3 n m x0 k ∧ Tot (spec_VtabOk_L3 n m x0 k)
 | 0,k,h1,h2 => by omega
 | m + 1,k,h1,h2 => by
  rw [spec_VtabOk_L3,impl_VtabOk_L3]
  by_cases hk : k < x0.Pvid.length
  ·obtain ⟨ih1,o,ih2⟩ := spec_VtabOk_L3_both n x0 h hn hq m (k + 1) (by omega) (by omega)
   have hk' : decide ((k : Int) < (x0.Pvid.length : Int)) = true := decide_eq_true (by omega)
   obtain ⟨r,hr,_⟩ := spec_RowAtF_ok n x0 x0.Pvid[k] h hn
   simp only [hk',wrap_nat (by omega : k ≤ 1099511627776),idx_nat hk,Option.bind_some,cond_true,ih1,ih2,impl_RowAtF_eq,hr]
   cases decide (r < 0) <;> exact ⟨by trivial,Tot.of⟩
  ·have hk' : decide ((k : Int) < (x0.Pvid.length : Int)) = false := decide_eq_false (by omega)
   rw [hk']
   exact ⟨by trivial,Tot.of⟩
theorem spec_VtabOkF_both (n : Nat) (x0 : Vtab) (w0 : x0.wf) (x1 : Int) (h : x0.sz ≤ 1048580) (hn : x0.sz < n) : impl_VtabOkF n x0 x1 = spec_VtabOkF n x0 x1 ∧ Tot (spec_VtabOkF n x0 x1) := by
 have hs : x0.Rows.length + x0.Pvid.length = x0.sz := rfl
 unfold impl_VtabOkF spec_VtabOkF
 simp only [impl_inF_eq,spec_l1InF_val,Option.bind_some]
 by_cases hp : 1 ≤ x1 ∧ x1 ≤ 6
 ·obtain ⟨a,ha0,ha1,ha2,ha3,ha4,ha5⟩ := spec_VtabOk_mask hp.1 hp.2
  obtain ⟨e1,o,e2⟩ := spec_VtabOk_L4_both n x0 w0 x1 hp.1 hp.2 (by omega) n 0 (by omega) (by omega)
  obtain ⟨f1,q,f2⟩ := spec_VtabOk_L3_both n x0 (by omega) (by omega) (by omega) n 0 (by omega) (by omega)
  have e1' : impl_VtabOk_L4 n n x0 x1 0 = some o := e1.trans e2
  have e2' : spec_VtabOk_L4 n n x0 x1 0 = some o := e2
  have f1' : impl_VtabOk_L3 n n x0 0 = some q := f1.trans f2
  have f2' : spec_VtabOk_L3 n n x0 0 = some q := f2
  simp only [decide_eq_true hp.1,decide_eq_true hp.2,Bool.and_self,Bool.not_true,cond_false,ha4,cond_true,e1',e2',Option.bind_some]
  cases o with
  | inl u =>
   simp only [impl_VtabOk_J1,spec_VtabOk_J1,f1',f2',Option.bind_some]
   cases q <;> exact ⟨rfl,Tot.bif (fun _ => .of) fun _ => Tot.bif (fun _ => .of) fun _ => .of⟩
  | inr r => exact ⟨rfl,Tot.bif (fun _ => .of) fun _ => Tot.bif (fun _ => .of) fun _ => .of⟩
 ·have hp' : (decide (1 ≤ x1) && decide (x1 ≤ 6)) = false := by
   simp only [Bool.and_eq_false_iff,decide_eq_false_iff_not]; omega
  rw [hp']
  exact ⟨by trivial,Tot.of⟩
theorem spec_l9CopyF_eq (n : Nat) (x : Vtab) (h : x.sz ≤ 268435456) : spec_l9CopyF n x = some x := by
 have hs : x.Rows.length + x.Pvid.length = x.sz := rfl
 unfold spec_l9CopyF
 simp only [List.length_nil,Nat.zero_add,decide_eq_true (show x.Rows.length ≤ 268435456 by omega),decide_eq_true (show x.Pvid.length ≤ 268435456 by omega),cond_true,List.nil_append]
theorem impl_copyVtabF_eq (n : Nat) (x : Vtab) (h : x.sz ≤ 268435456) : impl_copyVtabF n x = some x := by
 have hs : x.Rows.length + x.Pvid.length = x.sz := rfl
 unfold impl_copyVtabF impl_copyIntsF
 simp only [List.length_nil,Nat.zero_add,decide_eq_true (show x.Rows.length ≤ 268435456 by omega),decide_eq_true (show x.Pvid.length ≤ 268435456 by omega),cond_true,List.nil_append,Option.bind_some]
theorem turned_both (n : Nat) (x y : Vtab) (wx : x.wf) (wy : y.wf) (hp : y.Pvid.length = x.Pvid.length) (hx : x.sz ≤ 1048576) (hy : y.sz ≤ 1048577) (hn : 1048577 < n) : ∃ a b,spec_VtabOkF n x (x.Pvid.length : Int) = some a ∧ spec_VtabOkF n y (x.Pvid.length : Int) = some b ∧ spec_l9OrF n y x = some (bif b then (y,true) else (x,false)) ∧ impl_turnedF n x y = some (bif a && b then (y,true) else (x,false)) := by
 obtain ⟨e1,a,ha⟩ := spec_VtabOkF_both n x wx (x.Pvid.length : Int) (by omega) (by omega)
 obtain ⟨e2,b,hb⟩ := spec_VtabOkF_both n y wy (x.Pvid.length : Int) (by omega) (by omega)
 refine ⟨a,b,ha,hb,?_,?_⟩
 ·unfold spec_l9OrF
  rw [hb,Option.bind_some,spec_l9CopyF_eq n x (by omega)]
  cases b <;> rfl
 ·unfold impl_turnedF
  rw [e1,e2,ha,hb,impl_copyVtabF_eq n x (by omega)]
  cases a <;> cases b <;> rfl
theorem listWf_sub {α : Type} {wf : α → Prop} {xs ys : List α} (h : listWf wf xs) (hs : ∀ y ∈ ys,y ∈ xs) (hl : ys.length ≤ xs.length) : listWf wf ys := ⟨Nat.le_trans hl h.1,fun y hy => h.2 y (hs y hy)⟩
theorem spec_DropRowF_both (n : Nat) (x : Vtab) (id : Int) (wx : x.wf) (hx : x.sz ≤ 1048576) (hn : 1048577 < n) : ∃ y b,spec_DropRowF n x id = some (y,b) ∧ impl_DropRowF n x id = some (y,b) ∧ y.sz ≤ 1048576 := by
 have hs : x.Rows.length + x.Pvid.length = x.sz := rfl
 obtain ⟨r,hr,hk⟩ := spec_RowAtF_ok n x id (by omega) (by omega)
 obtain ⟨e1,a,ha⟩ := spec_VtabOkF_both n x wx (x.Pvid.length : Int) (by omega) (by omega)
 rcases hk with ⟨rfl,_⟩ | ⟨v,h0,hv,_⟩
 ·refine ⟨x,false,?_,?_,hx⟩
  ·simp only [spec_DropRowF,hr,ha,Option.bind_some,spec_l9CopyF_eq n x (by omega)]
   cases a <;> rfl
  ·simp only [impl_DropRowF,impl_RowAtF_eq,hr,Option.bind_some,impl_copyVtabF_eq n x (by omega)]
   rfl
 ·obtain ⟨g1,g2⟩ := idx_get hv
  have hlt : r.toNat < x.Rows.length := (List.getElem?_eq_some_iff.1 g2).1
  obtain ⟨k,rfl⟩ : ∃ k : Nat,r = k := ⟨r.toNat,by omega⟩
  simp only [Int.toNat_natCast] at hlt
  have hw : IntKind.wrap .i64 ((k : Int) + 1) = ((k + 1 : Nat) : Int) := wrap_nat (by omega)
  have hlist : (([] : List Vrow) ++ ((x.Rows.drop ((0 : Int)).toNat).take (((k : Int)).toNat - ((0 : Int)).toNat))) ++ ((x.Rows.drop ((((k + 1 : Nat) : Int))).toNat).take ((((x.Rows.length : Int) : Int)).toNat - ((((k + 1 : Nat) : Int))).toNat)) = x.Rows.take k ++ x.Rows.drop (k + 1) := by
   simp only [Int.toNat_natCast,List.nil_append,show ((0 : Int)).toNat = 0 from rfl,List.drop_zero,Nat.sub_zero]
   congr 1
   exact List.take_of_length_le (by simp)
  have wy : (⟨x.Rows.take k ++ x.Rows.drop (k + 1),x.Pvid⟩ : Vtab).wf := ⟨listWf_sub wx.1 (fun y hy => by
   rcases List.mem_append.1 hy with h | h
   ·exact List.mem_of_mem_take h
   ·exact List.mem_of_mem_drop h) (by simp; omega),wx.2⟩
  have hysz : (⟨x.Rows.take k ++ x.Rows.drop (k + 1),x.Pvid⟩ : Vtab).sz ≤ 1048576 := by
   show (x.Rows.take k ++ x.Rows.drop (k + 1)).length + x.Pvid.length ≤ 1048576
   simp; omega
  obtain ⟨a',b,f1,f2,f3,f4⟩ := turned_both n x _ wx wy rfl hx (by omega) hn
  rw [ha] at f1
  cases f1
  have hg1 : (decide ((0 : Int) ≤ 0) && (decide ((0 : Int) ≤ (k : Int)) && decide ((k : Int) ≤ (x.Rows.length : Int)))) = true := by
   rw [decide_eq_true (by omega : (0 : Int) ≤ (k : Int)),decide_eq_true (by omega : (k : Int) ≤ (x.Rows.length : Int))]; rfl
  have hg2 : (decide ((0 : Int) ≤ ((k + 1 : Nat) : Int)) && (decide ((((k + 1 : Nat) : Int) : Int) ≤ (x.Rows.length : Int)) && decide (((x.Rows.length : Int) : Int) ≤ (x.Rows.length : Int)))) = true := by
   rw [decide_eq_true (by omega : (0 : Int) ≤ ((k + 1 : Nat) : Int)),decide_eq_true (by omega : ((k + 1 : Nat) : Int) ≤ (x.Rows.length : Int)),decide_eq_true (Int.le_refl _)]; rfl
  have hg3 : decide (([] : List Vrow).length + ((x.Rows.drop ((0 : Int)).toNat).take (((k : Int)).toNat - ((0 : Int)).toNat)).length ≤ 268435456) = true := decide_eq_true (by simp; omega)
  have hg4 : decide ((([] : List Vrow) ++ ((x.Rows.drop ((0 : Int)).toNat).take (((k : Int)).toNat - ((0 : Int)).toNat))).length + ((x.Rows.drop ((((k + 1 : Nat) : Int))).toNat).take ((((x.Rows.length : Int) : Int)).toNat - ((((k + 1 : Nat) : Int))).toNat)).length ≤ 268435456) = true := decide_eq_true (by simp; omega)
  have hn0 : decide ((k : Int) < 0) = false := decide_eq_false (by omega)
  have hn1 : decide ((k : Int) ≥ 0) = true := decide_eq_true (by omega)
  refine ⟨(bif a && b then (⟨x.Rows.take k ++ x.Rows.drop (k + 1),x.Pvid⟩,true) else (x,false) : Vtab × Bool).1,(bif a && b then (⟨x.Rows.take k ++ x.Rows.drop (k + 1),x.Pvid⟩,true) else (x,false) : Vtab × Bool).2,?_,?_,?_⟩
  ·simp only [spec_DropRowF,hr,ha,Option.bind_some,spec_l9CopyF_eq n x (by omega),hn0,cond_false,hw,hg1,hg2,hg3,hg4,cond_true,hlist,f3]
   cases a <;> cases b <;> rfl
  ·have hle : decide ((k : Int) ≤ (x.Rows.length : Int)) = true := decide_eq_true (by omega)
   have h00 : decide ((0 : Int) ≤ 0) = true := rfl
   simp only [impl_DropRowF,impl_withoutRowF,impl_RowAtF_eq,hr,Option.bind_some,impl_copyVtabF_eq n x (by omega),hn0,hn1,cond_false,hw,hle,h00,hg2,hg3,hg4,Bool.and_self,cond_true,hlist,f4]
  ·cases a <;> cases b <;> first | exact hx | exact hysz
theorem listWf_set {α : Type} {wf : α → Prop} {xs : List α} {i : Nat} {v : α} (h : listWf wf xs) (hv : wf v) : listWf wf (xs.set i v) := ⟨by rw [List.length_set]; exact h.1,fun y hy => by
 rcases List.mem_or_eq_of_mem_set hy with h1 | h1
 ·exact h.2 y h1
 ·rw [h1]; exact hv⟩
theorem spec_SetPvidF_both (n : Nat) (x : Vtab) (p id : Int) (wx : x.wf) (wi : intWf id) (hx : x.sz ≤ 1048576) (hn : 1048577 < n) : ∃ y b,spec_SetPvidF n x p id = some (y,b) ∧ impl_SetPvidF n x p id = some (y,b) ∧ y.sz ≤ 1048576 := by
 have hs : x.Rows.length + x.Pvid.length = x.sz := rfl
 obtain ⟨e1,a,ha⟩ := spec_VtabOkF_both n x wx (x.Pvid.length : Int) (by omega) (by omega)
 have hw : IntKind.wrap .i64 ((x.Pvid.length : Int) - 1) = (x.Pvid.length : Int) - 1 := wrap64 (by omega) (by omega)
 by_cases hp : 0 ≤ p ∧ p ≤ (x.Pvid.length : Int) - 1
 ·obtain ⟨v,hv,_⟩ := idx_of (xs := x.Pvid) hp.1 (by omega)
  have wy : (⟨x.Rows,x.Pvid.set p.toNat id⟩ : Vtab).wf := ⟨wx.1,listWf_set wx.2.1 wi,trivial⟩
  have hysz : (⟨x.Rows,x.Pvid.set p.toNat id⟩ : Vtab).sz ≤ 1048576 := by
   show x.Rows.length + (x.Pvid.set p.toNat id).length ≤ 1048576
   rw [List.length_set]; omega
  obtain ⟨a',b,f1,f2,f3,f4⟩ := turned_both n x _ wx wy (by simp) hx (by omega) hn
  rw [ha] at f1
  cases f1
  refine ⟨(bif a && b then (⟨x.Rows,x.Pvid.set p.toNat id⟩,true) else (x,false) : Vtab × Bool).1,(bif a && b then (⟨x.Rows,x.Pvid.set p.toNat id⟩,true) else (x,false) : Vtab × Bool).2,?_,?_,?_⟩
  ·simp only [spec_SetPvidF,ha,Option.bind_some,spec_l9CopyF_eq n x (by omega),spec_l1InF_val,hw,decide_eq_true hp.1,decide_eq_true hp.2,Bool.and_self,Bool.not_true,cond_false,hv,f3]
   cases a <;> cases b <;> rfl
  ·simp only [impl_SetPvidF,Option.bind_some,impl_copyVtabF_eq n x (by omega),impl_inF_eq,spec_l1InF_val,hw,decide_eq_true hp.1,decide_eq_true hp.2,Bool.and_self,Bool.not_true,cond_false,hv,f4]
  ·cases a <;> cases b <;> first | exact hx | exact hysz
 ·have hp' : (decide (0 ≤ p) && decide (p ≤ (x.Pvid.length : Int) - 1)) = false := by
   simp only [Bool.and_eq_false_iff,decide_eq_false_iff_not]; omega
  refine ⟨x,false,?_,?_,hx⟩
  ·simp only [spec_SetPvidF,ha,Option.bind_some,spec_l9CopyF_eq n x (by omega),spec_l1InF_val,hw,hp']
   cases a <;> rfl
  ·simp only [impl_SetPvidF,Option.bind_some,impl_copyVtabF_eq n x (by omega),impl_inF_eq,spec_l1InF_val,hw,hp']
   rfl
def Src.ok (c : Src) : Prop := 0 ≤ c.i ∧ c.b.length ≤ 1099511627776
theorem and255 (z : Int) : ∃ v : Int,(IntKind.wrap .i64 (BitVec.ofInt (IntKind.bits .i64) z &&& BitVec.ofInt (IntKind.bits .i64) 255).toNat) = v ∧ 0 ≤ v ∧ v ≤ 255 := by
 have h : (BitVec.ofInt 64 z &&& BitVec.ofInt 64 255).toNat ≤ 255 := by
  rw [BitVec.toNat_and]
  exact Nat.le_trans Nat.and_le_right (by decide)
 refine ⟨((BitVec.ofInt 64 z &&& BitVec.ofInt 64 255).toNat : Int),?_,by omega,by omega⟩
 exact wrap64 (z := ((BitVec.ofInt 64 z &&& BitVec.ofInt 64 255).toNat : Int)) (by omega) (by omega)
theorem spec_l1ByteF_ok (n : Nat) (c : Src) (h : c.ok) : ∃ v c',spec_l1ByteF n c = some (v,c') ∧ 0 ≤ v ∧ v ≤ 255 ∧ c'.ok := by
 unfold spec_l1ByteF
 rw [show decide ((0 : Int) ≤ 33) = true from rfl,show decide ((0 : Int) ≤ 47) = true from rfl]
 simp only [cond_true]
 by_cases hi : c.i < (c.b.length : Int)
 ·obtain ⟨v,hv,_⟩ := idx_of (xs := c.b) h.1 hi
  rw [decide_eq_true hi,hv,wrap64 (z := c.i + 1) (by have := h.1; omega) (by have := h.2; omega)]
  obtain ⟨w,e,e1,e2⟩ := and255 (IntKind.wrap .i64 ((IntKind.wrap .i64 (BitVec.ofInt (IntKind.bits .i64) (IntKind.wrap .i64 (BitVec.ofInt (IntKind.bits .i64) (Int.fdiv (IntKind.wrap .i64 ((IntKind.wrap .i64 (c.h * 6364136223846793005)) + 1442695040888963407)) (2 ^ min ((33 : Int)).toNat (IntKind.bits .i64))) ^^^ BitVec.ofInt (IntKind.bits .i64) (Int.fdiv (IntKind.wrap .i64 ((IntKind.wrap .i64 (c.h * 6364136223846793005)) + 1442695040888963407)) (2 ^ min ((47 : Int)).toNat (IntKind.bits .i64)))).toNat) &&& BitVec.ofInt (IntKind.bits .i64) 255).toNat) + (IntKind.wrap .i64 v)))
  simp only [cond_true,Option.bind_some]
  exact ⟨_,_,rfl,by rw [e]; exact e1,by rw [e]; exact e2,by have := h.1; show 0 ≤ c.i + 1; omega,h.2⟩
 ·rw [decide_eq_false hi]
  obtain ⟨w,e,e1,e2⟩ := and255 (IntKind.wrap .i64 (BitVec.ofInt (IntKind.bits .i64) (Int.fdiv (IntKind.wrap .i64 ((IntKind.wrap .i64 (c.h * 6364136223846793005)) + 1442695040888963407)) (2 ^ min ((33 : Int)).toNat (IntKind.bits .i64))) ^^^ BitVec.ofInt (IntKind.bits .i64) (Int.fdiv (IntKind.wrap .i64 ((IntKind.wrap .i64 (c.h * 6364136223846793005)) + 1442695040888963407)) (2 ^ min ((47 : Int)).toNat (IntKind.bits .i64)))).toNat)
  simp only [cond_false]
  exact ⟨_,_,rfl,by rw [e]; exact e1,by rw [e]; exact e2,h.1,h.2⟩
theorem tmod_in {v k : Int} (h0 : 0 ≤ v) (hk : 0 < k) : 0 ≤ Int.tmod v k ∧ Int.tmod v k < k := by
 rw [Int.tmod_eq_emod_of_nonneg h0]
 exact ⟨Int.emod_nonneg _ (by omega),Int.emod_lt_of_pos _ hk⟩
theorem spec_l1BelowF_ok (n : Nat) (c : Src) (k : Int) (h : c.ok) : ∃ v c',spec_l1BelowF n c k = some (v,c') ∧ 0 ≤ v ∧ (0 < k → v < k) ∧ c'.ok := by
 unfold spec_l1BelowF
 by_cases h1 : k ≤ 0
 ·rw [decide_eq_true h1]
  exact ⟨0,c,rfl,by omega,fun h => by omega,h⟩
 ·rw [decide_eq_false h1]
  have hne : decide ((k : Int) ≠ 0) = true := decide_eq_true (by omega)
  by_cases h2 : k ≤ 256
  ·rw [decide_eq_true h2]
   obtain ⟨v,c',e,e1,e2,e3⟩ := spec_l1ByteF_ok n c h
   simp only [cond_true,cond_false,e,Option.bind_some,hne]
   obtain ⟨t1,t2⟩ := tmod_in e1 (show 0 < k by omega)
   exact ⟨_,_,rfl,t1,fun _ => t2,e3⟩
  ·rw [decide_eq_false h2]
   obtain ⟨v1,c1,e,e1,e2,e3⟩ := spec_l1ByteF_ok n c h
   obtain ⟨v2,c2,f,f1,f2,f3⟩ := spec_l1ByteF_ok n c1 e3
   obtain ⟨v3,c3,g,g1,g2,g3⟩ := spec_l1ByteF_ok n c2 f3
   simp only [cond_false,e,f,g,Option.bind_some,hne,cond_true]
   simp (disch := omega) only [wrap64]
   obtain ⟨t1,t2⟩ := tmod_in (show 0 ≤ v1 * 65536 + v2 * 256 + v3 by omega) (show 0 < k by omega)
   exact ⟨_,_,rfl,t1,fun _ => t2,g3⟩
theorem spec_l1IntF_ok (n : Nat) (c : Src) (xs : List Int) (h : c.ok) (hx : 0 < xs.length) : ∃ v c',spec_l1IntF n c xs = some (v,c') ∧ v ∈ xs ∧ c'.ok := by
 obtain ⟨v,c',e,e1,e2,e3⟩ := spec_l1BelowF_ok n c (xs.length : Int) h
 obtain ⟨u,hu,hm⟩ := idx_of (xs := xs) e1 (e2 (by omega))
 unfold spec_l1IntF
 simp only [e,hu,Option.bind_some]
 exact ⟨_,_,rfl,hm,e3⟩
theorem spec_l1New_L2_tot (n : Nat) (x0 : List Int) (h : x0.length ≤ 1048580) : ∀ (m k : Nat) (y : Int),k ≤ x0.length → x0.length < m + k → ∃ v,spec_l1New_L2 n m x0 k y = some (.inl v)
 | 0,k,y,h1,h2 => by omega
 | m + 1,k,y,h1,h2 => by
  rw [spec_l1New_L2]
  by_cases hk : k < x0.length
  ·rw [lt_true hk,idx_nat hk,wrap_nat (by omega)]
   by_cases h4 : (k : Int) < 4000
   ·rw [decide_eq_true h4]
    simp only [cond_true,Option.bind_some]
    exact spec_l1New_L2_tot n x0 h m (k + 1) _ (by omega) (by omega)
   ·rw [decide_eq_false h4]
    exact ⟨_,rfl⟩
  ·have he : k = x0.length := by omega
   rw [he,lt_false]
   exact ⟨_,rfl⟩
theorem spec_l1NewF_ok (n : Nat) (x0 : List Int) (h : x0.length ≤ 1048580) (hn : x0.length < n) : ∃ c,spec_l1NewF n x0 = some c ∧ c.ok := by
 obtain ⟨v,e⟩ := spec_l1New_L2_tot n x0 h n 0 (IntKind.wrap .i64 (762762 + (x0.length : Int))) (by omega) (by omega)
 unfold spec_l1NewF
 rw [show spec_l1New_L2 n n x0 0 (IntKind.wrap .i64 (762762 + (x0.length : Int))) = _ from e]
 exact ⟨_,rfl,by show (0 : Int) ≤ 0; omega,by show x0.length ≤ _; omega⟩
theorem spec_VtabOk_L4_tot (n : Nat) (x0 : Vtab) (x1 : Int) (h : x0.Rows.length ≤ 1048580) : ∀ (m k : Nat),k ≤ x0.Rows.length → x0.Rows.length < m + k → Tot (spec_VtabOk_L4 n m x0 x1 k)
 | 0,k,h1,h2 => by omega
 | m + 1,k,h1,h2 => by
  rw [spec_VtabOk_L4]
  refine Tot.step (fun hk => ?_) .of
  have ih := spec_VtabOk_L4_tot n x0 x1 h m (k + 1) (by omega) (by omega)
  simp only [idx_nat hk,Option.bind_some,spec_l1InF_val,wrap_nat (by omega : k ≤ 1099511627776)]
  refine Tot.bif (fun _ => .of) fun _ => Tot.bif (fun _ => .of) fun _ => Tot.bif (fun _ => .of) fun _ => Tot.bif (fun _ => .of) fun _ => Tot.bif (fun hp => ?_) fun _ => ih
  have hp := of_decide_eq_true hp
  obtain ⟨v,hv,_⟩ := idx_of (xs := x0.Rows) (i := (k : Int) - 1) (by omega) (by omega)
  rw [wrap64 (by omega) (by omega),hv,Option.bind_some]
  exact Tot.bif (fun _ => .of) fun _ => ih
theorem spec_VtabOk_L3_tot (n : Nat) (x0 : Vtab) (h : x0.Rows.length ≤ 1048580) (hn : x0.Rows.length < n) (hq : x0.Pvid.length ≤ 1048580) : ∀ (m k : Nat),k ≤ x0.Pvid.length → x0.Pvid.length < m + k → Tot (spec_VtabOk_L3 n m x0 k)
 | 0,k,h1,h2 => by omega
 | m + 1,k,h1,h2 => by
  rw [spec_VtabOk_L3]
  refine Tot.step (fun hk => ?_) .of
  have ih := spec_VtabOk_L3_tot n x0 h hn hq m (k + 1) (by omega) (by omega)
  obtain ⟨r,hr,_⟩ := spec_RowAtF_ok n x0 x0.Pvid[k] h hn
  simp only [idx_nat hk,Option.bind_some,hr,wrap_nat (by omega : k ≤ 1099511627776)]
  exact Tot.bif (fun _ => .of) fun _ => ih
theorem spec_VtabOkF_tot (n : Nat) (x0 : Vtab) (p : Nat) (hp : p ≤ 1000000) (h : x0.sz ≤ 1048580) (hn : x0.sz < n) : Tot (spec_VtabOkF n x0 p) := by
 have hs : x0.Rows.length + x0.Pvid.length = x0.sz := rfl
 unfold spec_VtabOkF
 simp only [spec_l1InF_val,Option.bind_some]
 have hu : decide ((0 : Int) ≤ IntKind.wrap .u64 (p : Int)) = true := by rw [show IntKind.wrap .u64 (p : Int) = p from by show ((p : Int) % 18446744073709551616) = p; omega]; exact decide_eq_true (by omega)
 refine Tot.bif (fun _ => .of) fun _ => Tot.bif (fun _ => .of) fun _ => Tot.bif (fun _ => .of) fun _ => ?_
 rw [hu,cond_true]
 refine Tot.bind (spec_VtabOk_L4_tot n x0 p (by omega) n 0 (by omega) (by omega)) fun o _ => ?_
 cases o with
 | inr b => exact Tot.of
 | inl u =>
  show Tot (spec_VtabOk_J1 n x0)
  unfold spec_VtabOk_J1
  refine Tot.bind (spec_VtabOk_L3_tot n x0 (by omega) (by omega) (by omega) n 0 (by omega) (by omega)) fun o _ => ?_
  cases o <;> exact Tot.of
theorem spec_VtabOkF_len (n : Nat) (x : Vtab) (p : Int) (hok : spec_VtabOkF n x p = some true) : x.Rows.length ≤ 6 ∧ (x.Pvid.length : Int) = p := by
 unfold spec_VtabOkF at hok
 simp only [spec_l1InF_val,Option.bind_some] at hok
 revert hok
 cases (decide (1 ≤ p) && decide (p ≤ 6)) with
 | false => intro h; cases h
 | true =>
  simp only [Bool.not_true,cond_false]
  by_cases hp : (x.Pvid.length : Int) = p
  ·have : ((x.Pvid.length : Int) != p) = false := by simp [hp]
   rw [this,cond_false]
   by_cases hr : (x.Rows.length : Int) > 6
   ·rw [decide_eq_true hr]; intro h; cases h
   ·exact fun _ => ⟨by omega,hp⟩
  ·have : ((x.Pvid.length : Int) != p) = true := by simp [hp]
   rw [this]; intro h; cases h
def VtG (n p : Nat) (x : Vtab) : Prop := x.wf ∧ x.Pvid.length = p ∧ x.Rows.length ≤ 6 ∧ spec_VtabOkF n x p = some true ∧ ∀ r ∈ x.Rows,0 ≤ r.Bare ∧ r.Bare ≤ 63
theorem VtG.sz {n p : Nat} {x : Vtab} (h : VtG n p x) : x.sz ≤ 6 + p := by
 have hs : x.Rows.length + x.Pvid.length = x.sz := rfl
 have := h.2.1; have := h.2.2.1; omega
theorem spec_l9OrF_gt (n p : Nat) (hp : p ≤ 1000) (x y : Vtab) (hx : VtG n p x) (wy : y.wf) (hy : y.Pvid.length = p) (hl : y.Rows.length ≤ 1000) (hb : ∀ r ∈ y.Rows,0 ≤ r.Bare ∧ r.Bare ≤ 63) (hn : 1048577 < n) : ∃ r b,spec_l9OrF n y x = some (r,b) ∧ VtG n p r := by
 have hs : y.Rows.length + y.Pvid.length = y.sz := rfl
 have hxs := hx.sz
 obtain ⟨b,e⟩ := spec_VtabOkF_tot n y p (by omega) (by omega) (by omega)
 unfold spec_l9OrF
 rw [hx.2.1,e,Option.bind_some,spec_l9CopyF_eq n x (by omega)]
 cases b
 ·exact ⟨x,false,rfl,hx⟩
 ·exact ⟨y,true,rfl,wy,hy,(spec_VtabOkF_len n y p e).1,e,hb⟩
theorem spec_SetPvidF_gt (n p : Nat) (hp : p ≤ 1000) (x : Vtab) (hx : VtG n p x) (i id : Int) (wi : intWf id) (hn : 1048577 < n) : ∃ r b,spec_SetPvidF n x i id = some (r,b) ∧ VtG n p r := by
 have hxs := hx.sz
 have hpl := hx.2.1
 have hw : IntKind.wrap .i64 ((p : Int) - 1) = (p : Int) - 1 := wrap64 (by omega) (by omega)
 unfold spec_SetPvidF
 simp only [hpl,hx.2.2.2.1,Option.bind_some,Bool.not_true,cond_false,spec_l1InF_val,hw,spec_l9CopyF_eq n x (by omega)]
 by_cases hi : 0 ≤ i ∧ i ≤ (p : Int) - 1
 ·obtain ⟨v,hv,_⟩ := idx_of (xs := x.Pvid) hi.1 (by omega)
  obtain ⟨r,b,e,g⟩ := spec_l9OrF_gt n p hp x ⟨x.Rows,x.Pvid.set i.toNat id⟩ hx ⟨hx.1.1,listWf_set hx.1.2.1 wi,trivial⟩ (by simp [hpl]) (by have := hx.2.2.1; show x.Rows.length ≤ 1000; omega) hx.2.2.2.2 hn
  rw [decide_eq_true hi.1,decide_eq_true hi.2]
  simp only [Bool.and_self,Bool.not_true,cond_false,hv,Option.bind_some,e]
  exact ⟨r,b,rfl,g⟩
 ·have hp' : (decide (0 ≤ i) && decide (i ≤ (p : Int) - 1)) = false := by
   simp only [Bool.and_eq_false_iff,decide_eq_false_iff_not]; omega
  rw [hp']
  exact ⟨x,false,rfl,hx⟩
theorem spec_DropRowF_gt (n p : Nat) (hp : p ≤ 1000) (x : Vtab) (hx : VtG n p x) (id : Int) (hn : 1048577 < n) : ∃ r b,spec_DropRowF n x id = some (r,b) ∧ VtG n p r := by
 have hxs := hx.sz
 have hpl := hx.2.1
 have h6 := hx.2.2.1
 obtain ⟨r,hr,hk⟩ := spec_RowAtF_ok n x id (by omega) (by omega)
 rcases hk with ⟨rfl,_⟩ | ⟨v,h0,hv,_⟩
 ·refine ⟨x,false,?_,hx⟩
  simp only [spec_DropRowF,hr,hpl,hx.2.2.2.1,Option.bind_some,spec_l9CopyF_eq n x (by omega)]
  rfl
 ·obtain ⟨g1,g2⟩ := idx_get hv
  have hlt : r.toNat < x.Rows.length := (List.getElem?_eq_some_iff.1 g2).1
  obtain ⟨k,rfl⟩ : ∃ k : Nat,r = k := ⟨r.toNat,by omega⟩
  simp only [Int.toNat_natCast] at hlt
  have hw : IntKind.wrap .i64 ((k : Int) + 1) = ((k + 1 : Nat) : Int) := wrap_nat (by omega)
  have hlist : (([] : List Vrow) ++ ((x.Rows.drop ((0 : Int)).toNat).take (((k : Int)).toNat - ((0 : Int)).toNat))) ++ ((x.Rows.drop ((((k + 1 : Nat) : Int))).toNat).take ((((x.Rows.length : Int) : Int)).toNat - ((((k + 1 : Nat) : Int))).toNat)) = x.Rows.take k ++ x.Rows.drop (k + 1) := by
   simp only [Int.toNat_natCast,List.nil_append,show ((0 : Int)).toNat = 0 from rfl,List.drop_zero,Nat.sub_zero]
   congr 1
   exact List.take_of_length_le (by simp)
  have hmem : ∀ y ∈ x.Rows.take k ++ x.Rows.drop (k + 1),y ∈ x.Rows := fun y hy => by
   rcases List.mem_append.1 hy with h | h
   ·exact List.mem_of_mem_take h
   ·exact List.mem_of_mem_drop h
  obtain ⟨y,b,e,g⟩ := spec_l9OrF_gt n p hp x ⟨x.Rows.take k ++ x.Rows.drop (k + 1),x.Pvid⟩ hx ⟨listWf_sub hx.1.1 hmem (by simp; omega),hx.1.2⟩ hpl (by show (x.Rows.take k ++ x.Rows.drop (k + 1)).length ≤ 1000; simp; omega) (fun r hr => hx.2.2.2.2 r (hmem r hr)) hn
  have hg1 : (decide ((0 : Int) ≤ 0) && (decide ((0 : Int) ≤ (k : Int)) && decide ((k : Int) ≤ (x.Rows.length : Int)))) = true := by
   rw [decide_eq_true (by omega : (0 : Int) ≤ (k : Int)),decide_eq_true (by omega : (k : Int) ≤ (x.Rows.length : Int))]; rfl
  have hg2 : (decide ((0 : Int) ≤ ((k + 1 : Nat) : Int)) && (decide ((((k + 1 : Nat) : Int) : Int) ≤ (x.Rows.length : Int)) && decide (((x.Rows.length : Int) : Int) ≤ (x.Rows.length : Int)))) = true := by
   rw [decide_eq_true (by omega : (0 : Int) ≤ ((k + 1 : Nat) : Int)),decide_eq_true (by omega : ((k + 1 : Nat) : Int) ≤ (x.Rows.length : Int)),decide_eq_true (Int.le_refl _)]; rfl
  have hg3 : decide (([] : List Vrow).length + ((x.Rows.drop ((0 : Int)).toNat).take (((k : Int)).toNat - ((0 : Int)).toNat)).length ≤ 268435456) = true := decide_eq_true (by simp; omega)
  have hg4 : decide ((([] : List Vrow) ++ ((x.Rows.drop ((0 : Int)).toNat).take (((k : Int)).toNat - ((0 : Int)).toNat))).length + ((x.Rows.drop ((((k + 1 : Nat) : Int))).toNat).take ((((x.Rows.length : Int) : Int)).toNat - ((((k + 1 : Nat) : Int))).toNat)).length ≤ 268435456) = true := decide_eq_true (by simp; omega)
  have hn0 : decide ((k : Int) < 0) = false := decide_eq_false (by omega)
  refine ⟨y,b,?_,g⟩
  simp only [spec_DropRowF,hr,hpl,hx.2.2.2.1,Option.bind_some,Bool.not_true,spec_l9CopyF_eq n x (by omega),hn0,cond_false,hw,hg1,hg2,hg3,hg4,cond_true,hlist,e]
theorem spec_l9Row_L2_any (n : Nat) (x0 : Vtab) (r : Vrow) (h : x0.Rows.length ≤ 1000) : ∀ (m k : Nat) (d : Bool) (acc : List Vrow),k ≤ x0.Rows.length → x0.Rows.length < m + k → acc.length ≤ 2 * k → (∀ v ∈ acc,v = r ∨ v ∈ x0.Rows) → ∃ d' acc',spec_l9Row_L2 n m x0 r k d acc = some (.inl (d',acc')) ∧ acc'.length ≤ 2 * x0.Rows.length ∧ (∀ v ∈ acc',v = r ∨ v ∈ x0.Rows)
 | 0,k,d,acc,h1,h2,_,_ => by omega
 | m + 1,k,d,acc,h1,h2,h3,h4 => by
  rw [spec_l9Row_L2]
  by_cases hk : k < x0.Rows.length
  ·have ih := fun d acc h3 h4 => spec_l9Row_L2_any n x0 r h m (k + 1) d acc (by omega) (by omega) h3 h4
   have hmem : x0.Rows[k] ∈ x0.Rows := List.getElem_mem hk
   have hj : ∀ b1 b2 b3 (d : Bool) (acc : List Vrow),acc.length ≤ 2 * k + 1 → (∀ v ∈ acc,v = r ∨ v ∈ x0.Rows) → ∃ d' acc',spec_l9Row_J3 n (fun v => spec_l9Row_L2 n m x0 r v.1 v.2.1 v.2.2) x0 r k b1 b2 b3 d acc = some (.inl (d',acc')) ∧ acc'.length ≤ 2 * x0.Rows.length ∧ (∀ v ∈ acc',v = r ∨ v ∈ x0.Rows) := fun b1 b2 b3 d acc hl ha => by
    have hlen : decide (acc.length + [x0.Rows[k]].length ≤ 268435456) = true := decide_eq_true (by rw [List.length_singleton]; omega)
    simp only [spec_l9Row_J3,idx_nat hk,Option.bind_some,hlen,cond_true,wrap_nat (by omega : k ≤ 1099511627776)]
    cases (x0.Rows[k].Id != r.Id)
    ·exact ih d acc (by omega) ha
    ·refine ih d _ (by simp; omega) fun v hv => ?_
     rcases List.mem_append.1 hv with a | a
     ·exact ha v a
     ·rw [List.mem_singleton.1 a]; exact .inr hmem
   have hlen : decide (acc.length + [r].length ≤ 268435456) = true := decide_eq_true (by rw [List.length_singleton]; omega)
   simp only [lt_true hk,cond_true,idx_nat hk,Option.bind_some,hlen]
   cases d
   ·simp only [Bool.not_false,cond_true]
    cases (decide (x0.Rows[k].Id ≥ r.Id))
    ·simp only [cond_false]; exact hj _ _ _ _ _ (by omega) h4
    ·simp only [cond_true]
     refine hj _ _ _ _ _ (by simp; omega) fun v hv => ?_
     rcases List.mem_append.1 hv with a | a
     ·exact h4 v a
     ·exact .inl (List.mem_singleton.1 a)
   ·simp only [Bool.not_true,cond_false]; exact hj _ _ _ _ _ (by omega) h4
  ·have he : k = x0.Rows.length := by omega
   subst he
   rw [lt_false,cond_false]
   exact ⟨d,acc,rfl,h3,h4⟩
theorem spec_l9RowF_any (n : Nat) (x : Vtab) (r : Vrow) (h : x.Rows.length ≤ 1000) (hq : x.Pvid.length ≤ 1000) (hn : 1000 < n) : ∃ y,spec_l9RowF n x r = some y ∧ y.Pvid = x.Pvid ∧ y.Rows.length ≤ 2 * x.Rows.length + 1 ∧ (∀ v ∈ y.Rows,v = r ∨ v ∈ x.Rows) := by
 obtain ⟨d,acc,e,h1,h2⟩ := spec_l9Row_L2_any n x r h n 0 false [] (by omega) (by omega) (by simp) (by simp)
 have e : spec_l9Row_L2 n n x r 0 false ([] : List Vrow) = some (.inl (d,acc)) := e
 unfold spec_l9RowF
 rw [decide_eq_true (by simp; omega),cond_true,e,Option.bind_some]
 simp only [spec_l9Row_J1,List.nil_append]
 have hlen : decide (acc.length + [r].length ≤ 268435456) = true := decide_eq_true (by rw [List.length_singleton]; omega)
 rw [hlen]
 cases d
 ·refine ⟨_,rfl,rfl,by simp; omega,fun v hv => ?_⟩
  rcases List.mem_append.1 hv with a | a
  ·exact h2 v a
  ·exact .inl (List.mem_singleton.1 a)
 ·exact ⟨_,rfl,rfl,by simp; omega,h2⟩
theorem rows_wf {xs ys : List Vrow} {r : Vrow} (hx : listWf Vrow.wf xs) (wr : r.wf) (hl : ys.length ≤ 4000) (h : ∀ v ∈ ys,v = r ∨ v ∈ xs) : listWf Vrow.wf ys := ⟨Nat.le_trans hl (by decide),fun v hv => by
 rcases h v hv with a | a
 ·rw [a]; exact wr
 ·exact hx.2 v a⟩
theorem spec_PutRowF_gt (n p : Nat) (hp : p ≤ 1000) (x : Vtab) (hx : VtG n p x) (r : Vrow) (wr : r.wf) (hr : 0 ≤ r.Bare ∧ r.Bare ≤ 63) (hn : 1048577 < n) : ∃ y b,spec_PutRowF n x r = some (y,b) ∧ VtG n p y := by
 have hxs := hx.sz
 have hpl := hx.2.1
 have h6 := hx.2.2.1
 obtain ⟨z,e,e1,e2,e3⟩ := spec_l9RowF_any n x r (by omega) (by omega) (by omega)
 have wz : z.wf := ⟨rows_wf hx.1.1 wr (by omega) e3,by rw [e1]; exact hx.1.2.1,trivial⟩
 obtain ⟨y,b,f,g⟩ := spec_l9OrF_gt n p hp x z hx wz (by rw [e1]; exact hpl) (by omega) (fun v hv => by
  rcases e3 v hv with a | a
  ·rw [a]; exact hr
  ·exact hx.2.2.2.2 v a) hn
 refine ⟨y,b,?_,g⟩
 simp only [spec_PutRowF,hpl,hx.2.2.2.1,Option.bind_some,Bool.not_true,cond_false,e,f]
theorem intWf_small {z : Int} (h0 : -1000000 ≤ z) (h1 : z ≤ 1000000) : intWf z := by
 show (Lit.int .i64 z).wf = true
 simp [Lit.wf,show IntKind.wrap .i64 z = z from wrap64 (by omega) (by omega)]
 exact ⟨by show (-9223372036854775808 : Int) ≤ z; omega,by omega⟩
theorem small_and : ∀ a < 64,∀ b < 64,IntKind.wrap .i64 (BitVec.ofInt (IntKind.bits .i64) ((a : Nat) : Int) &&& BitVec.ofInt (IntKind.bits .i64) ((b : Nat) : Int)).toNat = ((a &&& b : Nat) : Int) := by decide +kernel
theorem small_all : ∀ p < 7,IntKind.wrap .u64 ((p : Nat) : Int) = p ∧ IntKind.wrap .i64 ((IntKind.wrap .i64 ((IntKind.wrap .i64 (1 * 2 ^ min (((IntKind.wrap .u64 ((p : Nat) : Int)) : Int)).toNat (IntKind.bits .i64))) - 1)) + 1) = ((2 ^ p : Nat) : Int) ∧ (IntKind.wrap .i64 ((IntKind.wrap .i64 (1 * 2 ^ min (((IntKind.wrap .u64 ((p : Nat) : Int)) : Int)).toNat (IntKind.bits .i64))) - 1)) = ((2 ^ p - 1 : Nat) : Int) ∧ 1 ≤ 2 ^ p ∧ 2 ^ p ≤ 64 := by decide +kernel
theorem spec_l9Row2F_ok (n p : Nat) (hp : p < 7) (c : Src) (h : c.ok) : ∃ v c',spec_l9Row2F n c p = some (v,c') ∧ v.wf ∧ 0 ≤ v.Bare ∧ v.Bare ≤ 63 ∧ c'.ok := by
 obtain ⟨s1,s2,s3,s4,s5⟩ := small_all p hp
 obtain ⟨v1,c1,e1,a1,b1,g1⟩ := spec_l1BelowF_ok n c ((2 ^ p : Nat) : Int) h
 obtain ⟨v2,c2,e2,a2,g2⟩ := spec_l1IntF_ok n c1 [1,2,3,2] g1 (by decide)
 obtain ⟨v3,c3,e3,a3,b3,g3⟩ := spec_l1BelowF_ok n c2 ((2 ^ p : Nat) : Int) g2
 have b1 := b1 (by omega)
 have b3 := b3 (by omega)
 obtain ⟨x,rfl⟩ : ∃ x : Nat,v1 = x := ⟨v1.toNat,by omega⟩
 obtain ⟨y,rfl⟩ : ∃ y : Nat,v3 = y := ⟨v3.toNat,by omega⟩
 have hand := small_and x (by omega) y (by omega)
 have hle : x &&& y ≤ x := Nat.and_le_left
 have hu : decide ((0 : Int) ≤ IntKind.wrap .u64 ((p : Nat) : Int)) = true := decide_eq_true (by rw [s1]; omega)
 unfold spec_l9Row2F
 simp only [s2,hu,cond_true,e1,e2,e3,Option.bind_some,hand]
 have w1 : intWf v2 := by
  simp only [List.mem_cons,List.not_mem_nil,or_false] at a2
  refine intWf_small ?_ ?_ <;> rcases a2 with a | a | a | a <;> omega
 have w2 : intWf ((x : Nat) : Int) := intWf_small (by omega) (by omega)
 have w3 : intWf ((x &&& y : Nat) : Int) := intWf_small (by omega) (by omega)
 refine ⟨_,_,rfl,⟨w1,w2,w3,trivial⟩,?_,?_,g3⟩
 ·show (0 : Int) ≤ ((x &&& y : Nat) : Int); omega
 ·show ((x &&& y : Nat) : Int) ≤ 63; omega
theorem spec_VtabNew_L2_ok (n p : Nat) (hp : p ≤ 1000) : ∀ (m k : Nat) (acc : List Int),k ≤ p → p < m + k → acc = List.replicate k 1 → spec_VtabNew_L2 n m p k acc = some (.inl (List.replicate p 1))
 | 0,k,acc,h1,h2,h3 => by omega
 | m + 1,k,acc,h1,h2,h3 => by
  rw [spec_VtabNew_L2]
  by_cases hk : k < p
  ·have hlen : decide (acc.length + [(1 : Int)].length ≤ 268435456) = true := decide_eq_true (by rw [List.length_singleton,h3]; simp; omega)
   simp only [lt_true hk,cond_true,wrap_nat (by omega : k ≤ 1099511627776)]
   refine Eq.trans (congrArg (fun b => cond b _ none) hlen) ?_
   exact spec_VtabNew_L2_ok n p hp m (k + 1) (acc ++ [1]) (by omega) (by omega) (by rw [h3,← List.replicate_succ'])
  ·have he : k = p := by omega
   subst he
   rw [lt_false,cond_false,h3]
theorem spec_VtabNewF_eq (n p : Nat) (h0 : 1 ≤ p) (h1 : p < 7) (hn : 1000 < n) : spec_VtabNewF n p = some ⟨[⟨1,((2 ^ p - 1 : Nat) : Int),((2 ^ p - 1 : Nat) : Int)⟩],List.replicate p 1⟩ := by
 obtain ⟨s1,s2,s3,s4,s5⟩ := small_all p h1
 have e := spec_VtabNew_L2_ok n p (by omega) n 0 [] (by omega) (by omega) rfl
 have e : spec_VtabNew_L2 n n p 0 ([] : List Int) = some (.inl (List.replicate p 1)) := e
 unfold spec_VtabNewF
 have hu : decide ((0 : Int) ≤ IntKind.wrap .u64 ((p : Nat) : Int)) = true := decide_eq_true (by rw [s1]; omega)
 simp only [spec_l1InF_val,Option.bind_some,decide_eq_true (show (1 : Int) ≤ (p : Int) by omega),decide_eq_true (show (p : Int) ≤ 6 by omega),Bool.and_self,Bool.not_true,cond_false,hu,cond_true,e,spec_VtabNew_J1,s3]
theorem new_ok : ∀ p < 7,1 ≤ p → spec_VtabOkF 1048580 ⟨[⟨1,((2 ^ p - 1 : Nat) : Int),((2 ^ p - 1 : Nat) : Int)⟩],List.replicate p 1⟩ ((p : Nat) : Int) = some true := by decide +kernel
theorem new_gt (p : Nat) (h0 : 1 ≤ p) (h1 : p < 7) : ∃ v,spec_VtabNewF 1048580 p = some v ∧ VtG 1048580 p v := by
 obtain ⟨s1,s2,s3,s4,s5⟩ := small_all p h1
 have w : intWf ((2 ^ p - 1 : Nat) : Int) := intWf_small (by omega) (by omega)
 refine ⟨_,spec_VtabNewF_eq 1048580 p h0 h1 (by omega),⟨⟨by show 1 ≤ maxLen; decide,fun v hv => ?_⟩,⟨by rw [List.length_replicate]; exact Nat.le_trans (Nat.le_of_lt h1) (by decide),fun v hv => ?_⟩,trivial⟩,List.length_replicate,by show 1 ≤ 6; decide,new_ok p h1 h0,fun v hv => ?_⟩
 ·rw [List.mem_singleton.1 hv]; have w1 : intWf 1 := intWf_small (by decide) (by decide)
  exact ⟨w1,w,w,trivial⟩
 ·rw [(List.mem_replicate.1 hv).2]; exact intWf_small (by decide) (by decide)
 ·rw [List.mem_singleton.1 hv]
  have h : (0 : Int) ≤ ((2 ^ p - 1 : Nat) : Int) ∧ ((2 ^ p - 1 : Nat) : Int) ≤ 63 := by omega
  exact h
theorem spec_l9Draw_L2_ok (p : Nat) (h0 : 1 ≤ p) (h7 : p < 7) : ∀ (m k : Nat) (c : Src) (v : Vtab),k < m → k ≤ 1000 → c.ok → VtG 1048580 p v → ∃ (c' : Src) (v' : Vtab),spec_l9Draw_L2 1048580 m p k c.b c.i c.h v.Rows v.Pvid = some (.inl (c'.b,c'.i,c'.h,v'.Rows,v'.Pvid)) ∧ c'.ok ∧ VtG 1048580 p v'
 | 0,k,c,v,h1,h2,h3,h4 => by omega
 | m + 1,k,c,v,h1,h2,h3,h4 => by
  rw [spec_l9Draw_L2]
  by_cases hk : 0 < k
  ·obtain ⟨j,rfl⟩ : ∃ j,k = j + 1 := ⟨k - 1,by omega⟩
   have hw : IntKind.wrap .i64 (((j + 1 : Nat) : Int) - 1) = (j : Nat) := by rw [wrap64 (by omega) (by omega)]; omega
   have ih := fun c v h3 h4 => spec_l9Draw_L2_ok p h0 h7 m j c v (by omega) (by omega) h3 h4
   obtain ⟨v1,c1,e1,a1,b1,g1⟩ := spec_l1BelowF_ok 1048580 c 4 h3
   obtain ⟨v2,c2,e2,a2,b2,g2⟩ := spec_l1BelowF_ok 1048580 c1 (p : Int) g1
   obtain ⟨v3,c3,e3,a3,b3,g3⟩ := spec_l1BelowF_ok 1048580 c2 3 g2
   obtain ⟨v4,c4,e4,a4,b4,g4⟩ := spec_l1BelowF_ok 1048580 c1 2 g1
   obtain ⟨v5,c5,e5,w5,p5,q5,g5⟩ := spec_l9Row2F_ok 1048580 p h7 c1 g1
   have b3 := b3 (by decide)
   have b4 := b4 (by decide)
   obtain ⟨y2,d2,f2,k2⟩ := spec_SetPvidF_gt 1048580 p (by omega) v h4 v2 (1 + v3) (intWf_small (by omega) (by omega)) (by omega)
   obtain ⟨y4,d4,f4,k4⟩ := spec_DropRowF_gt 1048580 p (by omega) v h4 (2 + v4) (by omega)
   obtain ⟨y5,d5,f5,k5⟩ := spec_PutRowF_gt 1048580 p (by omega) v h4 v5 w5 ⟨p5,q5⟩ (by omega)
   have hpos : decide (((j + 1 : Nat) : Int) > 0) = true := decide_eq_true (by omega)
   simp only [hpos,cond_true,e1,Option.bind_some,e2,e3,e4,e5,hw,wrap64 (show -9223372036854775808 ≤ 1 + v3 by omega) (by omega),wrap64 (show -9223372036854775808 ≤ 2 + v4 by omega) (by omega),f2,f4,f5]
   cases (v1 == 0)
   ·cases (v1 == 1)
    ·exact ih c5 y5 g5 k5
    ·exact ih c4 y4 g4 k4
   ·exact ih c3 y2 g3 k2
  ·have : k = 0 := by omega
   subst this
   exact ⟨c,v,rfl,h3,h4⟩
theorem spec_l9DrawF_ok (p : Nat) (h0 : 1 ≤ p) (h7 : p < 7) (c : Src) (h : c.ok) : ∃ v c',spec_l9DrawF 1048580 c p = some (v,c') ∧ VtG 1048580 p v ∧ c'.ok := by
 obtain ⟨v0,e0,g0⟩ := new_gt p h0 h7
 obtain ⟨v1,c1,e1,a1,b1,g1⟩ := spec_l1BelowF_ok 1048580 c 6 h
 have b1 := b1 (by decide)
 obtain ⟨k,rfl⟩ : ∃ k : Nat,v1 = k := ⟨v1.toNat,by omega⟩
 obtain ⟨c',v',e,g,g'⟩ := spec_l9Draw_L2_ok p h0 h7 1048580 k c1 v0 (by omega) (by omega) g1 g0
 unfold spec_l9DrawF
 rw [e0,Option.bind_some,e1,Option.bind_some,e]
 exact ⟨v',c',rfl,g',g⟩
def VtB (x : Vtab) : Prop := x.wf ∧ 1 ≤ x.Pvid.length ∧ x.Pvid.length ≤ 6 ∧ x.Rows.length ≤ 1000 ∧ ∀ r ∈ x.Rows,0 ≤ r.Bare ∧ r.Bare ≤ 63
theorem spec_l9Any_L2_ok : ∀ (m k : Nat) (v : Vtab),k ≤ 6 → 6 < m + k → VtB v → v.Rows.length * 2 ^ (6 - k) + 2 ^ (6 - k) ≤ 1000 → ∃ (v' : Vtab),spec_l9Any_L2 1048580 m k v.Rows v.Pvid = some (.inl (v'.Rows,v'.Pvid)) ∧ VtB v'
 | 0,k,v,h1,h2,h3,h4 => by omega
 | m + 1,k,v,h1,h2,h3,h4 => by
  rw [spec_l9Any_L2]
  by_cases hk : k < 6
  ·have hp : 2 ^ (6 - k) = 2 * 2 ^ (6 - (k + 1)) := by rw [← Nat.pow_succ']; congr 1; omega
   have hpos : 1 ≤ 2 ^ (6 - (k + 1)) := Nat.pos_of_ne_zero (by simp)
   obtain ⟨y,e,e1,e2,e3⟩ := spec_l9RowF_any 1048580 (⟨v.Rows,v.Pvid⟩ : Vtab) (⟨IntKind.wrap .i64 (10 + (k : Int)),0,0⟩ : Vrow) h3.2.2.2.1 (Nat.le_trans h3.2.2.1 (by decide)) (by omega)
   have e2 : y.Rows.length ≤ 2 * v.Rows.length + 1 := e2
   have e1 : y.Pvid = v.Pvid := e1
   have hle : y.Rows.length * 2 ^ (6 - (k + 1)) + 2 ^ (6 - (k + 1)) ≤ 1000 := by
    refine Nat.le_trans ?_ h4
    rw [hp]
    have := Nat.mul_le_mul_right (2 ^ (6 - (k + 1))) e2
    have h5 : (2 * v.Rows.length + 1) * 2 ^ (6 - (k + 1)) = v.Rows.length * (2 * 2 ^ (6 - (k + 1))) + 2 ^ (6 - (k + 1)) := by
     rw [Nat.add_mul,Nat.one_mul,Nat.mul_comm 2 v.Rows.length,Nat.mul_assoc]
    omega
   have hl : y.Rows.length ≤ 1000 := by
    have := Nat.mul_le_mul_left y.Rows.length hpos
    omega
   have wr : Vrow.wf (⟨IntKind.wrap .i64 (10 + (k : Int)),0,0⟩ : Vrow) := by
    rw [wrap64 (by omega) (by omega)]
    have w0 : intWf 0 := intWf_small (by decide) (by decide)
    exact ⟨intWf_small (by show (-1000000 : Int) ≤ 10 + (k : Int); omega) (by show 10 + (k : Int) ≤ 1000000; omega),w0,w0,trivial⟩
   have gy : VtB y := ⟨⟨rows_wf h3.1.1 wr (by omega) e3,by rw [e1]; exact h3.1.2.1,trivial⟩,by rw [e1]; exact h3.2.1,by rw [e1]; exact h3.2.2.1,hl,fun r hr => by
    rcases e3 r hr with a | a
    ·rw [a]; exact (show (0 : Int) ≤ 0 ∧ (0 : Int) ≤ 63 by decide)
    ·exact h3.2.2.2.2 r a⟩
   simp only [decide_eq_true (show (k : Int) < 6 by omega),cond_true,e,Option.bind_some,wrap_nat (by omega : k ≤ 1099511627776)]
   exact spec_l9Any_L2_ok m (k + 1) y (by omega) (by omega) gy hle
  ·have : k = 6 := by omega
   subst this
   exact ⟨v,rfl,h3⟩
theorem spec_l9AnyF_ok (c : Src) (h : c.ok) : ∃ v p c',spec_l9AnyF 1048580 c = some (v,p,c') ∧ VtB v ∧ intWf p ∧ c'.ok := by
 obtain ⟨v1,c1,e1,a1,b1,g1⟩ := spec_l1BelowF_ok 1048580 c 4 h
 have b1 := b1 (by decide)
 obtain ⟨k,rfl⟩ : ∃ k : Nat,v1 = k := ⟨v1.toNat,by omega⟩
 have hw : IntKind.wrap .i64 (1 + (k : Int)) = ((k + 1 : Nat) : Int) := by rw [wrap64 (by omega) (by omega)]; omega
 obtain ⟨v,c2,e2,gv,g2⟩ := spec_l9DrawF_ok (k + 1) (by omega) (by omega) c1 g1
 have hl := gv.2.1
 have h6 := gv.2.2.1
 have bv : VtB v := ⟨gv.1,by omega,by omega,by omega,gv.2.2.2.2⟩
 have wk : intWf ((k + 1 : Nat) : Int) := intWf_small (by omega) (by omega)
 obtain ⟨v3,c3,e3,a3,b3,g3⟩ := spec_l1BelowF_ok 1048580 c2 12 g2
 obtain ⟨v4,c4,e4,a4,g4⟩ := spec_l1IntF_ok 1048580 c3 [0,1,9,100] g3 (by decide)
 obtain ⟨v5,c5,e5,a5,g5⟩ := spec_l1IntF_ok 1048580 c4 [(-1),0,1,64] g4 (by decide)
 obtain ⟨v6,c6,e6,a6,b6,g6⟩ := spec_l1BelowF_ok 1048580 c5 3 g5
 have b6 := b6 (by decide)
 obtain ⟨v7,c7,e7,a7,g7⟩ := spec_l1IntF_ok 1048580 c3 [0,7] g3 (by decide)
 obtain ⟨v8,c8,e8,a8,g8⟩ := spec_l1IntF_ok 1048580 c3 [0,6,7] g3 (by decide)
 obtain ⟨u,hu,_⟩ := idx_of (xs := v.Pvid) (i := 0) (by omega) (by omega)
 obtain ⟨z,ez,bz⟩ := spec_l9Any_L2_ok 1048580 0 v (by omega) (by omega) bv (by show v.Rows.length * 64 + 64 ≤ 1000; omega)
 have ez : spec_l9Any_L2 1048580 1048580 0 v.Rows v.Pvid = some (.inl (z.Rows,z.Pvid)) := ez
 simp only [List.mem_cons,List.not_mem_nil,or_false] at a4 a5 a7 a8
 have w4 : intWf v4 := by refine intWf_small ?_ ?_ <;> rcases a4 with a | a | a | a <;> omega
 have w5 : intWf v5 := by refine intWf_small ?_ ?_ <;> rcases a5 with a | a | a | a <;> omega
 have w6 : intWf v6 := intWf_small (by omega) (by omega)
 have w7 : intWf v7 := by refine intWf_small ?_ ?_ <;> rcases a7 with a | a <;> omega
 have w8 : intWf v8 := by refine intWf_small ?_ ?_ <;> rcases a8 with a | a | a <;> omega
 have hlen : decide (v.Rows.length + [(⟨v4,v5,v6⟩ : Vrow)].length ≤ 268435456) = true := decide_eq_true (by rw [List.length_singleton]; omega)
 unfold spec_l9AnyF
 simp only [e1,Option.bind_some,hw,e2,e3,e4,e5,e6,e7,e8,hu,hlen,cond_true,ez,spec_l9Any_J1]
 cases (v3 == 0)
 ·cases (v3 == 1)
  ·cases (v3 == 2)
   ·cases (v3 == 3)
    ·exact ⟨_,_,_,rfl,bv,wk,g3⟩
    ·exact ⟨_,_,_,rfl,bz,wk,g3⟩
   ·exact ⟨_,_,_,rfl,bv,w8,g8⟩
  ·exact ⟨_,_,_,rfl,⟨⟨bv.1.1,listWf_set bv.1.2.1 w7,trivial⟩,by show 1 ≤ (v.Pvid.set ((0 : Int)).toNat v7).length; rw [List.length_set]; omega,by show (v.Pvid.set ((0 : Int)).toNat v7).length ≤ 6; rw [List.length_set]; omega,bv.2.2.2⟩,wk,g7⟩
 ·refine ⟨_,_,_,rfl,⟨⟨rows_wf bv.1.1 (r := ⟨v4,v5,v6⟩) ⟨w4,w5,w6,trivial⟩ (by show (v.Rows ++ [_]).length ≤ 4000; simp; omega) fun r hr => ?_,bv.1.2⟩,bv.2.1,bv.2.2.1,by show (v.Rows ++ [_]).length ≤ 1000; simp; omega,fun r hr => ?_⟩,wk,g6⟩
  ·rcases List.mem_append.1 hr with a | a
   ·exact .inr a
   ·exact .inl (List.mem_singleton.1 a)
  ·rcases List.mem_append.1 hr with a | a
   ·exact bv.2.2.2.2 r a
   ·rw [List.mem_singleton.1 a]; exact ⟨a6,by show v6 ≤ 63; omega⟩
theorem spec_l9TabF_ok (c : Src) (h : c.ok) : ∃ v c',spec_l9TabF 1048580 c = some (v,c') ∧ VtB v ∧ c'.ok := by
 obtain ⟨v,p,c',e,g1,g2,g3⟩ := spec_l9AnyF_ok c h
 exact ⟨v,c',by unfold spec_l9TabF; rw [e]; rfl,g1,g3⟩
theorem laws_sameIntsF_refl (n : Nat) (xs : List Int) (h : xs.length ≤ 268435456) (hn : xs.length < n) : laws_sameIntsF n xs xs = some true := by
 unfold laws_sameIntsF
 have := eq_loop (L := laws_sameInts_L2 n) (f := fun a b => some (a == b)) (fun m xs ys i => rfl) xs (by omega) (fun v _ => by simp) n 0 (by omega) (by omega)
 simp only [bne_self_eq_false,cond_false]
 rw [show (laws_sameInts_L2 n n xs xs 0) = _ from this]
 rfl
theorem laws_sameVtabF_refl (n : Nat) (x : Vtab) (h : x.sz ≤ 268435456) (hn : x.sz < n) : laws_sameVtabF n x x = some true := by
 unfold Vtab.sz at h hn
 unfold laws_sameVtabF
 have := eq_loop (L := fun m xs ys i => laws_sameVtab_L2 n m ⟨xs,x.Pvid⟩ ⟨ys,x.Pvid⟩ i) (f := fun v u : Vrow => some ((v.Id == u.Id) && ((v.Members == u.Members) && ((v.Bare == u.Bare) && true)))) (fun m xs ys i => rfl) x.Rows (by omega) (fun v _ => by simp) n 0 (by omega) (by omega)
 simp only [bne_self_eq_false,cond_false,laws_sameIntsF_refl n x.Pvid (by omega) (by omega),Option.bind_some,Bool.not_true]
 rw [show (laws_sameVtab_L2 n n x x 0) = _ from this]
 rfl
theorem bent_new (z : Int) (hz : z = 1 ∨ z = 3 ∨ z = 6 ∨ z = 0 ∨ z = 7 ∨ z = -1) : ∃ v : Vtab,spec_VtabNewF 1048580 z = some v ∧ impl_VtabNewF 1048580 z = some v ∧ impl_VtabOkF 1048580 v z = some (decide (z ≥ 1) && decide (z ≤ 6)) ∧ v.sz ≤ 10 := by
 rcases hz with rfl | rfl | rfl | rfl | rfl | rfl
 ·exact ⟨⟨[⟨1,1,1⟩],[1]⟩,by kernel_rfl,by kernel_rfl,by kernel_rfl,by decide⟩
 ·exact ⟨⟨[⟨1,7,7⟩],[1,1,1]⟩,by kernel_rfl,by kernel_rfl,by kernel_rfl,by decide⟩
 ·exact ⟨⟨[⟨1,63,63⟩],[1,1,1,1,1,1]⟩,by kernel_rfl,by kernel_rfl,by kernel_rfl,by decide⟩
 ·exact ⟨⟨[],[]⟩,by kernel_rfl,by kernel_rfl,by kernel_rfl,by decide⟩
 ·exact ⟨⟨[],[]⟩,by kernel_rfl,by kernel_rfl,by kernel_rfl,by decide⟩
 ·exact ⟨⟨[],[]⟩,by kernel_rfl,by kernel_rfl,by kernel_rfl,by decide⟩
theorem VtB.sz {v : Vtab} (h : VtB v) : v.sz ≤ 1006 := by
 have h1 := h.2.2.1
 have h2 := h.2.2.2.1
 show v.Rows.length + v.Pvid.length ≤ 1006
 omega
theorem laws_FnNetworksBent_plain (x0 : List Int) (w0 : listWf byteWf x0) : ∃ n,laws_FnNetworksBentF n x0 = some true := by
 refine ⟨1048580,?_⟩
 simp only [laws_FnNetworksBentF,laws_bigF,Option.bind_some]
 by_cases hb : (x0.length : Int) > 1048576
 ·rw [decide_eq_true hb]; rfl
 ·rw [decide_eq_false hb]
  obtain ⟨c,e,g⟩ := spec_l1NewF_ok 1048580 x0 (by omega) (by omega)
  obtain ⟨z,c0,e0,a0,g0⟩ := spec_l1IntF_ok 1048580 c [1,3,6,0,7,(-1)] g (by decide)
  obtain ⟨w,p,c1,e1,b1,wp,g1⟩ := spec_l9AnyF_ok c g
  obtain ⟨v,c2,e2,b2,g2⟩ := spec_l9TabF_ok c g
  obtain ⟨p3,c3,e3,a3,g3⟩ := spec_l1IntF_ok 1048580 c2 [1,2,3,0,9] g2 (by decide)
  obtain ⟨p4,c4,e4,a4,g4⟩ := spec_l1IntF_ok 1048580 c2 [0,1,2,(-1),6] g2 (by decide)
  obtain ⟨p5,c5,e5,a5,g5⟩ := spec_l1IntF_ok 1048580 c4 [1,2,3,9] g4 (by decide)
  have d1 : spec_DrawVtabNewF 1048580 x0 = some z := by simp only [spec_DrawVtabNewF,e,e0,Option.bind_some]
  have d2 : spec_DrawVtabOkF 1048580 x0 = some (w,p) := by simp only [spec_DrawVtabOkF,e,e1,Option.bind_some]
  have d3 : spec_DrawDropRowF 1048580 x0 = some (v,p3) := by simp only [spec_DrawDropRowF,spec_DrawRowAtF,e,e2,e3,Option.bind_some]
  have d4 : spec_DrawSetPvidF 1048580 x0 = some (v,p4,p5) := by simp only [spec_DrawSetPvidF,e,e2,e4,e5,Option.bind_some]
  simp only [List.mem_cons,List.not_mem_nil,or_false] at a0 a5
  obtain ⟨u,u1,u2,u3,u4⟩ := bent_new z a0
  have hv := b2.sz
  have hw := b1.sz
  obtain ⟨y,b,h1,h2,h3⟩ := spec_DropRowF_both 1048580 v p3 b2.1 (by omega) (by omega)
  obtain ⟨y',b',k1,k2,k3⟩ := spec_SetPvidF_both 1048580 v p4 p5 b2.1 (intWf_small (by omega) (by omega)) (by omega) (by omega)
  obtain ⟨q1,q,q2⟩ := spec_VtabOkF_both 1048580 w b1.1 p (by omega) (by omega)
  have hq : impl_VtabOkF 1048580 w p = some q := q1.trans q2
  simp only [cond_false,d1,d2,d3,d4,u1,u2,u3,h1,h2,k1,k2,hq,q2,Option.bind_some,beq_self_eq_true,cond_true,laws_sameVtabF_refl 1048580 y (by omega) (by omega),laws_sameVtabF_refl 1048580 y' (by omega) (by omega),laws_sameVtabF_refl 1048580 u (by omega) (by omega)]
  by_cases hz : z ≥ 1
  ·rw [decide_eq_true hz]; simp
  ·rw [decide_eq_false hz]; simp
end Go.Proofs.Ytcegokjpmppdbaa.Tw
