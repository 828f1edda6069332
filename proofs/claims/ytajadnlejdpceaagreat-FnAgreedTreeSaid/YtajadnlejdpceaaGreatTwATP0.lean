import Derived.Test.YtajadnlejdpceaaGreatTwAT
import Derived.Test.YtajadnlejdpceaaGreatTlPlain
set_option linter.unusedVariables false
set_option linter.unusedSimpArgs false
set_option maxRecDepth 100000
set_option maxHeartbeats 1000000
namespace Go.Proofs.YtajadnlejdpceaaGreat.Tw
open Go Go.TL Go.Proofs
def zJ.sz (x : zJ) : Nat := x.Rows.length + x.Pv.length
theorem zHT (n : Nat) : YY n = Zw n := by
 funext m
 induction m with
 | zero => rfl
 | succ m ih => funext x i y; simp only [YY,Zw,ih]
theorem zIg (n : Nat) : zBO n = JQ n := by
 funext x i; simp only [zBO,JQ,zHT]; rfl
theorem zIv (n : Nat) (x : zJ) (id : Int) (h : x.Rows.length ≤ 1048580) (hn : x.Rows.length < n) : ∃ r,JQ n x id = some r ∧ (r = -1 ∧ (∀ v ∈ x.Rows,v.Id ≠ id) ∨ ∃ v,0 ≤ r ∧ idx x.Rows r = some v ∧ v.Id = id) := by
 unfold JQ
 have hf := zJG (L := fun m xs i => Zw n m ⟨xs,x.Pv⟩ id i) (p := fun i v => bif v.Id == id then some i else none) (fun m xs i => by
  show (bif _ then _ else _) = _
  congr 1
  congr 1
  funext v
  cases (v.Id == id) <;> rfl) x.Rows (by omega) n 0 (by omega) (by omega)
 rcases hf with ⟨e1,e2⟩ | ⟨j,hj,r,e1,e2,e3,e4⟩
 ·rw [show Zw n n x id 0 = _ from e1]
  refine ⟨-1,rfl,.inl ⟨rfl,fun v hv => ?_⟩⟩
  obtain ⟨j,hj,rfl⟩ := List.getElem_of_mem hv
  have := e2 j hj (by omega)
  intro hid
  simp [hid] at this
 ·rw [show Zw n n x id 0 = _ from e4]
  have hid : (x.Rows[j].Id == id) = true := by
   cases hc : (x.Rows[j].Id == id) with
   | true => rfl
   | false => rw [hc] at e2; cases e2
  rw [hid] at e2
  cases e2
  exact ⟨_,rfl,.inr ⟨_,by omega,zC hj,by simpa using hid⟩⟩
theorem Jr (n : Nat) (a b c : Int) : Tot (zP n a b c) := Tot.bif (fun _ => .of) (fun _ => .of)
theorem zAy (n : Nat) : Yi n = zm n := rfl
theorem JH (n : Nat) (v : Vec) : Tot (zm n v) := by
 unfold zm
 repeat' first | exact Tot.of | refine Tot.bind (Jr _ _ _ _) fun _ _ => ?_ | refine Tot.bif (fun _ => ?_) (fun _ => ?_)
theorem zHV (n : Nat) : zBc n = ZY n := rfl
theorem zG1 (n : Nat) (v : Vec) (c : Int) : Tot (ZY n v c) := by
 unfold ZY
 repeat' first | exact Tot.of | refine Tot.bind (Jr _ _ _ _) fun _ _ => ?_ | refine Tot.bind (JH _ _) fun _ _ => ?_ | refine Tot.bif (fun _ => ?_) (fun _ => ?_)
theorem zD9 (n : Nat) : J8 n = ZX n := rfl
theorem zDb (n : Nat) (v u : Vec) : Tot (ZX n v u) := by
 unfold ZX
 repeat' first | exact Tot.of | refine Tot.bif (fun _ => ?_) (fun _ => ?_)
theorem zCQ (n : Nat) (x0 : Int) (x1 : List Pt) (h : x1.length ≤ 1048576) : ∀ (m k : Nat) (y2 y3 y4 y5 y6 y7 y8 y9 y10 : Int),k ≤ x1.length → x1.length < m + k → Tot (ze n m x0 x1 k y2 y3 y4 y5 y6 y7 y8 y9 y10)
 | 0,k,y2,y3,y4,y5,y6,y7,y8,y9,y10,h1,h2 => by omega
 | m + 1,k,y2,y3,y4,y5,y6,y7,y8,y9,y10,h1,h2 => by
  rw [ze]
  refine Tot.step (fun hk => ?_) .of
  have ih := fun y2 y3 y4 y5 y6 y7 y8 y9 y10 => zCQ n x0 x1 h m (k + 1) y2 y3 y4 y5 y6 y7 y8 y9 y10 (by omega) (by omega)
  simp only [ZP,zK (by omega : k ≤ 1099511627776)]
  repeat' first | exact ih _ _ _ _ _ _ _ _ _ | exact Tot.of | refine Tot.bind (zLF hk) fun _ _ => ?_ | refine Tot.bind (zG1 _ _ _) fun _ _ => ?_ | refine Tot.bind (zDb _ _ _) fun _ _ => ?_ | refine Tot.bif (fun _ => ?_) (fun _ => ?_)
theorem zBH (n : Nat) (x0 : Int) (x1 : List Pt) (h : x1.length ≤ 1048576) (hn : x1.length < n) : Tot (ZI n x0 x1) := by
 unfold ZI
 refine Tot.bind (zCQ n x0 x1 h n 0 _ _ _ _ _ _ _ _ _ (by omega) (by omega)) fun o _ => ?_
 cases o <;> exact Tot.of
theorem zGD (n : Nat) : qh n = ze n := by
 funext m
 induction m with
 | zero => rfl
 | succ m ih =>
  funext x0 x1 y1 y2 y3 y4 y5 y6 y7 y8 y9 y10
  simp only [qh,ze,ih,QJ,ZP,zHV,zD9]
  cases idx x1 y1 <;> rfl
theorem zD8 (n : Nat) : Y3 n = ZI n := by
 funext x i; simp only [Y3,ZI,zGD]; rfl
theorem zB6 (n : Nat) : Jd n = qZ n := by
 funext x i y; simp only [Jd,qZ,zD8]
theorem zBs (n : Nat) (x0 : Int) (x1 : List Pt) (x2 : Int) (h : x1.length ≤ 1048576) (hn : x1.length < n) : Tot (qZ n x0 x1 x2) := Tot.bind (zBH n x0 x1 h hn) fun _ _ => .of
theorem zEW (n : Nat) : zAb n = ZN n := by
 funext x i y; simp only [zAb,ZN,zD8,zB6,zD9]; rfl
theorem zEh (n : Nat) (x0 : Int) (x1 : List Pt) (x2 : Int) (h : x1.length ≤ 1048576) (hn : x1.length < n) : ∃ r,ZN n x0 x1 x2 = some r ∧ 1 ≤ r ∧ r ≤ 4 := by
 unfold ZN zP
 rw [wrap64 (by omega) (by omega)]
 obtain ⟨b,hb⟩ := zBH n x0 x1 h hn
 obtain ⟨s,hs⟩ := zBs n x0 x1 x2 h hn
 by_cases h1 : x2 ≥ 0
 ·by_cases h2 : x2 ≤ (x1.length : Int) - 1
  ·obtain ⟨v,hv,_⟩ := zE6 (xs := x1) h1 (by omega)
   obtain ⟨l,hl⟩ := zDb n s v.Hd
   simp only [decide_eq_true h1,decide_eq_true h2,cond_true,Option.bind_some,Bool.not_true,cond_false,hb,hs,hv,hl]
   cases v.Up <;> cases (b.2 == x2) <;> cases v.Has <;> cases l <;> exact ⟨_,rfl,by decide,by decide⟩
  ·simp only [decide_eq_true h1,decide_eq_false h2,cond_true,Option.bind_some,Bool.not_false]
   exact ⟨_,rfl,by decide,by decide⟩
 ·simp only [decide_eq_false h1,cond_false,Option.bind_some,Bool.not_false,cond_true]
  exact ⟨_,rfl,by decide,by decide⟩
theorem zNI {k : Nat} (h : k ≤ 1099511627776) : IntKind.wrap .u64 (k : Int) = k := by
 show ((k : Int) % 18446744073709551616) = k
 omega
theorem zDL (n : Nat) (x0 : Int) (x1 : List Pt) (h : x1.length ≤ 1048576) (hn : x1.length < n) : ∀ (m k : Nat) (y2 : Int),k ≤ x1.length → x1.length < m + k → ZD n m x0 x1 k y2 = Zy n m x0 x1 k y2 ∧ Tot (Zy n m x0 x1 k y2)
 | 0,k,y2,h1,h2 => by omega
 | m + 1,k,y2,h1,h2 => by
  rw [Zy,ZD]
  by_cases hk : k < x1.length
  ·have ih := fun y2 => zDL n x0 x1 h hn m (k + 1) y2 (by omega) (by omega)
   obtain ⟨r,hr,r1,r2⟩ := zEh n x0 x1 k h hn
   have hk' : decide ((k : Int) < (x1.length : Int)) = true := decide_eq_true (by omega)
   have h0 : decide ((0 : Int) ≤ (k : Int)) = true := decide_eq_true (by omega)
   simp only [hk',zK (by omega : k ≤ 1099511627776),zNI (by omega : k ≤ 1099511627776),zEW,hr,Option.bind_some,h0,cond_true,(ih _).1,true_and]
   have hc : r = 1 ∨ r = 2 ∨ r = 3 ∨ r = 4 := by omega
   rcases hc with rfl | rfl | rfl | rfl <;> cases (decide ((k : Int) < 6)) <;> first | exact ⟨rfl,(ih _).2⟩ | exact ⟨by trivial,Tot.of⟩
  ·have hk' : decide ((k : Int) < (x1.length : Int)) = false := decide_eq_false (by omega)
   rw [hk']
   exact ⟨by trivial,Tot.of⟩
theorem zHh (n : Nat) (x0 : Int) (x1 : List Pt) (h : x1.length ≤ 1048576) (hn : x1.length < n) : Yh n x0 x1 = Zx n x0 x1 ∧ Tot (Zx n x0 x1) := by
 obtain ⟨h1,o,h2⟩ := zDL n x0 x1 h hn n 0 0 (by omega) (by omega)
 unfold Yh Zx
 have e1 : ZD n n x0 x1 0 0 = some o := h1.trans h2
 have e2 : Zy n n x0 x1 0 0 = some o := h2
 rw [e1,e2]
 cases o <;> exact ⟨by trivial,Tot.of⟩
theorem qW (n : Nat) : zu n = zP n := rfl
theorem zL (n : Nat) (a b c : Int) : zP n a b c = some (decide (b ≤ a) && decide (a ≤ c)) := by
 unfold zP
 by_cases h : a ≥ b
 ·rw [decide_eq_true h]; rfl
 ·rw [decide_eq_false h]; rfl
theorem zEI {p : Int} (h0 : 1 ≤ p) (h1 : p ≤ 6) : ∃ a : Int,0 ≤ a ∧ a < 9223372036854775808 ∧ (IntKind.wrap .i64 ((IntKind.wrap .i64 (1 * 2 ^ min ((IntKind.wrap .u64 p)).toNat (IntKind.bits .i64))) - 1)) = a ∧ (IntKind.wrap .i64 ((IntKind.wrap .i64 (1 * 2 ^ min (p).toNat (IntKind.bits .i64))) - 1)) = a ∧ decide (0 ≤ (IntKind.wrap .u64 p)) = true ∧ decide (0 ≤ p) = true := by
 have hc : p = 1 ∨ p = 2 ∨ p = 3 ∨ p = 4 ∨ p = 5 ∨ p = 6 := by omega
 rcases hc with rfl | rfl | rfl | rfl | rfl | rfl
 ·exact ⟨1,by decide,by decide,by decide,by decide,by decide,by decide⟩
 ·exact ⟨3,by decide,by decide,by decide,by decide,by decide,by decide⟩
 ·exact ⟨7,by decide,by decide,by decide,by decide,by decide,by decide⟩
 ·exact ⟨15,by decide,by decide,by decide,by decide,by decide,by decide⟩
 ·exact ⟨31,by decide,by decide,by decide,by decide,by decide,by decide⟩
 ·exact ⟨63,by decide,by decide,by decide,by decide,by decide,by decide⟩
theorem zCU (n : Nat) (x0 : zJ) (w0 : x0.wf) (x1 : Int) (hp0 : 1 ≤ x1) (hp1 : x1 ≤ 6) (h : x0.Rows.length ≤ 1048580) : ∀ (m k : Nat),k ≤ x0.Rows.length → x0.Rows.length < m + k → Z9 n m x0 x1 k = Zg n m x0 x1 k ∧ Tot (Zg n m x0 x1 k)
 | 0,k,h1,h2 => by omega
 | m + 1,k,h1,h2 => by
  rw [Zg,Z9]
  by_cases hk : k < x0.Rows.length
  ·obtain ⟨ih1,o,ih2⟩ := zCU n x0 w0 x1 hp0 hp1 h m (k + 1) (by omega) (by omega)
   obtain ⟨a,ha0,ha1,ha2,ha3,ha4,ha5⟩ := zEI hp0 hp1
   have hk' : decide ((k : Int) < (x0.Rows.length : Int)) = true := decide_eq_true (by omega)
   have hv : x0.Rows[k] ∈ x0.Rows := List.getElem_mem hk
   have hi := zC hk
   generalize x0.Rows[k] = v at hv hi
   have hw := w0.1.2 v hv
   have hin : Qn n x1 = some a := by unfold Qn; rw [ha5,ha3]; rfl
   simp only [hk',zK (by omega : k ≤ 1099511627776),hi,Option.bind_some,cond_true,ih1,ih2,hin,qW,zL,ha2]
   have hbits := fun hm0 hm1 => zNL (B := v.Bare) (M := v.Members) hw.2.2.1 hm0 hm1
   by_cases hm : 0 ≤ v.Members ∧ v.Members ≤ a
   ·have hb := hbits hm.1 (by omega)
    simp only [decide_eq_true hm.1,decide_eq_true hm.2,Bool.and_self,Bool.not_true,cond_false]
    by_cases hz : IntKind.wrap .i64 (BitVec.ofInt (IntKind.bits .i64) v.Bare &&& ~~~BitVec.ofInt (IntKind.bits .i64) v.Members).toNat = 0
    ·have h3 := hb.1 hz
     have hz' : ((IntKind.wrap .i64 (BitVec.ofInt (IntKind.bits .i64) v.Bare &&& ~~~BitVec.ofInt (IntKind.bits .i64) v.Members).toNat) != 0) = false := by rw [hz]; rfl
     have hy' : ((IntKind.wrap .i64 (BitVec.ofInt (IntKind.bits .i64) v.Bare &&& BitVec.ofInt (IntKind.bits .i64) v.Members).toNat) != v.Bare) = false := by rw [h3.2.2]; simp
     simp only [hz',hy',decide_eq_true h3.1,decide_eq_true (show v.Bare ≤ a by omega),Bool.and_self,Bool.not_true,cond_false]
     cases k with
     | zero => cases (decide (1 ≤ v.Id) && decide (v.Id ≤ 99)) <;> exact ⟨by trivial,Tot.of⟩
     | succ k =>
      have hw2 : IntKind.wrap .i64 (((k + 1 : Nat) : Int) - 1) = (k : Int) := by rw [wrap64 (by omega) (by omega)]; omega
      have hpos : decide (((k + 1 : Nat) : Int) > 0) = true := decide_eq_true (by omega)
      simp only [hw2,hpos,cond_true,zC (show k < x0.Rows.length by omega),Option.bind_some]
      cases (decide (1 ≤ v.Id) && decide (v.Id ≤ 99)) <;> cases (decide ((x0.Rows[k]'(by omega)).Id ≥ v.Id)) <;> exact ⟨by trivial,Tot.of⟩
    ·have hz' : ((IntKind.wrap .i64 (BitVec.ofInt (IntKind.bits .i64) v.Bare &&& ~~~BitVec.ofInt (IntKind.bits .i64) v.Members).toNat) != 0) = true := by simpa using hz
     have h3 : (decide (0 ≤ v.Bare) && decide (v.Bare ≤ a)) = false ∨ ((IntKind.wrap .i64 (BitVec.ofInt (IntKind.bits .i64) v.Bare &&& BitVec.ofInt (IntKind.bits .i64) v.Members).toNat) != v.Bare) = true := by
      by_cases hq : ((IntKind.wrap .i64 (BitVec.ofInt (IntKind.bits .i64) v.Bare &&& BitVec.ofInt (IntKind.bits .i64) v.Members).toNat) != v.Bare) = true
      ·exact .inr hq
      ·left
       simp at hq
       by_cases hr : 0 ≤ v.Bare ∧ v.Bare ≤ a
       ·have hle := zNM hw.2.2.1 hm.1 (by omega) hq
        exact absurd (hb.2 ⟨hle.1,hle.2,hq⟩) hz
       ·simp only [Bool.and_eq_false_iff,decide_eq_false_iff_not]; omega
     simp only [hz',cond_true]
     have hspec : (bif !(decide (0 ≤ v.Bare) && decide (v.Bare ≤ a)) then some (Sum.inr false) else bif ((IntKind.wrap .i64 (BitVec.ofInt (IntKind.bits .i64) v.Bare &&& BitVec.ofInt (IntKind.bits .i64) v.Members).toNat) != v.Bare) then some (Sum.inr false) else (bif decide ((k : Int) > 0) then (idx x0.Rows (IntKind.wrap .i64 ((k : Int) - 1))).bind fun v13 => bif decide (v13.Id ≥ v.Id) then some (Sum.inr false) else some o else some o)) = (some (Sum.inr false) : Option (Unit ⊕ Bool)) := by
      rcases h3 with h3 | h3
      ·rw [h3]; rfl
      ·rw [h3]; cases (decide (0 ≤ v.Bare) && decide (v.Bare ≤ a)) <;> rfl
     rw [hspec]
     cases k with
     | zero => cases (decide (1 ≤ v.Id) && decide (v.Id ≤ 99)) <;> exact ⟨by trivial,Tot.of⟩
     | succ k =>
      have hw2 : IntKind.wrap .i64 (((k + 1 : Nat) : Int) - 1) = (k : Int) := by rw [wrap64 (by omega) (by omega)]; omega
      have hpos : decide (((k + 1 : Nat) : Int) > 0) = true := decide_eq_true (by omega)
      simp only [hw2,hpos,cond_true,zC (show k < x0.Rows.length by omega),Option.bind_some]
      cases (decide (1 ≤ v.Id) && decide (v.Id ≤ 99)) <;> cases (decide ((x0.Rows[k]'(by omega)).Id ≥ v.Id)) <;> exact ⟨by trivial,Tot.of⟩
   ·have hm' : (decide (0 ≤ v.Members) && decide (v.Members ≤ a)) = false := by
     simp only [Bool.and_eq_false_iff,decide_eq_false_iff_not]; omega
    simp only [hm',Bool.not_false,cond_true]
    cases k with
    | zero => cases (decide (1 ≤ v.Id) && decide (v.Id ≤ 99)) <;> exact ⟨by trivial,Tot.of⟩
    | succ k =>
     have hw2 : IntKind.wrap .i64 (((k + 1 : Nat) : Int) - 1) = (k : Int) := by rw [wrap64 (by omega) (by omega)]; omega
     have hpos : decide (((k + 1 : Nat) : Int) > 0) = true := decide_eq_true (by omega)
     simp only [hw2,hpos,cond_true,zC (show k < x0.Rows.length by omega),Option.bind_some]
     cases (decide (1 ≤ v.Id) && decide (v.Id ≤ 99)) <;> cases (decide ((x0.Rows[k]'(by omega)).Id ≥ v.Id)) <;> exact ⟨by trivial,Tot.of⟩
  ·have hk' : decide ((k : Int) < (x0.Rows.length : Int)) = false := decide_eq_false (by omega)
   rw [hk']
   exact ⟨by trivial,Tot.of⟩
theorem zCT (n : Nat) (x0 : zJ) (h : x0.Rows.length ≤ 1048580) (hn : x0.Rows.length < n) (hq : x0.Pv.length ≤ 1048580) : ∀ (m k : Nat),k ≤ x0.Pv.length → x0.Pv.length < m + k → Qm n m x0 k = QE n m x0 k ∧ Tot (QE n m x0 k)
 | 0,k,h1,h2 => by omega
 | m + 1,k,h1,h2 => by
  rw [QE,Qm]
  by_cases hk : k < x0.Pv.length
  ·obtain ⟨ih1,o,ih2⟩ := zCT n x0 h hn hq m (k + 1) (by omega) (by omega)
   have hk' : decide ((k : Int) < (x0.Pv.length : Int)) = true := decide_eq_true (by omega)
   obtain ⟨r,hr,_⟩ := zIv n x0 x0.Pv[k] h hn
   simp only [hk',zK (by omega : k ≤ 1099511627776),zC hk,Option.bind_some,cond_true,ih1,ih2,zIg,hr]
   cases decide (r < 0) <;> exact ⟨by trivial,Tot.of⟩
  ·have hk' : decide ((k : Int) < (x0.Pv.length : Int)) = false := decide_eq_false (by omega)
   rw [hk']
   exact ⟨by trivial,Tot.of⟩
theorem zG2 (n : Nat) (x0 : zJ) (w0 : x0.wf) (x1 : Int) (h : x0.sz ≤ 1048580) (hn : x0.sz < n) : zAe n x0 x1 = qj n x0 x1 ∧ Tot (qj n x0 x1) := by
 have hs : x0.Rows.length + x0.Pv.length = x0.sz := rfl
 unfold zAe qj
 simp only [qW,zL,Option.bind_some]
 by_cases hp : 1 ≤ x1 ∧ x1 ≤ 6
 ·obtain ⟨a,ha0,ha1,ha2,ha3,ha4,ha5⟩ := zEI hp.1 hp.2
  obtain ⟨e1,o,e2⟩ := zCU n x0 w0 x1 hp.1 hp.2 (by omega) n 0 (by omega) (by omega)
  obtain ⟨f1,q,f2⟩ := zCT n x0 (by omega) (by omega) (by omega) n 0 (by omega) (by omega)
  have e1' : Z9 n n x0 x1 0 = some o := e1.trans e2
  have e2' : Zg n n x0 x1 0 = some o := e2
  have f1' : Qm n n x0 0 = some q := f1.trans f2
  have f2' : QE n n x0 0 = some q := f2
  simp only [decide_eq_true hp.1,decide_eq_true hp.2,Bool.and_self,Bool.not_true,cond_false,ha4,cond_true,e1',e2',Option.bind_some]
  cases o with
  | inl u =>
   simp only [Je,Jl,f1',f2',Option.bind_some]
   cases q <;> exact ⟨rfl,Tot.bif (fun _ => .of) fun _ => Tot.bif (fun _ => .of) fun _ => .of⟩
  | inr r => exact ⟨rfl,Tot.bif (fun _ => .of) fun _ => Tot.bif (fun _ => .of) fun _ => .of⟩
 ·have hp' : (decide (1 ≤ x1) && decide (x1 ≤ 6)) = false := by
   simp only [Bool.and_eq_false_iff,decide_eq_false_iff_not]; omega
  rw [hp']
  exact ⟨by trivial,Tot.of⟩
theorem zIS (n : Nat) (x : zJ) (h : x.sz ≤ 268435456) : zAs n x = some x := by
 have hs : x.Rows.length + x.Pv.length = x.sz := rfl
 unfold zAs
 simp only [List.length_nil,Nat.zero_add,decide_eq_true (show x.Rows.length ≤ 268435456 by omega),decide_eq_true (show x.Pv.length ≤ 268435456 by omega),cond_true,List.nil_append]
theorem zGw (n : Nat) (x : zJ) (h : x.sz ≤ 268435456) : Jf n x = some x := by
 have hs : x.Rows.length + x.Pv.length = x.sz := rfl
 unfold Jf YF
 simp only [List.length_nil,Nat.zero_add,decide_eq_true (show x.Rows.length ≤ 268435456 by omega),decide_eq_true (show x.Pv.length ≤ 268435456 by omega),cond_true,List.nil_append,Option.bind_some]
theorem zFb {α : Type} {wf : α → Prop} {xs : List α} {i : Nat} {v : α} (h : YK wf xs) (hv : wf v) : YK wf (xs.set i v) := ⟨by rw [List.length_set]; exact h.1,fun y hy => by
 rcases List.mem_or_eq_of_mem_set hy with h1 | h1
 ·exact h.2 y h1
 ·rw [h1]; exact hv⟩
def zA.sz (x : zA) : Nat := x.Name.size + x.Ps.length + x.F.length + x.V.sz
theorem zJS (n : Nat) : zB5 n = qE n := by
 funext v
 unfold zB5 qE
 rw [qW,zAy]
 obtain ⟨b,hb⟩ := Jr n v.Co 1 1000
 rw [hb]
 cases b <;> cases v.Up <;> cases v.Has <;> rfl
theorem zFE (n : Nat) (v : Pt) : Tot (qE n v) := by
 unfold qE
 repeat' first | exact Tot.of | refine Tot.bind (Jr _ _ _ _) fun _ _ => ?_ | refine Tot.bind (JH _ _) fun _ _ => ?_ | refine Tot.bif (fun _ => ?_) (fun _ => ?_)
theorem zEk (n : Nat) (v : zB) : Tot (Z5 n v) := by
 unfold Z5
 repeat' first | exact Tot.of | refine Tot.bind (Jr _ _ _ _) fun _ _ => ?_ | refine Tot.bif (fun _ => ?_) (fun _ => ?_)
theorem zH7 (n : Nat) : zCA n = Z5 n := rfl
theorem zH6 (n : Nat) (v u : zB) : zAf n u v.Tag v.Mac = Z4 n v u.Tag u.Mac := by
 unfold zAf Z4
 by_cases h1 : v.Tag = u.Tag
 ·simp [h1]
 ·have e1 : (v.Tag != u.Tag) = true := by simpa using h1
  have e2 : (u.Tag == v.Tag) = false := by simpa using fun e : u.Tag = v.Tag => h1 e.symm
  rw [e1,e2]
  by_cases h2 : v.Tag < u.Tag
  ·rw [decide_eq_true h2]; rfl
  ·rw [decide_eq_false h2]; rfl
theorem zDh (n : Nat) (v : zB) (a b : Int) : Tot (Z4 n v a b) := Tot.bif (fun _ => .of) (fun _ => .of)
theorem zDK (n : Nat) (xs : List zB) (h : xs.length ≤ 1048580) : ∀ (m k : Nat),k ≤ xs.length → xs.length < m + k → QT n m xs k = qf n m xs k ∧ Tot (qf n m xs k)
 | 0,k,h1,h2 => by omega
 | m + 1,k,h1,h2 => by
  rw [qf,QT]
  by_cases hk : k < xs.length
  ·obtain ⟨ih1,o,ih2⟩ := zDK n xs h m (k + 1) (by omega) (by omega)
   rw [zh hk]
   obtain ⟨a,ha⟩ := zEk n xs[k]
   simp only [zK (by omega : k ≤ 1099511627776),zC hk,Option.bind_some,cond_true,ih1,ih2,zH7,ha]
   cases k with
   | zero => cases a <;> exact ⟨by trivial,Tot.of⟩
   | succ k =>
    have hw2 : IntKind.wrap .i64 (((k + 1 : Nat) : Int) - 1) = (k : Int) := by rw [wrap64 (by omega) (by omega)]; omega
    have hpos : decide (((k + 1 : Nat) : Int) > 0) = true := decide_eq_true (by omega)
    obtain ⟨b,hb⟩ := zDh n (xs[k]'(by omega)) xs[k + 1].Tag xs[k + 1].Mac
    simp only [hw2,hpos,cond_true,zC (show k < xs.length by omega),Option.bind_some,zH6,hb]
    cases a <;> cases b <;> exact ⟨by trivial,Tot.of⟩
  ·have he : k = xs.length := by omega
   rw [he,zY]
   exact ⟨rfl,Tot.of⟩
theorem zHf (n : Nat) (xs : List zB) (h : xs.length ≤ 1048580) (hn : xs.length < n) : ∃ b,Zd n xs = some b ∧ zBM n xs = some b := by
 obtain ⟨e1,o,e2⟩ := zDK n xs h n 0 (by omega) (by omega)
 have e1' : QT n n xs 0 = some o := e1.trans e2
 have e2' : qf n n xs 0 = some o := e2
 unfold Zd zBM
 rw [e1',e2']
 cases o <;> exact ⟨_,rfl,rfl⟩
theorem zFw (n : Nat) : Qb n = zw n := by
 funext m
 induction m with
 | zero => rfl
 | succ m ih => funext x i; simp only [Qb,zw,ih,zJS]
theorem zCG (n : Nat) (x : zA) (h : x.Ps.length ≤ 1048580) : ∀ (m k : Nat),k ≤ x.Ps.length → x.Ps.length < m + k → Tot (zw n m x k)
 | 0,k,h1,h2 => by omega
 | m + 1,k,h1,h2 => by
  rw [zw]
  refine Tot.step (fun hk => ?_) .of
  have ih := zCG n x h m (k + 1) (by omega) (by omega)
  rw [zK (by omega : k ≤ 1099511627776)]
  exact Tot.bind (zLF hk) fun _ _ => Tot.bind (zFE _ _) fun _ _ => Tot.bif (fun _ => .of) fun _ => ih
theorem QP (n : Nat) (x : zA) (wx : x.wf) (h : x.sz ≤ 1048580) (hn : x.sz < n) : ∃ b,zR n x = some b ∧ Qk n x = some b := by
 have hs : x.Name.size + x.Ps.length + x.F.length + x.V.sz = x.sz := rfl
 obtain ⟨o,ho⟩ := zCG n x (by omega) n 0 (by omega) (by omega)
 have ho' : zw n n x 0 = some o := ho
 obtain ⟨f,hf1,hf2⟩ := zHf n x.F (by omega) (by omega)
 obtain ⟨g,v,hv⟩ := zG2 n x.V ⟨wx.2.2.2.2.1,wx.2.2.2.2.2.1,trivial⟩ (x.Ps.length : Int) (by omega) (by omega)
 unfold zR Qk
 rw [zFw,ho',Option.bind_some,Option.bind_some]
 cases o with
 | inr r => exact ⟨_,rfl,rfl⟩
 | inl u =>
  simp only [Qe,Yr,qW,Q7,YX,zL,hf1,hf2,g,hv,Option.bind_some]
  have hname : decide ((x.Name.size : Int) > 10) = !decide ((x.Name.size : Int) ≤ 10) := by
   by_cases h : (x.Name.size : Int) ≤ 10
   ·rw [decide_eq_true h,decide_eq_false (by omega)]; rfl
   ·rw [decide_eq_false h,decide_eq_true (by omega)]; rfl
  rw [hname]
  generalize decide ((x.Name.size : Int) ≤ 10) = b1
  generalize (decide (1 ≤ x.Id) && decide (x.Id ≤ 99)) = b2
  generalize (decide (1 ≤ (x.Ps.length : Int)) && decide ((x.Ps.length : Int) ≤ 6)) = b3
  generalize (decide (0 ≤ x.Tk) && decide (x.Tk ≤ 1000000)) = b4
  generalize (decide (0 ≤ x.Pa) && decide (x.Pa ≤ 1000000)) = b5
  generalize (decide (0 ≤ x.Wo) && decide (x.Wo ≤ 1000000)) = b6
  generalize (decide (0 ≤ x.Dr) && decide (x.Dr ≤ 1000000)) = b7
  generalize (decide (0 ≤ x.Ve) && decide (x.Ve ≤ 1000000)) = b8
  clear hf1 hf2 g hv hname
  revert f v b1 b2 b3 b4 b5 b6 b7 b8
  decide +kernel
def Net.sz (x : Net) : Nat := (x.Bs.length + zAV zA.sz x.Bs) + x.Ls.length + x.Said.length
theorem zEZ (n : Nat) (x : Net) (i j : Int) (wx : x.wf) (h : x.Bs.length ≤ 1048580) : ∃ p b,ZM n x i j = some (p,b) ∧ Qr n x i j = some (b && p.Up) := by
 have hw : IntKind.wrap .i64 ((x.Bs.length : Int) - 1) = (x.Bs.length : Int) - 1 := wrap64 (by omega) (by omega)
 unfold ZM Qr
 simp only [qW,zL,hw,Option.bind_some]
 by_cases hi : 0 ≤ i ∧ i ≤ (x.Bs.length : Int) - 1
 ·obtain ⟨v,hv,hm⟩ := zE6 (xs := x.Bs) hi.1 (by omega)
  have hl := (wx.1.2 v hm).2.2.1.1
  have hmx : maxLen = 9223372036854775807 := by decide
  have hw2 : IntKind.wrap .i64 ((v.Ps.length : Int) - 1) = (v.Ps.length : Int) - 1 := wrap64 (by omega) (by omega)
  simp only [decide_eq_true hi.1,decide_eq_true hi.2,Bool.and_self,Bool.not_true,cond_false,cond_true,hv,Option.bind_some,hw2]
  by_cases hj : 0 ≤ j ∧ j ≤ (v.Ps.length : Int) - 1
  ·obtain ⟨p,hp,_⟩ := zE6 (xs := v.Ps) hj.1 (by omega)
   simp only [decide_eq_true hj.1,decide_eq_true hj.2,Bool.and_self,Bool.not_true,cond_false,cond_true,hp,Option.bind_some]
   exact ⟨p,true,rfl,by simp⟩
  ·have hj' : (decide (0 ≤ j) && decide (j ≤ (v.Ps.length : Int) - 1)) = false := by
    simp only [Bool.and_eq_false_iff,decide_eq_false_iff_not]; omega
   simp only [hj',Bool.not_false,cond_true,cond_false]
   exact ⟨_,false,rfl,rfl⟩
 ·have hi' : (decide (0 ≤ i) && decide (i ≤ (x.Bs.length : Int) - 1)) = false := by
   simp only [Bool.and_eq_false_iff,decide_eq_false_iff_not]; omega
  simp only [hi',Bool.not_false,cond_true,cond_false]
  exact ⟨_,false,rfl,rfl⟩
theorem zDc (n : Nat) (x : Net) (i : Int) (wx : x.wf) (h : x.sz ≤ 1048580) : ∃ b,qu n x i = some b ∧ zU n x i = some b := by
 unfold Net.sz at h
 have hw : IntKind.wrap .i64 ((x.Ls.length : Int) - 1) = (x.Ls.length : Int) - 1 := wrap64 (by omega) (by omega)
 unfold qu zU
 simp only [qW,zL,hw,Option.bind_some]
 by_cases hi : 0 ≤ i ∧ i ≤ (x.Ls.length : Int) - 1
 ·obtain ⟨v,hv,hm⟩ := zE6 (xs := x.Ls) hi.1 (by omega)
  obtain ⟨p,b,h1,h2⟩ := zEZ n x v.A v.P wx (by omega)
  obtain ⟨p',b',h1',h2'⟩ := zEZ n x v.B v.Q wx (by omega)
  simp only [decide_eq_true hi.1,decide_eq_true hi.2,Bool.and_self,Bool.not_true,cond_false,hv,Option.bind_some,h1,h2,h1',h2']
  cases b <;> cases b' <;> cases p.Up <;> cases p'.Up <;> exact ⟨_,rfl,rfl⟩
 ·have hi' : (decide (0 ≤ i) && decide (i ≤ (x.Ls.length : Int) - 1)) = false := by
   simp only [Bool.and_eq_false_iff,decide_eq_false_iff_not]; omega
  simp only [hi',Bool.not_false,cond_true]
  exact ⟨_,rfl,rfl⟩
def Src.ok (c : Src) : Prop := 0 ≤ c.i ∧ c.b.length ≤ 1099511627776
theorem zL4 (z : Int) : ∃ v : Int,(IntKind.wrap .i64 (BitVec.ofInt (IntKind.bits .i64) z &&& BitVec.ofInt (IntKind.bits .i64) 255).toNat) = v ∧ 0 ≤ v ∧ v ≤ 255 := by
 have h : (BitVec.ofInt 64 z &&& BitVec.ofInt 64 255).toNat ≤ 255 := by
  rw [BitVec.toNat_and]
  exact Nat.le_trans Nat.and_le_right (by decide)
 refine ⟨((BitVec.ofInt 64 z &&& BitVec.ofInt 64 255).toNat : Int),?_,by omega,by omega⟩
 exact wrap64 (z := ((BitVec.ofInt 64 z &&& BitVec.ofInt 64 255).toNat : Int)) (by omega) (by omega)
theorem zAU (n : Nat) (c : Src) (h : c.ok) : ∃ v c',YR n c = some (v,c') ∧ 0 ≤ v ∧ v ≤ 255 ∧ c'.ok := by
 unfold YR
 rw [show decide ((0 : Int) ≤ 33) = true from rfl,show decide ((0 : Int) ≤ 47) = true from rfl]
 simp only [cond_true]
 by_cases hi : c.i < (c.b.length : Int)
 ·obtain ⟨v,hv,_⟩ := zE6 (xs := c.b) h.1 hi
  rw [decide_eq_true hi,hv,wrap64 (z := c.i + 1) (by have := h.1; omega) (by have := h.2; omega)]
  obtain ⟨w,e,e1,e2⟩ := zL4 (IntKind.wrap .i64 ((IntKind.wrap .i64 (BitVec.ofInt (IntKind.bits .i64) (IntKind.wrap .i64 (BitVec.ofInt (IntKind.bits .i64) (Int.fdiv (IntKind.wrap .i64 ((IntKind.wrap .i64 (c.h * 6364136223846793005)) + 1442695040888963407)) (2 ^ min ((33 : Int)).toNat (IntKind.bits .i64))) ^^^ BitVec.ofInt (IntKind.bits .i64) (Int.fdiv (IntKind.wrap .i64 ((IntKind.wrap .i64 (c.h * 6364136223846793005)) + 1442695040888963407)) (2 ^ min ((47 : Int)).toNat (IntKind.bits .i64)))).toNat) &&& BitVec.ofInt (IntKind.bits .i64) 255).toNat) + (IntKind.wrap .i64 v)))
  simp only [cond_true,Option.bind_some]
  exact ⟨_,_,rfl,by rw [e]; exact e1,by rw [e]; exact e2,by have := h.1; show 0 ≤ c.i + 1; omega,h.2⟩
 ·rw [decide_eq_false hi]
  obtain ⟨w,e,e1,e2⟩ := zL4 (IntKind.wrap .i64 (BitVec.ofInt (IntKind.bits .i64) (Int.fdiv (IntKind.wrap .i64 ((IntKind.wrap .i64 (c.h * 6364136223846793005)) + 1442695040888963407)) (2 ^ min ((33 : Int)).toNat (IntKind.bits .i64))) ^^^ BitVec.ofInt (IntKind.bits .i64) (Int.fdiv (IntKind.wrap .i64 ((IntKind.wrap .i64 (c.h * 6364136223846793005)) + 1442695040888963407)) (2 ^ min ((47 : Int)).toNat (IntKind.bits .i64)))).toNat)
  simp only [cond_false]
  exact ⟨_,_,rfl,by rw [e]; exact e1,by rw [e]; exact e2,h.1,h.2⟩
theorem zLO {v k : Int} (h0 : 0 ≤ v) (hk : 0 < k) : 0 ≤ Int.tmod v k ∧ Int.tmod v k < k := by
 rw [Int.tmod_eq_emod_of_nonneg h0]
 exact ⟨Int.emod_nonneg _ (by omega),Int.emod_lt_of_pos _ hk⟩
theorem qN (n : Nat) (c : Src) (k : Int) (h : c.ok) : ∃ v c',zp n c k = some (v,c') ∧ 0 ≤ v ∧ (0 < k → v < k) ∧ c'.ok := by
 unfold zp
 by_cases h1 : k ≤ 0
 ·rw [decide_eq_true h1]
  exact ⟨0,c,rfl,by omega,fun h => by omega,h⟩
 ·rw [decide_eq_false h1]
  have hne : decide ((k : Int) ≠ 0) = true := decide_eq_true (by omega)
  by_cases h2 : k ≤ 256
  ·rw [decide_eq_true h2]
   obtain ⟨v,c',e,e1,e2,e3⟩ := zAU n c h
   simp only [cond_true,cond_false,e,Option.bind_some,hne]
   obtain ⟨t1,t2⟩ := zLO e1 (show 0 < k by omega)
   exact ⟨_,_,rfl,t1,fun _ => t2,e3⟩
  ·rw [decide_eq_false h2]
   obtain ⟨v1,c1,e,e1,e2,e3⟩ := zAU n c h
   obtain ⟨v2,c2,f,f1,f2,f3⟩ := zAU n c1 e3
   obtain ⟨v3,c3,g,g1,g2,g3⟩ := zAU n c2 f3
   simp only [cond_false,e,f,g,Option.bind_some,hne,cond_true]
   simp (disch := omega) only [wrap64]
   obtain ⟨t1,t2⟩ := zLO (show 0 ≤ v1 * 65536 + v2 * 256 + v3 by omega) (show 0 < k by omega)
   exact ⟨_,_,rfl,t1,fun _ => t2,g3⟩
theorem zEj (n : Nat) (c : Src) (k : Int) (h : c.ok) : ∃ v c',Js n c k = some (v,c') ∧ c'.ok := by
 obtain ⟨v,c',e,_,_,e3⟩ := qN n c k h
 unfold Js
 rw [e]
 exact ⟨_,_,rfl,e3⟩
theorem zBC (n : Nat) (c : Src) (xs : List Int) (h : c.ok) (hx : 0 < xs.length) : ∃ v c',Z3 n c xs = some (v,c') ∧ v ∈ xs ∧ c'.ok := by
 obtain ⟨v,c',e,e1,e2,e3⟩ := qN n c (xs.length : Int) h
 obtain ⟨u,hu,hm⟩ := zE6 (xs := xs) e1 (e2 (by omega))
 unfold Z3
 simp only [e,hu,Option.bind_some]
 exact ⟨_,_,rfl,hm,e3⟩
theorem zDg (n : Nat) (x0 : List Int) (h : x0.length ≤ 1048580) : ∀ (m k : Nat) (y : Int),k ≤ x0.length → x0.length < m + k → ∃ v,Q9 n m x0 k y = some (.inl v)
 | 0,k,y,h1,h2 => by omega
 | m + 1,k,y,h1,h2 => by
  rw [Q9]
  by_cases hk : k < x0.length
  ·rw [zh hk,zC hk,zK (by omega)]
   by_cases h4 : (k : Int) < 4000
   ·rw [decide_eq_true h4]
    simp only [cond_true,Option.bind_some]
    exact zDg n x0 h m (k + 1) _ (by omega) (by omega)
   ·rw [decide_eq_false h4]
    exact ⟨_,rfl⟩
  ·have he : k = x0.length := by omega
   rw [he,zY]
   exact ⟨_,rfl⟩
theorem zI2 (n : Nat) (x0 : List Int) (h : x0.length ≤ 1048580) (hn : x0.length < n) : ∃ c,zBR n x0 = some c ∧ c.ok := by
 obtain ⟨v,e⟩ := zDg n x0 h n 0 (IntKind.wrap .i64 (762762 + (x0.length : Int))) (by omega) (by omega)
 unfold zBR
 rw [show Q9 n n x0 0 (IntKind.wrap .i64 (762762 + (x0.length : Int))) = _ from e]
 exact ⟨_,rfl,by show (0 : Int) ≤ 0; omega,by show x0.length ≤ _; omega⟩
theorem zM7 : ∀ k < 6,∀ a < 64,IntKind.wrap .i64 (BitVec.ofInt (IntKind.bits .i64) (a : Nat) ||| BitVec.ofInt (IntKind.bits .i64) (IntKind.wrap .i64 (1 * 2 ^ min ((k : Nat) : Int).toNat (IntKind.bits .i64)))).toNat = ((a ||| 2 ^ k : Nat) : Int) := by decide +kernel
theorem zAc (n : Nat) (x0 : Int) (x1 : List Pt) (h : x1.length ≤ 6) (hn : x1.length < n) : ∀ (m k a : Nat),k ≤ x1.length → x1.length < m + k → a < 2 ^ k → (∀ j < k,∃ r,ZN n x0 x1 (j : Nat) = some r ∧ (a.testBit j = true ↔ r ≤ 2)) → ∃ b : Nat,ZD n m x0 x1 k a = some (.inl (b : Int)) ∧ b < 64 ∧ ∀ j < x1.length,∃ r,ZN n x0 x1 (j : Nat) = some r ∧ (b.testBit j = true ↔ r ≤ 2)
 | 0,k,a,h1,h2,h3,h4 => by omega
 | m + 1,k,a,h1,h2,h3,h4 => by
  have hp : a < 64 := Nat.lt_of_lt_of_le h3 (Nat.pow_le_pow_right (by decide) (show k ≤ 6 by omega))
  rw [ZD]
  by_cases hk : k < x1.length
  ·obtain ⟨r,hr,r1,r2⟩ := zEh n x0 x1 k (by omega) hn
   have h0 : decide ((0 : Int) ≤ (k : Int)) = true := decide_eq_true (by omega)
   have h6 : decide ((k : Int) < 6) = true := decide_eq_true (by omega)
   simp only [zh hk,h6,h0,cond_true,zK (by omega : k ≤ 1099511627776),zEW,hr,Option.bind_some,zM7 k (by omega) a hp]
   have no : a.testBit k = false := Nat.testBit_lt_two_pow h3
   have ihy := zAc n x0 x1 h hn m (k + 1) (a ||| 2 ^ k) (by omega) (by omega) (Nat.or_lt_two_pow (Nat.lt_of_lt_of_le h3 (Nat.pow_le_pow_right (by decide) (by omega))) (Nat.pow_lt_pow_right (by decide) (by omega)))
   have ihn := zAc n x0 x1 h hn m (k + 1) a (by omega) (by omega) (Nat.lt_of_lt_of_le h3 (Nat.pow_le_pow_right (by decide) (by omega)))
   have yes : r ≤ 2 → ∀ j < k + 1,∃ r,ZN n x0 x1 (j : Nat) = some r ∧ ((a ||| 2 ^ k).testBit j = true ↔ r ≤ 2) := fun hr2 j hj => by
    rw [Nat.testBit_or,Nat.testBit_two_pow]
    by_cases e : j = k
    ·subst e; exact ⟨r,hr,by simp [hr2]⟩
    ·obtain ⟨q,hq,hb⟩ := h4 j (by omega)
     exact ⟨q,hq,by rw [decide_eq_false (by omega),Bool.or_false]; exact hb⟩
   have non : ¬ r ≤ 2 → ∀ j < k + 1,∃ r,ZN n x0 x1 (j : Nat) = some r ∧ (a.testBit j = true ↔ r ≤ 2) := fun hr2 j hj => by
    by_cases e : j = k
    ·subst e; exact ⟨r,hr,by simp [no,hr2]⟩
    ·exact h4 j (by omega)
   have hc : r = 1 ∨ r = 2 ∨ r = 3 ∨ r = 4 := by omega
   rcases hc with e | e | e | e
   ·rw [e]; exact ihy (yes (by omega))
   ·rw [e]; exact ihy (yes (by omega))
   ·rw [e]; exact ihn (non (by omega))
   ·rw [e]; exact ihn (non (by omega))
  ·have e : k = x1.length := by omega
   subst e
   rw [zY,cond_false]
   exact ⟨a,rfl,hp,h4⟩
theorem zHU (n : Nat) (x0 : Int) (x1 : List Pt) (h : x1.length ≤ 6) (hn : x1.length < n) : ∃ b : Nat,Yh n x0 x1 = some (b : Int) ∧ b < 64 ∧ ∀ j < x1.length,∃ r,ZN n x0 x1 (j : Nat) = some r ∧ (b.testBit j = true ↔ r ≤ 2) := by
 obtain ⟨b,e,b1,b2⟩ := zAc n x0 x1 h hn n 0 0 (by omega) (by omega) (by decide) (fun j hj => by omega)
 have e : ZD n n x0 x1 0 0 = some (.inl (b : Int)) := e
 exact ⟨b,by unfold Yh; rw [e]; rfl,b1,b2⟩
theorem zHj (n : Nat) (x : zJ) (p : Int) (hok : qj n x p = some true) : x.Rows.length ≤ 6 ∧ (x.Pv.length : Int) = p := by
 unfold qj at hok
 simp only [zL,Option.bind_some] at hok
 revert hok
 cases (decide (1 ≤ p) && decide (p ≤ 6)) with
 | false => intro h; cases h
 | true =>
  simp only [Bool.not_true,cond_false]
  by_cases hp : (x.Pv.length : Int) = p
  ·have : ((x.Pv.length : Int) != p) = false := by simp [hp]
   rw [this,cond_false]
   by_cases hr : (x.Rows.length : Int) > 6
   ·rw [decide_eq_true hr]; intro h; cases h
   ·exact fun _ => ⟨by omega,hp⟩
  ·have : ((x.Pv.length : Int) != p) = true := by simp [hp]
   rw [this]; intro h; cases h
theorem zq {z : Int} (h0 : -1000000 ≤ z) (h1 : z ≤ 1000000) : qS z := by
 show (Lit.int .i64 z).wf = true
 simp [Lit.wf,show IntKind.wrap .i64 z = z from wrap64 (by omega) (by omega)]
 exact ⟨by show (-9223372036854775808 : Int) ≤ z; omega,by omega⟩
def zCb (a : Int) (i : Nat) : Bool := (IntKind.wrap .i64 (BitVec.ofInt (IntKind.bits .i64) (Int.fdiv a (2 ^ min ((i : Int)).toNat (IntKind.bits .i64))) &&& BitVec.ofInt (IntKind.bits .i64) 1).toNat == 1)
theorem zDZ (n : Nat) (a : Int) (i : Nat) (h : i ≤ 62) : Y6 n a i = some (zCb a i) := by
 unfold Y6
 simp only [qW,zL,Option.bind_some,decide_eq_true (show (0 : Int) ≤ (i : Int) by omega),decide_eq_true (show (i : Int) ≤ 62 by omega),Bool.and_self,cond_true]
 rfl
theorem zCK (n : Nat) (a : Int) (i : Nat) (h : i ≤ 7) : zBS n a i = some (zCb a i) := by
 unfold zBS
 have hu : IntKind.wrap .u64 (i : Int) = i := zNI (by omega)
 simp only [zL,Option.bind_some,decide_eq_true (show (0 : Int) ≤ (i : Int) by omega),decide_eq_true (show (i : Int) ≤ 7 by omega),Bool.and_self,cond_true,hu]
 rfl
theorem zFy (n : Nat) (xs : List Int) (h : xs.length ≤ 268435456) (hn : xs.length < n) : Yj n xs xs = some true := by
 unfold Yj
 have := zLC (L := Qc n) (f := fun a b => some (a == b)) (fun m xs ys i => rfl) xs (by omega) (fun v _ => by simp) n 0 (by omega) (by omega)
 simp only [bne_self_eq_false,cond_false]
 rw [show (Qc n n xs xs 0) = _ from this]
 rfl
theorem zEK (n : Nat) (x : Net) (i j : Int) (h : Qr n x i j = some true) : ∃ v p,idx x.Bs i = some v ∧ idx v.Ps j = some p ∧ p.Up = true ∧ i ≤ (IntKind.wrap .i64 ((x.Bs.length : Int) - 1)) ∧ j ≤ (IntKind.wrap .i64 ((v.Ps.length : Int) - 1)) ∧ 0 ≤ i ∧ 0 ≤ j := by
 unfold Qr at h
 simp only [zL,Option.bind_some] at h
 cases hc : (decide (0 ≤ i) && decide (i ≤ IntKind.wrap .i64 ((x.Bs.length : Int) - 1))) with
 | false => rw [hc] at h; cases h
 | true =>
  simp only [hc,cond_true] at h
  obtain ⟨v,hv,h⟩ := bind_some h
  cases hd : (decide (0 ≤ j) && decide (j ≤ IntKind.wrap .i64 ((v.Ps.length : Int) - 1))) with
  | false => rw [hd] at h; cases h
  | true =>
   simp only [hd,cond_true,hv,Option.bind_some] at h
   obtain ⟨p,hp,h⟩ := bind_some h
   simp only [Bool.and_eq_true,decide_eq_true_eq] at hc hd
   exact ⟨v,p,hv,hp,Option.some.inj h,hc.2,hd.2,hc.1,hd.1⟩
theorem zDd (n : Nat) (x : Net) (k : Int) (h : qu n x k = some true) : ∃ l a b p q,idx x.Ls k = some l ∧ idx x.Bs l.A = some a ∧ idx a.Ps l.P = some p ∧ p.Up = true ∧ idx x.Bs l.B = some b ∧ idx b.Ps l.Q = some q ∧ q.Up = true := by
 unfold qu at h
 simp only [zL,Option.bind_some] at h
 cases hc : (decide (0 ≤ k) && decide (k ≤ IntKind.wrap .i64 ((x.Ls.length : Int) - 1))) with
 | false => rw [hc] at h; cases h
 | true =>
  simp only [hc,Bool.not_true,cond_false] at h
  obtain ⟨l,hl,h⟩ := bind_some h
  obtain ⟨u,hu,h⟩ := bind_some h
  cases u with
  | false => cases h
  | true =>
   simp only [cond_true] at h
   obtain ⟨u',hu',h⟩ := bind_some h
   have : u' = true := Option.some.inj h
   subst this
   obtain ⟨a,p,a1,a2,a3,_⟩ := zEK n x _ _ hu
   obtain ⟨b,q,b1,b2,b3,_⟩ := zEK n x _ _ hu'
   exact ⟨l,a,b,p,q,hl,a1,a2,a3,b1,b2,b3⟩
theorem Yb {α : Type} {xs : List α} {i : Int} {v : α} (h : idx xs i = some v) : 0 ≤ i ∧ i < xs.length := by
 obtain ⟨g1,g2⟩ := zO h
 have := (List.getElem?_eq_some_iff.1 g2).1
 omega
theorem zKG {x : Net} {a : zA} (h : x.sz ≤ 1048576) (ha : a ∈ x.Bs) : a.sz ≤ x.sz := by
 have := zDP (sz := zA.sz) ha
 unfold Net.sz
 omega
theorem zBF (n : Nat) (x : Net) (wx : x.wf) (h : x.Bs.length ≤ 1048580) {i j : Int} {a : zA} {p : Pt} (ha : idx x.Bs i = some a) (hp : idx a.Ps j = some p) : ZM n x i j = some (p,true) := by
 have h1 := Yb ha
 have h2 := Yb hp
 have hl := (wx.1.2 a (zIc ha)).2.2.1.1
 have hmx : maxLen = 9223372036854775807 := by decide
 unfold ZM
 simp only [qW,zL,Option.bind_some,wrap64 (show -9223372036854775808 ≤ (x.Bs.length : Int) - 1 by omega) (by omega),decide_eq_true (show (0 : Int) ≤ i by omega),decide_eq_true (show i ≤ (x.Bs.length : Int) - 1 by omega),Bool.and_self,Bool.not_true,cond_false,ha,wrap64 (show -9223372036854775808 ≤ (a.Ps.length : Int) - 1 by omega) (by omega),decide_eq_true (show (0 : Int) ≤ j by omega),decide_eq_true (show j ≤ (a.Ps.length : Int) - 1 by omega),hp]
theorem zCO (n : Nat) (x : Net) (wx : x.wf) (h : x.sz ≤ 1048576) (hn : 1048577 < n) : ∀ (m k : Nat),k ≤ x.Ls.length → x.Ls.length < m + k → ∃ o,QC n m x k = some o ∧ qn n m x k = some o
 | 0,k,h1,h2 => by omega
 | m + 1,k,h1,h2 => by
  have hsz := h
  unfold Net.sz at hsz
  rw [QC,qn]
  by_cases hk : k < x.Ls.length
  ·obtain ⟨o,i1,i2⟩ := zCO n x wx h hn m (k + 1) (by omega) (by omega)
   obtain ⟨u,u1,u2⟩ := zDc n x k wx (by omega)
   simp only [zh hk,cond_true,zC hk,u1,u2,Option.bind_some,zK (by omega : k ≤ 1099511627776),i1,i2]
   cases u with
   | false => exact ⟨o,rfl,rfl⟩
   | true =>
    obtain ⟨l,a,b,p,q,hl,ha,hp,_,hb,hq,_⟩ := zDd n x k u1
    have : l = x.Ls[k] := Option.some.inj (hl.symm.trans (zC hk))
    subst this
    have sa := zKG h (zIc ha)
    have sb := zKG h (zIc hb)
    unfold zA.sz at sa sb
    obtain ⟨va,hva⟩ := zBs n a.Id a.Ps x.Ls[k].P (by omega) (by omega)
    obtain ⟨vb,hvb⟩ := zBs n b.Id b.Ps x.Ls[k].Q (by omega) (by omega)
    simp only [cond_true,Jq,Qz,Zo,JN,zC hk,Option.bind_some,ha,hb,hp,hq,hva,hvb,zB6,cond_false,zBF n x wx (by omega) ha hp,zBF n x wx (by omega) hb hq]
    generalize ((p.Hd.Root == vb.Root) && ((p.Hd.Co == vb.Co) && ((p.Hd.Hops == vb.Hops) && ((p.Hd.Bridge == vb.Bridge) && ((p.Hd.Port == vb.Port) && true))))) = c1
    generalize ((q.Hd.Root == va.Root) && ((q.Hd.Co == va.Co) && ((q.Hd.Hops == va.Hops) && ((q.Hd.Bridge == va.Bridge) && ((q.Hd.Port == va.Port) && true))))) = c2
    cases p.Has <;> cases q.Has <;> cases c1 <;> cases c2 <;> exact ⟨_,rfl,rfl⟩
  ·have e : k = x.Ls.length := by omega
   subst e
   rw [zY]
   exact ⟨_,rfl,rfl⟩
theorem zGz (n : Nat) (x : Net) (wx : x.wf) (h : x.sz ≤ 1048576) (hn : 1048577 < n) : ∃ b,zAn n x = some b ∧ Qt n x = some b := by
 have hsz := h
 unfold Net.sz at hsz
 obtain ⟨o,h1,h2⟩ := zCO n x wx h hn n 0 (by omega) (by omega)
 have h1 : QC n n x 0 = some o := h1
 have h2 : qn n n x 0 = some o := h2
 unfold zAn Qt
 rw [h1,h2]
 cases o <;> exact ⟨_,rfl,rfl⟩
theorem zAX {c : Bool} {x : Option Bool} (h : (bif c then x else some false) = some true) : c = true ∧ x = some true := by
 cases c with
 | true => exact ⟨rfl,h⟩
 | false => cases h
theorem zHd {L : Nat → Int → Option (Unit ⊕ Bool)} {N : Nat} {P : Nat → Prop} (h0 : ∀ k,L 0 k = none) (hs : ∀ m (k : Nat) o,k < N → L (m + 1) (k : Int) = some o → o = .inr false ∨ (P k ∧ L m ((k + 1 : Nat) : Int) = some o)) (he : ∀ m o,L (m + 1) (N : Int) = some o → o = .inl ()) :
  ∀ (m k : Nat) o,k ≤ N → L m (k : Int) = some o → o = .inr false ∨ (o = .inl () ∧ ∀ j,k ≤ j → j < N → P j)
 | 0,k,o,_,h => by rw [h0] at h; cases h
 | m + 1,k,o,hk,h => by
  by_cases hlt : k < N
  ·rcases hs m k o hlt h with e | ⟨hp,h⟩
   ·exact .inl e
   ·rcases zHd h0 hs he m (k + 1) o (by omega) h with e | ⟨e,h2⟩
    ·exact .inl e
    ·refine .inr ⟨e,fun j hj hj2 => ?_⟩
     by_cases hjk : j = k
     ·subst hjk; exact hp
     ·exact h2 j (by omega) hj2
  ·have : k = N := by omega
   subst this
   exact .inr ⟨he m o h,fun j hj hj2 => by omega⟩
theorem zFj (n : Nat) (x : zA) (hl : x.Ps.length ≤ 1048580) {o : Unit ⊕ Bool} (h : zw n n x 0 = some o) : o = .inr false ∨ (o = .inl () ∧ ∀ j (hj : j < x.Ps.length),qE n x.Ps[j] = some true) := by
 rcases zHd (L := fun m k => zw n m x k) (N := x.Ps.length) (P := fun j => ∀ hj : j < x.Ps.length,qE n x.Ps[j] = some true) (fun k => rfl) (fun m k o hk h => by
  simp only [zw] at h
  rw [zh hk,cond_true,zC hk,Option.bind_some,zK (by omega : k ≤ 1099511627776)] at h
  obtain ⟨b,hb⟩ := zFE n x.Ps[k]
  rw [hb,Option.bind_some] at h
  cases b with
  | true => exact .inr ⟨fun _ => hb,h⟩
  | false => cases h; exact .inl rfl) (fun m o h => by
  simp only [zw] at h
  rw [zY] at h; cases h; rfl) n 0 o (by omega) h with e | ⟨e,h2⟩
 ·exact .inl e
 ·exact .inr ⟨e,fun j hj => h2 j (by omega) hj hj⟩
theorem qK (n : Nat) (x : zA) (hl : x.Ps.length ≤ 1048580) (h : zR n x = some true) : 1 ≤ x.Ps.length ∧ x.Ps.length ≤ 6 ∧ 1 ≤ x.Id ∧ x.Id ≤ 99 ∧ x.Name.size ≤ 10 ∧ Zd n x.F = some true ∧ qj n x.V (x.Ps.length : Int) = some true ∧
  (0 ≤ x.Tk ∧ x.Tk ≤ 1000000) ∧ (0 ≤ x.Pa ∧ x.Pa ≤ 1000000) ∧ (0 ≤ x.Wo ∧ x.Wo ≤ 1000000) ∧ (0 ≤ x.Dr ∧ x.Dr ≤ 1000000) ∧ (0 ≤ x.Ve ∧ x.Ve ≤ 1000000) ∧ ∀ j (hj : j < x.Ps.length),qE n x.Ps[j] = some true := by
 unfold zR at h
 obtain ⟨o,ho,h⟩ := bind_some h
 rcases zFj n x hl ho with rfl | ⟨rfl,hp⟩
 ·cases h
 ·simp only [Qe,YX,zL,Option.bind_some] at h
  obtain ⟨h1,h⟩ := zAX h
  obtain ⟨h2,h⟩ := zAX h
  obtain ⟨h3,h⟩ := zAX h
  obtain ⟨b4,h4,h⟩ := bind_some h
  obtain ⟨rfl,h⟩ := zAX h
  obtain ⟨b5,h5,h⟩ := bind_some h
  obtain ⟨rfl,h⟩ := zAX h
  obtain ⟨b6,h6,h⟩ := bind_some h
  cases h
  obtain ⟨h7,h6⟩ := zAX h6
  obtain ⟨h8,h6⟩ := zAX h6
  obtain ⟨h9,h6⟩ := zAX h6
  obtain ⟨h10,h6⟩ := zAX h6
  have h11 := Option.some.inj h6
  simp only [Bool.and_eq_true,decide_eq_true_eq] at h1 h2 h3 h7 h8 h9 h10 h11
  exact ⟨by omega,by omega,h1.1,h1.2,by omega,h4,h5,h7,h8,h9,h10,h11,hp⟩
theorem zFs (n : Nat) (z : Int) (h0 : 0 ≤ z) (h1 : z ≤ 1000000) : ∃ y,Yu n z = some y ∧ zA0 n z = some y ∧ 0 ≤ y ∧ y ≤ 1000000 := by
 unfold Yu zA0
 rw [wrap64 (by omega) (by omega)]
 by_cases h : z ≥ 1000000
 ·rw [decide_eq_true h,if_pos (by omega)]; exact ⟨z,rfl,by rw [show z = 1000000 by omega],h0,h1⟩
 ·rw [decide_eq_false h,if_neg (by omega)]; exact ⟨_,rfl,rfl,by omega,by omega⟩
theorem zF8 {α β : Type} {p : α → Bool} {L : Nat → Int → List α → Option (List α ⊕ β)} (xs : List α) (hx : xs.length ≤ 134217728)
  (h : ∀ m (k : Nat) (acc : List α) (hk : k < xs.length),acc.length ≤ k → L (m + 1) k acc = L m ((k + 1 : Nat) : Int) (acc ++ if p xs[k] then [xs[k]] else [])) (he : ∀ m (acc : List α),L (m + 1) (xs.length : Int) acc = some (.inl acc)) :
  ∀ (m k : Nat) (acc : List α),k ≤ xs.length → xs.length < m + k → acc.length ≤ k → L m k acc = some (.inl (acc ++ (xs.drop k).filter p))
 | 0,k,acc,h1,h2,h3 => by omega
 | m + 1,k,acc,h1,h2,h3 => by
  by_cases hk : k < xs.length
  ·rw [h m k acc hk h3,zF8 xs hx h he m (k + 1) _ (by omega) (by omega) (by split <;> simp <;> omega),List.drop_eq_getElem_cons hk,List.filter_cons,List.append_assoc]
   split <;> simp
  ·have : k = xs.length := by omega
   subst this
   rw [he m acc]
   simp
theorem zAK (n : Nat) (xs : List zB) (p : Int) (h : xs.length ≤ 134217728) (hn : xs.length < n) : JG n xs p = some (xs.filter fun v => v.Sc || v.Port != p) := by
 have := zF8 (p := fun v : zB => v.Sc || v.Port != p) (L := fun m k acc => qt n m xs p k acc) xs h (fun m k acc hk ha => by
  simp only [qt]
  rw [zh hk,cond_true,zC hk,Option.bind_some,zK (by omega : k ≤ 1099511627776)]
  have hg : ∀ v : zB,decide (acc.length + [v].length ≤ 268435456) = true := fun v => decide_eq_true (by simp; omega)
  simp only [Option.bind_some,hg,cond_true]
  cases hs : xs[k].Sc <;> cases hq : (xs[k].Port != p) <;> simp [hs,hq]) (fun m acc => by simp only [qt]; rw [zY]; rfl) n 0 [] (by omega) (by omega) (by simp)
 unfold JG
 rw [show qt n n xs p 0 [] = _ from this]
 simp [Yd]
theorem zFx (n : Nat) (xs : List zB) (p : Int) (h : xs.length ≤ 134217728) (hn : xs.length < n) : JB n xs p = some (xs.filter fun v => v.Sc || v.Port != p) := by
 have := zF8 (p := fun v : zB => v.Sc || v.Port != p) (L := fun m k acc => qr n m xs p k acc) xs h (fun m k acc hk ha => by
  simp only [qr]
  rw [zh hk,cond_true,zC hk,Option.bind_some,zK (by omega : k ≤ 1099511627776)]
  have hg : ∀ v : zB,decide (acc.length + [v].length ≤ 268435456) = true := fun v => decide_eq_true (by simp; omega)
  simp only [Option.bind_some,hg,cond_true]
  cases hs : xs[k].Sc <;> cases hq : (xs[k].Port != p) <;> simp [hs,hq]) (fun m acc => by simp only [qr]; rw [zY]; rfl) n 0 [] (by omega) (by omega) (by simp)
 unfold JB
 rw [show qr n n xs p 0 [] = _ from this]
 simp [Yc]
theorem J6 (n : Nat) (bits : Int) (x : zA) (h : x.Ps.length ≤ 6) : ∀ (m k : Nat) (ys : List zB),k ≤ x.Ps.length → x.Ps.length < m + k → ys.length ≤ 134217728 → ys.length < n → ∃ zs : List zB,qd n m bits x k ys = some (.inl zs) ∧ q8 n m bits x k ys = some (.inl zs) ∧ zs.length ≤ ys.length ∧ (∀ v ∈ zs,v ∈ ys) ∧ ∀ v ∈ zs,v.Sc = true ∨ ∀ j : Nat,k ≤ j → j < x.Ps.length → zCb bits j = false → v.Port ≠ j
 | 0,k,ys,h1,h2,h3,h4 => by omega
 | m + 1,k,ys,h1,h2,h3,h4 => by
  rw [qd,q8]
  by_cases hk : k < x.Ps.length
  ·rw [zh hk,cond_true,cond_true,zCK n bits k (by omega),zDZ n bits k (by omega),Option.bind_some,Option.bind_some,zK (by omega : k ≤ 1099511627776),zAK n ys _ h3 h4,zFx n ys _ h3 h4]
   cases hb : zCb bits k with
   | true =>
    simp only [Bool.not_true,cond_false]
    obtain ⟨zs,e1,e2,e3,e4,e5⟩ := J6 n bits x h m (k + 1) ys (by omega) (by omega) h3 h4
    refine ⟨zs,e1,e2,e3,e4,fun v hv => (e5 v hv).imp id fun h5 j hj hj2 hj3 => ?_⟩
    by_cases hjk : j = k
    ·subst hjk; rw [hb] at hj3; cases hj3
    ·exact h5 j (by omega) hj2 hj3
   | false =>
    simp only [Bool.not_false,cond_true,Option.bind_some]
    have hle := List.length_filter_le (fun v : zB => v.Sc || v.Port != (k : Int)) ys
    obtain ⟨zs,e1,e2,e3,e4,e5⟩ := J6 n bits x h m (k + 1) (ys.filter fun v => v.Sc || v.Port != (k : Int)) (by omega) (by omega) (by omega) (by omega)
    refine ⟨zs,e1,e2,by omega,fun v hv => (List.mem_filter.1 (e4 v hv)).1,fun v hv => ?_⟩
    have hf := (List.mem_filter.1 (e4 v hv)).2
    rcases e5 v hv with h5 | h5
    ·exact .inl h5
    ·cases hs : v.Sc with
     | true => exact .inl rfl
     | false =>
      refine .inr fun j hj hj2 hj3 => ?_
      by_cases hjk : j = k
      ·subst hjk; rw [hs] at hf; simpa using hf
      ·exact h5 j (by omega) hj2 hj3
  ·have he : k = x.Ps.length := by omega
   subst he
   rw [zY]
   exact ⟨ys,rfl,rfl,Nat.le_refl _,fun v hv => hv,fun v hv => .inr fun j hj hj2 => by omega⟩
theorem zFl (n : Nat) (x : zA) (h : x.Ps.length ≤ 6) (hf : x.F.length ≤ 134217728) (hn : x.F.length < n) (hn6 : 6 < n) (hv0 : 0 ≤ x.Ve) (hv1 : x.Ve ≤ 1000000) : ∃ (zs : List zB) (v b : Int),q4 n x = some ⟨x.Id,x.Name,x.Ps,zs,x.V,x.Tk,x.Pa,x.Wo,x.Dr,v⟩ ∧ q9 n x = some ⟨x.Id,x.Name,x.Ps,zs,x.V,x.Tk,x.Pa,x.Wo,x.Dr,v⟩ ∧
  zs.length ≤ x.F.length ∧ (∀ u ∈ zs,u ∈ x.F) ∧ 0 ≤ v ∧ v ≤ 1000000 ∧ Zx n x.Id x.Ps = some b ∧ ∀ u ∈ zs,u.Sc = true ∨ ∀ j : Nat,j < x.Ps.length → zCb b j = false → u.Port ≠ j := by
 obtain ⟨v,h1,h2,h3,h4⟩ := zFs n x.Ve hv0 hv1
 obtain ⟨e,b,hb⟩ := zHh n x.Id x.Ps (by omega) (by omega)
 obtain ⟨zs,k1,k2,k3,k4,k5⟩ := J6 n b x h n 0 x.F (by omega) (by omega) hf hn
 refine ⟨zs,v,b,?_,?_,k3,k4,h3,h4,hb,fun u hu => (k5 u hu).imp id fun h5 j hj => h5 j (by omega) hj⟩
 ·unfold q4
  rw [h1,Option.bind_some,hb,Option.bind_some,show qd n n b x 0 x.F = _ from k1]
  rfl
 ·unfold q9
  rw [h2,Option.bind_some,e,hb,Option.bind_some,show q8 n n b x 0 x.F = _ from k2]
  rfl
theorem Yt (n : Nat) (x : zA) (h : x.sz ≤ 268435456) : QY n x = some x := by
 have hs : x.Name.size + x.Ps.length + x.F.length + x.V.sz = x.sz := rfl
 unfold QY zCJ
 rw [zIS n x.V (by omega),decide_eq_true (by simp; omega),decide_eq_true (by simp; omega)]
 rfl
theorem YC (n : Nat) (x : zA) (h : x.sz ≤ 268435456) : ZT n x = some x := by
 have hs : x.Name.size + x.Ps.length + x.F.length + x.V.sz = x.sz := rfl
 unfold ZT zBe
 rw [zGw n x.V (by omega),decide_eq_true (by simp; omega),decide_eq_true (by simp; omega)]
 rfl
theorem zAp (n : Nat) (x : zA) (p : Int) (b : Bool) (hb : zR n x = some b) (hl : x.Ps.length ≤ 1048580) : Yl n x p = some (b && (decide (0 ≤ p) && decide (p < x.Ps.length))) := by
 unfold Yl
 rw [hb,Option.bind_some,zL,wrap64 (by omega) (by omega)]
 have : decide (p ≤ (x.Ps.length : Int) - 1) = decide (p < x.Ps.length) := by
  by_cases h : p < x.Ps.length
  ·rw [decide_eq_true h,decide_eq_true (by omega)]
  ·rw [decide_eq_false h,decide_eq_false (by omega)]
 rw [this]
 cases b <;> rfl
theorem zBq (n : Nat) (x : zA) (p : Int) (b : Bool) (hb : Qk n x = some b) (hl : x.Ps.length ≤ 1048580) : Jh n x p = some (b && (decide (0 ≤ p) && decide (p < x.Ps.length))) := by
 unfold Jh
 rw [hb,Option.bind_some,qW,zL,wrap64 (by omega) (by omega)]
 have : decide (p ≤ (x.Ps.length : Int) - 1) = decide (p < x.Ps.length) := by
  by_cases h : p < x.Ps.length
  ·rw [decide_eq_true h,decide_eq_true (by omega)]
  ·rw [decide_eq_false h,decide_eq_false (by omega)]
 rw [this]
 cases b <;> rfl
theorem zFv (n : Nat) (x : zA) (hn : 1048577 < n) (hx : x.sz ≤ 1048576) (hb : zR n x = some true) (ps : List Pt) (hp : ps.length = x.Ps.length) (fs : List zB) (hf : fs.length ≤ x.F.length) (t : Int) : ∃ (zs : List zB) (v b : Int),q4 n ⟨x.Id,x.Name,ps,fs,x.V,t,x.Pa,x.Wo,x.Dr,x.Ve⟩ = some ⟨x.Id,x.Name,ps,zs,x.V,t,x.Pa,x.Wo,x.Dr,v⟩ ∧
  q9 n ⟨x.Id,x.Name,ps,fs,x.V,t,x.Pa,x.Wo,x.Dr,x.Ve⟩ = some ⟨x.Id,x.Name,ps,zs,x.V,t,x.Pa,x.Wo,x.Dr,v⟩ ∧ zs.length ≤ fs.length ∧ (∀ u ∈ zs,u ∈ fs) ∧ 0 ≤ v ∧ v ≤ 1000000 ∧ Zx n x.Id ps = some b ∧ ∀ u ∈ zs,u.Sc = true ∨ ∀ j : Nat,j < ps.length → zCb b j = false → u.Port ≠ j := by
 have hs : x.Name.size + x.Ps.length + x.F.length + x.V.sz = x.sz := rfl
 obtain ⟨p1,p2,p3,p4,p5,p6,p7,p8,p9,p10,p11,p12,p13⟩ := qK n x (by omega) hb
 exact zFl n ⟨x.Id,x.Name,ps,fs,x.V,t,x.Pa,x.Wo,x.Dr,x.Ve⟩ (by simp only; omega) (by simp only; omega) (by simp only; omega) (by omega) p12.1 p12.2
theorem zCN (n : Nat) (xs : List zB) (h : xs.length ≤ 134217728) (ha : ∀ v ∈ xs,0 ≤ v.Age ∧ v.Age ≤ 1000) : ∀ (m k : Nat) (acc : List zB),k ≤ xs.length → xs.length < m + k → acc.length ≤ k → ∃ zs,q3 n m xs k acc = some (.inl zs) ∧ YD n m xs k acc = some (.inl zs) ∧ zs.length ≤ xs.length
 | 0,k,acc,h1,h2,h3 => by omega
 | m + 1,k,acc,h1,h2,h3 => by
  rw [q3,YD]
  by_cases hk : k < xs.length
  ·rw [zh hk,cond_true,cond_true,zC hk,Option.bind_some,Option.bind_some,zK (by omega : k ≤ 1099511627776)]
   have hg : ∀ v : zB,decide (acc.length + [v].length ≤ 268435456) = true := fun v => decide_eq_true (by simp; omega)
   simp only [hg,cond_true]
   have ih := fun acc' h3' => zCN n xs h ha m (k + 1) acc' (by omega) (by omega) h3'
   cases hs : xs[k].Sc with
   | true =>
    simp only [Bool.not_true,cond_true,cond_false]
    exact ih (acc ++ [xs[k]]) (by simp; omega)
   | false =>
    simp only [Bool.not_false,cond_true,cond_false]
    by_cases hl : xs[k].Age < 4
    ·rw [decide_eq_true hl,decide_eq_false (by omega : ¬ xs[k].Age ≥ 4)]
     exact ih _ (by simp; omega)
    ·rw [decide_eq_false hl,decide_eq_true (by omega : xs[k].Age ≥ 4)]
     exact ih _ (by omega)
  ·have he : k = xs.length := by omega
   subst he
   rw [zY]
   exact ⟨acc,rfl,rfl,by omega⟩
theorem zGy (n : Nat) (xs : List zB) (h : xs.length ≤ 134217728) (hn : xs.length < n) (ha : ∀ v ∈ xs,0 ≤ v.Age ∧ v.Age ≤ 1000) : ∃ zs,Ys n xs = some zs ∧ zD7 n xs = some zs ∧ zs.length ≤ xs.length := by
 obtain ⟨zs,h1,h2,h3⟩ := zCN n xs h ha n 0 [] (by omega) (by omega) (by simp)
 refine ⟨zs,?_,?_,h3⟩
 ·unfold Ys; rw [show q3 n n xs 0 [] = _ from h1]; rfl
 ·unfold zD7; rw [show YD n n xs 0 [] = _ from h2]; rfl
theorem zEg (n : Nat) (xs : List zB) (h : xs.length ≤ 1048580) (hok : Zd n xs = some true) : xs.length ≤ 12 ∧ (∀ j (hj : j < xs.length),Z5 n xs[j] = some true) ∧ ∀ j (hj : j + 1 < xs.length),Z4 n xs[j] xs[j + 1].Tag xs[j + 1].Mac = some true := by
 unfold Zd at hok
 obtain ⟨o,ho,hok⟩ := bind_some hok
 rcases zHd (L := fun m k => qf n m xs k) (N := xs.length) (P := fun k => ∀ hk : k < xs.length,Z5 n xs[k] = some true ∧ ∀ j (e : k = j + 1),Z4 n (xs[j]'(by omega)) xs[k].Tag xs[k].Mac = some true) (fun k => rfl) (fun m k o hk h => by
  simp only [qf] at h
  rw [zh hk,cond_true,zC hk,Option.bind_some,zK (by omega : k ≤ 1099511627776)] at h
  obtain ⟨b,hb⟩ := zEk n xs[k]
  rw [hb,Option.bind_some] at h
  cases b with
  | false => cases h; exact .inl rfl
  | true =>
   simp only [Bool.not_true,cond_false] at h
   cases k with
   | zero => exact .inr ⟨fun _ => ⟨hb,fun j e => by omega⟩,h⟩
   | succ k =>
    have hw2 : IntKind.wrap .i64 (((k + 1 : Nat) : Int) - 1) = (k : Int) := by rw [wrap64 (by omega) (by omega)]; omega
    have hpos : decide (((k + 1 : Nat) : Int) > 0) = true := decide_eq_true (by omega)
    rw [hpos,hw2,cond_true,zC (show k < xs.length by omega),Option.bind_some,Option.bind_some,Option.bind_some] at h
    obtain ⟨c,hc⟩ := zDh n (xs[k]'(by omega)) xs[k + 1].Tag xs[k + 1].Mac
    rw [hc,Option.bind_some] at h
    cases c with
    | false => cases h; exact .inl rfl
    | true => exact .inr ⟨fun _ => ⟨hb,fun j e => (show k = j by omega) ▸ hc⟩,h⟩) (fun m o h => by
  simp only [qf] at h
  rw [zY] at h; cases h; rfl) n 0 o (by omega) ho with rfl | ⟨rfl,hp⟩
 ·cases hok
 ·have h12 := of_decide_eq_true (Option.some.inj hok)
  exact ⟨by omega,fun j hj => (hp j (by omega) hj hj).1,fun j hj => (hp (j + 1) (by omega) hj hj).2 j rfl⟩
theorem zIR (n : Nat) (v : zB) (h : Z5 n v = some true) : (1 ≤ v.Tag ∧ v.Tag ≤ 99) ∧ (1 ≤ v.Mac ∧ v.Mac ≤ 9999) ∧ (0 ≤ v.Port ∧ v.Port ≤ 7) ∧ (0 ≤ v.Age ∧ v.Age ≤ 4) ∧ (v.Sc = true → v.Age = 0) := by
 unfold Z5 at h
 simp only [zL,Option.bind_some] at h
 obtain ⟨h1,h⟩ := zAX h
 obtain ⟨h2,h⟩ := zAX h
 obtain ⟨h3,h⟩ := zAX h
 obtain ⟨h4,h⟩ := zAX h
 simp only [Bool.and_eq_true,decide_eq_true_eq] at h1 h2 h3 h4
 refine ⟨h1,h2,h3,h4,fun hs => ?_⟩
 rw [hs] at h
 simpa using h
theorem zKN {L : Nat → Int → Option (Unit ⊕ Bool)} {xs : List Int} {z : Int} (hx : xs.length ≤ 1099511627776) (hs : ∀ m (k : Nat) (hk : k < xs.length),L (m + 1) (k : Int) = bif (xs[k] == z) then some (.inr true) else L m ((k + 1 : Nat) : Int)) (he : ∀ m,L (m + 1) (xs.length : Int) = some (.inl ())) :
  ∀ (m k : Nat),k ≤ xs.length → xs.length < m + k → L m (k : Int) = some (if z ∈ xs.drop k then .inr true else .inl ())
 | 0,k,h1,h2 => by omega
 | m + 1,k,h1,h2 => by
  by_cases hk : k < xs.length
  ·rw [hs m k hk,zKN hx hs he m (k + 1) (by omega) (by omega),List.drop_eq_getElem_cons hk]
   by_cases hz : xs[k] = z
   ·have : (xs[k] == z) = true := by simpa using hz
    rw [this,cond_true,if_pos (by rw [hz]; simp)]
   ·have : (xs[k] == z) = false := by simpa using hz
    rw [this,cond_false]
    have : (z ∈ xs[k] :: xs.drop (k + 1)) ↔ z ∈ xs.drop (k + 1) := by
     rw [List.mem_cons]; exact ⟨fun h => h.resolve_left (fun e => hz e.symm),.inr⟩
    simp only [this]
  ·have : k = xs.length := by omega
   subst this
   rw [he m]; simp
theorem zHW (n : Nat) (xs : List Int) (z : Int) (h : xs.length ≤ 1048600) (hn : xs.length < n) : zAg n xs z = some (decide (z ∈ xs)) := by
 have := zKN (L := fun m k => QA n m xs z k) (xs := xs) (z := z) (by omega) (fun m k hk => by
  simp only [QA]
  rw [zh hk,cond_true,zC hk,Option.bind_some,zK (by omega : k ≤ 1099511627776)]) (fun m => by simp only [QA]; rw [zY]; rfl) n 0 (by omega) (by omega)
 unfold zAg
 rw [show QA n n xs z 0 = _ from this]
 by_cases hz : z ∈ xs
 ·simp [hz]
 ·simp [hz,Jg]
theorem zDS : ∀ (xs ys : List Int),xs.Nodup → (∀ z ∈ xs,z ∈ ys) → xs.length ≤ ys.length
 | [],ys,_,_ => by simp
 | x :: xs,ys,h,hs => by
  have hx := hs x (by simp)
  have h1 := zDS xs (ys.erase x) (List.nodup_cons.1 h).2 (fun z hz => (List.mem_erase_of_ne (fun e => (List.nodup_cons.1 h).1 (by rw [← e]; exact hz))).2 (hs z (by simp [hz])))
  have h2 := List.length_erase_of_mem hx
  have h3 := List.length_pos_of_mem hx
  simp only [List.length_cons]
  omega
def zAW (x : Net) (l : List Int) (k : Nat) (S : Int → Prop) : Prop := ∀ (j : Nat) z lk,k ≤ j → l[j]? = some z → idx x.Ls z = some lk → 0 ≤ lk.A → lk.A < x.Bs.length → 0 ≤ lk.B → lk.B < x.Bs.length → (S lk.A ↔ S lk.B)
theorem QR (n : Nat) (z : Int) (N : Nat) (h : N ≤ 1048600) : zP n z 0 (IntKind.wrap .i64 ((N : Int) - 1)) = some (decide (0 ≤ z ∧ z < N)) := by
 rw [zL,wrap64 (by omega) (by omega)]
 by_cases h : 0 ≤ z ∧ z < N
 ·rw [decide_eq_true h,decide_eq_true h.1,decide_eq_true (by omega)]; rfl
 ·rw [decide_eq_false h]
  congr 1
  simp only [Bool.and_eq_false_iff,decide_eq_false_iff_not]; omega
def ZA (met : List Bool) (z : Int) : Prop := 0 ≤ z ∧ met[z.toNat]? = some true
theorem zId {met : List Bool} {z : Int} (h0 : 0 ≤ z) (h1 : z < met.length) : ∃ b,idx met z = some b ∧ (ZA met z ↔ b = true) := by
 obtain ⟨j,rfl⟩ := Int.eq_ofNat_of_zero_le h0
 have hj : j < met.length := by omega
 refine ⟨met[j],zC hj,?_⟩
 simp [ZA,hj]
theorem zE9 {met : List Bool} {i z : Int} (h0 : 0 ≤ i) (h1 : i < met.length) : ZA (met.set i.toNat true) z ↔ z = i ∨ ZA met z := by
 obtain ⟨j,rfl⟩ := Int.eq_ofNat_of_zero_le h0
 have hj : j < met.length := by omega
 unfold ZA
 simp only [Int.toNat_natCast]
 by_cases hz : z = (j : Int)
 ·subst hz
  simp [hj]
 ·constructor
  ·rintro ⟨a,b⟩
   rw [List.getElem?_set_ne (by omega)] at b
   exact .inr ⟨a,b⟩
  ·rintro (e | ⟨a,b⟩)
   ·exact absurd e hz
   ·exact ⟨a,by rw [List.getElem?_set_ne (by omega)]; exact b⟩
theorem zCd : ∀ (met : List Bool) (j : Nat),met[j]? = some false → (met.set j true).count true = met.count true + 1
 | [],j,h => by simp at h
 | b :: met,0,h => by
  simp only [List.getElem?_cons_zero,Option.some.injEq] at h
  subst h
  simp
 | b :: met,j + 1,h => by
  simp only [List.getElem?_cons_succ] at h
  have := zCd met j h
  simp only [List.set_cons_succ,List.count_cons,this]
  omega
theorem zDU : ∀ (met : List Bool) (j : Nat),met[j]? = some true → met.set j true = met
 | [],j,h => by simp
 | b :: met,0,h => by
  simp only [List.getElem?_cons_zero,Option.some.injEq] at h
  subst h; rfl
 | b :: met,j + 1,h => by
  simp only [List.getElem?_cons_succ] at h
  simp only [List.set_cons_succ,zDU met j h]
theorem zBE (n : Nat) (x : Net) (l : List Int) (hl : l.length ≤ 1048590) (hN : x.Bs.length ≤ 1048576) (hK : x.Ls.length ≤ 1048600) : ∀ (m k : Nat) (more : Bool) (met : List Bool),k ≤ l.length → l.length < m + k → met.length = x.Bs.length →
  ∃ (more' : Bool) (met' : List Bool),qo n m x l k more met = some (.inl (more',met')) ∧ met'.length = x.Bs.length ∧ (∀ z,ZA met z → ZA met' z) ∧ (∀ S : Int → Prop,zAW x l k S → (∀ z,ZA met z → S z) → ∀ z,ZA met' z → S z) ∧ met.count true ≤ met'.count true ∧
   (more = true → more' = true) ∧ (more' = true → more = true ∨ met.count true < met'.count true) ∧ (more' = false → met' = met ∧ zAW x l k (ZA met))
 | 0,k,more,met,h1,h2,h3 => by omega
 | m + 1,k,more,met,h1,h2,h3 => by
  rw [qo]
  by_cases hk : k < l.length
  ·have hget : l[k]? = some l[k] := List.getElem?_eq_getElem hk
   rw [zh hk,cond_true,zC hk,Option.bind_some,qW,QR n _ _ hK,Option.bind_some,zK (by omega : k ≤ 1099511627776)]
   have skip : (∀ lk,idx x.Ls l[k] = some lk → 0 ≤ lk.A → lk.A < x.Bs.length → 0 ≤ lk.B → lk.B < x.Bs.length → (ZA met lk.A ↔ ZA met lk.B)) → ∃ (more' : Bool) (met' : List Bool),qo n m x l ((k + 1 : Nat) : Int) more met = some (.inl (more',met')) ∧ met'.length = x.Bs.length ∧ (∀ z,ZA met z → ZA met' z) ∧ (∀ S : Int → Prop,zAW x l k S → (∀ z,ZA met z → S z) → ∀ z,ZA met' z → S z) ∧ met.count true ≤ met'.count true ∧
     (more = true → more' = true) ∧ (more' = true → more = true ∨ met.count true < met'.count true) ∧ (more' = false → met' = met ∧ zAW x l k (ZA met)) := by
    intro hc
    obtain ⟨mo,met',e1,e2,e3,e4,e5,e8,e6,e7⟩ := zBE n x l hl hN hK m (k + 1) more met (by omega) (by omega) h3
    refine ⟨mo,met',e1,e2,e3,fun S hS => e4 S fun j z lk hj => hS j z lk (by omega),e5,e8,e6,fun hf => ⟨(e7 hf).1,fun j z lk hj hz hlk a0 a1 b0 b1 => ?_⟩⟩
    by_cases hjk : j = k
    ·subst hjk; rw [hget] at hz; cases hz; exact hc lk hlk a0 a1 b0 b1
    ·exact (e7 hf).2 j z lk (by omega) hz hlk a0 a1 b0 b1
   by_cases hr : 0 ≤ l[k] ∧ l[k] < x.Ls.length
   ·obtain ⟨j,hj⟩ := Int.eq_ofNat_of_zero_le hr.1
    have hi : idx x.Ls l[k] = some (x.Ls[j]'(by omega)) := by rw [hj]; exact zC (by omega)
    generalize x.Ls[j]'(by omega) = lk at hi
    rw [decide_eq_true hr,hi]
    simp only [Bool.not_true,cond_false,Option.bind_some,QR n _ _ (show met.length ≤ 1048600 by omega)]
    by_cases hA : 0 ≤ lk.A ∧ lk.A < met.length
    ·by_cases hB : 0 ≤ lk.B ∧ lk.B < met.length
     ·obtain ⟨a,ha,ha2⟩ := zId hA.1 hA.2
      obtain ⟨b,hb,hb2⟩ := zId hB.1 hB.2
      rw [decide_eq_true hA,decide_eq_true hB]
      simp only [cond_true,Option.bind_some,ha,hb,Z6]
      by_cases hab : a = b
      ·subst hab
       simp only [beq_self_eq_true,Bool.not_true,cond_false,zK (by omega : k ≤ 1099511627776)]
       exact skip fun lk' hlk' _ _ _ _ => by rw [hi] at hlk'; cases hlk'; rw [ha2,hb2]
      ·have : (!(a == b)) = true := by simpa using hab
       obtain ⟨a',ha'⟩ : ∃ c,idx (met.set lk.A.toNat true) lk.B = some c := by
        obtain ⟨c,hc,_⟩ := zId (met := met.set lk.A.toNat true) hB.1 (by simpa using hB.2)
        exact ⟨c,hc⟩
       rw [this]
       simp only [cond_true,Option.bind_some,ha',zK (by omega : k ≤ 1099511627776)]
       obtain ⟨mo,met',e1,e2,e3,e4,e5,e8,e6,e7⟩ := zBE n x l hl hN hK m (k + 1) true ((met.set lk.A.toNat true).set lk.B.toNat true) (by omega) (by omega) (by simpa using h3)
       have hcnt : met.count true < ((met.set lk.A.toNat true).set lk.B.toNat true).count true := by
        obtain ⟨jA,eA⟩ := Int.eq_ofNat_of_zero_le hA.1
        obtain ⟨jB,eB⟩ := Int.eq_ofNat_of_zero_le hB.1
        have gA := (zO ha).2
        have gB := (zO hb).2
        rw [eA] at gA; rw [eB] at gB
        rw [eA,eB]
        simp only [Int.toNat_natCast] at gA gB ⊢
        cases a with
        | true =>
         cases b with
         | true => exact absurd rfl hab
         | false =>
          rw [zDU met jA gA,zCd met jB gB]; omega
        | false =>
         cases b with
         | false => exact absurd rfl hab
         | true =>
          have hne : jA ≠ jB := fun e => by subst e; rw [gA] at gB; cases gB
          rw [zDU _ jB (by rw [List.getElem?_set_ne hne]; exact gB),zCd met jA gA]; omega
       have hmem : ∀ z,ZA met z → ZA ((met.set lk.A.toNat true).set lk.B.toNat true) z := fun z hz => (zE9 hB.1 (by simpa using hB.2)).2 (.inr ((zE9 hA.1 hA.2).2 (.inr hz)))
       refine ⟨mo,met',e1,e2,fun z hz => e3 z (hmem z hz),fun S hS hy => e4 S (fun j z lk hj => hS j z lk (by omega)) (fun z hz => ?_),by omega,fun _ => e8 rfl,fun _ => .inr (by omega),fun hf => ?_⟩
       ·have hcl := hS k _ lk (Nat.le_refl _) hget hi hA.1 (by omega) hB.1 (by omega)
        have hany : S lk.A ∧ S lk.B := by
         cases a with
         | true => have := hy _ (ha2.2 rfl); exact ⟨this,hcl.1 this⟩
         | false =>
          cases b with
          | false => exact absurd rfl hab
          | true => have := hy _ (hb2.2 rfl); exact ⟨hcl.2 this,this⟩
        rcases (zE9 hB.1 (by simpa using hB.2)).1 hz with e | hz
        ·subst e; exact hany.2
        ·rcases (zE9 hA.1 hA.2).1 hz with e | hz
         ·subst e; exact hany.1
         ·exact hy z hz
       ·rw [e8 rfl] at hf; cases hf
     ·rw [decide_eq_true hA,decide_eq_false hB]
      simp only [cond_true,cond_false,Option.bind_some,Z6,zK (by omega : k ≤ 1099511627776)]
      exact skip fun lk' hlk' _ _ b0 b1 => by rw [hi] at hlk'; cases hlk'; exact absurd ⟨b0,by omega⟩ hB
    ·rw [decide_eq_false hA]
     simp only [cond_false,Option.bind_some,Z6,zK (by omega : k ≤ 1099511627776)]
     exact skip fun lk' hlk' a0 a1 _ _ => by rw [hi] at hlk'; cases hlk'; exact absurd ⟨a0,by omega⟩ hA
   ·rw [decide_eq_false hr]
    simp only [Bool.not_false,cond_true]
    exact skip fun lk hlk => by have := Yb hlk; exact absurd ⟨this.1,by omega⟩ hr
  ·have he : k = l.length := by omega
   subst he
   rw [zY]
   refine ⟨more,met,rfl,h3,fun z h => h,fun S _ h => h,Nat.le_refl _,fun h => h,fun h => .inl h,fun _ => ⟨rfl,fun j z lk hj hz => ?_⟩⟩
   rw [List.getElem?_eq_none (by omega)] at hz; cases hz
theorem zDY (n : Nat) (x : Net) (l : List Int) (hl : l.length ≤ 1048590) (hn : 1048600 < n) (hN : x.Bs.length ≤ 1048576) (hK : x.Ls.length ≤ 1048600) : ∀ (m : Nat) (more : Bool) (met : List Bool),x.Bs.length + 2 ≤ m + met.count true + (if more then 0 else 1) → met.length = x.Bs.length → (more = false → zAW x l 0 (ZA met)) →
  ∃ met' : List Bool,Z8 n m x l more met = some (.inl met') ∧ met'.length = x.Bs.length ∧ (∀ z,ZA met z → ZA met' z) ∧ (∀ S : Int → Prop,zAW x l 0 S → (∀ z,ZA met z → S z) → ∀ z,ZA met' z → S z) ∧ zAW x l 0 (ZA met')
 | 0,more,met,h1,h2,h3 => by
  have := List.count_le_length (a := true) (l := met)
  split at h1 <;> omega
 | m + 1,more,met,h1,h2,h3 => by
  rw [Z8]
  cases more with
  | false => exact ⟨met,rfl,h2,fun z h => h,fun S _ h => h,h3 rfl⟩
  | true =>
   obtain ⟨mo,met',e1,e2,e3,e4,e5,e8,e6,e7⟩ := zBE n x l hl hN hK n 0 false met (by omega) (by omega) h2
   rw [cond_true,show qo n n x l 0 false met = _ from e1,Option.bind_some]
   simp only [Jb]
   simp only [if_true] at h1
   obtain ⟨us,f1,f2,f3,f4,f5⟩ := zDY n x l hl hn hN hK m mo met' (by
    cases mo with
    | true => have := (e6 rfl).resolve_left (by simp); simp only [if_true]; omega
    | false => simp only [Bool.false_eq_true,if_false]; omega) e2 (fun hf => by have := e7 hf; rw [this.1]; exact this.2)
   exact ⟨us,f1,f2,fun z hz => f3 z (e3 z hz),fun S hS hy => f4 S hS (e4 S hS hy),f5⟩
theorem zAZ (n : Nat) (met : List Bool) (hN : met.length ≤ 1048576) : ∀ (m k : Nat) (acc : List Int),k ≤ met.length → met.length < m + k → acc.length ≤ k → Z7 n m met k acc = some (.inl (acc ++ ((List.range' k (met.length - k)).filter fun j : Nat => met[j]? == some true).map fun j : Nat => (j : Int)))
 | 0,k,acc,h1,h2,h3 => by omega
 | m + 1,k,acc,h1,h2,h3 => by
  rw [Z7]
  by_cases hk : k < met.length
  ·have hr : List.range' k (met.length - k) = k :: List.range' (k + 1) (met.length - (k + 1)) := by
    rw [show met.length - k = (met.length - (k + 1)) + 1 by omega,List.range'_succ]
   rw [zh hk,cond_true,zC hk,Option.bind_some,decide_eq_true (by simp; omega),cond_true,zK (by omega : k ≤ 1099511627776),hr]
   cases hm : met[k] with
   | true =>
    rw [cond_true,zAZ n met hN m (k + 1) _ (by omega) (by omega) (by simp; omega)]
    simp [hm,hk]
   | false =>
    rw [cond_false,zAZ n met hN m (k + 1) _ (by omega) (by omega) (by omega)]
    simp [hm,hk]
  ·have he : k = met.length := by omega
   subst he
   rw [zY]; simp
theorem zGv (n : Nat) (xs : List Int) (h : xs.length ≤ 268435456) : YF n xs = some xs := by
 unfold YF
 rw [decide_eq_true (by simp; omega)]; rfl
def zf (b p : Int) (l : Link) : Bool := (l.A == b && l.P == p) || (l.B == b && l.Q == p)
def qV (b p : Int) (l : Link) : Nat := (bif l.A == b && l.P == p then 1 else 0) + (bif l.B == b && l.Q == p then 1 else 0)
theorem qy {b p : Int} {l : Link} : zf b p l = true ↔ (l.A = b ∧ l.P = p) ∨ (l.B = b ∧ l.Q = p) := by simp [zf]
theorem zCc {b p : Int} {l : Link} : zf b p l = true ↔ 0 < qV b p l := by
 unfold zf qV
 cases l.A == b <;> cases l.P == p <;> cases l.B == b <;> cases l.Q == p <;> simp
def qO {α : Type} (f : α → Nat) : List α → Nat
 | [] => 0
 | x :: xs => f x + qO f xs
theorem zCw {α : Type} (f : α → Nat) : ∀ (xs ys : List α),qO f (xs ++ ys) = qO f xs + qO f ys
 | [],ys => by simp [qO]
 | x :: xs,ys => by simp only [List.cons_append,qO,zCw f xs ys]; omega
theorem zGe {α : Type} (f : α → Nat) : ∀ (xs : List α),(∀ x ∈ xs,f x = 0) → qO f xs = 0
 | [],_ => rfl
 | x :: xs,h => by rw [qO,h x (by simp),zGe f xs (fun y hy => h y (by simp [hy]))]
theorem zFn {α : Type} (f : α → Nat) : ∀ (xs : List α) (x : α),x ∈ xs → f x ≤ qO f xs
 | y :: xs,x,h => by
  rcases List.mem_cons.1 h with e | h
  ·subst e; rw [qO]; omega
  ·have := zFn f xs x h; rw [qO]; omega
theorem zHn {α : Type} (f : α → Nat) (xs : List α) (i j : Nat) (hij : i < j) (hj : j < xs.length) : f (xs[i]'(by omega)) + f xs[j] ≤ qO f xs := by
 have e : xs = xs.take j ++ xs.drop j := (List.take_append_drop j xs).symm
 have h1 : f (xs[i]'(by omega)) ≤ qO f (xs.take j) := zFn f _ _ (by
  have : (xs.take j)[i]? = some (xs[i]'(by omega)) := by rw [List.getElem?_take,if_pos hij]; exact List.getElem?_eq_getElem _
  exact List.mem_of_getElem? this)
 have h2 : f xs[j] ≤ qO f (xs.drop j) := zFn f _ _ (List.drop_eq_getElem_cons hj ▸ List.mem_cons_self)
 have h3 := zCw f (xs.take j) (xs.drop j)
 rw [← e] at h3
 omega
theorem zM8 {α : Type} (f : α → Nat) (xs : List α) (k : Nat) (hk : k < xs.length) (h : ∀ j (hj : j < xs.length),j ≠ k → f xs[j] = 0) : qO f xs = f xs[k] := by
 have e : xs = xs.take k ++ xs[k] :: xs.drop (k + 1) := by rw [← List.drop_eq_getElem_cons hk]; exact (List.take_append_drop k xs).symm
 have h1 : qO f (xs.take k) = 0 := zGe f _ fun x hx => by
  obtain ⟨i,hi,rfl⟩ := List.getElem_of_mem hx
  simp only [List.length_take] at hi
  rw [List.getElem_take]
  exact h i (by omega) (by omega)
 have h2 : qO f (xs.drop (k + 1)) = 0 := zGe f _ fun x hx => by
  obtain ⟨i,hi,rfl⟩ := List.getElem_of_mem hx
  simp only [List.length_drop] at hi
  rw [List.getElem_drop]
  exact h _ (by omega) (by omega)
 have h3 := zCw f (xs.take k) (xs[k] :: xs.drop (k + 1))
 rw [← e] at h3
 rw [qO,h1,h2] at h3
 omega
theorem zDl (xs : List Link) (hne : ∀ l ∈ xs,l.A ≠ l.B) : (∀ k (hk : k < xs.length),qO (qV xs[k].A xs[k].P) xs = 1 ∧ qO (qV xs[k].B xs[k].Q) xs = 1) ↔ (∀ k (hk : k < xs.length),(xs.take k).any (zf xs[k].A xs[k].P) = false ∧ (xs.take k).any (zf xs[k].B xs[k].Q) = false) := by
 have own1 : ∀ k (hk : k < xs.length),qV xs[k].A xs[k].P xs[k] = 1 := fun k hk => by
  have := hne xs[k] (List.getElem_mem hk)
  have h2 : (xs[k].B == xs[k].A) = false := by simpa using fun e => this e.symm
  simp [qV,h2]
 have own2 : ∀ k (hk : k < xs.length),qV xs[k].B xs[k].Q xs[k] = 1 := fun k hk => by
  have := hne xs[k] (List.getElem_mem hk)
  have h2 : (xs[k].A == xs[k].B) = false := by simpa using this
  simp [qV,h2]
 constructor
 ·intro h k hk
  have key : ∀ b p,qV b p xs[k] = 1 → qO (qV b p) xs = 1 → (xs.take k).any (zf b p) = false := fun b p h1 h2 => by
   rw [List.any_eq_false]
   intro l hl hu
   obtain ⟨i,hi,rfl⟩ := List.getElem_of_mem hl
   simp only [List.length_take] at hi
   rw [List.getElem_take] at hu
   have := zHn (qV b p) xs i k (by omega) hk
   have := zCc.1 hu
   omega
  exact ⟨key _ _ (own1 k hk) (h k hk).1,key _ _ (own2 k hk) (h k hk).2⟩
 ·intro h k hk
  have key : ∀ b p,qV b p xs[k] = 1 → zf b p xs[k] = true → (xs.take k).any (zf b p) = false → qO (qV b p) xs = 1 := fun b p h1 hu h2 => by
   rw [zM8 (qV b p) xs k hk (fun j hj hjk => ?_),h1]
   rw [List.any_eq_false] at h2
   refine Classical.byContradiction fun hc => ?_
   have hpos := zCc.2 (show 0 < qV b p xs[j] by omega)
   by_cases hlt : j < k
   ·refine h2 xs[j] ?_ hpos
    have : (xs.take k)[j]? = some xs[j] := by rw [List.getElem?_take,if_pos hlt]; exact List.getElem?_eq_getElem _
    exact List.mem_of_getElem? this
   ·have hkj : k < j := by omega
    have hmem : xs[k] ∈ xs.take j := by
     have : (xs.take j)[k]? = some xs[k] := by rw [List.getElem?_take,if_pos hkj]; exact List.getElem?_eq_getElem _
     exact List.mem_of_getElem? this
    have hh := h j hj
    rw [List.any_eq_false,List.any_eq_false] at hh
    rcases qy.1 hpos with ⟨e1,e2⟩ | ⟨e1,e2⟩
    ·exact hh.1 _ hmem (by rw [e1,e2]; exact hu)
    ·exact hh.2 _ hmem (by rw [e1,e2]; exact hu)
  exact ⟨key _ _ (own1 k hk) (qy.2 (.inl ⟨rfl,rfl⟩)) (h k hk).1,key _ _ (own2 k hk) (qy.2 (.inr ⟨rfl,rfl⟩)) (h k hk).2⟩
theorem zEA (n : Nat) (xs : List Link) (b p : Int) (h : xs.length ≤ 1048600) : ∀ (m k : Nat),k ≤ xs.length → xs.length < m + k → Zr n m xs b p k = some (if (xs.drop k).any (zf b p) then .inr true else .inl ())
 | 0,k,h1,h2 => by omega
 | m + 1,k,h1,h2 => by
  rw [Zr]
  by_cases hk : k < xs.length
  ·have ih := zEA n xs b p h m (k + 1) (by omega) (by omega)
   rw [zh hk,cond_true,zC hk,Option.bind_some,zK (by omega : k ≤ 1099511627776),ih,List.drop_eq_getElem_cons hk,List.any_cons]
   unfold zf
   cases xs[k].A == b <;> cases xs[k].P == p <;> cases xs[k].B == b <;> cases xs[k].Q == p <;> rfl
  ·have he : k = xs.length := by omega
   subst he
   rw [zY]; simp
theorem zE7 (n : Nat) (xs : List Link) (b p : Int) (h : xs.length ≤ 1048600) (hn : xs.length < n) : J1 n xs b p = some (xs.any (zf b p)) := by
 unfold J1
 rw [show Zr n n xs b p 0 = _ from zEA n xs b p h n 0 (by omega) (by omega),List.drop_zero]
 cases xs.any (zf b p) <;> rfl
theorem zCY (n : Nat) (x : Net) (b p : Int) (h : x.Ls.length ≤ 1048600) : ∀ (m k c : Nat),k ≤ x.Ls.length → x.Ls.length < m + k → c ≤ 2 * k → q5 n m x b p k c = some (.inl ((c + qO (qV b p) (x.Ls.drop k) : Nat) : Int))
 | 0,k,c,h1,h2,h3 => by omega
 | m + 1,k,c,h1,h2,h3 => by
  rw [q5]
  by_cases hk : k < x.Ls.length
  ·have ih := fun c' h3' => zCY n x b p h m (k + 1) c' (by omega) (by omega) h3'
   have hw : ∀ z : Nat,z ≤ 4194304 → IntKind.wrap .i64 ((z : Int) + 1) = ((z + 1 : Nat) : Int) := fun z hz => zK (by omega)
   rw [zh hk,cond_true,zC hk,Option.bind_some,List.drop_eq_getElem_cons hk,qO]
   simp only [Qy,hw k (by omega),hw c (by omega)]
   have hw2 := hw (c + 1) (by omega)
   simp only [hw2]
   unfold qV
   generalize (x.Ls[k].A == b) = qA
   generalize (x.Ls[k].P == p) = qP
   generalize (x.Ls[k].B == b) = qB
   generalize (x.Ls[k].Q == p) = qQ
   have z0 := ih c (by omega)
   have z1 := ih (c + 1) (by omega)
   have z2 := ih (c + 1 + 1) (by omega)
   unfold qV at z0 z1 z2
   cases qA <;> cases qP <;> cases qB <;> cases qQ <;> simp only [cond_true,cond_false,Bool.and_true,Bool.and_false,Bool.true_and,Bool.false_and,Nat.zero_add,Nat.add_zero,z0,z1,z2] <;> simp only [Nat.add_assoc,Nat.reduceAdd]
  ·have he : k = x.Ls.length := by omega
   subst he
   rw [zY]; simp [qO]
theorem Ye (n : Nat) (x : Net) (b p : Int) (h : x.Ls.length ≤ 1048600) (hn : x.Ls.length < n) : Zz n x b p = some ((qO (qV b p) x.Ls : Nat) : Int) := by
 unfold Zz
 rw [show q5 n n x b p 0 0 = _ from zCY n x b p h n 0 0 (by omega) (by omega) (by omega),List.drop_zero,Nat.zero_add]
 rfl
theorem zHo {b p : Int} : ∀ {xs : List Link},(qO (qV b p) xs = 0 ↔ xs.any (zf b p) = false)
 | [] => by simp [qO]
 | l :: xs => by
  have ih := zHo (b := b) (p := p) (xs := xs)
  have h := zCc (b := b) (p := p) (l := l)
  rw [qO,List.any_cons,Bool.or_eq_false_iff,← ih]
  cases hu : zf b p l with
  | true => have := h.1 hu; constructor <;> intro h' <;> first | omega | (exact absurd h'.1 (by simp))
  | false =>
   have : qV b p l = 0 := by
    refine Classical.byContradiction fun hc => ?_
    have := h.2 (by omega)
    rw [hu] at this; cases this
   constructor
   ·intro h'; exact ⟨rfl,by omega⟩
   ·intro h'; omega
theorem Zk {α : Type} {L : Nat → Int → Option (α ⊕ Bool)} {N : Nat} {P : Nat → Prop} (hs : ∀ m (k : Nat),k < N → (P k ∧ L (m + 1) (k : Int) = L m ((k + 1 : Nat) : Int)) ∨ (¬ P k ∧ L (m + 1) (k : Int) = some (.inr false))) (he : ∀ m,∃ a,L (m + 1) (N : Int) = some (.inl a)) :
  ∀ (m k : Nat),k ≤ N → N < m + k → (∃ a,L m (k : Int) = some (.inl a) ∧ ∀ j,k ≤ j → j < N → P j) ∨ (L m (k : Int) = some (.inr false) ∧ ¬ ∀ j,k ≤ j → j < N → P j)
 | 0,k,h1,h2 => by omega
 | m + 1,k,h1,h2 => by
  by_cases hk : k < N
  ·rcases hs m k hk with ⟨hp,e⟩ | ⟨hp,e⟩
   ·rcases Zk hs he m (k + 1) (by omega) (by omega) with ⟨a,h3,h4⟩ | ⟨h3,h4⟩
    ·refine .inl ⟨a,e.trans h3,fun j hj hj2 => ?_⟩
     by_cases hjk : j = k
     ·subst hjk; exact hp
     ·exact h4 j (by omega) hj2
    ·exact .inr ⟨e.trans h3,fun h => h4 fun j hj hj2 => h j (by omega) hj2⟩
   ·exact .inr ⟨e,fun h => hp (h k (Nat.le_refl _) hk)⟩
  ·have : k = N := by omega
   subst this
   obtain ⟨a,ha⟩ := he m
   exact .inl ⟨a,ha,fun j hj hj2 => by omega⟩
def BOk (n : Nat) (x : Net) (k : Nat) : Prop := ∀ hk : k < x.Bs.length,zR n x.Bs[k] = some true ∧ (∀ j (hj : j < k),(x.Bs[j]'(by omega)).Id ≠ x.Bs[k].Id) ∧ ∀ p (hp : p < x.Bs[k].Ps.length),x.Bs[k].Ps[p].Has = true → x.Ls.any (zf k p) = true
theorem zI9 {x : Net} (wx : x.wf) {k : Nat} (hk : k < x.Bs.length) : x.Bs[k].wf := wx.1.2 _ (List.getElem_mem hk)
def zj (x : Net) (b p : Int) : Option Pt := (idx x.Bs b).bind fun v => idx v.Ps p
theorem zB3 {α : Type} {xs : List α} {i : Int} : (∃ v,idx xs i = some v) ↔ 0 ≤ i ∧ i < xs.length := by
 constructor
 ·rintro ⟨v,hv⟩; exact Yb hv
 ·intro h
  obtain ⟨j,rfl⟩ := Int.eq_ofNat_of_zero_le h.1
  exact ⟨_,zC (by omega)⟩
theorem zCn {α : Type} {xs : List α} {i : Int} (h : ¬ (0 ≤ i ∧ i < xs.length)) : idx xs i = none := by
 cases hc : idx xs i with
 | none => rfl
 | some v => exact absurd (Yb hc) h
def LOk (x : Net) (l : Link) : Prop := l.A ≠ l.B ∧ ∃ p q,zj x l.A l.P = some p ∧ zj x l.B l.Q = some q ∧ p.Up = q.Up
theorem YG {x : Net} {b p : Int} {q : Pt} (h : zj x b p = some q) : ∃ v,idx x.Bs b = some v ∧ idx v.Ps p = some q := by
 unfold zj at h
 exact bind_some h
theorem zHR {α β : Type} {L : Nat → Int → List α → Option (List α ⊕ β)} {f : α → Option α} (xs : List α) (hx : xs.length ≤ 268435455) (hf : ∀ v ∈ xs,f v = some v)
  (h : ∀ m k acc,L (m + 1) k acc = bif decide (k < (xs.length : Int)) then (idx xs k).bind fun v => (f v).bind fun r => bif decide (acc.length + [r].length ≤ 268435456) then L m (IntKind.wrap .i64 (k + 1)) (acc ++ [r]) else none else some (.inl acc)) : ∀ (m k : Nat),k ≤ xs.length → xs.length < m + k → L m k (xs.take k) = some (.inl xs)
 | 0,k,h1,h2 => by omega
 | m + 1,k,h1,h2 => by
  rw [h]
  by_cases hk : k < xs.length
  ·rw [zh hk,cond_true,zC hk,Option.bind_some,hf _ (List.getElem_mem hk),Option.bind_some,decide_eq_true (by simp; omega),cond_true,zK (by omega),show xs.take k ++ [xs[k]] = xs.take (k + 1) by rw [List.take_add_one,List.getElem?_eq_getElem hk]; rfl]
   exact zHR xs hx hf h m (k + 1) (by omega) (by omega)
  ·have he : k = xs.length := by omega
   subst he
   rw [zY,cond_false,List.take_length]
theorem zHk (n : Nat) (x : Net) (h : x.sz ≤ 268435455) (hn : x.sz < n) : zAD n x = some x := by
 have hs : (x.Bs.length + zAV zA.sz x.Bs) + x.Ls.length + x.Said.length = x.sz := rfl
 have := zHR (L := fun m k acc => QL n m x k acc) (f := QY n) x.Bs (by omega) (fun v hv => by have := zDP (sz := zA.sz) hv; exact Yt n v (by omega)) (fun m k acc => by rw [QL]) n 0 (by omega) (by omega)
 unfold zAD
 rw [decide_eq_true (by simp; omega),decide_eq_true (by simp; omega),cond_true,cond_true,show QL n n x 0 [] = _ from this]
 rfl
theorem zBp (n : Nat) (x : Net) (h : x.sz ≤ 268435455) (hn : x.sz < n) : YZ n x = some x := by
 have hs : (x.Bs.length + zAV zA.sz x.Bs) + x.Ls.length + x.Said.length = x.sz := rfl
 have := zHR (L := fun m k acc => QK n m x k acc) (f := ZT n) x.Bs (by omega) (fun v hv => by have := zDP (sz := zA.sz) hv; exact YC n v (by omega)) (fun m k acc => by rw [QK]) n 0 (by omega) (by omega)
 unfold YZ
 rw [decide_eq_true (by simp; omega),decide_eq_true (by simp; omega),cond_true,cond_true,show QK n n x 0 [] = _ from this]
 rfl
theorem zFF (n : Nat) (v : Vec) (h : zm n v = some true) : v.wf := by
 unfold zm at h
 simp only [zL,Option.bind_some] at h
 cases h1 : (decide (1 ≤ v.Root) && decide (v.Root ≤ 99)) with
 | false => rw [h1] at h; cases h
 | true =>
  cases h2 : (decide (0 ≤ v.Co) && decide (v.Co ≤ 100000)) with
  | false => rw [h1,h2] at h; cases h
  | true =>
   cases h3 : (decide (0 ≤ v.Hops) && decide (v.Hops ≤ 10)) with
   | false => rw [h1,h2,h3] at h; cases h
   | true =>
    cases h4 : (decide (1 ≤ v.Bridge) && decide (v.Bridge ≤ 99)) with
    | false => rw [h1,h2,h3,h4] at h; cases h
    | true =>
     rw [h1,h2,h3,h4] at h
     simp only [cond_true,Option.some.injEq,Bool.and_eq_true,decide_eq_true_eq] at h h1 h2 h3 h4
     exact ⟨zq (by omega) (by omega),zq (by omega) (by omega),zq (by omega) (by omega),zq (by omega) (by omega),zq (by omega) (by omega),trivial⟩
def HB (x : Net) (ys : List zA) : Prop := ys.length = x.Bs.length ∧ (∀ v ∈ ys,v.wf) ∧ zAV zA.sz ys ≤ zAV zA.sz x.Bs
theorem HB.self {x : Net} (wx : x.wf) : HB x x.Bs := ⟨rfl,wx.1.2,Nat.le_refl _⟩
def Big (x : Net) : Prop := x.Bs.length ≤ 1048576 ∧ (∀ a ∈ x.Bs,a.sz ≤ 1048576) ∧ x.Ls.length ≤ 1048576 ∧ x.Said.length ≤ 1048576
theorem zEJ (n : Nat) (x : Net) (wx : x.wf) (h : Big x) (hn : 1048700 < n) (m k : Nat) (hk : k < x.Bs.length) : (BOk n x k ∧ zl n (m + 1) x k = zl n m x ((k + 1 : Nat) : Int)) ∨ (¬ BOk n x k ∧ zl n (m + 1) x k = some (.inr false)) := by
 have ⟨hl1,hl2,hl3,hl4⟩ := h
 have hps := hl2 _ (List.getElem_mem hk)
 have hs2 : x.Bs[k].Name.size + x.Bs[k].Ps.length + x.Bs[k].F.length + x.Bs[k].V.sz = x.Bs[k].sz := rfl
 obtain ⟨b,hb,_⟩ := QP n x.Bs[k] (zI9 wx hk) (by omega) (by omega)
 rw [zl,zh hk,cond_true,zC hk,Option.bind_some,hb,Option.bind_some]
 cases b with
 | false => exact .inr ⟨fun hc => absurd ((hc hk).1.symm.trans hb) (by simp),rfl⟩
 | true =>
  simp only [Bool.not_true,cond_false]
  have h6 := Zk (L := fun m j => qz n m x k j) (N := k) (P := fun j => ∀ hj : j < k,(x.Bs[j]'(by omega)).Id ≠ x.Bs[k].Id) (fun m j hj => by
   simp only [qz]
   rw [zh hj,cond_true,zC (show j < x.Bs.length by omega),Option.bind_some,zC hk,Option.bind_some,zK (by omega : j ≤ 1099511627776)]
   by_cases he : (x.Bs[j]'(by omega)).Id = x.Bs[k].Id
   ·exact .inr ⟨fun hc => hc hj he,by rw [show ((x.Bs[j]'(by omega)).Id == x.Bs[k].Id) = true from by simpa using he]; rfl⟩
   ·exact .inl ⟨fun _ => he,by rw [show ((x.Bs[j]'(by omega)).Id == x.Bs[k].Id) = false from by simpa using he]; rfl⟩) (fun m => ⟨_,by simp only [qz]; rw [zY]; rfl⟩) n 0 (by omega) (by omega)
  rcases h6 with ⟨_,e6,p6⟩ | ⟨e6,p6⟩
  ·rw [show qz n n x k 0 = _ from e6,Option.bind_some]
   simp only [YP]
   have h5 := Zk (L := fun m j => qk n m x k j) (N := x.Bs[k].Ps.length) (P := fun j => ∀ hp : j < x.Bs[k].Ps.length,x.Bs[k].Ps[j].Has = true → x.Ls.any (zf k j) = true) (fun m j hj => by
    simp only [qk]
    rw [zC hk,Option.bind_some,zh hj,cond_true,Option.bind_some,zC hj,Option.bind_some,zK (by omega : j ≤ 1099511627776)]
    cases hh : x.Bs[k].Ps[j].Has with
    | false => exact .inl ⟨fun _ hc => absurd (hh.symm.trans hc) (by simp),rfl⟩
    | true =>
     rw [cond_true,Ye n x k j (by omega) (by omega),Option.bind_some]
     cases hu : x.Ls.any (zf k j) with
     | false => exact .inr ⟨fun hc => absurd (hc hj hh) (by simp),by rw [zHo.2 hu]; rfl⟩
     | true =>
      have : qO (qV k j) x.Ls ≠ 0 := fun e => by rw [zHo.1 e] at hu; cases hu
      exact .inl ⟨fun _ _ => rfl,by rw [show (((qO (qV k j) x.Ls : Nat) : Int) == 0) = false from by simpa using this]; rfl⟩) (fun m => ⟨_,by simp only [qk]; rw [zC hk,Option.bind_some,zY]; rfl⟩) n 0 (by omega) (by omega)
   rcases h5 with ⟨a,e5,p5⟩ | ⟨e5,p5⟩
   ·rw [show qk n n x k 0 = _ from e5,Option.bind_some]
    refine .inl ⟨fun _ => ⟨hb,fun j hj => p6 j (by omega) hj hj,fun p hp => p5 p (by omega) hp hp⟩,?_⟩
    simp only [YQ,zK (by omega : k ≤ 1099511627776)]
   ·rw [show qk n n x k 0 = _ from e5,Option.bind_some]
    exact .inr ⟨fun hc => p5 fun j _ hj2 _ => (hc hk).2.2 j hj2,rfl⟩
  ·rw [show qz n n x k 0 = _ from e6,Option.bind_some]
   exact .inr ⟨fun hc => p6 fun j _ hj2 _ => (hc hk).2.1 j hj2,rfl⟩
theorem zCM (n : Nat) (x : Net) (wx : x.wf) (h : Big x) (hn : 1048700 < n) (m k : Nat) (hk : k < x.Bs.length) : (BOk n x k ∧ qH n (m + 1) x k = qH n m x ((k + 1 : Nat) : Int)) ∨ (¬ BOk n x k ∧ qH n (m + 1) x k = some (.inr false)) := by
 have ⟨hl1,hl2,hl3,hl4⟩ := h
 have hps := hl2 _ (List.getElem_mem hk)
 have hs2 : x.Bs[k].Name.size + x.Bs[k].Ps.length + x.Bs[k].F.length + x.Bs[k].V.sz = x.Bs[k].sz := rfl
 obtain ⟨b,hb,hb2⟩ := QP n x.Bs[k] (zI9 wx hk) (by omega) (by omega)
 have hg : (decide ((0 : Int) ≤ 0) && (decide ((0 : Int) ≤ (k : Int)) && decide ((k : Int) ≤ (x.Bs.length : Int)))) = true := by
  rw [decide_eq_true (by omega),decide_eq_true (by omega),decide_eq_true (by omega)]; rfl
 rw [qH,zh hk,cond_true,zC hk,Option.bind_some,hb2,Option.bind_some]
 cases b with
 | false => exact .inr ⟨fun hc => absurd ((hc hk).1.symm.trans hb) (by simp),rfl⟩
 | true =>
  simp only [Bool.not_true,cond_false,hg,cond_true]
  have ht : (x.Bs.drop ((0 : Int)).toNat).take (((k : Int)).toNat - ((0 : Int)).toNat) = x.Bs.take k := by simp
  have hl : (x.Bs.take k).length = k := by simp; omega
  have h8 := Zk (L := fun m j => Zu n m x.Bs[k] x k j) (N := k) (P := fun j => ∀ hj : j < k,(x.Bs[j]'(by omega)).Id ≠ x.Bs[k].Id) (fun m j hj => by
   simp only [Zu,ht]
   rw [hl,zh hj,cond_true,zC (show j < (x.Bs.take k).length by omega),Option.bind_some,List.getElem_take,zK (by omega : j ≤ 1099511627776)]
   by_cases he : (x.Bs[j]'(by omega)).Id = x.Bs[k].Id
   ·exact .inr ⟨fun hc => hc hj he,by rw [show ((x.Bs[j]'(by omega)).Id == x.Bs[k].Id) = true from by simpa using he]; rfl⟩
   ·exact .inl ⟨fun _ => he,by rw [show ((x.Bs[j]'(by omega)).Id == x.Bs[k].Id) = false from by simpa using he]; rfl⟩) (fun m => ⟨_,by simp only [Zu,ht]; rw [hl,zY]; rfl⟩) n 0 (by omega) (by omega)
  rcases h8 with ⟨a1,e8,p8⟩ | ⟨e8,p8⟩
  ·rw [show Zu n n x.Bs[k] x k 0 = _ from e8,Option.bind_some]
   simp only [J9]
   have h7 := Zk (L := fun m j => ZV n m x.Bs[k] x k j) (N := x.Bs[k].Ps.length) (P := fun j => ∀ hp : j < x.Bs[k].Ps.length,x.Bs[k].Ps[j].Has = true → x.Ls.any (zf k j) = true) (fun m j hj => by
    simp only [ZV]
    rw [zh hj,cond_true,zC hj,Option.bind_some,zK (by omega : j ≤ 1099511627776)]
    cases hh : x.Bs[k].Ps[j].Has with
    | false => exact .inl ⟨fun _ hc => absurd (hh.symm.trans hc) (by simp),rfl⟩
    | true =>
     rw [cond_true,zE7 n x.Ls k j (by omega) (by omega),Option.bind_some]
     cases hu : x.Ls.any (zf k j) with
     | false => exact .inr ⟨fun hc => absurd (hc hj hh) (by simp),rfl⟩
     | true => exact .inl ⟨fun _ _ => rfl,rfl⟩) (fun m => ⟨_,by simp only [ZV]; rw [zY]; rfl⟩) n 0 (by omega) (by omega)
   rcases h7 with ⟨a,e7,p7⟩ | ⟨e7,p7⟩
   ·rw [show ZV n n x.Bs[k] x k 0 = _ from e7,Option.bind_some]
    refine .inl ⟨fun _ => ⟨hb,fun j hj => p8 j (by omega) hj hj,fun p hp => p7 p (by omega) hp hp⟩,?_⟩
    simp only [zAA,zK (by omega : k ≤ 1099511627776)]
   ·rw [show ZV n n x.Bs[k] x k 0 = _ from e7,Option.bind_some]
    exact .inr ⟨fun hc => p7 fun j _ hj2 _ => (hc hk).2.2 j hj2,rfl⟩
  ·rw [show Zu n n x.Bs[k] x k 0 = _ from e8,Option.bind_some]
   exact .inr ⟨fun hc => p8 fun j _ hj2 _ => (hc hk).2.1 j hj2,rfl⟩
theorem zBx (n : Nat) (x : Net) (wx : x.wf) (h : Big x) (hn : 1048700 < n) : ∃ b,Yv n x = some b ∧ (b = true ↔ (∀ k,k < x.Bs.length → BOk n x k) ∧ 1 ≤ x.Bs.length ∧ x.Bs.length ≤ 6) := by
 have ⟨hl1,hl2,hl3,hl4⟩ := h
 unfold Yv
 rcases Zk (L := fun m k => zl n m x k) (N := x.Bs.length) (P := BOk n x) (fun m k hk => zEJ n x wx h hn m k hk) (fun m => ⟨(),by simp only [zl]; rw [zY]; rfl⟩) n 0 (by omega) (by omega) with ⟨a,e,p⟩ | ⟨e,p⟩
 ·rw [show zl n n x 0 = _ from e,Option.bind_some]
  simp only [YO,zL,Option.bind_some]
  refine ⟨_,rfl,?_⟩
  rw [Bool.and_eq_true,decide_eq_true_eq,decide_eq_true_eq]
  exact ⟨fun hc => ⟨fun k hk => p k (by omega) hk,by omega,by omega⟩,fun hc => ⟨by omega,by omega⟩⟩
 ·rw [show zl n n x 0 = _ from e,Option.bind_some]
  exact ⟨false,rfl,⟨fun hc => (by cases hc),fun hc => absurd (fun k _ hk => hc.1 k hk) p⟩⟩
theorem zDa (n : Nat) (x : Net) (h : Big x) (b p : Int) : ZM n x b p = some (match zj x b p with | some q => (q,true) | none => (⟨false,0,false,⟨0,0,0,0,0⟩⟩,false)) := by
 have ⟨hl1,hl2,hl3,hl4⟩ := h
 unfold ZM zj
 rw [qW,QR n b _ (show x.Bs.length ≤ 1048600 by omega),Option.bind_some]
 by_cases hb : 0 ≤ b ∧ b < x.Bs.length
 ·obtain ⟨v,hv⟩ := zB3.2 hb
  have := hl2 _ (List.mem_of_getElem? (zO hv).2)
  have hs2 : v.Name.size + v.Ps.length + v.F.length + v.V.sz = v.sz := rfl
  rw [decide_eq_true hb,hv]
  simp only [Bool.not_true,cond_false,cond_true,Option.bind_some,QR n p _ (show v.Ps.length ≤ 1048600 by omega)]
  by_cases hp : 0 ≤ p ∧ p < v.Ps.length
  ·obtain ⟨q,hq⟩ := zB3.2 hp
   simp [hp,hq,hv]
  ·simp [hp,zCn hp]
 ·simp [hb,zCn hb]
theorem zDf (n : Nat) (x : Net) (h : Big x) (hn : 1048700 < n) (b p : Int) : Jn n x b p = some (match zj x b p with | some q => decide (qO (qV b p) x.Ls = 1) | none => false) := by
 have ⟨hl1,hl2,hl3,hl4⟩ := h
 unfold Jn zj
 rw [QR n b _ (show x.Bs.length ≤ 1048600 by omega),Option.bind_some]
 by_cases hb : 0 ≤ b ∧ b < x.Bs.length
 ·obtain ⟨v,hv⟩ := zB3.2 hb
  have := hl2 _ (List.mem_of_getElem? (zO hv).2)
  have hs2 : v.Name.size + v.Ps.length + v.F.length + v.V.sz = v.sz := rfl
  rw [decide_eq_true hb,hv]
  simp only [cond_true,Option.bind_some,QR n p _ (show v.Ps.length ≤ 1048600 by omega)]
  by_cases hp : 0 ≤ p ∧ p < v.Ps.length
  ·obtain ⟨q,hq⟩ := zB3.2 hp
   rw [decide_eq_true hp,hq,cond_true,Ye n x b p (by omega) (by omega),Option.bind_some]
   by_cases h1 : qO (qV b p) x.Ls = 1
   ·simp [h1]
   ·have : ((qO (qV b p) x.Ls : Nat) : Int) ≠ 1 := by omega
    simp [h1,this]
  ·simp [hp,zCn hp]
 ·simp [hb,zCn hb]
theorem zCS (n : Nat) (x : Net) (h : Big x) (hn : 1048700 < n) (m k : Nat) (hk : k < x.Ls.length) :
  ((∀ hk : k < x.Ls.length,LOk x x.Ls[k] ∧ qO (qV x.Ls[k].A x.Ls[k].P) x.Ls = 1 ∧ qO (qV x.Ls[k].B x.Ls[k].Q) x.Ls = 1) ∧ qg n (m + 1) x k = qg n m x ((k + 1 : Nat) : Int)) ∨
  (¬ (∀ hk : k < x.Ls.length,LOk x x.Ls[k] ∧ qO (qV x.Ls[k].A x.Ls[k].P) x.Ls = 1 ∧ qO (qV x.Ls[k].B x.Ls[k].Q) x.Ls = 1) ∧ qg n (m + 1) x k = some (.inr false)) := by
 have ⟨hl1,hl2,hl3,hl4⟩ := h
 rw [qg,zh hk,cond_true,zC hk,Option.bind_some,zDf n x h hn,zDf n x h hn,zK (by omega : k ≤ 1099511627776)]
 by_cases hab : x.Ls[k].A = x.Ls[k].B
 ·exact .inr ⟨fun hc => (hc hk).1.1 (hab),by rw [show (x.Ls[k].A == x.Ls[k].B) = true from by simpa using hab]; rfl⟩
 ·rw [show (x.Ls[k].A == x.Ls[k].B) = false from by simpa using hab]
  simp only [cond_false,Option.bind_some]
  cases hp : zj x x.Ls[k].A x.Ls[k].P with
  | none => exact .inr ⟨fun hc => (by obtain ⟨p,q,e,_⟩ := (hc hk).1.2; rw [hp] at e; cases e),rfl⟩
  | some p =>
   by_cases h1 : qO (qV x.Ls[k].A x.Ls[k].P) x.Ls = 1
   ·simp only [decide_eq_true h1,Bool.not_true,cond_false]
    cases hq : zj x x.Ls[k].B x.Ls[k].Q with
    | none => exact .inr ⟨fun hc => (by obtain ⟨p,q,_,e,_⟩ := (hc hk).1.2; rw [hq] at e; cases e),rfl⟩
    | some q =>
     by_cases h2 : qO (qV x.Ls[k].B x.Ls[k].Q) x.Ls = 1
     ·obtain ⟨v,v1,v2⟩ := YG hp
      obtain ⟨u,u1,u2⟩ := YG hq
      simp only [decide_eq_true h2,Bool.not_true,cond_false,v1,v2,u1,u2,Option.bind_some]
      by_cases h3 : p.Up = q.Up
      ·exact .inl ⟨fun _ => ⟨⟨hab,p,q,hp,hq,h3⟩,h1,h2⟩,by rw [h3]; simp⟩
      ·refine .inr ⟨fun hc => ?_,by rw [show (p.Up == q.Up) = false from by simpa using h3]; rfl⟩
       obtain ⟨p',q',e1,e2,e3⟩ := (hc hk).1.2
       rw [hp] at e1; rw [hq] at e2
       cases e1; cases e2; exact h3 e3
     ·exact .inr ⟨fun hc => h2 (hc hk).2.2,by simp only [decide_eq_false h2]; rfl⟩
   ·exact .inr ⟨fun hc => h1 (hc hk).2.1,by simp only [decide_eq_false h1]; rfl⟩
theorem zBu (n : Nat) (x : Net) (h : Big x) (hn : 1048700 < n) (m k : Nat) (hk : k < x.Ls.length) :
  ((∀ hk : k < x.Ls.length,k < 9 ∧ LOk x x.Ls[k] ∧ (x.Ls.take k).any (zf x.Ls[k].A x.Ls[k].P) = false ∧ (x.Ls.take k).any (zf x.Ls[k].B x.Ls[k].Q) = false) ∧ qR n (m + 1) x k = qR n m x ((k + 1 : Nat) : Int)) ∨
  (¬ (∀ hk : k < x.Ls.length,k < 9 ∧ LOk x x.Ls[k] ∧ (x.Ls.take k).any (zf x.Ls[k].A x.Ls[k].P) = false ∧ (x.Ls.take k).any (zf x.Ls[k].B x.Ls[k].Q) = false) ∧ qR n (m + 1) x k = some (.inr false)) := by
 have ⟨hl1,hl2,hl3,hl4⟩ := h
 have hg : (decide ((0 : Int) ≤ 0) && (decide ((0 : Int) ≤ (k : Int)) && decide ((k : Int) ≤ (x.Ls.length : Int)))) = true := by
  rw [decide_eq_true (by omega),decide_eq_true (by omega),decide_eq_true (by omega)]; rfl
 have ht : (x.Ls.drop ((0 : Int)).toNat).take (((k : Int)).toNat - ((0 : Int)).toNat) = x.Ls.take k := by simp
 have hlen : (x.Ls.take k).length ≤ 1048600 := by simp; omega
 rw [qR,zh hk,cond_true,zC hk,Option.bind_some,zDa n x h,Option.bind_some,zDa n x h,Option.bind_some]
 simp only [hg,cond_true,ht,zE7 n (x.Ls.take k) _ _ hlen (by omega),Option.bind_some,zK (by omega : k ≤ 1099511627776)]
 by_cases h9 : k < 9
 ·rw [decide_eq_false (show ¬ ((k : Nat) : Int) ≥ 9 by omega),cond_false]
  cases hp : zj x x.Ls[k].A x.Ls[k].P with
  | none => exact .inr ⟨fun hc => (by obtain ⟨p,q,e,_⟩ := (hc hk).2.1.2; rw [hp] at e; cases e),rfl⟩
  | some p =>
   cases hq : zj x x.Ls[k].B x.Ls[k].Q with
   | none => exact .inr ⟨fun hc => (by obtain ⟨p,q,_,e,_⟩ := (hc hk).2.1.2; rw [hq] at e; cases e),rfl⟩
   | some q =>
    simp only [Bool.not_true,cond_false]
    by_cases hab : x.Ls[k].A = x.Ls[k].B
    ·exact .inr ⟨fun hc => (hc hk).2.1.1 (hab),by rw [show (x.Ls[k].A == x.Ls[k].B) = true from by simpa using hab]; rfl⟩
    ·rw [show (x.Ls[k].A == x.Ls[k].B) = false from by simpa using hab,cond_false]
     by_cases h3 : p.Up = q.Up
     ·rw [show (!(p.Up == q.Up)) = false from by simp [h3],cond_false]
      cases h1 : (x.Ls.take k).any (zf x.Ls[k].A x.Ls[k].P) with
      | true => exact .inr ⟨fun hc => (by have := (hc hk).2.2.1; rw [h1] at this; cases this),rfl⟩
      | false =>
       cases h2 : (x.Ls.take k).any (zf x.Ls[k].B x.Ls[k].Q) with
       | true => exact .inr ⟨fun hc => (by have := (hc hk).2.2.2; rw [h2] at this; cases this),rfl⟩
       | false => exact .inl ⟨fun _ => ⟨h9,⟨hab,p,q,hp,hq,h3⟩,h1,h2⟩,rfl⟩
     ·refine .inr ⟨fun hc => ?_,by rw [show (p.Up == q.Up) = false from by simpa using h3]; rfl⟩
      obtain ⟨p',q',e1,e2,e3⟩ := (hc hk).2.1.2
      rw [hp] at e1; rw [hq] at e2
      cases e1; cases e2; exact h3 e3
 ·exact .inr ⟨fun hc => h9 (hc hk).1,by rw [decide_eq_true (show ((k : Nat) : Int) ≥ 9 by omega)]; rfl⟩
def zF2 (n : Nat) (x : Net) : Prop := (∀ k,k < x.Bs.length → BOk n x k) ∧ (1 ≤ x.Bs.length ∧ x.Bs.length ≤ 6) ∧ x.Ls.length ≤ 9 ∧ x.Said.length ≤ 40 ∧ ∀ k (hk : k < x.Ls.length),LOk x x.Ls[k] ∧ qO (qV x.Ls[k].A x.Ls[k].P) x.Ls = 1 ∧ qO (qV x.Ls[k].B x.Ls[k].Q) x.Ls = 1
theorem zG0 (n : Nat) (x : Net) (wx : x.wf) (h : Big x) (hn : 1048700 < n) : ∃ b,Zv n x = some b ∧ QQ n x = some b ∧ (b = true → zF2 n x) ∧ (x.Said = [] → zF2 n x → b = true) := by
 have ⟨hl1,hl2,hl3,hl4⟩ := h
 obtain ⟨bB,eB,iB⟩ := zBx n x wx h hn
 have hsaid : ∃ bS : Bool,(∃ o,qL n n x 0 = some o ∧ qU n n x 0 = some o ∧ (o = .inl () ∧ bS = true ∨ o = .inr false ∧ bS = false)) := by
  have step : ∀ m (k : Nat),k < x.Said.length → ∃ b : Bool,qL n (m + 1) x k = (bif b then qL n m x ((k + 1 : Nat) : Int) else some (.inr false)) ∧ qU n (m + 1) x k = (bif b then qU n m x ((k + 1 : Nat) : Int) else some (.inr false)) := fun m k hk => by
   obtain ⟨c,hc⟩ := JH n x.Said[k].V
   rw [qL,qU,zh hk,zC hk]
   simp only [cond_true,Option.bind_some,qW,QR n _ _ (show x.Ls.length ≤ 1048600 by omega),zAy,hc,zK (by omega : k ≤ 1099511627776)]
   by_cases hr : 0 ≤ x.Said[k].Link ∧ x.Said[k].Link < x.Ls.length
   ·rw [decide_eq_true hr]
    cases c with
    | false => exact ⟨false,rfl,rfl⟩
    | true => exact ⟨true,rfl,rfl⟩
   ·rw [decide_eq_false hr]; exact ⟨false,rfl,rfl⟩
  have all : ∀ (m k : Nat),k ≤ x.Said.length → x.Said.length < m + k → ∃ o,qL n m x k = some o ∧ qU n m x k = some o ∧ (o = .inl () ∨ o = .inr false) := by
   intro m
   induction m with
   | zero => intro k h1 h2; omega
   | succ m ih =>
    intro k h1 h2
    by_cases hk : k < x.Said.length
    ·obtain ⟨b,e1,e2⟩ := step m k hk
     rw [e1,e2]
     cases b with
     | true => exact ih (k + 1) (by omega) (by omega)
     | false => exact ⟨_,rfl,rfl,.inr rfl⟩
    ·have he : k = x.Said.length := by omega
     subst he
     rw [qL,qU,zY]
     exact ⟨_,rfl,rfl,.inl rfl⟩
  obtain ⟨o,e1,e2,e3⟩ := all n 0 (by omega) (by omega)
  rcases e3 with e3 | e3
  ·exact ⟨true,o,e1,e2,.inl ⟨e3,rfl⟩⟩
  ·exact ⟨false,o,e1,e2,.inr ⟨e3,rfl⟩⟩
 obtain ⟨bS,oS,s1,s2,s3⟩ := hsaid
 have s1' : qL n n x 0 = some oS := s1
 have s2' : qU n n x 0 = some oS := s2
 have l4 := Zk (L := fun m k => qg n m x k) (N := x.Ls.length) (P := fun k => ∀ hk : k < x.Ls.length,LOk x x.Ls[k] ∧ qO (qV x.Ls[k].A x.Ls[k].P) x.Ls = 1 ∧ qO (qV x.Ls[k].B x.Ls[k].Q) x.Ls = 1) (fun m k hk => zCS n x h hn m k hk) (fun m => ⟨(),by simp only [qg]; rw [zY]; rfl⟩) n 0 (by omega) (by omega)
 have l2 := Zk (L := fun m k => qR n m x k) (N := x.Ls.length) (P := fun k => ∀ hk : k < x.Ls.length,k < 9 ∧ LOk x x.Ls[k] ∧ (x.Ls.take k).any (zf x.Ls[k].A x.Ls[k].P) = false ∧ (x.Ls.take k).any (zf x.Ls[k].B x.Ls[k].Q) = false) (fun m k hk => zBu n x h hn m k hk) (fun m => ⟨(),by simp only [qR]; rw [zY]; rfl⟩) n 0 (by omega) (by omega)
 have lB := Zk (L := fun m k => qH n m x k) (N := x.Bs.length) (P := BOk n x) (fun m k hk => zCM n x wx h hn m k hk) (fun m => ⟨(),by simp only [qH]; rw [zY]; rfl⟩) n 0 (by omega) (by omega)
 have hiff : (x.Ls.length ≤ 9 ∧ ∀ j,0 ≤ j → j < x.Ls.length → ∀ hk : j < x.Ls.length,LOk x x.Ls[j] ∧ qO (qV x.Ls[j].A x.Ls[j].P) x.Ls = 1 ∧ qO (qV x.Ls[j].B x.Ls[j].Q) x.Ls = 1) ↔
   (∀ j,0 ≤ j → j < x.Ls.length → ∀ hk : j < x.Ls.length,j < 9 ∧ LOk x x.Ls[j] ∧ (x.Ls.take j).any (zf x.Ls[j].A x.Ls[j].P) = false ∧ (x.Ls.take j).any (zf x.Ls[j].B x.Ls[j].Q) = false) := by
  constructor
  ·rintro ⟨h9,hc⟩ j _ hj hj'
   have hne : ∀ l ∈ x.Ls,l.A ≠ l.B := fun l hl => by
    obtain ⟨i,hi,rfl⟩ := List.getElem_of_mem hl
    exact (hc i (by omega) hi hi).1.1
   exact ⟨by omega,(hc j (by omega) hj hj).1,(zDl x.Ls hne).1 (fun k hk => (hc k (by omega) hk hk).2) j hj⟩
  ·intro hc
   have hne : ∀ l ∈ x.Ls,l.A ≠ l.B := fun l hl => by
    obtain ⟨i,hi,rfl⟩ := List.getElem_of_mem hl
    exact (hc i (by omega) hi hi).2.1.1
   refine ⟨?_,fun j _ hj _ => ⟨(hc j (by omega) hj hj).2.1,(zDl x.Ls hne).2 (fun k hk => (hc k (by omega) hk hk).2.2) j hj⟩⟩
   by_cases h0 : x.Ls.length = 0
   ·omega
   ·have := (hc (x.Ls.length - 1) (by omega) (by omega) (by omega)).1
    omega
 have hS : ∀ (bb : Bool),(bif decide ((x.Said.length : Int) > 40) then (some false : Option Bool) else some bb) = some (decide (x.Said.length ≤ 40) && bb) := fun bb => by
  by_cases h40 : x.Said.length ≤ 40
  ·rw [decide_eq_false (by omega),decide_eq_true h40]; cases bb <;> rfl
  ·rw [decide_eq_true (by omega),decide_eq_false h40]; rfl
 have hn6 : (decide ((1 : Int) ≤ (x.Bs.length : Int)) && decide ((x.Bs.length : Int) ≤ 6)) = decide (1 ≤ x.Bs.length ∧ x.Bs.length ≤ 6) := by
  by_cases h6 : 1 ≤ x.Bs.length ∧ x.Bs.length ≤ 6
  ·rw [decide_eq_true h6,decide_eq_true (by omega),decide_eq_true (by omega)]; rfl
  ·rw [decide_eq_false h6]; simp only [Bool.and_eq_false_iff,decide_eq_false_iff_not]; omega
 have hL : ∀ (b' : Bool),(bif decide ((x.Ls.length : Int) > 9) then (some false : Option Bool) else some b') = some (decide (x.Ls.length ≤ 9) && b') := fun b' => by
  by_cases h9 : x.Ls.length ≤ 9
  ·rw [decide_eq_false (by omega),decide_eq_true h9]; cases b' <;> rfl
  ·rw [decide_eq_true (by omega),decide_eq_false h9]; rfl
 have hN : ∀ (c b' : Bool),(bif !c then (some false : Option Bool) else some b') = some (c && b') := fun c b' => by cases c <;> rfl
 have hJ1 : Q8 n x = some bS := by
  unfold Q8
  rw [s1']
  rcases s3 with ⟨rfl,rfl⟩ | ⟨rfl,rfl⟩ <;> rfl
 have hspec : ∃ b4 : Bool,Zv n x = some (bB && (decide (x.Ls.length ≤ 9) && (decide (x.Said.length ≤ 40) && (b4 && bS)))) ∧ (b4 = true ↔ ∀ j,0 ≤ j → j < x.Ls.length → ∀ hk : j < x.Ls.length,LOk x x.Ls[j] ∧ qO (qV x.Ls[j].A x.Ls[j].P) x.Ls = 1 ∧ qO (qV x.Ls[j].B x.Ls[j].Q) x.Ls = 1) := by
  unfold Zv
  rw [eB,Option.bind_some]
  rcases l4 with ⟨a,e,p⟩ | ⟨e,p⟩
  ·rw [show qg n n x 0 = _ from e]
   refine ⟨true,?_,⟨fun _ => p,fun _ => rfl⟩⟩
   simp only [Option.bind_some,hJ1,hS,hL,hN,Bool.true_and]
  ·rw [show qg n n x 0 = _ from e]
   refine ⟨false,?_,⟨fun hc => (by cases hc),fun hc => absurd hc p⟩⟩
   simp only [Option.bind_some,hS,hL,hN,Bool.false_and]
 have hlk : ∃ b2 : Bool,Ya n x = some b2 ∧ (b2 = true ↔ (∀ j,0 ≤ j → j < x.Ls.length → ∀ hk : j < x.Ls.length,j < 9 ∧ LOk x x.Ls[j] ∧ (x.Ls.take j).any (zf x.Ls[j].A x.Ls[j].P) = false ∧ (x.Ls.take j).any (zf x.Ls[j].B x.Ls[j].Q) = false)) := by
  unfold Ya
  rcases l2 with ⟨a,e,p⟩ | ⟨e,p⟩
  ·rw [show qR n n x 0 = _ from e]; exact ⟨true,rfl,⟨fun _ => p,fun _ => rfl⟩⟩
  ·rw [show qR n n x 0 = _ from e]; exact ⟨false,rfl,⟨fun hc => (by cases hc),fun hc => absurd hc p⟩⟩
 obtain ⟨b2,e2,i2⟩ := hlk
 have hJ2 : Q5 n x = some (bS && b2) := by
  unfold Q5
  rw [s2']
  rcases s3 with ⟨rfl,rfl⟩ | ⟨rfl,rfl⟩
  ·simp only [Option.bind_some,Y5,e2,Bool.true_and]
  ·rfl
 have himpl : ∃ bb : Bool,QQ n x = some (decide (1 ≤ x.Bs.length ∧ x.Bs.length ≤ 6) && (decide (x.Said.length ≤ 40) && (bb && (bS && b2)))) ∧ (bb = true ↔ ∀ j,0 ≤ j → j < x.Bs.length → BOk n x j) := by
  unfold QQ
  rw [qW,zL,Option.bind_some,hn6]
  rcases lB with ⟨a,e,p⟩ | ⟨e,p⟩
  ·rw [show qH n n x 0 = _ from e]
   refine ⟨true,?_,⟨fun _ => p,fun _ => rfl⟩⟩
   simp only [Option.bind_some,hJ2,hS,hN,Bool.true_and]
  ·rw [show qH n n x 0 = _ from e]
   refine ⟨false,?_,⟨fun hc => (by cases hc),fun hc => absurd hc p⟩⟩
   simp only [Option.bind_some,hS,hN,Bool.false_and]
 obtain ⟨b4,e4,i4⟩ := hspec
 obtain ⟨bb,eb,ib⟩ := himpl
 have heq : (bB && (decide (x.Ls.length ≤ 9) && (decide (x.Said.length ≤ 40) && (b4 && bS)))) = (decide (1 ≤ x.Bs.length ∧ x.Bs.length ≤ 6) && (decide (x.Said.length ≤ 40) && (bb && (bS && b2)))) := by
  rw [Bool.eq_iff_iff]
  simp only [Bool.and_eq_true,decide_eq_true_eq,iB,i4,ib,i2]
  constructor
  ·rintro ⟨⟨h1,h2⟩,h3,h4,h5,h6⟩
   exact ⟨h2,h4,fun j _ hj => h1 j hj,h6,hiff.1 ⟨h3,h5⟩⟩
  ·rintro ⟨h2,h4,h1,h6,h7⟩
   obtain ⟨h3,h5⟩ := hiff.2 h7
   exact ⟨⟨fun k hk => h1 k (by omega) hk,h2⟩,h3,h4,h5,h6⟩
 refine ⟨_,e4,by rw [heq]; exact eb,fun hc => ?_,fun hS0 ⟨h1,h2,h3,h4,h5⟩ => ?_⟩
 ·simp only [Bool.and_eq_true,decide_eq_true_eq,iB,i4] at hc
  obtain ⟨⟨h1,h2⟩,h3,h4,h5,h6⟩ := hc
  exact ⟨h1,h2,h3,h4,fun k hk => h5 k (by omega) hk hk⟩
 ·have hb : bS = true := by
   rcases s3 with ⟨_,r⟩ | ⟨r,_⟩
   ·exact r
   ·rw [r] at s1'
    obtain ⟨m,hm⟩ : ∃ m,n = m + 1 := ⟨n - 1,by omega⟩
    rw [hm,qL,hS0] at s1'
    cases s1'
  simp only [Bool.and_eq_true,decide_eq_true_eq,iB,i4]
  exact ⟨⟨h1,h2⟩,h3,h4,fun j _ hj hk => h5 j hk,hb⟩
theorem zBI (n : Nat) (x : zA) (hn : x.Ps.length < n) (h1 : 1 ≤ x.Ps.length) (h2 : x.Ps.length ≤ 6) (h3 : 1 ≤ x.Id) (h4 : x.Id ≤ 99) (h5 : x.Name.size ≤ 10) (h6 : Zd n x.F = some true) (h7 : qj n x.V (x.Ps.length : Int) = some true) (h8 : 0 ≤ x.Tk ∧ x.Tk ≤ 1000000) (h9 : 0 ≤ x.Pa ∧ x.Pa ≤ 1000000) (h10 : 0 ≤ x.Wo ∧ x.Wo ≤ 1000000) (h11 : 0 ≤ x.Dr ∧ x.Dr ≤ 1000000) (h12 : 0 ≤ x.Ve ∧ x.Ve ≤ 1000000) (h13 : ∀ j (hj : j < x.Ps.length),qE n x.Ps[j] = some true) : zR n x = some true := by
 have two : ∀ {a b c : Int},a ≤ b → b ≤ c → (decide (a ≤ b) && decide (b ≤ c)) = true := fun h h' => by rw [decide_eq_true h,decide_eq_true h']; rfl
 unfold zR
 rcases Zk (L := fun m k => zw n m x k) (N := x.Ps.length) (P := fun k => ∀ hk : k < x.Ps.length,qE n x.Ps[k] = some true) (fun m k hk => by
  simp only [zw]
  rw [zh hk,cond_true,zC hk,Option.bind_some,h13 k hk,Option.bind_some,zK (by omega : k ≤ 1099511627776)]
  exact .inl ⟨fun _ => h13 k hk,rfl⟩) (fun m => ⟨(),by simp only [zw]; rw [zY]; rfl⟩) n 0 (by omega) (by omega) with ⟨a,e,_⟩ | ⟨_,p⟩
 ·rw [show zw n n x 0 = _ from e]
  simp only [Option.bind_some,Qe,YX,zL,two h3 h4,two h8.1 h8.2,two h9.1 h9.2,two h10.1 h10.2,two h11.1 h11.2,two h12.1 h12.2,two (show (1 : Int) ≤ (x.Ps.length : Int) by omega) (show (x.Ps.length : Int) ≤ 6 by omega),decide_eq_true (show (x.Name.size : Int) ≤ 10 by omega),h6,h7,cond_true]
 ·exact absurd (fun j _ _ hj => h13 j hj) p
def dnP : Pt := ⟨false,1,false,⟨0,0,0,0,0⟩⟩
def upP : Pt := ⟨true,1,false,⟨0,0,0,0,0⟩⟩
def psK (p k : Nat) : List Pt := List.replicate k upP ++ List.replicate (p - k) dnP
theorem Yk {p k : Nat} (h : k ≤ p) : (psK p k).length = p := by simp [psK]; omega
theorem zCh {p k j : Nat} (hj : j < (psK p k).length) : (psK p k)[j] = if j < k then upP else dnP := by
 unfold psK at hj ⊢
 by_cases h : j < k
 ·rw [List.getElem_append_left (by simpa using h),if_pos h]; simp
 ·rw [List.getElem_append_right (by simpa using h),if_neg h]; simp
theorem zNZ {p k : Nat} (h : k < p) : (psK p k).set k upP = psK p (k + 1) := by
 refine List.ext_getElem (by rw [List.length_set,Yk (by omega),Yk (by omega)]) fun j h1 h2 => ?_
 rw [List.length_set] at h1
 rw [List.getElem_set,zCh,zCh]
 by_cases hj : k = j
 ·subst hj; rw [if_pos rfl,if_pos (by omega)]
 ·rw [if_neg hj]
  by_cases hk : j < k
  ·rw [if_pos hk,if_pos (by omega)]
  ·rw [if_neg hk,if_neg (by omega)]
def nbB (z : Int) (vt : zJ) (ps : List Pt) (v : Int) : zA := ⟨z,⟨#[]⟩,ps,[],vt,0,0,0,0,v⟩
def noB : zA := ⟨0,⟨#[]⟩,[],[],⟨[],[]⟩,0,0,0,0,0⟩
theorem zJ8 {z : Int} {vt : zJ} {ps : List Pt} {v : Int} : (nbB z vt ps v).sz = ps.length + vt.sz := by
 show 0 + ps.length + 0 + vt.sz = _
 omega
theorem zIB {z : Int} {vt : zJ} {p k : Nat} {v : Int} (hz : 1 ≤ z ∧ z ≤ 99) (h1 : 1 ≤ p) (h6 : p ≤ 6) (hk : k ≤ p) (hv : qj 1048800 vt p = some true) (v0 : 0 ≤ v) (v1 : v ≤ 1000000) : zR 1048800 (nbB z vt (psK p k) v) = some true := by
 have hl := Yk hk
 have d0 : (0 : Int) ≤ 0 ∧ (0 : Int) ≤ 1000000 := by decide
 refine zBI 1048800 (nbB z vt (psK p k) v) (by show (psK p k).length < _; omega) (by show 1 ≤ (psK p k).length; omega) (by show (psK p k).length ≤ 6; omega) hz.1 hz.2 (Nat.zero_le 10) (by kernel_rfl) (by show qj 1048800 vt ((psK p k).length : Int) = _; rw [hl]; exact hv) d0 d0 d0 d0 ⟨v0,v1⟩ (fun j hj => ?_)
 have e : (nbB z vt (psK p k) v).Ps[j] = if j < k then upP else dnP := zCh hj
 rw [e]
 split <;> rfl
theorem zJ9 {z : Int} {vt : zJ} {p k : Nat} {v : Int} (hz : 1 ≤ z ∧ z ≤ 99) (h6 : p ≤ 6) (hk : k ≤ p) (wv : vt.wf) (v0 : 0 ≤ v) (v1 : v ≤ 1000000) : (nbB z vt (psK p k) v).wf := by
 have hm : maxLen = 9223372036854775807 := by decide
 have z0 : qS 0 := zq (by omega) (by omega)
 have o1 : qS 1 := zq (by omega) (by omega)
 have wz : qS z := zq (by omega) (by omega)
 have wv' : qS v := zq (by omega) (by omega)
 refine ⟨wz,Nat.zero_le _,⟨by show (psK p k).length ≤ maxLen; rw [Yk hk]; omega,fun q hq => ?_⟩,⟨Nat.zero_le _,fun q hq => by cases hq⟩,wv.1,wv.2.1,z0,z0,z0,z0,wv',trivial⟩
 obtain ⟨j,hj,rfl⟩ := List.getElem_of_mem hq
 have e : (nbB z vt (psK p k) v).Ps[j] = if j < k then upP else dnP := zCh hj
 rw [e]
 split <;> exact ⟨o1,z0,z0,z0,z0,z0,trivial⟩
theorem zMR : noB.wf := by
 have z0 : qS 0 := zq (by omega) (by omega)
 exact ⟨z0,Nat.zero_le _,⟨Nat.zero_le _,fun q hq => by cases hq⟩,⟨Nat.zero_le _,fun q hq => by cases hq⟩,⟨Nat.zero_le _,fun q hq => by cases hq⟩,⟨Nat.zero_le _,fun q hq => by cases hq⟩,z0,z0,z0,z0,z0,trivial⟩
theorem zOI {z : Int} {vt : zJ} {p k : Nat} {v : Int} (hz : 1 ≤ z ∧ z ≤ 99) (h1 : 1 ≤ p) (h6 : p ≤ 6) (hk : k < p) (hv : qj 1048800 vt p = some true) (hs : vt.sz ≤ 10) (wv : vt.wf) (v0 : 0 ≤ v) (v1 : v ≤ 1000000) : ∃ v',0 ≤ v' ∧ v' ≤ 1000000 ∧ QX 1048800 (nbB z vt (psK p k) v) k true = some (nbB z vt (psK p (k + 1)) v') ∧ Y4 1048800 (nbB z vt (psK p k) v) k true = some (nbB z vt (psK p (k + 1)) v') := by
 have hl : (nbB z vt (psK p k) v).Ps.length = p := Yk (by omega)
 have hsz : (nbB z vt (psK p k) v).sz ≤ 16 := by rw [zJ8,Yk (by omega)]; omega
 have ok := zIB (k := k) hz h1 h6 (by omega) hv v0 v1
 have wx := zJ9 (v := v) hz h6 (show k ≤ p by omega) wv v0 v1
 obtain ⟨b,e1,e2⟩ := QP 1048800 _ wx (by omega) (by omega)
 rw [ok] at e1
 cases e1
 have hk' : k < (nbB z vt (psK p k) v).Ps.length := by omega
 have hg : (nbB z vt (psK p k) v).Ps[k].Co = 1 := by
  have e : (nbB z vt (psK p k) v).Ps[k] = if k < k then upP else dnP := zCh hk'
  rw [e]; split <;> rfl
 obtain ⟨zs,v',bb,f1,f2,f3,f4,f5,f6,_⟩ := zFv 1048800 (nbB z vt (psK p k) v) (by omega) (by omega) ok ((nbB z vt (psK p k) v).Ps.set k upP) (by simp) [] (Nat.zero_le _) 0
 have hzs : zs = [] := List.eq_nil_of_length_eq_zero (Nat.le_zero.1 f3)
 subst hzs
 have hset : (nbB z vt (psK p k) v).Ps.set k upP = psK p (k + 1) := zNZ hk
 rw [hset] at f1 f2
 have there : (true && (decide ((0 : Int) ≤ k) && decide ((k : Int) < (nbB z vt (psK p k) v).Ps.length))) = true := by
  rw [decide_eq_true (by omega),decide_eq_true (by omega)]; rfl
 refine ⟨v',f5,f6,?_,?_⟩
 ·unfold QX
  rw [Yt 1048800 _ (by omega),Option.bind_some,zAp 1048800 _ k true ok (by omega),Option.bind_some,there]
  simp only [Bool.not_true,cond_false,zC hk',Option.bind_some,hg,Int.toNat_natCast]
  rw [show (⟨true,1,false,(⟨0,0,0,0,0⟩ : Vec)⟩ : Pt) = upP from rfl,hset]
  have : q4 1048800 ⟨(nbB z vt (psK p k) v).Id,(nbB z vt (psK p k) v).Name,psK p (k + 1),(nbB z vt (psK p k) v).F,(nbB z vt (psK p k) v).V,(nbB z vt (psK p k) v).Tk,(nbB z vt (psK p k) v).Pa,(nbB z vt (psK p k) v).Wo,(nbB z vt (psK p k) v).Dr,(nbB z vt (psK p k) v).Ve⟩ = some (nbB z vt (psK p (k + 1)) v') := f1
  rw [this]
  rfl
 ·unfold Y4
  rw [YC 1048800 _ (by omega),Option.bind_some,zBq 1048800 _ k true e2 (by omega),Option.bind_some,there]
  simp only [cond_true,zC hk',Option.bind_some,hg,Int.toNat_natCast]
  rw [show (⟨true,1,false,(⟨0,0,0,0,0⟩ : Vec)⟩ : Pt) = upP from rfl,hset]
  have : q9 1048800 ⟨(nbB z vt (psK p k) v).Id,(nbB z vt (psK p k) v).Name,psK p (k + 1),(nbB z vt (psK p k) v).F,(nbB z vt (psK p k) v).V,(nbB z vt (psK p k) v).Tk,(nbB z vt (psK p k) v).Pa,(nbB z vt (psK p k) v).Wo,(nbB z vt (psK p k) v).Dr,(nbB z vt (psK p k) v).Ve⟩ = some (nbB z vt (psK p (k + 1)) v') := f2
  rw [this]
  rfl
def NU (q : Int) (y y' : zA) : Prop := (y = noB ∧ y' = noB) ∨ ∃ (z : Int) (p : Nat) (vt : zJ) (w : Int),q = p ∧ (1 ≤ z ∧ z ≤ 99) ∧ 1 ≤ p ∧ p ≤ 6 ∧ vt.sz ≤ 10 ∧ vt.wf ∧ qj 1048800 vt p = some true ∧ 0 ≤ w ∧ w ≤ 1000000 ∧ y = nbB z vt (psK p 0) 0 ∧ y' = nbB z vt (psK p p) w ∧ ∀ (i : Nat) (zs : List zA) (hi : i < zs.length),zs[i] = y → QD 1048800 1048800 q i 0 zs = some (.inl (zs.set i y'))
theorem NU.facts {q : Int} {y y' : zA} (h : NU q y y') : y.wf ∧ y'.wf ∧ y.sz ≤ 16 ∧ y'.sz ≤ 16 ∧ y.Id = y'.Id ∧ y.Ps.length = y'.Ps.length ∧ (zR 1048800 y = some true ↔ zR 1048800 y' = some true) ∧ (∀ j (hj : j < y.Ps.length),y.Ps[j].Up = false ∧ y.Ps[j].Has = false) ∧ (∀ j (hj : j < y'.Ps.length),y'.Ps[j].Up = true ∧ y'.Ps[j].Has = false) := by
 rcases h with ⟨rfl,rfl⟩ | ⟨z,p,vt,w,rfl,hz,h1,h6,hs,wv,hv,w0,w1,rfl,rfl,_⟩
 ·exact ⟨zMR,zMR,by decide,by decide,rfl,rfl,Iff.rfl,fun j hj => absurd hj (Nat.not_lt_zero j),fun j hj => absurd hj (Nat.not_lt_zero j)⟩
 ·refine ⟨zJ9 hz h6 (by omega) wv (by omega) (by omega),zJ9 hz h6 (by omega) wv w0 w1,?_,?_,rfl,?_,?_,fun j hj => ?_,fun j hj => ?_⟩
  ·rw [zJ8,Yk (by omega)]; omega
  ·rw [zJ8,Yk (by omega)]; omega
  ·show (psK p 0).length = (psK p p).length
   rw [Yk (by omega),Yk (by omega)]
  ·exact ⟨fun _ => zIB hz h1 h6 (by omega) hv w0 w1,fun _ => zIB hz h1 h6 (by omega) hv (by omega) (by omega)⟩
  ·have e : (nbB z vt (psK p 0) 0).Ps[j] = if j < 0 then upP else dnP := zCh hj
   rw [e,if_neg (by omega)]; exact ⟨rfl,rfl⟩
  ·have e : (nbB z vt (psK p p) w).Ps[j] = if j < p then upP else dnP := zCh hj
   have hl : (nbB z vt (psK p p) w).Ps.length = p := Yk (by omega)
   rw [e,if_pos (by omega)]; exact ⟨rfl,rfl⟩
theorem zDe (q : Int) (ys ys' : List zA) (hl : ys'.length = ys.length) (h6 : ys.length ≤ 6) (hu : ∀ j (hj : j < ys.length) (hj' : j < ys'.length),NU q ys[j] ys'[j]) (hok : ∀ j (hj : j < ys.length),ys[j] ≠ noB) : ∀ (m k : Nat) (zs : List zA),k ≤ ys.length → ys.length < m + k → (hz : zs.length = ys.length) → (∀ j (hj : j < zs.length),zs[j] = if j < k then ys'[j]'(by omega) else ys[j]'(by omega)) → Ze 1048800 m q k zs = some (.inl ys')
 | 0,k,zs,h1,h2,hz,h3 => by omega
 | m + 1,k,zs,h1,h2,hz,h3 => by
  rw [Ze]
  by_cases hk : k < ys.length
  ·rcases hu k hk (by omega) with ⟨e,_⟩ | ⟨z,p,vt,w,rfl,_,_,_,_,_,_,_,_,_,_,f⟩
   ·exact absurd e (hok k hk)
   ·rw [decide_eq_true (show (k : Int) < (zs.length : Int) by omega),cond_true,f k zs (by omega) (by rw [h3 k (by omega),if_neg (by omega)])]
    simp only [Option.bind_some,Jk]
    rw [zK (by omega : k ≤ 1099511627776)]
    refine zDe _ ys ys' hl h6 hu hok m (k + 1) _ (by omega) (by omega) (by simpa using hz) (fun j hj => ?_)
    rw [List.length_set] at hj
    rw [List.getElem_set]
    by_cases hjk : k = j
    ·subst hjk; rw [if_pos rfl,if_pos (by omega)]
    ·rw [if_neg hjk,h3 j hj]
     by_cases hlt : j < k
     ·rw [if_pos hlt,if_pos (by omega)]
     ·rw [if_neg hlt,if_neg (by omega)]
  ·obtain rfl : k = ys.length := by omega
   rw [decide_eq_false (show ¬ ((ys.length : Nat) : Int) < (zs.length : Int) by omega),cond_false]
   congr 2
   refine List.ext_getElem (by omega) fun j a b => ?_
   rw [h3 j a,if_pos (by omega)]
theorem zMu (q : Int) (ls : List Link) (ys ys' : List zA) (hl : ys'.length = ys.length) (hu : ∀ j (hj : j < ys.length) (hj' : j < ys'.length),NU q ys[j] ys'[j]) : zF2 1048800 ⟨ys,ls,[]⟩ ↔ zF2 1048800 ⟨ys',ls,[]⟩ := by
 have bok : ∀ k,BOk 1048800 ⟨ys,ls,[]⟩ k ↔ BOk 1048800 ⟨ys',ls,[]⟩ k := fun k => by
  constructor
  ·intro h hk'
   have hk : k < ys.length := by simp only at hk'; omega
   have f := (hu k hk (by simp only at hk'; exact hk')).facts
   obtain ⟨a,b,_⟩ := h hk
   refine ⟨f.2.2.2.2.2.2.1.1 a,fun j hj => ?_,fun p hp hh => ?_⟩
   ·have g := (hu j (by omega) (by omega)).facts
    have := b j hj
    simp only at this ⊢
    rw [← g.2.2.2.2.1,← f.2.2.2.2.1]; exact this
   ·exact absurd (hh.symm.trans (f.2.2.2.2.2.2.2.2 p hp).2) (by simp)
  ·intro h hk
   have hk' : k < ys'.length := by simp only at hk; omega
   have f := (hu k (by simp only at hk; exact hk) hk').facts
   obtain ⟨a,b,_⟩ := h hk'
   refine ⟨f.2.2.2.2.2.2.1.2 a,fun j hj => ?_,fun p hp hh => ?_⟩
   ·have g := (hu j (by omega) (by omega)).facts
    have := b j hj
    simp only at this ⊢
    rw [g.2.2.2.2.1,f.2.2.2.2.1]; exact this
   ·exact absurd (hh.symm.trans (f.2.2.2.2.2.2.2.1 p hp).2) (by simp)
 have port : ∀ b p,(∃ v,zj ⟨ys,ls,[]⟩ b p = some v) ↔ ∃ v,zj ⟨ys',ls,[]⟩ b p = some v := fun b p => by
  constructor
  ·rintro ⟨v,hv⟩
   obtain ⟨a,h1,h2⟩ := YG hv
   obtain ⟨i0,i1⟩ := Yb h1
   obtain ⟨j0,j1⟩ := Yb h2
   obtain ⟨i,rfl⟩ := Int.eq_ofNat_of_zero_le i0
   obtain ⟨j,rfl⟩ := Int.eq_ofNat_of_zero_le j0
   have hi : i < ys.length := by simp only at i1; omega
   rw [zC hi] at h1
   obtain rfl := Option.some.inj h1
   have f := (hu i hi (by omega)).facts.2.2.2.2.2.1
   exact ⟨_,by unfold zj; rw [zC (show i < ys'.length by omega),Option.bind_some,zC (show j < ys'[i].Ps.length by omega)]⟩
  ·rintro ⟨v,hv⟩
   obtain ⟨a,h1,h2⟩ := YG hv
   obtain ⟨i0,i1⟩ := Yb h1
   obtain ⟨j0,j1⟩ := Yb h2
   obtain ⟨i,rfl⟩ := Int.eq_ofNat_of_zero_le i0
   obtain ⟨j,rfl⟩ := Int.eq_ofNat_of_zero_le j0
   have hi : i < ys'.length := by simp only at i1; omega
   rw [zC hi] at h1
   obtain rfl := Option.some.inj h1
   have f := (hu i (by omega) hi).facts.2.2.2.2.2.1
   exact ⟨_,by unfold zj; rw [zC (show i < ys.length by omega),Option.bind_some,zC (show j < ys[i].Ps.length by omega)]⟩
 have down : ∀ b p v,zj ⟨ys,ls,[]⟩ b p = some v → v.Up = false := fun b p v hv => by
  obtain ⟨a,h1,h2⟩ := YG hv
  obtain ⟨i0,i1⟩ := Yb h1
  obtain ⟨j0,j1⟩ := Yb h2
  obtain ⟨i,rfl⟩ := Int.eq_ofNat_of_zero_le i0
  obtain ⟨j,rfl⟩ := Int.eq_ofNat_of_zero_le j0
  have hi : i < ys.length := by simp only at i1; omega
  rw [zC hi] at h1
  obtain rfl := Option.some.inj h1
  have hj : j < ys[i].Ps.length := by omega
  rw [zC hj] at h2
  obtain rfl := Option.some.inj h2
  exact ((hu i hi (by omega)).facts.2.2.2.2.2.2.2.1 j hj).1
 have up : ∀ b p v,zj ⟨ys',ls,[]⟩ b p = some v → v.Up = true := fun b p v hv => by
  obtain ⟨a,h1,h2⟩ := YG hv
  obtain ⟨i0,i1⟩ := Yb h1
  obtain ⟨j0,j1⟩ := Yb h2
  obtain ⟨i,rfl⟩ := Int.eq_ofNat_of_zero_le i0
  obtain ⟨j,rfl⟩ := Int.eq_ofNat_of_zero_le j0
  have hi : i < ys'.length := by simp only at i1; omega
  rw [zC hi] at h1
  obtain rfl := Option.some.inj h1
  have hj : j < ys'[i].Ps.length := by omega
  rw [zC hj] at h2
  obtain rfl := Option.some.inj h2
  exact ((hu i (by omega) hi).facts.2.2.2.2.2.2.2.2 j hj).1
 have lok : ∀ l,LOk ⟨ys,ls,[]⟩ l ↔ LOk ⟨ys',ls,[]⟩ l := fun l => by
  constructor
  ·rintro ⟨hab,p,q,e1,e2,_⟩
   obtain ⟨p',e1'⟩ := (port _ _).1 ⟨p,e1⟩
   obtain ⟨q',e2'⟩ := (port _ _).1 ⟨q,e2⟩
   exact ⟨hab,p',q',e1',e2',(up _ _ _ e1').trans (up _ _ _ e2').symm⟩
  ·rintro ⟨hab,p,q,e1,e2,_⟩
   obtain ⟨p',e1'⟩ := (port _ _).2 ⟨p,e1⟩
   obtain ⟨q',e2'⟩ := (port _ _).2 ⟨q,e2⟩
   exact ⟨hab,p',q',e1',e2',(down _ _ _ e1').trans (down _ _ _ e2').symm⟩
 unfold zF2
 constructor
 ·rintro ⟨h1,h2,h3,h4,h5⟩
  exact ⟨fun k hk => (bok k).1 (h1 k (by simp only at hk ⊢; omega)),⟨by simp only at h2 ⊢; omega,by simp only at h2 ⊢; omega⟩,h3,h4,fun k hk => ⟨(lok _).1 (h5 k hk).1,(h5 k hk).2⟩⟩
 ·rintro ⟨h1,h2,h3,h4,h5⟩
  exact ⟨fun k hk => (bok k).2 (h1 k (by simp only at hk ⊢; omega)),⟨by simp only at h2 ⊢; omega,by simp only at h2 ⊢; omega⟩,h3,h4,fun k hk => ⟨(lok _).2 (h5 k hk).1,(h5 k hk).2⟩⟩
def zDA (v : zB) (t a : Int) : Prop := v.Tag < t ∨ v.Tag = t ∧ v.Mac < a
instance (v : zB) (t a : Int) : Decidable (zDA v t a) := inferInstanceAs (Decidable (_ ∨ _))
theorem zDi (n : Nat) (v : zB) (t a : Int) : Z4 n v t a = some (decide (zDA v t a)) := by
 unfold Z4
 by_cases h : v.Tag = t
 ·rw [show (v.Tag != t) = false from by simpa using h,cond_false]
  congr 1
  rw [decide_eq_decide]
  unfold zDA
  constructor
  ·intro h2; exact .inr ⟨h,h2⟩
  ·rintro (h2 | h2)
   ·omega
   ·exact h2.2
 ·rw [show (v.Tag != t) = true from by simpa using h,cond_true]
  congr 1
  rw [decide_eq_decide]
  unfold zDA
  constructor
  ·intro h2; exact .inl h2
  ·rintro (h2 | h2)
   ·exact h2
   ·exact absurd h2.1 h
theorem zGZ (n : Nat) (xs : List zB) (h : xs.length ≤ 1048580) (hok : Zd n xs = some true) : ∀ (j i : Nat) (hij : i < j) (hj : j < xs.length),zDA (xs[i]'(by omega)) xs[j].Tag xs[j].Mac := by
 have hs := (zEg n xs h hok).2.2
 intro j
 induction j with
 | zero => intro i hij; omega
 | succ j ih =>
  intro i hij hj
  have h1 := hs j hj
  rw [zDi] at h1
  have h1 := of_decide_eq_true (Option.some.inj h1)
  by_cases e : i = j
  ·subst e; exact h1
  ·have := ih i (by omega) (by omega)
   unfold zDA at this h1 ⊢
   omega
def zJu (v : zB) : Prop := (1 ≤ v.Tag ∧ v.Tag ≤ 99) ∧ (1 ≤ v.Mac ∧ v.Mac ≤ 9999) ∧ (0 ≤ v.Port ∧ v.Port ≤ 7) ∧ (0 ≤ v.Age ∧ v.Age ≤ 4) ∧ (v.Sc = true → v.Age = 0)
def zD5 (xs : List zB) : Prop := xs.length ≤ 12 ∧ (∀ v ∈ xs,zJu v) ∧ xs.Pairwise fun a b => zDA a b.Tag b.Mac
theorem zI3 (n : Nat) (v : zB) (h : zJu v) : Z5 n v = some true := by
 obtain ⟨h1,h2,h3,h4,h5⟩ := h
 have two : ∀ {a b c : Int},a ≤ b → b ≤ c → (decide (a ≤ b) && decide (b ≤ c)) = true := fun h h' => by rw [decide_eq_true h,decide_eq_true h']; rfl
 unfold Z5
 simp only [zL,Option.bind_some,two h1.1 h1.2,two h2.1 h2.2,two h3.1 h3.2,two h4.1 h4.2,cond_true]
 cases hs : v.Sc with
 | false => rfl
 | true => rw [h5 hs]; rfl
theorem zIt (n : Nat) (xs : List zB) (hn : xs.length < n) (h : zD5 xs) : Zd n xs = some true := by
 obtain ⟨h1,h2,h3⟩ := h
 rw [List.pairwise_iff_getElem] at h3
 unfold Zd
 rcases Zk (L := fun m k => qf n m xs k) (N := xs.length) (P := fun _ => True) (fun m k hk => by
  refine .inl ⟨trivial,?_⟩
  simp only [qf]
  rw [zh hk,cond_true,zC hk,Option.bind_some,zI3 n _ (h2 _ (List.getElem_mem hk)),Option.bind_some,zK (by omega : k ≤ 1099511627776),Bool.not_true,cond_false]
  cases k with
  | zero => rfl
  | succ k =>
   have hw2 : IntKind.wrap .i64 (((k + 1 : Nat) : Int) - 1) = (k : Int) := by rw [wrap64 (by omega) (by omega)]; omega
   rw [decide_eq_true (show ((k + 1 : Nat) : Int) > 0 by omega),hw2,cond_true,zC (show k < xs.length by omega),Option.bind_some,Option.bind_some,Option.bind_some,zDi,decide_eq_true (h3 k (k + 1) (by omega) hk (by omega))]
   rfl) (fun m => ⟨(),by simp only [qf]; rw [zY]; rfl⟩) n 0 (by omega) (by omega) with ⟨a,e,_⟩ | ⟨_,p⟩
 ·rw [show qf n n xs 0 = _ from e,Option.bind_some]
  simp only [zAC]
  rw [decide_eq_true (by omega)]
 ·exact absurd (fun _ _ _ => trivial) p
theorem zBg (n : Nat) (xs : List zB) (h : xs.length ≤ 1048580) (hok : Zd n xs = some true) : zD5 xs := by
 obtain ⟨h1,h2,_⟩ := zEg n xs h hok
 refine ⟨h1,fun v hv => ?_,?_⟩
 ·obtain ⟨j,hj,rfl⟩ := List.getElem_of_mem hv
  exact zIR n _ (h2 j hj)
 ·rw [List.pairwise_iff_getElem]
  intro i j hi hj hij
  exact zGZ n xs h hok j i hij hj
theorem zD5.sub {xs ys : List zB} (h : zD5 xs) (hs : ys.Sublist xs) : zD5 ys := ⟨Nat.le_trans hs.length_le h.1,fun v hv => h.2.1 v (hs.subset hv),h.2.2.sublist hs⟩
theorem Jm (n : Nat) (bits : Int) (x : zA) (h : x.Ps.length ≤ 6) : ∀ (m k : Nat) (ys zs : List zB),k ≤ x.Ps.length → ys.length ≤ 134217728 → ys.length < n → qd n m bits x k ys = some (.inl zs) → zs.Sublist ys
 | 0,k,ys,zs,h1,h3,h4,e => by cases e
 | m + 1,k,ys,zs,h1,h3,h4,e => by
  rw [qd] at e
  by_cases hk : k < x.Ps.length
  ·rw [zh hk,cond_true,zCK n bits k (by omega),Option.bind_some,zK (by omega : k ≤ 1099511627776),zAK n ys _ h3 h4] at e
   cases hb : zCb bits k with
   | true =>
    rw [hb] at e
    exact Jm n bits x h m (k + 1) ys zs (by omega) h3 h4 e
   | false =>
    rw [hb] at e
    have hle := List.length_filter_le (fun v : zB => v.Sc || v.Port != (k : Int)) ys
    exact (Jm n bits x h m (k + 1) (ys.filter fun v => v.Sc || v.Port != (k : Int)) zs (by omega) (by omega) (by omega) e).trans List.filter_sublist
  ·have he : k = x.Ps.length := by omega
   subst he
   rw [zY] at e
   cases e
   exact List.Sublist.refl _
theorem zFz (n : Nat) (x y : zA) (h : x.Ps.length ≤ 6) (h3 : x.F.length ≤ 134217728) (h4 : x.F.length < n) (e : q4 n x = some y) : y.F.Sublist x.F := by
 unfold q4 at e
 obtain ⟨v,_,e⟩ := bind_some e
 obtain ⟨b,_,e⟩ := bind_some e
 obtain ⟨o,ho,e⟩ := bind_some e
 cases o with
 | inl zs =>
  have hz := Jm n b x h n 0 x.F zs (by omega) h3 h4 ho
  cases e
  exact hz
 | inr r =>
  exfalso
  have key : ∀ (m k : Nat) (ys : List zB),k ≤ x.Ps.length → ys.length ≤ 134217728 → ys.length < n → ∀ r,qd n m b x k ys ≠ some (.inr r) := by
   intro m
   induction m with
   | zero => intro k ys h1 h3 h4 r e; cases e
   | succ m ih =>
    intro k ys h1 h3 h4 r e
    rw [qd] at e
    by_cases hk : k < x.Ps.length
    ·rw [zh hk,cond_true,zCK n b k (by omega),Option.bind_some,zK (by omega : k ≤ 1099511627776),zAK n ys _ h3 h4] at e
     have hle := List.length_filter_le (fun v : zB => v.Sc || v.Port != (k : Int)) ys
     cases hb : zCb b k with
     | true => rw [hb] at e; exact ih (k + 1) ys (by omega) h3 h4 r e
     | false => rw [hb] at e; exact ih (k + 1) _ (by omega) (by omega) (by omega) r e
    ·have he : k = x.Ps.length := by omega
     subst he
     rw [zY] at e
     cases e
  exact key n 0 x.F (by omega) h3 h4 r ho
def zCa (v : zB) : Option zB := if v.Sc then some v else if v.Age < 4 then some ⟨v.Tag,v.Mac,v.Port,v.Age + 1,false⟩ else none
theorem zDJ (n : Nat) (xs : List zB) (h : xs.length ≤ 134217728) (ha : ∀ v ∈ xs,0 ≤ v.Age ∧ v.Age ≤ 1000) : ∀ (m k : Nat) (acc : List zB),k ≤ xs.length → xs.length < m + k → acc.length ≤ k → q3 n m xs k acc = some (.inl (acc ++ (xs.drop k).filterMap zCa))
 | 0,k,acc,h1,h2,h3 => by omega
 | m + 1,k,acc,h1,h2,h3 => by
  rw [q3]
  by_cases hk : k < xs.length
  ·rw [zh hk,cond_true,zC hk,Option.bind_some,zK (by omega : k ≤ 1099511627776)]
   have hg : ∀ v : zB,decide (acc.length + [v].length ≤ 268435456) = true := fun v => decide_eq_true (by simp; omega)
   simp only [hg,cond_true]
   have ih := fun acc' h3' => zDJ n xs h ha m (k + 1) acc' (by omega) (by omega) h3'
   rw [List.drop_eq_getElem_cons hk,List.filterMap_cons]
   cases hs : xs[k].Sc with
   | true =>
    have e : zCa xs[k] = some xs[k] := by unfold zCa; rw [if_pos hs]
    rw [cond_true,ih (acc ++ [xs[k]]) (by simp; omega),e]
    simp
   | false =>
    have hw : IntKind.wrap .i64 (xs[k].Age + 1) = xs[k].Age + 1 := by
     have := ha _ (List.getElem_mem hk)
     exact wrap64 (by omega) (by omega)
    by_cases hl : xs[k].Age < 4
    ·have e : zCa xs[k] = some ⟨xs[k].Tag,xs[k].Mac,xs[k].Port,xs[k].Age + 1,false⟩ := by unfold zCa; rw [if_neg (by simp [hs]),if_pos hl]
     rw [cond_false,decide_eq_true hl,cond_true,ih _ (by simp; omega),e,hw]
     simp
    ·have e : zCa xs[k] = none := by unfold zCa; rw [if_neg (by simp [hs]),if_neg hl]
     rw [cond_false,decide_eq_false hl,cond_false,ih _ (by omega),e]
  ·have he : k = xs.length := by omega
   subst he
   rw [zY]
   simp
theorem zF4 {v w : zB} (h : zCa v = some w) : w.Tag = v.Tag ∧ w.Mac = v.Mac ∧ (zJu v → zJu w) := by
 unfold zCa at h
 split at h
 ·cases h; exact ⟨rfl,rfl,id⟩
 ·split at h
  ·rename_i h1 h2
   cases h
   refine ⟨rfl,rfl,fun ⟨a,b,c,d,e⟩ => ⟨a,b,c,⟨by simp only; omega,by simp only; omega⟩,fun hs => by cases hs⟩⟩
  ·cases h
theorem zD5.age {xs : List zB} (h : zD5 xs) : zD5 (xs.filterMap zCa) := by
 obtain ⟨h1,h2,h3⟩ := h
 refine ⟨Nat.le_trans (List.length_filterMap_le _ _) h1,fun v hv => ?_,?_⟩
 ·obtain ⟨u,hu,e⟩ := List.mem_filterMap.1 hv
  exact (zF4 e).2.2 (h2 u hu)
 ·rw [List.pairwise_filterMap]
  refine h3.imp fun {a b} hab a' ha b' hb => ?_
  obtain ⟨p1,p2,_⟩ := zF4 ha
  obtain ⟨q1,q2,_⟩ := zF4 hb
  unfold zDA at hab ⊢
  rw [p1,p2,q1,q2]
  exact hab
theorem zED (n : Nat) (xs : List zB) (h : zD5 xs) (hn : 12 < n) : Ys n xs = some (xs.filterMap zCa) := by
 have h1 := h.1
 unfold Ys
 rw [show q3 n n xs 0 [] = _ from zDJ n xs (by omega) (fun v hv => by have := (h.2.1 v hv).2.2.2.1; omega) n 0 [] (by omega) (by omega) (by simp)]
 rfl
theorem zLY {v : zB} (h : zJu v) : v.wf := by
 obtain ⟨h1,h2,h3,h4,_⟩ := h
 exact ⟨zq (by omega) (by omega),zq (by omega) (by omega),zq (by omega) (by omega),zq (by omega) (by omega),trivial⟩
theorem zI6 (n : Nat) (x : zA) (hn : 1048577 < n) (wx : x.wf) (hx : x.sz ≤ 1048576) (hb : zR n x = some true) (ps : List Pt) (hp : ps.length = x.Ps.length) (hps : ∀ j (hj : j < ps.length),qE n ps[j] = some true) (wps : YK Pt.wf ps) (fs : List zB) (hf : fs.length ≤ x.F.length) (hfs : zD5 fs) (t : Int) (t0 : 0 ≤ t) (t1 : t ≤ 1000000) :
  ∃ (zs : List zB) (v b : Int),q4 n ⟨x.Id,x.Name,ps,fs,x.V,t,x.Pa,x.Wo,x.Dr,x.Ve⟩ = some ⟨x.Id,x.Name,ps,zs,x.V,t,x.Pa,x.Wo,x.Dr,v⟩ ∧ q9 n ⟨x.Id,x.Name,ps,fs,x.V,t,x.Pa,x.Wo,x.Dr,x.Ve⟩ = some ⟨x.Id,x.Name,ps,zs,x.V,t,x.Pa,x.Wo,x.Dr,v⟩ ∧
   zR n ⟨x.Id,x.Name,ps,zs,x.V,t,x.Pa,x.Wo,x.Dr,v⟩ = some true ∧ (⟨x.Id,x.Name,ps,zs,x.V,t,x.Pa,x.Wo,x.Dr,v⟩ : zA).wf ∧ (⟨x.Id,x.Name,ps,zs,x.V,t,x.Pa,x.Wo,x.Dr,v⟩ : zA).sz ≤ x.sz ∧ Zx n x.Id ps = some b ∧ (∀ u ∈ zs,u.Sc = true ∨ ∀ j : Nat,j < ps.length → zCb b j = false → u.Port ≠ j) ∧ zs.Sublist fs := by
 have hs : x.Name.size + x.Ps.length + x.F.length + x.V.sz = x.sz := rfl
 obtain ⟨p1,p2,p3,p4,p5,p6,p7,p8,p9,p10,p11,p12,p13⟩ := qK n x (by omega) hb
 obtain ⟨zs,v,b,e1,e2,e3,e4,e5,e6,e7,e8⟩ := zFv n x hn hx hb ps hp fs hf t
 have hsub := zFz n _ _ (by simp only; omega) (by simp only; omega) (by simp only; omega) e1
 have hz : zD5 zs := hfs.sub hsub
 have hz1 := hz.1
 obtain ⟨w1,w2,w3,w4,w5,w6,w7,w8,w9,w10,w11,w12⟩ := wx
 refine ⟨zs,v,b,e1,e2,?_,⟨w1,w2,wps,⟨Nat.le_trans hz1 (by decide),fun u hu => zLY (hz.2.1 u hu)⟩,w5,w6,zq (z := t) (by omega) (by omega),w8,w9,w10,zq (z := v) (by omega) (by omega),trivial⟩,?_,e7,e8,hsub⟩
 ·exact zBI n ⟨x.Id,x.Name,ps,zs,x.V,t,x.Pa,x.Wo,x.Dr,v⟩ (by simp only; omega) (by simp only; omega) (by simp only; omega) p3 p4 p5 (zIt n zs (by omega) hz) (by simp only [hp]; exact p7) ⟨t0,t1⟩ p9 p10 p11 ⟨e5,e6⟩ hps
 ·show x.Name.size + ps.length + zs.length + x.V.sz ≤ x.sz
  omega
theorem zFI : (⟨0,0,0,0,0⟩ : Vec).wf := by
 have z0 : qS 0 := zq (by omega) (by omega)
 exact ⟨z0,z0,z0,z0,z0,trivial⟩
theorem YW (n : Nat) (p : Pt) (h : qE n p = some true) : (1 ≤ p.Co ∧ p.Co ≤ 1000) ∧ (p.Has = true → p.Up = true ∧ zm n p.Hd = some true) ∧ (p.Has = false → p.Hd = ⟨0,0,0,0,0⟩) := by
 unfold qE at h
 rw [zL,Option.bind_some] at h
 cases hc : (decide (1 ≤ p.Co) && decide (p.Co ≤ 1000)) with
 | false => rw [hc] at h; cases h
 | true =>
  have h0 : ∀ {v : Vec},some ((v.Root == 0) && ((v.Co == 0) && ((v.Hops == 0) && ((v.Bridge == 0) && ((v.Port == 0) && true))))) = some true → v = ⟨0,0,0,0,0⟩ := fun {v} e => by
   have e := Option.some.inj e
   simp only [Bool.and_eq_true,beq_iff_eq] at e
   obtain ⟨a,b,c,d,f,_⟩ := e
   cases v
   simp_all
  simp only [Bool.and_eq_true,decide_eq_true_eq] at hc
  rw [decide_eq_true hc.1,decide_eq_true hc.2] at h
  simp only [Bool.and_self,Bool.not_true,cond_false] at h
  cases hu : p.Up with
  | false =>
   rw [hu] at h
   simp only [Bool.not_false,cond_true] at h
   cases hh : p.Has with
   | true => rw [hh] at h; cases h
   | false => rw [hh] at h; exact ⟨hc,fun e => (by cases e),fun _ => h0 h⟩
  | true =>
   rw [hu] at h
   simp only [Bool.not_true,cond_false] at h
   cases hh : p.Has with
   | false => rw [hh] at h; exact ⟨hc,fun e => (by cases e),fun _ => h0 h⟩
   | true =>
    rw [hh] at h
    simp only [Bool.not_true,cond_false] at h
    obtain ⟨b,hb,h⟩ := bind_some h
    cases h
    exact ⟨hc,fun _ => ⟨rfl,hb⟩,fun e => (by cases e)⟩
theorem zFC (n : Nat) (c : Int) (up : Bool) (h : 1 ≤ c ∧ c ≤ 1000) : qE n ⟨up,c,false,⟨0,0,0,0,0⟩⟩ = some true := by
 unfold qE
 rw [zL,Option.bind_some,decide_eq_true h.1,decide_eq_true h.2]
 cases up <;> rfl
theorem zFD (n : Nat) (c : Int) (v : Vec) (h : 1 ≤ c ∧ c ≤ 1000) (hv : zm n v = some true) : qE n ⟨true,c,true,v⟩ = some true := by
 unfold qE
 rw [zL,Option.bind_some,decide_eq_true h.1,decide_eq_true h.2]
 simp only [Bool.and_self,Bool.not_true,cond_false,hv,Option.bind_some]
theorem zIp {α : Type} {P : α → Prop} {xs : List α} {k : Nat} {v : α} (h : ∀ j (hj : j < xs.length),P xs[j]) (hv : P v) : ∀ j (hj : j < (xs.set k v).length),P (xs.set k v)[j] := fun j hj => by
 rw [List.getElem_set]
 split
 ·exact hv
 ·exact h j (by simpa using hj)
theorem zEF (n : Nat) (x : zA) (k : Nat) (up : Bool) (wx : x.wf) (hx : x.sz ≤ 1048576) (hn : 1048577 < n) (hb : zR n x = some true) (hk : k < x.Ps.length) : ∃ y : zA,QX n x k up = some y ∧ Y4 n x k up = some y ∧ zR n y = some true ∧ y.wf ∧ y.sz ≤ x.sz ∧ y.Id = x.Id ∧ y.Ps = x.Ps.set k ⟨up,x.Ps[k].Co,false,⟨0,0,0,0,0⟩⟩ ∧ ∃ b,Zx n y.Id y.Ps = some b ∧ (∀ u ∈ y.F,u.Sc = true ∨ ∀ j : Nat,j < y.Ps.length → zCb b j = false → u.Port ≠ j) ∧ y.F.Sublist x.F := by
 have hs : x.Name.size + x.Ps.length + x.F.length + x.V.sz = x.sz := rfl
 obtain ⟨b,h1,h2⟩ := QP n x wx (by omega) (by omega)
 rw [hb] at h1
 obtain rfl := Option.some.inj h1
 obtain ⟨p1,p2,p3,p4,p5,p6,p7,p8,p9,p10,p11,p12,p13⟩ := qK n x (by omega) hb
 have hc := (YW n _ (p13 k hk)).1
 have wk := (wx.2.2.1.2 _ (List.getElem_mem hk))
 obtain ⟨zs,v,bb,e1,e2,e3,e4,e5,e6,e7,e8⟩ := zI6 n x hn wx hx hb (x.Ps.set k ⟨up,x.Ps[k].Co,false,⟨0,0,0,0,0⟩⟩) (by simp) (zIp (P := fun q => qE n q = some true) p13 (zFC n _ up hc)) (zFb wx.2.2.1 ⟨wk.1,zFI.1,zFI.2.1,zFI.2.2.1,zFI.2.2.2.1,zFI.2.2.2.2.1,trivial⟩) x.F (Nat.le_refl _) (zBg n x.F (by omega) p6) x.Tk p8.1 p8.2
 have there : (true && (decide ((0 : Int) ≤ k) && decide ((k : Int) < x.Ps.length))) = true := by
  rw [decide_eq_true (by omega),decide_eq_true (by omega)]; rfl
 refine ⟨_,?_,?_,e3,e4,e5,rfl,rfl,bb,e6,e7,e8⟩
 ·unfold QX
  rw [Yt n x (by omega),Option.bind_some,zAp n x k true hb (by omega),Option.bind_some,there]
  simp only [Bool.not_true,cond_false,zC hk,Option.bind_some,Int.toNat_natCast,e1]
 ·unfold Y4
  rw [YC n x (by omega),Option.bind_some,zBq n x k true h2 (by omega),Option.bind_some,there]
  simp only [cond_true,zC hk,Option.bind_some,Int.toNat_natCast,e2]
theorem zHg (n : Nat) (x : zA) (k : Nat) (u : Vec) (wx : x.wf) (hx : x.sz ≤ 1048576) (hn : 1048577 < n) (hb : zR n x = some true) (hk : k < x.Ps.length) (hu : x.Ps[k].Up = true) (hv : zm n u = some true) : ∃ y : zA,QW n x k u = some y ∧ Q4 n x k u = some y ∧ zR n y = some true ∧ y.wf ∧ y.sz ≤ x.sz ∧ y.Id = x.Id ∧ y.Ps = x.Ps.set k ⟨true,x.Ps[k].Co,true,u⟩ ∧ ∃ b,Zx n y.Id y.Ps = some b ∧ (∀ u ∈ y.F,u.Sc = true ∨ ∀ j : Nat,j < y.Ps.length → zCb b j = false → u.Port ≠ j) ∧ y.F.Sublist x.F := by
 have hs : x.Name.size + x.Ps.length + x.F.length + x.V.sz = x.sz := rfl
 obtain ⟨b,h1,h2⟩ := QP n x wx (by omega) (by omega)
 rw [hb] at h1
 obtain rfl := Option.some.inj h1
 obtain ⟨p1,p2,p3,p4,p5,p6,p7,p8,p9,p10,p11,p12,p13⟩ := qK n x (by omega) hb
 have hc := (YW n _ (p13 k hk)).1
 have wk := (wx.2.2.1.2 _ (List.getElem_mem hk))
 have wu := zFF n u hv
 obtain ⟨zs,v,bb,e1,e2,e3,e4,e5,e6,e7,e8⟩ := zI6 n x hn wx hx hb (x.Ps.set k ⟨true,x.Ps[k].Co,true,u⟩) (by simp) (zIp (P := fun q => qE n q = some true) p13 (zFD n _ u hc hv)) (zFb wx.2.2.1 ⟨wk.1,wu.1,wu.2.1,wu.2.2.1,wu.2.2.2.1,wu.2.2.2.2.1,trivial⟩) x.F (Nat.le_refl _) (zBg n x.F (by omega) p6) x.Tk p8.1 p8.2
 have there : (true && (decide ((0 : Int) ≤ k) && decide ((k : Int) < x.Ps.length))) = true := by
  rw [decide_eq_true (by omega),decide_eq_true (by omega)]; rfl
 have hi : idx (x.Ps.set k ⟨x.Ps[k].Up,x.Ps[k].Co,true,x.Ps[k].Hd⟩) (k : Int) = some ⟨x.Ps[k].Up,x.Ps[k].Co,true,x.Ps[k].Hd⟩ := by
  rw [zC (by simpa using hk)]; simp
 have hi' : idx (x.Ps.set k ⟨true,x.Ps[k].Co,true,x.Ps[k].Hd⟩) (k : Int) = some ⟨true,x.Ps[k].Co,true,x.Ps[k].Hd⟩ := by
  rw [zC (by simpa using hk)]; simp
 refine ⟨_,?_,?_,e3,e4,e5,rfl,rfl,bb,e6,e7,e8⟩
 ·unfold QW
  rw [Yt n x (by omega),Option.bind_some,zAp n x k true hb (by omega),Option.bind_some,there]
  simp only [Bool.not_true,cond_false,zC hk,Option.bind_some,Int.toNat_natCast,hu,hv,hi,hi',List.set_set,e1]
 ·unfold Q4
  rw [YC n x (by omega),Option.bind_some,zBq n x k true h2 (by omega),Option.bind_some,there]
  simp only [Qu,zAy,cond_true,zC hk,Option.bind_some,Int.toNat_natCast,hu,hv,hi,hi',List.set_set,e2]
theorem zJZ (n : Nat) (x : zA) (wx : x.wf) (hx : x.sz ≤ 1048576) (hn : 1048577 < n) (hb : zR n x = some true) : ∃ y : zA,zA8 n x = some y ∧ zDo n x = some y ∧ zR n y = some true ∧ y.wf ∧ y.sz ≤ x.sz ∧ y.Id = x.Id ∧ y.Ps = x.Ps ∧ (x.Tk < 1000000 → y.Tk = x.Tk + 1) ∧ ∃ b,Zx n y.Id y.Ps = some b ∧ (∀ u ∈ y.F,u.Sc = true ∨ ∀ j : Nat,j < y.Ps.length → zCb b j = false → u.Port ≠ j) ∧ y.F.Sublist (x.F.filterMap zCa) := by
 have hs : x.Name.size + x.Ps.length + x.F.length + x.V.sz = x.sz := rfl
 obtain ⟨b,h1,h2⟩ := QP n x wx (by omega) (by omega)
 rw [hb] at h1
 obtain rfl := Option.some.inj h1
 obtain ⟨p1,p2,p3,p4,p5,p6,p7,p8,p9,p10,p11,p12,p13⟩ := qK n x (by omega) hb
 have hf := zBg n x.F (by omega) p6
 obtain ⟨fs,a1,a2,a3⟩ := zGy n x.F (by omega) (by omega) (fun v hv => by have := (hf.2.1 v hv).2.2.2.1; omega)
 rw [zED n x.F hf (by omega)] at a1
 obtain rfl := Option.some.inj a1
 obtain ⟨t,t1,t2,t3,t4⟩ := zFs n x.Tk p8.1 p8.2
 obtain ⟨zs,v,bb,e1,e2,e3,e4,e5,e6,e7,e8⟩ := zI6 n x hn wx hx hb x.Ps rfl p13 wx.2.2.1 (x.F.filterMap zCa) a3 hf.age t t3 t4
 refine ⟨_,?_,?_,e3,e4,e5,rfl,rfl,fun hlt => ?_,bb,e6,e7,e8⟩
 ·unfold zA8
  simp only [Yt n x (show x.sz ≤ 268435456 by omega),hb,zED n x.F hf (show 12 < n by omega),t1,Option.bind_some,Bool.not_true,cond_false,e1]
 ·unfold zDo
  simp only [YC n x (show x.sz ≤ 268435456 by omega),h2,a2,t2,Option.bind_some,cond_true,e2]
 ·unfold Yu at t1
  rw [decide_eq_false (by omega),cond_false,wrap64 (by omega) (by omega)] at t1
  exact (Option.some.inj t1).symm
def zD2 (n : Nat) (x : Net) (s : Say) : Prop := (0 ≤ s.Link ∧ s.Link < x.Ls.length) ∧ zm n s.V = some true
def zLQ (n : Nat) (x : Net) : Prop := ∀ s ∈ x.Said,zD2 n x s
theorem zEH (n : Nat) (x : Net) (wx : x.wf) (h : Big x) (hn : 1048700 < n) : ∃ b,Zv n x = some b ∧ QQ n x = some b ∧ (b = true ↔ zF2 n x ∧ zLQ n x) := by
 have ⟨hl1,hl2,hl3,hl4⟩ := h
 obtain ⟨bB,eB,iB⟩ := zBx n x wx h hn
 have hsaid : ∃ bS : Bool,(∃ o,qL n n x 0 = some o ∧ qU n n x 0 = some o ∧ (o = .inl () ∧ bS = true ∨ o = .inr false ∧ bS = false)) ∧ (bS = true ↔ zLQ n x) := by
  have step : ∀ m (k : Nat) (hk : k < x.Said.length),∃ b : Bool,qL n (m + 1) x k = (bif b then qL n m x ((k + 1 : Nat) : Int) else some (.inr false)) ∧ qU n (m + 1) x k = (bif b then qU n m x ((k + 1 : Nat) : Int) else some (.inr false)) ∧ (b = true ↔ zD2 n x x.Said[k]) := fun m k hk => by
   obtain ⟨c,hc⟩ := JH n x.Said[k].V
   rw [qL,qU,zh hk,zC hk]
   simp only [cond_true,Option.bind_some,qW,QR n _ _ (show x.Ls.length ≤ 1048600 by omega),zAy,hc,zK (by omega : k ≤ 1099511627776)]
   by_cases hr : 0 ≤ x.Said[k].Link ∧ x.Said[k].Link < x.Ls.length
   ·rw [decide_eq_true hr]
    cases c with
    | false => exact ⟨false,rfl,rfl,⟨fun e => (by cases e),fun e => absurd (hc.symm.trans e.2) (by simp)⟩⟩
    | true => exact ⟨true,rfl,rfl,⟨fun _ => ⟨hr,hc⟩,fun _ => rfl⟩⟩
   ·rw [decide_eq_false hr]; exact ⟨false,rfl,rfl,⟨fun e => (by cases e),fun e => absurd e.1 hr⟩⟩
  have all : ∀ (m k : Nat),k ≤ x.Said.length → x.Said.length < m + k → ∃ o,qL n m x k = some o ∧ qU n m x k = some o ∧ ((o = .inl () ∧ ∀ j (hj : j < x.Said.length),k ≤ j → zD2 n x x.Said[j]) ∨ (o = .inr false ∧ ∃ j,∃ hj : j < x.Said.length,¬ zD2 n x x.Said[j])) := by
   intro m
   induction m with
   | zero => intro k h1 h2; omega
   | succ m ih =>
    intro k h1 h2
    by_cases hk : k < x.Said.length
    ·obtain ⟨b,e1,e2,e3⟩ := step m k hk
     rw [e1,e2]
     cases b with
     | true =>
      obtain ⟨o,f1,f2,f3⟩ := ih (k + 1) (by omega) (by omega)
      refine ⟨o,f1,f2,f3.imp (fun f => ⟨f.1,fun j hj hkj => ?_⟩) id⟩
      by_cases hjk : j = k
      ·subst hjk; exact e3.1 rfl
      ·exact f.2 j hj (by omega)
     | false => exact ⟨_,rfl,rfl,.inr ⟨rfl,k,hk,fun hc => (by have := e3.2 hc; cases this)⟩⟩
    ·have he : k = x.Said.length := by omega
     subst he
     rw [qL,qU,zY]
     exact ⟨_,rfl,rfl,.inl ⟨rfl,fun j hj hkj => by omega⟩⟩
  obtain ⟨o,e1,e2,e3⟩ := all n 0 (by omega) (by omega)
  rcases e3 with ⟨e3,e4⟩ | ⟨e3,j,hj,e4⟩
  ·refine ⟨true,⟨o,e1,e2,.inl ⟨e3,rfl⟩⟩,⟨fun _ s hs => ?_,fun _ => rfl⟩⟩
   obtain ⟨j,hj,rfl⟩ := List.getElem_of_mem hs
   exact e4 j hj (by omega)
  ·exact ⟨false,⟨o,e1,e2,.inr ⟨e3,rfl⟩⟩,⟨fun e => (by cases e),fun hc => absurd (hc _ (List.getElem_mem hj)) e4⟩⟩
 obtain ⟨bS,⟨oS,s1,s2,s3⟩,iS⟩ := hsaid
 have s1' : qL n n x 0 = some oS := s1
 have s2' : qU n n x 0 = some oS := s2
 have l4 := Zk (L := fun m k => qg n m x k) (N := x.Ls.length) (P := fun k => ∀ hk : k < x.Ls.length,LOk x x.Ls[k] ∧ qO (qV x.Ls[k].A x.Ls[k].P) x.Ls = 1 ∧ qO (qV x.Ls[k].B x.Ls[k].Q) x.Ls = 1) (fun m k hk => zCS n x h hn m k hk) (fun m => ⟨(),by simp only [qg]; rw [zY]; rfl⟩) n 0 (by omega) (by omega)
 have l2 := Zk (L := fun m k => qR n m x k) (N := x.Ls.length) (P := fun k => ∀ hk : k < x.Ls.length,k < 9 ∧ LOk x x.Ls[k] ∧ (x.Ls.take k).any (zf x.Ls[k].A x.Ls[k].P) = false ∧ (x.Ls.take k).any (zf x.Ls[k].B x.Ls[k].Q) = false) (fun m k hk => zBu n x h hn m k hk) (fun m => ⟨(),by simp only [qR]; rw [zY]; rfl⟩) n 0 (by omega) (by omega)
 have lB := Zk (L := fun m k => qH n m x k) (N := x.Bs.length) (P := BOk n x) (fun m k hk => zCM n x wx h hn m k hk) (fun m => ⟨(),by simp only [qH]; rw [zY]; rfl⟩) n 0 (by omega) (by omega)
 have hiff : (x.Ls.length ≤ 9 ∧ ∀ j,0 ≤ j → j < x.Ls.length → ∀ hk : j < x.Ls.length,LOk x x.Ls[j] ∧ qO (qV x.Ls[j].A x.Ls[j].P) x.Ls = 1 ∧ qO (qV x.Ls[j].B x.Ls[j].Q) x.Ls = 1) ↔
   (∀ j,0 ≤ j → j < x.Ls.length → ∀ hk : j < x.Ls.length,j < 9 ∧ LOk x x.Ls[j] ∧ (x.Ls.take j).any (zf x.Ls[j].A x.Ls[j].P) = false ∧ (x.Ls.take j).any (zf x.Ls[j].B x.Ls[j].Q) = false) := by
  constructor
  ·rintro ⟨h9,hc⟩ j _ hj hj'
   have hne : ∀ l ∈ x.Ls,l.A ≠ l.B := fun l hl => by
    obtain ⟨i,hi,rfl⟩ := List.getElem_of_mem hl
    exact (hc i (by omega) hi hi).1.1
   exact ⟨by omega,(hc j (by omega) hj hj).1,(zDl x.Ls hne).1 (fun k hk => (hc k (by omega) hk hk).2) j hj⟩
  ·intro hc
   have hne : ∀ l ∈ x.Ls,l.A ≠ l.B := fun l hl => by
    obtain ⟨i,hi,rfl⟩ := List.getElem_of_mem hl
    exact (hc i (by omega) hi hi).2.1.1
   refine ⟨?_,fun j _ hj _ => ⟨(hc j (by omega) hj hj).2.1,(zDl x.Ls hne).2 (fun k hk => (hc k (by omega) hk hk).2.2) j hj⟩⟩
   by_cases h0 : x.Ls.length = 0
   ·omega
   ·have := (hc (x.Ls.length - 1) (by omega) (by omega) (by omega)).1
    omega
 have hS : ∀ (bb : Bool),(bif decide ((x.Said.length : Int) > 40) then (some false : Option Bool) else some bb) = some (decide (x.Said.length ≤ 40) && bb) := fun bb => by
  by_cases h40 : x.Said.length ≤ 40
  ·rw [decide_eq_false (by omega),decide_eq_true h40]; cases bb <;> rfl
  ·rw [decide_eq_true (by omega),decide_eq_false h40]; rfl
 have hn6 : (decide ((1 : Int) ≤ (x.Bs.length : Int)) && decide ((x.Bs.length : Int) ≤ 6)) = decide (1 ≤ x.Bs.length ∧ x.Bs.length ≤ 6) := by
  by_cases h6 : 1 ≤ x.Bs.length ∧ x.Bs.length ≤ 6
  ·rw [decide_eq_true h6,decide_eq_true (by omega),decide_eq_true (by omega)]; rfl
  ·rw [decide_eq_false h6]; simp only [Bool.and_eq_false_iff,decide_eq_false_iff_not]; omega
 have hL : ∀ (b' : Bool),(bif decide ((x.Ls.length : Int) > 9) then (some false : Option Bool) else some b') = some (decide (x.Ls.length ≤ 9) && b') := fun b' => by
  by_cases h9 : x.Ls.length ≤ 9
  ·rw [decide_eq_false (by omega),decide_eq_true h9]; cases b' <;> rfl
  ·rw [decide_eq_true (by omega),decide_eq_false h9]; rfl
 have hN : ∀ (c b' : Bool),(bif !c then (some false : Option Bool) else some b') = some (c && b') := fun c b' => by cases c <;> rfl
 have hJ1 : Q8 n x = some bS := by
  unfold Q8
  rw [s1']
  rcases s3 with ⟨rfl,rfl⟩ | ⟨rfl,rfl⟩ <;> rfl
 have hspec : ∃ b4 : Bool,Zv n x = some (bB && (decide (x.Ls.length ≤ 9) && (decide (x.Said.length ≤ 40) && (b4 && bS)))) ∧ (b4 = true ↔ ∀ j,0 ≤ j → j < x.Ls.length → ∀ hk : j < x.Ls.length,LOk x x.Ls[j] ∧ qO (qV x.Ls[j].A x.Ls[j].P) x.Ls = 1 ∧ qO (qV x.Ls[j].B x.Ls[j].Q) x.Ls = 1) := by
  unfold Zv
  rw [eB,Option.bind_some]
  rcases l4 with ⟨a,e,p⟩ | ⟨e,p⟩
  ·rw [show qg n n x 0 = _ from e]
   refine ⟨true,?_,⟨fun _ => p,fun _ => rfl⟩⟩
   simp only [Option.bind_some,hJ1,hS,hL,hN,Bool.true_and]
  ·rw [show qg n n x 0 = _ from e]
   refine ⟨false,?_,⟨fun hc => (by cases hc),fun hc => absurd hc p⟩⟩
   simp only [Option.bind_some,hS,hL,hN,Bool.false_and]
 have hlk : ∃ b2 : Bool,Ya n x = some b2 ∧ (b2 = true ↔ (∀ j,0 ≤ j → j < x.Ls.length → ∀ hk : j < x.Ls.length,j < 9 ∧ LOk x x.Ls[j] ∧ (x.Ls.take j).any (zf x.Ls[j].A x.Ls[j].P) = false ∧ (x.Ls.take j).any (zf x.Ls[j].B x.Ls[j].Q) = false)) := by
  unfold Ya
  rcases l2 with ⟨a,e,p⟩ | ⟨e,p⟩
  ·rw [show qR n n x 0 = _ from e]; exact ⟨true,rfl,⟨fun _ => p,fun _ => rfl⟩⟩
  ·rw [show qR n n x 0 = _ from e]; exact ⟨false,rfl,⟨fun hc => (by cases hc),fun hc => absurd hc p⟩⟩
 obtain ⟨b2,e2,i2⟩ := hlk
 have hJ2 : Q5 n x = some (bS && b2) := by
  unfold Q5
  rw [s2']
  rcases s3 with ⟨rfl,rfl⟩ | ⟨rfl,rfl⟩
  ·simp only [Option.bind_some,Y5,e2,Bool.true_and]
  ·rfl
 have himpl : ∃ bb : Bool,QQ n x = some (decide (1 ≤ x.Bs.length ∧ x.Bs.length ≤ 6) && (decide (x.Said.length ≤ 40) && (bb && (bS && b2)))) ∧ (bb = true ↔ ∀ j,0 ≤ j → j < x.Bs.length → BOk n x j) := by
  unfold QQ
  rw [qW,zL,Option.bind_some,hn6]
  rcases lB with ⟨a,e,p⟩ | ⟨e,p⟩
  ·rw [show qH n n x 0 = _ from e]
   refine ⟨true,?_,⟨fun _ => p,fun _ => rfl⟩⟩
   simp only [Option.bind_some,hJ2,hS,hN,Bool.true_and]
  ·rw [show qH n n x 0 = _ from e]
   refine ⟨false,?_,⟨fun hc => (by cases hc),fun hc => absurd hc p⟩⟩
   simp only [Option.bind_some,hS,hN,Bool.false_and]
 obtain ⟨b4,e4,i4⟩ := hspec
 obtain ⟨bb,eb,ib⟩ := himpl
 have heq : (bB && (decide (x.Ls.length ≤ 9) && (decide (x.Said.length ≤ 40) && (b4 && bS)))) = (decide (1 ≤ x.Bs.length ∧ x.Bs.length ≤ 6) && (decide (x.Said.length ≤ 40) && (bb && (bS && b2)))) := by
  rw [Bool.eq_iff_iff]
  simp only [Bool.and_eq_true,decide_eq_true_eq,iB,i4,ib,i2]
  constructor
  ·rintro ⟨⟨h1,h2⟩,h3,h4,h5,h6⟩
   exact ⟨h2,h4,fun j _ hj => h1 j hj,h6,hiff.1 ⟨h3,h5⟩⟩
  ·rintro ⟨h2,h4,h1,h6,h7⟩
   obtain ⟨h3,h5⟩ := hiff.2 h7
   exact ⟨⟨fun k hk => h1 k (by omega) hk,h2⟩,h3,h4,h5,h6⟩
 refine ⟨_,e4,by rw [heq]; exact eb,⟨fun hc => ?_,fun ⟨⟨h1,h2,h3,h4,h5⟩,h6⟩ => ?_⟩⟩
 ·simp only [Bool.and_eq_true,decide_eq_true_eq,iB,i4,iS] at hc
  obtain ⟨⟨h1,h2⟩,h3,h4,h5,h6⟩ := hc
  exact ⟨⟨h1,h2,h3,h4,fun k hk => h5 k (by omega) hk hk⟩,h6⟩
 ·simp only [Bool.and_eq_true,decide_eq_true_eq,iB,i4,iS]
  exact ⟨⟨h1,h2⟩,h3,h4,fun j _ hj hk => h5 j hk,h6⟩
theorem zDW (n : Nat) (v : Vec) : zm n v = some true ↔ (1 ≤ v.Root ∧ v.Root ≤ 99) ∧ (0 ≤ v.Co ∧ v.Co ≤ 100000) ∧ (0 ≤ v.Hops ∧ v.Hops ≤ 10) ∧ (1 ≤ v.Bridge ∧ v.Bridge ≤ 99) ∧ (0 ≤ v.Port ∧ v.Port ≤ 7) := by
 have two : ∀ {a b c : Int},(decide (a ≤ b) && decide (b ≤ c)) = true ↔ a ≤ b ∧ b ≤ c := fun {a b c} => by rw [Bool.and_eq_true,decide_eq_true_eq,decide_eq_true_eq]
 unfold zm
 simp only [zL,Option.bind_some]
 constructor
 ·intro h
  obtain ⟨h1,h⟩ := zAX h
  obtain ⟨h2,h⟩ := zAX h
  obtain ⟨h3,h⟩ := zAX h
  obtain ⟨h4,h⟩ := zAX h
  have h5 := Option.some.inj h
  exact ⟨two.1 h1,two.1 h2,two.1 h3,two.1 h4,two.1 h5⟩
 ·rintro ⟨h1,h2,h3,h4,h5⟩
  rw [two.2 h1,two.2 h2,two.2 h3,two.2 h4,two.2 h5]
  rfl
theorem zHi (n : Nat) (v w : Vec) (c : Int) (h : ZY n v c = some (w,true)) : zm n w = some true := by
 unfold ZY at h
 obtain ⟨b1,h1,h⟩ := bind_some h
 cases b1 with
 | false => cases h
 | true =>
  obtain ⟨b2,h2,h⟩ := bind_some h
  cases b2 with
  | false => cases h
  | true =>
   obtain ⟨b3,h3,h⟩ := bind_some h
   cases b3 with
   | false => cases h
   | true => cases h; exact h3
def zMi (a b c : Int) : Prop := (1 ≤ a ∧ a ≤ 99) ∧ (0 ≤ b ∧ b ≤ 100000) ∧ (0 ≤ c ∧ c ≤ 10)
theorem zCP (n : Nat) (x0 : Int) (x1 : List Pt) : ∀ (m : Nat) (y1 y2 y3 y4 y5 y6 y7 y8 y9 y10 : Int) (o : (Int × Int × Int × Int) ⊕ (Vec × Int)),zMi y8 y9 y10 → ze n m x0 x1 y1 y2 y3 y4 y5 y6 y7 y8 y9 y10 = some o → ∃ z2 z8 z9 z10,o = .inl (z2,z8,z9,z10) ∧ zMi z8 z9 z10
 | 0,y1,y2,y3,y4,y5,y6,y7,y8,y9,y10,o,hr,e => by cases e
 | m + 1,y1,y2,y3,y4,y5,y6,y7,y8,y9,y10,o,hr,e => by
  have ih := zCP n x0 x1 m
  rw [ze] at e
  cases hl : decide (y1 < (x1.length : Int)) with
  | false => rw [hl] at e; cases e; exact ⟨_,_,_,_,rfl,hr⟩
  | true =>
   rw [hl,cond_true] at e
   obtain ⟨v,_,e⟩ := bind_some e
   cases hu : (!v.Up) with
   | true => rw [hu] at e; exact ih _ _ _ _ _ _ _ _ _ _ _ hr e
   | false =>
    rw [hu,cond_false] at e
    obtain ⟨v1,_,e⟩ := bind_some e
    cases hh : (!v1.Has) with
    | true => rw [hh] at e; exact ih _ _ _ _ _ _ _ _ _ _ _ hr e
    | false =>
     rw [hh,cond_false] at e
     obtain ⟨v2,_,e⟩ := bind_some e
     obtain ⟨v3,_,e⟩ := bind_some e
     obtain ⟨⟨w,ok⟩,hw,e⟩ := bind_some e
     simp only at e
     cases ok with
     | false => exact ih _ _ _ _ _ _ _ _ _ _ _ hr e
     | true =>
      have hv := (zDW n w).1 (zHi n _ _ _ hw)
      have hr' : zMi w.Root w.Co w.Hops := ⟨hv.1,hv.2.1,hv.2.2.1⟩
      rw [cond_true] at e
      cases hd : decide (w.Root < x0) with
      | false => rw [hd] at e; exact ih _ _ _ _ _ _ _ _ _ _ _ hr e
      | true =>
       rw [hd,cond_true] at e
       cases hd2 : decide (y2 < 0) with
       | true => rw [hd2] at e; exact ih _ _ _ _ _ _ _ _ _ _ _ hr' e
       | false =>
        rw [hd2,cond_false] at e
        obtain ⟨c,_,e⟩ := bind_some e
        cases c with
        | true => exact ih _ _ _ _ _ _ _ _ _ _ _ hr' e
        | false => exact ih _ _ _ _ _ _ _ _ _ _ _ hr e
end Go.Proofs.YtajadnlejdpceaaGreat.Tw
