import Derived.Test.YtcegokjpmppdbaaTwAN
import Derived.Test.YtcegokjpmppdbaaTlPlain
set_option linter.unusedVariables false
set_option linter.unusedSimpArgs false
set_option maxRecDepth 100000
set_option maxHeartbeats 1000000
namespace Go.Proofs.Ytcegokjpmppdbaa.Tw
open Go Go.TL Go.Proofs
def zC.sz (x : zC) : Nat := x.Rows.length + x.Pv.length
theorem zDu (n : Nat) : QE n = qv n := by
 funext m
 induction m with
 | zero => rfl
 | succ m ih => funext x i y; simp only [QE,qv,ih]
theorem Y4 (n : Nat) : QP n = ZI n := by
 funext x i; simp only [QP,ZI,zDu]; rfl
theorem ZX (n : Nat) (x : zC) (id : Int) (h : x.Rows.length ≤ 1048580) (hn : x.Rows.length < n) : ∃ r,ZI n x id = some r ∧ (r = -1 ∧ (∀ v ∈ x.Rows,v.Id ≠ id) ∨ ∃ v,0 ≤ r ∧ idx x.Rows r = some v ∧ v.Id = id) := by
 unfold ZI
 have hf := zFR (L := fun m xs i => qv n m ⟨xs,x.Pv⟩ id i) (p := fun i v => bif v.Id == id then some i else none) (fun m xs i => by
  show (bif _ then _ else _) = _
  congr 1
  congr 1
  funext v
  cases (v.Id == id) <;> rfl) x.Rows (by omega) n 0 (by omega) (by omega)
 rcases hf with ⟨e1,e2⟩ | ⟨j,hj,r,e1,e2,e3,e4⟩
 ·rw [show qv n n x id 0 = _ from e1]
  refine ⟨-1,rfl,.inl ⟨rfl,fun v hv => ?_⟩⟩
  obtain ⟨j,hj,rfl⟩ := List.getElem_of_mem hv
  have := e2 j hj (by omega)
  intro hid
  simp [hid] at this
 ·rw [show qv n n x id 0 = _ from e4]
  have hid : (x.Rows[j].Id == id) = true := by
   cases hc : (x.Rows[j].Id == id) with
   | true => rfl
   | false => rw [hc] at e2; cases e2
  rw [hid] at e2
  cases e2
  exact ⟨_,rfl,.inr ⟨_,by omega,zg hj,by simpa using hid⟩⟩
theorem JC (n : Nat) : Zy n = qS n := by
 funext x i; simp only [Zy,qS,Y4]
theorem Q3 (n : Nat) (a b c : Int) : Tot (zQ n a b c) := Tot.bif (fun _ => .of) (fun _ => .of)
theorem zEz (n : Nat) : YQ n = qf n := rfl
theorem zBj (n : Nat) (v : Vec) : Tot (qf n v) := by
 unfold qf
 repeat' first | exact Tot.of | refine Tot.bind (Q3 _ _ _ _) fun _ _ => ?_ | refine Tot.bif (fun _ => ?_) (fun _ => ?_)
theorem zDv (n : Nat) : JX n = Qg n := rfl
theorem zDY (n : Nat) (v : Vec) (c : Int) : Tot (Qg n v c) := by
 unfold Qg
 repeat' first | exact Tot.of | refine Tot.bind (Q3 _ _ _ _) fun _ _ => ?_ | refine Tot.bind (zBj _ _) fun _ _ => ?_ | refine Tot.bif (fun _ => ?_) (fun _ => ?_)
theorem zBF (n : Nat) : YF n = QF n := rfl
theorem zAl (n : Nat) (v u : Vec) : Tot (QF n v u) := by
 unfold QF
 repeat' first | exact Tot.of | refine Tot.bif (fun _ => ?_) (fun _ => ?_)
theorem zAA (n : Nat) (x0 : Int) (x1 : List Pt) (h : x1.length ≤ 1048576) : ∀ (m k : Nat) (y2 y3 y4 y5 y6 y7 y8 y9 y10 : Int),k ≤ x1.length → x1.length < m + k → Tot (zw n m x0 x1 k y2 y3 y4 y5 y6 y7 y8 y9 y10)
 | 0,k,y2,y3,y4,y5,y6,y7,y8,y9,y10,h1,h2 => by omega
 | m + 1,k,y2,y3,y4,y5,y6,y7,y8,y9,y10,h1,h2 => by
  rw [zw]
  refine Tot.step (fun hk => ?_) .of
  have ih := fun y2 y3 y4 y5 y6 y7 y8 y9 y10 => zAA n x0 x1 h m (k + 1) y2 y3 y4 y5 y6 y7 y8 y9 y10 (by omega) (by omega)
  simp only [qp,zy (by omega : k ≤ 1099511627776)]
  repeat' first | exact ih _ _ _ _ _ _ _ _ _ | exact Tot.of | refine Tot.bind (zHC hk) fun _ _ => ?_ | refine Tot.bind (zDY _ _ _) fun _ _ => ?_ | refine Tot.bind (zAl _ _ _) fun _ _ => ?_ | refine Tot.bif (fun _ => ?_) (fun _ => ?_)
theorem zAi (n : Nat) (x0 : Int) (x1 : List Pt) (h : x1.length ≤ 1048576) (hn : x1.length < n) : Tot (Zq n x0 x1) := by
 unfold Zq
 refine Tot.bind (zAA n x0 x1 h n 0 _ _ _ _ _ _ _ _ _ (by omega) (by omega)) fun o _ => ?_
 cases o <;> exact Tot.of
theorem zCr (n : Nat) : qA n = zw n := by
 funext m
 induction m with
 | zero => rfl
 | succ m ih =>
  funext x0 x1 y1 y2 y3 y4 y5 y6 y7 y8 y9 y10
  simp only [qA,zw,ih,ZA,qp,zDv,zBF]
  cases idx x1 y1 <;> rfl
theorem zBE (n : Nat) : Qd n = Zq n := by
 funext x i; simp only [Qd,Zq,zCr]; rfl
theorem zET (n : Nat) : Yi n = Q0 n := by
 funext x i y; simp only [Yi,Q0,zBE]
theorem zD6 (n : Nat) (x0 : Int) (x1 : List Pt) (x2 : Int) (h : x1.length ≤ 1048576) (hn : x1.length < n) : Tot (Q0 n x0 x1 x2) := Tot.bind (zAi n x0 x1 h hn) fun _ _ => .of
theorem zES (n : Nat) : Yh n = Qa n := by
 funext x i y; simp only [Yh,Qa,zBE,zET,zBF]; rfl
theorem zEl (n : Nat) (x0 : Int) (x1 : List Pt) (x2 : Int) (h : x1.length ≤ 1048576) (hn : x1.length < n) : ∃ r,Qa n x0 x1 x2 = some r ∧ 1 ≤ r ∧ r ≤ 4 := by
 unfold Qa zQ
 rw [wrap64 (by omega) (by omega)]
 obtain ⟨b,hb⟩ := zAi n x0 x1 h hn
 obtain ⟨s,hs⟩ := zD6 n x0 x1 x2 h hn
 by_cases h1 : x2 ≥ 0
 ·by_cases h2 : x2 ≤ (x1.length : Int) - 1
  ·obtain ⟨v,hv,_⟩ := zB0 (xs := x1) h1 (by omega)
   obtain ⟨l,hl⟩ := zAl n s v.Hd
   simp only [decide_eq_true h1,decide_eq_true h2,cond_true,Option.bind_some,Bool.not_true,cond_false,hb,hs,hv,hl]
   cases v.Up <;> cases (b.2 == x2) <;> cases v.Has <;> cases l <;> exact ⟨_,rfl,by decide,by decide⟩
  ·simp only [decide_eq_true h1,decide_eq_false h2,cond_true,Option.bind_some,Bool.not_false]
   exact ⟨_,rfl,by decide,by decide⟩
 ·simp only [decide_eq_false h1,cond_false,Option.bind_some,Bool.not_false,cond_true]
  exact ⟨_,rfl,by decide,by decide⟩
theorem zA5 {k : Nat} (h : k ≤ 1099511627776) : IntKind.wrap .u64 (k : Int) = k := by
 show ((k : Int) % 18446744073709551616) = k
 omega
theorem zAW (n : Nat) (x0 : Int) (x1 : List Pt) (h : x1.length ≤ 1048576) (hn : x1.length < n) : ∀ (m k : Nat) (y2 : Int),k ≤ x1.length → x1.length < m + k → qt n m x0 x1 k y2 = qZ n m x0 x1 k y2 ∧ Tot (qZ n m x0 x1 k y2)
 | 0,k,y2,h1,h2 => by omega
 | m + 1,k,y2,h1,h2 => by
  rw [qZ,qt]
  by_cases hk : k < x1.length
  ·have ih := fun y2 => zAW n x0 x1 h hn m (k + 1) y2 (by omega) (by omega)
   obtain ⟨r,hr,r1,r2⟩ := zEl n x0 x1 k h hn
   have hk' : decide ((k : Int) < (x1.length : Int)) = true := decide_eq_true (by omega)
   have h0 : decide ((0 : Int) ≤ (k : Int)) = true := decide_eq_true (by omega)
   simp only [hk',zy (by omega : k ≤ 1099511627776),zA5 (by omega : k ≤ 1099511627776),zES,hr,Option.bind_some,h0,cond_true,(ih _).1,true_and]
   have hc : r = 1 ∨ r = 2 ∨ r = 3 ∨ r = 4 := by omega
   rcases hc with rfl | rfl | rfl | rfl <;> cases (decide ((k : Int) < 6)) <;> first | exact ⟨rfl,(ih _).2⟩ | exact ⟨by trivial,Tot.of⟩
  ·have hk' : decide ((k : Int) < (x1.length : Int)) = false := decide_eq_false (by omega)
   rw [hk']
   exact ⟨by trivial,Tot.of⟩
theorem zD7 (n : Nat) (x0 : Int) (x1 : List Pt) (h : x1.length ≤ 1048576) (hn : x1.length < n) : YP n x0 x1 = Z3 n x0 x1 ∧ Tot (Z3 n x0 x1) := by
 obtain ⟨h1,o,h2⟩ := zAW n x0 x1 h hn n 0 0 (by omega) (by omega)
 unfold YP Z3
 have e1 : qt n n x0 x1 0 0 = some o := h1.trans h2
 have e2 : qZ n n x0 x1 0 0 = some o := h2
 rw [e1,e2]
 cases o <;> exact ⟨by trivial,Tot.of⟩
theorem ZZ (n : Nat) : zt n = zQ n := rfl
theorem zK (n : Nat) (a b c : Int) : zQ n a b c = some (decide (b ≤ a) && decide (a ≤ c)) := by
 unfold zQ
 by_cases h : a ≥ b
 ·rw [decide_eq_true h]; rfl
 ·rw [decide_eq_false h]; rfl
theorem zBP {p : Int} (h0 : 1 ≤ p) (h1 : p ≤ 6) : ∃ a : Int,0 ≤ a ∧ a < 9223372036854775808 ∧ (IntKind.wrap .i64 ((IntKind.wrap .i64 (1 * 2 ^ min ((IntKind.wrap .u64 p)).toNat (IntKind.bits .i64))) - 1)) = a ∧ (IntKind.wrap .i64 ((IntKind.wrap .i64 (1 * 2 ^ min (p).toNat (IntKind.bits .i64))) - 1)) = a ∧ decide (0 ≤ (IntKind.wrap .u64 p)) = true ∧ decide (0 ≤ p) = true := by
 have hc : p = 1 ∨ p = 2 ∨ p = 3 ∨ p = 4 ∨ p = 5 ∨ p = 6 := by omega
 rcases hc with rfl | rfl | rfl | rfl | rfl | rfl
 ·exact ⟨1,by decide,by decide,by decide,by decide,by decide,by decide⟩
 ·exact ⟨3,by decide,by decide,by decide,by decide,by decide,by decide⟩
 ·exact ⟨7,by decide,by decide,by decide,by decide,by decide,by decide⟩
 ·exact ⟨15,by decide,by decide,by decide,by decide,by decide,by decide⟩
 ·exact ⟨31,by decide,by decide,by decide,by decide,by decide,by decide⟩
 ·exact ⟨63,by decide,by decide,by decide,by decide,by decide,by decide⟩
theorem zAC (n : Nat) (x0 : zC) (w0 : x0.wf) (x1 : Int) (hp0 : 1 ≤ x1) (hp1 : x1 ≤ 6) (h : x0.Rows.length ≤ 1048580) : ∀ (m k : Nat),k ≤ x0.Rows.length → x0.Rows.length < m + k → qx n m x0 x1 k = ze n m x0 x1 k ∧ Tot (ze n m x0 x1 k)
 | 0,k,h1,h2 => by omega
 | m + 1,k,h1,h2 => by
  rw [ze,qx]
  by_cases hk : k < x0.Rows.length
  ·obtain ⟨ih1,o,ih2⟩ := zAC n x0 w0 x1 hp0 hp1 h m (k + 1) (by omega) (by omega)
   obtain ⟨a,ha0,ha1,ha2,ha3,ha4,ha5⟩ := zBP hp0 hp1
   have hk' : decide ((k : Int) < (x0.Rows.length : Int)) = true := decide_eq_true (by omega)
   have hv : x0.Rows[k] ∈ x0.Rows := List.getElem_mem hk
   have hi := zg hk
   generalize x0.Rows[k] = v at hv hi
   have hw := w0.1.2 v hv
   have hin : ZV n x1 = some a := by unfold ZV; rw [ha5,ha3]; rfl
   simp only [hk',zy (by omega : k ≤ 1099511627776),hi,Option.bind_some,cond_true,ih1,ih2,hin,ZZ,zK,ha2]
   have hbits := fun hm0 hm1 => zIk (B := v.Bare) (M := v.Members) hw.2.2.1 hm0 hm1
   by_cases hm : 0 ≤ v.Members ∧ v.Members ≤ a
   ·have hb := hbits hm.1 (by omega)
    simp only [decide_eq_true hm.1,decide_eq_true hm.2,Bool.and_self,Bool.not_true,cond_false]
    by_cases hz : IntKind.wrap .i64 (BitVec.ofInt (IntKind.bits .i64) v.Bare &&& ~~~BitVec.ofInt (IntKind.bits .i64) v.Members).toNat = 0
    ·have h3 := hb.1 hz
     have hz' : ((IntKind.wrap .i64 (BitVec.ofInt (IntKind.bits .i64) v.Bare &&& ~~~BitVec.ofInt (IntKind.bits .i64) v.Members).toNat) != 0) = false := by rw [hz]; rfl
     have hy' : ((IntKind.wrap .i64 (BitVec.ofInt (IntKind.bits .i64) v.Bare &&& BitVec.ofInt (IntKind.bits .i64) v.Members).toNat) != v.Bare) = false := by rw [h3.2.2]; simp
     simp only [hz',hy',decide_eq_true h3.1,decide_eq_true (show v.Bare ≤ a by omega),Bool.and_self,Bool.not_true,cond_false]
     cases k with
     | zero => cases (decide (1 ≤ v.Id) && decide (v.Id ≤ 99)) <;> exact ⟨by trivial,Tot.of⟩
     | succ k =>
      have hw2 : IntKind.wrap .i64 (((k + 1 : Nat) : Int) - 1) = (k : Int) := by rw [wrap64 (by omega) (by omega)]; omega
      have hpos : decide (((k + 1 : Nat) : Int) > 0) = true := decide_eq_true (by omega)
      simp only [hw2,hpos,cond_true,zg (show k < x0.Rows.length by omega),Option.bind_some]
      cases (decide (1 ≤ v.Id) && decide (v.Id ≤ 99)) <;> cases (decide ((x0.Rows[k]'(by omega)).Id ≥ v.Id)) <;> exact ⟨by trivial,Tot.of⟩
    ·have hz' : ((IntKind.wrap .i64 (BitVec.ofInt (IntKind.bits .i64) v.Bare &&& ~~~BitVec.ofInt (IntKind.bits .i64) v.Members).toNat) != 0) = true := by simpa using hz
     have h3 : (decide (0 ≤ v.Bare) && decide (v.Bare ≤ a)) = false ∨ ((IntKind.wrap .i64 (BitVec.ofInt (IntKind.bits .i64) v.Bare &&& BitVec.ofInt (IntKind.bits .i64) v.Members).toNat) != v.Bare) = true := by
      by_cases hq : ((IntKind.wrap .i64 (BitVec.ofInt (IntKind.bits .i64) v.Bare &&& BitVec.ofInt (IntKind.bits .i64) v.Members).toNat) != v.Bare) = true
      ·exact .inr hq
      ·left
       simp at hq
       by_cases hr : 0 ≤ v.Bare ∧ v.Bare ≤ a
       ·have hle := zIl hw.2.2.1 hm.1 (by omega) hq
        exact absurd (hb.2 ⟨hle.1,hle.2,hq⟩) hz
       ·simp only [Bool.and_eq_false_iff,decide_eq_false_iff_not]; omega
     simp only [hz',cond_true]
     have hspec : (bif !(decide (0 ≤ v.Bare) && decide (v.Bare ≤ a)) then some (Sum.inr false) else bif ((IntKind.wrap .i64 (BitVec.ofInt (IntKind.bits .i64) v.Bare &&& BitVec.ofInt (IntKind.bits .i64) v.Members).toNat) != v.Bare) then some (Sum.inr false) else (bif decide ((k : Int) > 0) then (idx x0.Rows (IntKind.wrap .i64 ((k : Int) - 1))).bind fun v13 => bif decide (v13.Id ≥ v.Id) then some (Sum.inr false) else some o else some o)) = (some (Sum.inr false) : Option (Unit ⊕ Bool)) := by
      rcases h3 with h3 | h3
      ·rw [h3]; rfl
      ·rw [h3]; cases (decide (0 ≤ v.Bare) && decide (v.Bare ≤ a)) <;> rfl
     rw [hspec]
     cases k with
     | zero => cases (decide (1 ≤ v.Id) && decide (v.Id ≤ 99)) <;> exact ⟨by trivial,Tot.of⟩
     | succ k =>
      have hw2 : IntKind.wrap .i64 (((k + 1 : Nat) : Int) - 1) = (k : Int) := by rw [wrap64 (by omega) (by omega)]; omega
      have hpos : decide (((k + 1 : Nat) : Int) > 0) = true := decide_eq_true (by omega)
      simp only [hw2,hpos,cond_true,zg (show k < x0.Rows.length by omega),Option.bind_some]
      cases (decide (1 ≤ v.Id) && decide (v.Id ≤ 99)) <;> cases (decide ((x0.Rows[k]'(by omega)).Id ≥ v.Id)) <;> exact ⟨by trivial,Tot.of⟩
   ·have hm' : (decide (0 ≤ v.Members) && decide (v.Members ≤ a)) = false := by
     simp only [Bool.and_eq_false_iff,decide_eq_false_iff_not]; omega
    simp only [hm',Bool.not_false,cond_true]
    cases k with
    | zero => cases (decide (1 ≤ v.Id) && decide (v.Id ≤ 99)) <;> exact ⟨by trivial,Tot.of⟩
    | succ k =>
     have hw2 : IntKind.wrap .i64 (((k + 1 : Nat) : Int) - 1) = (k : Int) := by rw [wrap64 (by omega) (by omega)]; omega
     have hpos : decide (((k + 1 : Nat) : Int) > 0) = true := decide_eq_true (by omega)
     simp only [hw2,hpos,cond_true,zg (show k < x0.Rows.length by omega),Option.bind_some]
     cases (decide (1 ≤ v.Id) && decide (v.Id ≤ 99)) <;> cases (decide ((x0.Rows[k]'(by omega)).Id ≥ v.Id)) <;> exact ⟨by trivial,Tot.of⟩
  ·have hk' : decide ((k : Int) < (x0.Rows.length : Int)) = false := decide_eq_false (by omega)
   rw [hk']
   exact ⟨by trivial,Tot.of⟩
theorem zAB (n : Nat) (x0 : zC) (h : x0.Rows.length ≤ 1048580) (hn : x0.Rows.length < n) (hq : x0.Pv.length ≤ 1048580) : ∀ (m k : Nat),k ≤ x0.Pv.length → x0.Pv.length < m + k → ZU n m x0 k = z5 n m x0 k ∧ Tot (z5 n m x0 k)
 | 0,k,h1,h2 => by omega
 | m + 1,k,h1,h2 => by
  rw [z5,ZU]
  by_cases hk : k < x0.Pv.length
  ·obtain ⟨ih1,o,ih2⟩ := zAB n x0 h hn hq m (k + 1) (by omega) (by omega)
   have hk' : decide ((k : Int) < (x0.Pv.length : Int)) = true := decide_eq_true (by omega)
   obtain ⟨r,hr,_⟩ := ZX n x0 x0.Pv[k] h hn
   simp only [hk',zy (by omega : k ≤ 1099511627776),zg hk,Option.bind_some,cond_true,ih1,ih2,Y4,hr]
   cases decide (r < 0) <;> exact ⟨by trivial,Tot.of⟩
  ·have hk' : decide ((k : Int) < (x0.Pv.length : Int)) = false := decide_eq_false (by omega)
   rw [hk']
   exact ⟨by trivial,Tot.of⟩
theorem zDZ (n : Nat) (x0 : zC) (w0 : x0.wf) (x1 : Int) (h : x0.sz ≤ 1048580) (hn : x0.sz < n) : Yk n x0 x1 = zh n x0 x1 ∧ Tot (zh n x0 x1) := by
 have hs : x0.Rows.length + x0.Pv.length = x0.sz := rfl
 unfold Yk zh
 simp only [ZZ,zK,Option.bind_some]
 by_cases hp : 1 ≤ x1 ∧ x1 ≤ 6
 ·obtain ⟨a,ha0,ha1,ha2,ha3,ha4,ha5⟩ := zBP hp.1 hp.2
  obtain ⟨e1,o,e2⟩ := zAC n x0 w0 x1 hp.1 hp.2 (by omega) n 0 (by omega) (by omega)
  obtain ⟨f1,q,f2⟩ := zAB n x0 (by omega) (by omega) (by omega) n 0 (by omega) (by omega)
  have e1' : qx n n x0 x1 0 = some o := e1.trans e2
  have e2' : ze n n x0 x1 0 = some o := e2
  have f1' : ZU n n x0 0 = some q := f1.trans f2
  have f2' : z5 n n x0 0 = some q := f2
  simp only [decide_eq_true hp.1,decide_eq_true hp.2,Bool.and_self,Bool.not_true,cond_false,ha4,cond_true,e1',e2',Option.bind_some]
  cases o with
  | inl u =>
   simp only [Qw,ZY,f1',f2',Option.bind_some]
   cases q <;> exact ⟨rfl,Tot.bif (fun _ => .of) fun _ => Tot.bif (fun _ => .of) fun _ => .of⟩
  | inr r => exact ⟨rfl,Tot.bif (fun _ => .of) fun _ => Tot.bif (fun _ => .of) fun _ => .of⟩
 ·have hp' : (decide (1 ≤ x1) && decide (x1 ≤ 6)) = false := by
   simp only [Bool.and_eq_false_iff,decide_eq_false_iff_not]; omega
  rw [hp']
  exact ⟨by trivial,Tot.of⟩
theorem Qn (n : Nat) (x : zC) (h : x.sz ≤ 268435456) : qd n x = some x := by
 have hs : x.Rows.length + x.Pv.length = x.sz := rfl
 unfold qd
 simp only [List.length_nil,Nat.zero_add,decide_eq_true (show x.Rows.length ≤ 268435456 by omega),decide_eq_true (show x.Pv.length ≤ 268435456 by omega),cond_true,List.nil_append]
theorem zDV (n : Nat) (x : zC) (h : x.sz ≤ 268435456) : Qy n x = some x := by
 have hs : x.Rows.length + x.Pv.length = x.sz := rfl
 unfold Qy Y6
 simp only [List.length_nil,Nat.zero_add,decide_eq_true (show x.Rows.length ≤ 268435456 by omega),decide_eq_true (show x.Pv.length ≤ 268435456 by omega),cond_true,List.nil_append,Option.bind_some]
theorem zHY {α : Type} {wf : α → Prop} {xs ys : List α} (h : Zv wf xs) (hs : ∀ y ∈ ys,y ∈ xs) (hl : ys.length ≤ xs.length) : Zv wf ys := ⟨Nat.le_trans hl h.1,fun y hy => h.2 y (hs y hy)⟩
theorem zHX {α : Type} {wf : α → Prop} {xs : List α} {i : Nat} {v : α} (h : Zv wf xs) (hv : wf v) : Zv wf (xs.set i v) := ⟨by rw [List.length_set]; exact h.1,fun y hy => by
 rcases List.mem_or_eq_of_mem_set hy with h1 | h1
 ·exact h.2 y h1
 ·rw [h1]; exact hv⟩
def zD.sz (x : zD) : Nat := x.Name.size + x.Ps.length + x.F.length + x.V.sz
theorem zFi (n : Nat) : Js n = qG n := by
 funext v
 unfold Js qG
 rw [ZZ,zEz]
 obtain ⟨b,hb⟩ := Q3 n v.Co 1 1000
 rw [hb]
 cases b <;> cases v.Up <;> cases v.Has <;> rfl
theorem zB6 (n : Nat) (v : Pt) : Tot (qG n v) := by
 unfold qG
 repeat' first | exact Tot.of | refine Tot.bind (Q3 _ _ _ _) fun _ _ => ?_ | refine Tot.bind (zBj _ _) fun _ _ => ?_ | refine Tot.bif (fun _ => ?_) (fun _ => ?_)
theorem Yf (n : Nat) (v : zA) : Tot (qP n v) := by
 unfold qP
 repeat' first | exact Tot.of | refine Tot.bind (Q3 _ _ _ _) fun _ _ => ?_ | refine Tot.bif (fun _ => ?_) (fun _ => ?_)
theorem zBc (n : Nat) : Yl n = qP n := rfl
theorem zBb (n : Nat) (v u : zA) : Qx n u v.Tag v.Mac = qk n v u.Tag u.Mac := by
 unfold Qx qk
 by_cases h1 : v.Tag = u.Tag
 ·simp [h1]
 ·have e1 : (v.Tag != u.Tag) = true := by simpa using h1
  have e2 : (u.Tag == v.Tag) = false := by simpa using fun e : u.Tag = v.Tag => h1 e.symm
  rw [e1,e2]
  by_cases h2 : v.Tag < u.Tag
  ·rw [decide_eq_true h2]; rfl
  ·rw [decide_eq_false h2]; rfl
theorem zAq (n : Nat) (v : zA) (a b : Int) : Tot (qk n v a b) := Tot.bif (fun _ => .of) (fun _ => .of)
theorem zAU (n : Nat) (xs : List zA) (h : xs.length ≤ 1048580) : ∀ (m k : Nat),k ≤ xs.length → xs.length < m + k → ZL n m xs k = z7 n m xs k ∧ Tot (z7 n m xs k)
 | 0,k,h1,h2 => by omega
 | m + 1,k,h1,h2 => by
  rw [z7,ZL]
  by_cases hk : k < xs.length
  ·obtain ⟨ih1,o,ih2⟩ := zAU n xs h m (k + 1) (by omega) (by omega)
   rw [qy hk]
   obtain ⟨a,ha⟩ := Yf n xs[k]
   simp only [zy (by omega : k ≤ 1099511627776),zg hk,Option.bind_some,cond_true,ih1,ih2,zBc,ha]
   cases k with
   | zero => cases a <;> exact ⟨by trivial,Tot.of⟩
   | succ k =>
    have hw2 : IntKind.wrap .i64 (((k + 1 : Nat) : Int) - 1) = (k : Int) := by rw [wrap64 (by omega) (by omega)]; omega
    have hpos : decide (((k + 1 : Nat) : Int) > 0) = true := decide_eq_true (by omega)
    obtain ⟨b,hb⟩ := zAq n (xs[k]'(by omega)) xs[k + 1].Tag xs[k + 1].Mac
    simp only [hw2,hpos,cond_true,zg (show k < xs.length by omega),Option.bind_some,zBb,hb]
    cases a <;> cases b <;> exact ⟨by trivial,Tot.of⟩
  ·have he : k = xs.length := by omega
   rw [he,qm]
   exact ⟨rfl,Tot.of⟩
theorem zBK (n : Nat) (xs : List zA) (h : xs.length ≤ 1048580) (hn : xs.length < n) : ∃ b,qX n xs = some b ∧ YO n xs = some b := by
 obtain ⟨e1,o,e2⟩ := zAU n xs h n 0 (by omega) (by omega)
 have e1' : ZL n n xs 0 = some o := e1.trans e2
 have e2' : z7 n n xs 0 = some o := e2
 unfold qX YO
 rw [e1',e2']
 cases o <;> exact ⟨_,rfl,rfl⟩
theorem zCg (n : Nat) : ZP n = zd n := by
 funext m
 induction m with
 | zero => rfl
 | succ m ih => funext x i; simp only [ZP,zd,ih,zFi]
theorem Jy (n : Nat) (x : zD) (h : x.Ps.length ≤ 1048580) : ∀ (m k : Nat),k ≤ x.Ps.length → x.Ps.length < m + k → Tot (zd n m x k)
 | 0,k,h1,h2 => by omega
 | m + 1,k,h1,h2 => by
  rw [zd]
  refine Tot.step (fun hk => ?_) .of
  have ih := Jy n x h m (k + 1) (by omega) (by omega)
  rw [zy (by omega : k ≤ 1099511627776)]
  exact Tot.bind (zHC hk) fun _ _ => Tot.bind (zB6 _ _) fun _ _ => Tot.bif (fun _ => .of) fun _ => ih
theorem zCi (n : Nat) (x : zD) (wx : x.wf) (h : x.sz ≤ 1048580) (hn : x.sz < n) : ∃ b,qL n x = some b ∧ QS n x = some b := by
 have hs : x.Name.size + x.Ps.length + x.F.length + x.V.sz = x.sz := rfl
 obtain ⟨o,ho⟩ := Jy n x (by omega) n 0 (by omega) (by omega)
 have ho' : zd n n x 0 = some o := ho
 obtain ⟨f,hf1,hf2⟩ := zBK n x.F (by omega) (by omega)
 obtain ⟨g,v,hv⟩ := zDZ n x.V ⟨wx.2.2.2.2.1,wx.2.2.2.2.2.1,trivial⟩ (x.Ps.length : Int) (by omega) (by omega)
 unfold qL QS
 rw [zCg,ho',Option.bind_some,Option.bind_some]
 cases o with
 | inr r => exact ⟨_,rfl,rfl⟩
 | inl u =>
  simp only [ZS,QX,ZZ,Zp,QA,zK,hf1,hf2,g,hv,Option.bind_some]
  have hname : decide ((x.Name.size : Int) > 10) = !decide ((x.Name.size : Int) ≤ 10) := by
   by_cases h : (x.Name.size : Int) ≤ 10
   ·rw [decide_eq_true h,decide_eq_false (by omega)]; rfl
   ·rw [decide_eq_false h,decide_eq_true (by omega)]; rfl
  rw [hname]
  generalize decide ((x.Name.size : Int) ≤ 10) = b1
  generalize (decide (1 ≤ x.Id) && decide (x.Id ≤ 99)) = b2
  generalize (decide (1 ≤ (x.Ps.length : Int)) && decide ((x.Ps.length : Int) ≤ 6)) = b3
  generalize (decide (0 ≤ x.Tk) && decide (x.Tk ≤ 1000000)) = b4
  generalize (decide (0 ≤ x.Pa) && decide (x.Pa ≤ 1000000)) = b5
  generalize (decide (0 ≤ x.Wo) && decide (x.Wo ≤ 1000000)) = b6
  generalize (decide (0 ≤ x.Dr) && decide (x.Dr ≤ 1000000)) = b7
  generalize (decide (0 ≤ x.Ve) && decide (x.Ve ≤ 1000000)) = b8
  clear hf1 hf2 g hv hname
  revert f v b1 b2 b3 b4 b5 b6 b7 b8
  decide +kernel
def Src.ok (c : Src) : Prop := 0 ≤ c.i ∧ c.b.length ≤ 1099511627776
theorem zHp (z : Int) : ∃ v : Int,(IntKind.wrap .i64 (BitVec.ofInt (IntKind.bits .i64) z &&& BitVec.ofInt (IntKind.bits .i64) 255).toNat) = v ∧ 0 ≤ v ∧ v ≤ 255 := by
 have h : (BitVec.ofInt 64 z &&& BitVec.ofInt 64 255).toNat ≤ 255 := by
  rw [BitVec.toNat_and]
  exact Nat.le_trans Nat.and_le_right (by decide)
 refine ⟨((BitVec.ofInt 64 z &&& BitVec.ofInt 64 255).toNat : Int),?_,by omega,by omega⟩
 exact wrap64 (z := ((BitVec.ofInt 64 z &&& BitVec.ofInt 64 255).toNat : Int)) (by omega) (by omega)
theorem Qm (n : Nat) (c : Src) (h : c.ok) : ∃ v c',ZJ n c = some (v,c') ∧ 0 ≤ v ∧ v ≤ 255 ∧ c'.ok := by
 unfold ZJ
 rw [show decide ((0 : Int) ≤ 33) = true from rfl,show decide ((0 : Int) ≤ 47) = true from rfl]
 simp only [cond_true]
 by_cases hi : c.i < (c.b.length : Int)
 ·obtain ⟨v,hv,_⟩ := zB0 (xs := c.b) h.1 hi
  rw [decide_eq_true hi,hv,wrap64 (z := c.i + 1) (by have := h.1; omega) (by have := h.2; omega)]
  obtain ⟨w,e,e1,e2⟩ := zHp (IntKind.wrap .i64 ((IntKind.wrap .i64 (BitVec.ofInt (IntKind.bits .i64) (IntKind.wrap .i64 (BitVec.ofInt (IntKind.bits .i64) (Int.fdiv (IntKind.wrap .i64 ((IntKind.wrap .i64 (c.h * 6364136223846793005)) + 1442695040888963407)) (2 ^ min ((33 : Int)).toNat (IntKind.bits .i64))) ^^^ BitVec.ofInt (IntKind.bits .i64) (Int.fdiv (IntKind.wrap .i64 ((IntKind.wrap .i64 (c.h * 6364136223846793005)) + 1442695040888963407)) (2 ^ min ((47 : Int)).toNat (IntKind.bits .i64)))).toNat) &&& BitVec.ofInt (IntKind.bits .i64) 255).toNat) + (IntKind.wrap .i64 v)))
  simp only [cond_true,Option.bind_some]
  exact ⟨_,_,rfl,by rw [e]; exact e1,by rw [e]; exact e2,by have := h.1; show 0 ≤ c.i + 1; omega,h.2⟩
 ·rw [decide_eq_false hi]
  obtain ⟨w,e,e1,e2⟩ := zHp (IntKind.wrap .i64 (BitVec.ofInt (IntKind.bits .i64) (Int.fdiv (IntKind.wrap .i64 ((IntKind.wrap .i64 (c.h * 6364136223846793005)) + 1442695040888963407)) (2 ^ min ((33 : Int)).toNat (IntKind.bits .i64))) ^^^ BitVec.ofInt (IntKind.bits .i64) (Int.fdiv (IntKind.wrap .i64 ((IntKind.wrap .i64 (c.h * 6364136223846793005)) + 1442695040888963407)) (2 ^ min ((47 : Int)).toNat (IntKind.bits .i64)))).toNat)
  simp only [cond_false]
  exact ⟨_,_,rfl,by rw [e]; exact e1,by rw [e]; exact e2,h.1,h.2⟩
theorem zHL {v k : Int} (h0 : 0 ≤ v) (hk : 0 < k) : 0 ≤ Int.tmod v k ∧ Int.tmod v k < k := by
 rw [Int.tmod_eq_emod_of_nonneg h0]
 exact ⟨Int.emod_nonneg _ (by omega),Int.emod_lt_of_pos _ hk⟩
theorem zU (n : Nat) (c : Src) (k : Int) (h : c.ok) : ∃ v c',zT n c k = some (v,c') ∧ 0 ≤ v ∧ (0 < k → v < k) ∧ c'.ok := by
 unfold zT
 by_cases h1 : k ≤ 0
 ·rw [decide_eq_true h1]
  exact ⟨0,c,rfl,by omega,fun h => by omega,h⟩
 ·rw [decide_eq_false h1]
  have hne : decide ((k : Int) ≠ 0) = true := decide_eq_true (by omega)
  by_cases h2 : k ≤ 256
  ·rw [decide_eq_true h2]
   obtain ⟨v,c',e,e1,e2,e3⟩ := Qm n c h
   simp only [cond_true,cond_false,e,Option.bind_some,hne]
   obtain ⟨t1,t2⟩ := zHL e1 (show 0 < k by omega)
   exact ⟨_,_,rfl,t1,fun _ => t2,e3⟩
  ·rw [decide_eq_false h2]
   obtain ⟨v1,c1,e,e1,e2,e3⟩ := Qm n c h
   obtain ⟨v2,c2,f,f1,f2,f3⟩ := Qm n c1 e3
   obtain ⟨v3,c3,g,g1,g2,g3⟩ := Qm n c2 f3
   simp only [cond_false,e,f,g,Option.bind_some,hne,cond_true]
   simp (disch := omega) only [wrap64]
   obtain ⟨t1,t2⟩ := zHL (show 0 ≤ v1 * 65536 + v2 * 256 + v3 by omega) (show 0 < k by omega)
   exact ⟨_,_,rfl,t1,fun _ => t2,g3⟩
theorem J2 (n : Nat) (c : Src) (k : Int) (h : c.ok) : ∃ v c',Zj n c k = some (v,c') ∧ c'.ok := by
 obtain ⟨v,c',e,_,_,e3⟩ := zU n c k h
 unfold Zj
 rw [e]
 exact ⟨_,_,rfl,e3⟩
theorem qz (n : Nat) (c : Src) (xs : List Int) (h : c.ok) (hx : 0 < xs.length) : ∃ v c',ql n c xs = some (v,c') ∧ v ∈ xs ∧ c'.ok := by
 obtain ⟨v,c',e,e1,e2,e3⟩ := zU n c (xs.length : Int) h
 obtain ⟨u,hu,hm⟩ := zB0 (xs := xs) e1 (e2 (by omega))
 unfold ql
 simp only [e,hu,Option.bind_some]
 exact ⟨_,_,rfl,hm,e3⟩
theorem zAp (n : Nat) (x0 : List Int) (h : x0.length ≤ 1048580) : ∀ (m k : Nat) (y : Int),k ≤ x0.length → x0.length < m + k → ∃ v,Zr n m x0 k y = some (.inl v)
 | 0,k,y,h1,h2 => by omega
 | m + 1,k,y,h1,h2 => by
  rw [Zr]
  by_cases hk : k < x0.length
  ·rw [qy hk,zg hk,zy (by omega)]
   by_cases h4 : (k : Int) < 4000
   ·rw [decide_eq_true h4]
    simp only [cond_true,Option.bind_some]
    exact zAp n x0 h m (k + 1) _ (by omega) (by omega)
   ·rw [decide_eq_false h4]
    exact ⟨_,rfl⟩
  ·have he : k = x0.length := by omega
   rw [he,qm]
   exact ⟨_,rfl⟩
theorem zFI (n : Nat) (x0 : List Int) (h : x0.length ≤ 1048580) (hn : x0.length < n) : ∃ c,JN n x0 = some c ∧ c.ok := by
 obtain ⟨v,e⟩ := zAp n x0 h n 0 (IntKind.wrap .i64 (762762 + (x0.length : Int))) (by omega) (by omega)
 unfold JN
 rw [show Zr n n x0 0 (IntKind.wrap .i64 (762762 + (x0.length : Int))) = _ from e]
 exact ⟨_,rfl,by show (0 : Int) ≤ 0; omega,by show x0.length ≤ _; omega⟩
def zEh (xs : List zB) (k : Nat) : Prop := ∀ j (hj : j + 1 < xs.length),k ≤ j + 1 → xs[j].Id < xs[j + 1].Id
theorem zIa : ∀ k < 6,∀ a < 64,IntKind.wrap .i64 (BitVec.ofInt (IntKind.bits .i64) (a : Nat) ||| BitVec.ofInt (IntKind.bits .i64) (IntKind.wrap .i64 (1 * 2 ^ min ((k : Nat) : Int).toNat (IntKind.bits .i64)))).toNat = ((a ||| 2 ^ k : Nat) : Int) := by decide +kernel
theorem zAZ (n : Nat) (x0 : zC) (x1 : Int) (h : x0.Rows.length ≤ 1048580) : ∀ (m k : Nat),k ≤ x0.Rows.length → x0.Rows.length < m + k → Tot (ze n m x0 x1 k)
 | 0,k,h1,h2 => by omega
 | m + 1,k,h1,h2 => by
  rw [ze]
  refine Tot.step (fun hk => ?_) .of
  have ih := zAZ n x0 x1 h m (k + 1) (by omega) (by omega)
  simp only [zg hk,Option.bind_some,zK,zy (by omega : k ≤ 1099511627776)]
  refine Tot.bif (fun _ => .of) fun _ => Tot.bif (fun _ => .of) fun _ => Tot.bif (fun _ => .of) fun _ => Tot.bif (fun _ => .of) fun _ => Tot.bif (fun hp => ?_) fun _ => ih
  have hp := of_decide_eq_true hp
  obtain ⟨v,hv,_⟩ := zB0 (xs := x0.Rows) (i := (k : Int) - 1) (by omega) (by omega)
  rw [wrap64 (by omega) (by omega),hv,Option.bind_some]
  exact Tot.bif (fun _ => .of) fun _ => ih
theorem zAY (n : Nat) (x0 : zC) (h : x0.Rows.length ≤ 1048580) (hn : x0.Rows.length < n) (hq : x0.Pv.length ≤ 1048580) : ∀ (m k : Nat),k ≤ x0.Pv.length → x0.Pv.length < m + k → Tot (z5 n m x0 k)
 | 0,k,h1,h2 => by omega
 | m + 1,k,h1,h2 => by
  rw [z5]
  refine Tot.step (fun hk => ?_) .of
  have ih := zAY n x0 h hn hq m (k + 1) (by omega) (by omega)
  obtain ⟨r,hr,_⟩ := ZX n x0 x0.Pv[k] h hn
  simp only [zg hk,Option.bind_some,hr,zy (by omega : k ≤ 1099511627776)]
  exact Tot.bif (fun _ => .of) fun _ => ih
theorem zEB (n : Nat) (x0 : zC) (p : Nat) (hp : p ≤ 1000000) (h : x0.sz ≤ 1048580) (hn : x0.sz < n) : Tot (zh n x0 p) := by
 have hs : x0.Rows.length + x0.Pv.length = x0.sz := rfl
 unfold zh
 simp only [zK,Option.bind_some]
 have hu : decide ((0 : Int) ≤ IntKind.wrap .u64 (p : Int)) = true := by rw [show IntKind.wrap .u64 (p : Int) = p from by show ((p : Int) % 18446744073709551616) = p; omega]; exact decide_eq_true (by omega)
 refine Tot.bif (fun _ => .of) fun _ => Tot.bif (fun _ => .of) fun _ => Tot.bif (fun _ => .of) fun _ => ?_
 rw [hu,cond_true]
 refine Tot.bind (zAZ n x0 p (by omega) n 0 (by omega) (by omega)) fun o _ => ?_
 cases o with
 | inr b => exact Tot.of
 | inl u =>
  show Tot (ZY n x0)
  unfold ZY
  refine Tot.bind (zAY n x0 (by omega) (by omega) (by omega) n 0 (by omega) (by omega)) fun o _ => ?_
  cases o <;> exact Tot.of
theorem zEA (n : Nat) (x : zC) (p : Int) (hok : zh n x p = some true) : x.Rows.length ≤ 6 ∧ (x.Pv.length : Int) = p := by
 unfold zh at hok
 simp only [zK,Option.bind_some] at hok
 revert hok
 cases (decide (1 ≤ p) && decide (p ≤ 6)) with
 | false => intro h; cases h
 | true =>
  simp only [Bool.not_true,cond_false]
  by_cases hp : (x.Pv.length : Int) = p
  ·have : ((x.Pv.length : Int) != p) = false := by simp [hp]
   rw [this,cond_false]
   by_cases hr : (x.Rows.length : Int) > 6
   ·rw [decide_eq_true hr]; intro h; cases h
   ·exact fun _ => ⟨by omega,hp⟩
  ·have : ((x.Pv.length : Int) != p) = true := by simp [hp]
   rw [this]; intro h; cases h
def VtG (n p : Nat) (x : zC) : Prop := x.wf ∧ x.Pv.length = p ∧ x.Rows.length ≤ 6 ∧ zh n x p = some true ∧ ∀ r ∈ x.Rows,0 ≤ r.Bare ∧ r.Bare ≤ 63
theorem VtG.sz {n p : Nat} {x : zC} (h : VtG n p x) : x.sz ≤ 6 + p := by
 have hs : x.Rows.length + x.Pv.length = x.sz := rfl
 have := h.2.1; have := h.2.2.1; omega
theorem zAf (n p : Nat) (hp : p ≤ 1000) (x y : zC) (hx : VtG n p x) (wy : y.wf) (hy : y.Pv.length = p) (hl : y.Rows.length ≤ 1000) (hb : ∀ r ∈ y.Rows,0 ≤ r.Bare ∧ r.Bare ≤ 63) (hn : 1048577 < n) : ∃ r b,YC n y x = some (r,b) ∧ VtG n p r := by
 have hs : y.Rows.length + y.Pv.length = y.sz := rfl
 have hxs := hx.sz
 obtain ⟨b,e⟩ := zEB n y p (by omega) (by omega) (by omega)
 unfold YC
 rw [hx.2.1,e,Option.bind_some,Qn n x (by omega)]
 cases b
 ·exact ⟨x,false,rfl,hx⟩
 ·exact ⟨y,true,rfl,wy,hy,(zEA n y p e).1,e,hb⟩
theorem zD8 (n p : Nat) (hp : p ≤ 1000) (x : zC) (hx : VtG n p x) (i id : Int) (wi : zp id) (hn : 1048577 < n) : ∃ r b,YH n x i id = some (r,b) ∧ VtG n p r := by
 have hxs := hx.sz
 have hpl := hx.2.1
 have hw : IntKind.wrap .i64 ((p : Int) - 1) = (p : Int) - 1 := wrap64 (by omega) (by omega)
 unfold YH
 simp only [hpl,hx.2.2.2.1,Option.bind_some,Bool.not_true,cond_false,zK,hw,Qn n x (by omega)]
 by_cases hi : 0 ≤ i ∧ i ≤ (p : Int) - 1
 ·obtain ⟨v,hv,_⟩ := zB0 (xs := x.Pv) hi.1 (by omega)
  obtain ⟨r,b,e,g⟩ := zAf n p hp x ⟨x.Rows,x.Pv.set i.toNat id⟩ hx ⟨hx.1.1,zHX hx.1.2.1 wi,trivial⟩ (by simp [hpl]) (by have := hx.2.2.1; show x.Rows.length ≤ 1000; omega) hx.2.2.2.2 hn
  rw [decide_eq_true hi.1,decide_eq_true hi.2]
  simp only [Bool.and_self,Bool.not_true,cond_false,hv,Option.bind_some,e]
  exact ⟨r,b,rfl,g⟩
 ·have hp' : (decide (0 ≤ i) && decide (i ≤ (p : Int) - 1)) = false := by
   simp only [Bool.and_eq_false_iff,decide_eq_false_iff_not]; omega
  rw [hp']
  exact ⟨x,false,rfl,hx⟩
theorem zD4 (n p : Nat) (hp : p ≤ 1000) (x : zC) (hx : VtG n p x) (id : Int) (hn : 1048577 < n) : ∃ r b,Qf n x id = some (r,b) ∧ VtG n p r := by
 have hxs := hx.sz
 have hpl := hx.2.1
 have h6 := hx.2.2.1
 obtain ⟨r,hr,hk⟩ := ZX n x id (by omega) (by omega)
 rcases hk with ⟨rfl,_⟩ | ⟨v,h0,hv,_⟩
 ·refine ⟨x,false,?_,hx⟩
  simp only [Qf,hr,hpl,hx.2.2.2.1,Option.bind_some,Qn n x (by omega)]
  rfl
 ·obtain ⟨g1,g2⟩ := Y3 hv
  have hlt : r.toNat < x.Rows.length := (List.getElem?_eq_some_iff.1 g2).1
  obtain ⟨k,rfl⟩ : ∃ k : Nat,r = k := ⟨r.toNat,by omega⟩
  simp only [Int.toNat_natCast] at hlt
  have hw : IntKind.wrap .i64 ((k : Int) + 1) = ((k + 1 : Nat) : Int) := zy (by omega)
  have hlist : (([] : List zB) ++ ((x.Rows.drop ((0 : Int)).toNat).take (((k : Int)).toNat - ((0 : Int)).toNat))) ++ ((x.Rows.drop ((((k + 1 : Nat) : Int))).toNat).take ((((x.Rows.length : Int) : Int)).toNat - ((((k + 1 : Nat) : Int))).toNat)) = x.Rows.take k ++ x.Rows.drop (k + 1) := by
   simp only [Int.toNat_natCast,List.nil_append,show ((0 : Int)).toNat = 0 from rfl,List.drop_zero,Nat.sub_zero]
   congr 1
   exact List.take_of_length_le (by simp)
  have hmem : ∀ y ∈ x.Rows.take k ++ x.Rows.drop (k + 1),y ∈ x.Rows := fun y hy => by
   rcases List.mem_append.1 hy with h | h
   ·exact List.mem_of_mem_take h
   ·exact List.mem_of_mem_drop h
  obtain ⟨y,b,e,g⟩ := zAf n p hp x ⟨x.Rows.take k ++ x.Rows.drop (k + 1),x.Pv⟩ hx ⟨zHY hx.1.1 hmem (by simp; omega),hx.1.2⟩ hpl (by show (x.Rows.take k ++ x.Rows.drop (k + 1)).length ≤ 1000; simp; omega) (fun r hr => hx.2.2.2.2 r (hmem r hr)) hn
  have hg1 : (decide ((0 : Int) ≤ 0) && (decide ((0 : Int) ≤ (k : Int)) && decide ((k : Int) ≤ (x.Rows.length : Int)))) = true := by
   rw [decide_eq_true (by omega : (0 : Int) ≤ (k : Int)),decide_eq_true (by omega : (k : Int) ≤ (x.Rows.length : Int))]; rfl
  have hg2 : (decide ((0 : Int) ≤ ((k + 1 : Nat) : Int)) && (decide ((((k + 1 : Nat) : Int) : Int) ≤ (x.Rows.length : Int)) && decide (((x.Rows.length : Int) : Int) ≤ (x.Rows.length : Int)))) = true := by
   rw [decide_eq_true (by omega : (0 : Int) ≤ ((k + 1 : Nat) : Int)),decide_eq_true (by omega : ((k + 1 : Nat) : Int) ≤ (x.Rows.length : Int)),decide_eq_true (Int.le_refl _)]; rfl
  have hg3 : decide (([] : List zB).length + ((x.Rows.drop ((0 : Int)).toNat).take (((k : Int)).toNat - ((0 : Int)).toNat)).length ≤ 268435456) = true := decide_eq_true (by simp; omega)
  have hg4 : decide ((([] : List zB) ++ ((x.Rows.drop ((0 : Int)).toNat).take (((k : Int)).toNat - ((0 : Int)).toNat))).length + ((x.Rows.drop ((((k + 1 : Nat) : Int))).toNat).take ((((x.Rows.length : Int) : Int)).toNat - ((((k + 1 : Nat) : Int))).toNat)).length ≤ 268435456) = true := decide_eq_true (by simp; omega)
  have hn0 : decide ((k : Int) < 0) = false := decide_eq_false (by omega)
  refine ⟨y,b,?_,g⟩
  simp only [Qf,hr,hpl,hx.2.2.2.1,Option.bind_some,Bool.not_true,Qn n x (by omega),hn0,cond_false,hw,hg1,hg2,hg3,hg4,cond_true,hlist,e]
theorem zAs (n : Nat) (x0 : zC) (r : zB) (h : x0.Rows.length ≤ 1000) : ∀ (m k : Nat) (d : Bool) (acc : List zB),k ≤ x0.Rows.length → x0.Rows.length < m + k → acc.length ≤ 2 * k → (∀ v ∈ acc,v = r ∨ v ∈ x0.Rows) → ∃ d' acc',qT n m x0 r k d acc = some (.inl (d',acc')) ∧ acc'.length ≤ 2 * x0.Rows.length ∧ (∀ v ∈ acc',v = r ∨ v ∈ x0.Rows)
 | 0,k,d,acc,h1,h2,_,_ => by omega
 | m + 1,k,d,acc,h1,h2,h3,h4 => by
  rw [qT]
  by_cases hk : k < x0.Rows.length
  ·have ih := fun d acc h3 h4 => zAs n x0 r h m (k + 1) d acc (by omega) (by omega) h3 h4
   have hmem : x0.Rows[k] ∈ x0.Rows := List.getElem_mem hk
   have hj : ∀ b1 b2 b3 (d : Bool) (acc : List zB),acc.length ≤ 2 * k + 1 → (∀ v ∈ acc,v = r ∨ v ∈ x0.Rows) → ∃ d' acc',Zt n (fun v => qT n m x0 r v.1 v.2.1 v.2.2) x0 r k b1 b2 b3 d acc = some (.inl (d',acc')) ∧ acc'.length ≤ 2 * x0.Rows.length ∧ (∀ v ∈ acc',v = r ∨ v ∈ x0.Rows) := fun b1 b2 b3 d acc hl ha => by
    have hlen : decide (acc.length + [x0.Rows[k]].length ≤ 268435456) = true := decide_eq_true (by rw [List.length_singleton]; omega)
    simp only [Zt,zg hk,Option.bind_some,hlen,cond_true,zy (by omega : k ≤ 1099511627776)]
    cases (x0.Rows[k].Id != r.Id)
    ·exact ih d acc (by omega) ha
    ·refine ih d _ (by simp; omega) fun v hv => ?_
     rcases List.mem_append.1 hv with a | a
     ·exact ha v a
     ·rw [List.mem_singleton.1 a]; exact .inr hmem
   have hlen : decide (acc.length + [r].length ≤ 268435456) = true := decide_eq_true (by rw [List.length_singleton]; omega)
   simp only [qy hk,cond_true,zg hk,Option.bind_some,hlen]
   cases d
   ·simp only [Bool.not_false,cond_true]
    cases (decide (x0.Rows[k].Id ≥ r.Id))
    ·simp only [cond_false]; exact hj _ _ _ _ _ (by omega) h4
    ·simp only [cond_true]
     refine hj _ _ _ _ _ (by simp; omega) fun v hv => ?_
     rcases List.mem_append.1 hv with a | a
     ·exact h4 v a
     ·exact .inl (List.mem_singleton.1 a)
   ·simp only [Bool.not_true,cond_false]; exact hj _ _ _ _ _ (by omega) h4
  ·have he : k = x0.Rows.length := by omega
   subst he
   rw [qm,cond_false]
   exact ⟨d,acc,rfl,h3,h4⟩
theorem zEp (n : Nat) (x : zC) (r : zB) (h : x.Rows.length ≤ 1000) (hq : x.Pv.length ≤ 1000) (hn : 1000 < n) : ∃ y,JP n x r = some y ∧ y.Pv = x.Pv ∧ y.Rows.length ≤ 2 * x.Rows.length + 1 ∧ (∀ v ∈ y.Rows,v = r ∨ v ∈ x.Rows) := by
 obtain ⟨d,acc,e,h1,h2⟩ := zAs n x r h n 0 false [] (by omega) (by omega) (by simp) (by simp)
 have e : qT n n x r 0 false ([] : List zB) = some (.inl (d,acc)) := e
 unfold JP
 rw [decide_eq_true (by simp; omega),cond_true,e,Option.bind_some]
 simp only [YN,List.nil_append]
 have hlen : decide (acc.length + [r].length ≤ 268435456) = true := decide_eq_true (by rw [List.length_singleton]; omega)
 rw [hlen]
 cases d
 ·refine ⟨_,rfl,rfl,by simp; omega,fun v hv => ?_⟩
  rcases List.mem_append.1 hv with a | a
  ·exact h2 v a
  ·exact .inl (List.mem_singleton.1 a)
 ·exact ⟨_,rfl,rfl,by simp; omega,h2⟩
theorem zIz {xs ys : List zB} {r : zB} (hx : Zv zB.wf xs) (wr : r.wf) (hl : ys.length ≤ 4000) (h : ∀ v ∈ ys,v = r ∨ v ∈ xs) : Zv zB.wf ys := ⟨Nat.le_trans hl (by decide),fun v hv => by
 rcases h v hv with a | a
 ·rw [a]; exact wr
 ·exact hx.2 v a⟩
theorem zEk (n p : Nat) (hp : p ≤ 1000) (x : zC) (hx : VtG n p x) (r : zB) (wr : r.wf) (hr : 0 ≤ r.Bare ∧ r.Bare ≤ 63) (hn : 1048577 < n) : ∃ y b,Yv n x r = some (y,b) ∧ VtG n p y := by
 have hxs := hx.sz
 have hpl := hx.2.1
 have h6 := hx.2.2.1
 obtain ⟨z,e,e1,e2,e3⟩ := zEp n x r (by omega) (by omega) (by omega)
 have wz : z.wf := ⟨zIz hx.1.1 wr (by omega) e3,by rw [e1]; exact hx.1.2.1,trivial⟩
 obtain ⟨y,b,f,g⟩ := zAf n p hp x z hx wz (by rw [e1]; exact hpl) (by omega) (fun v hv => by
  rcases e3 v hv with a | a
  ·rw [a]; exact hr
  ·exact hx.2.2.2.2 v a) hn
 refine ⟨y,b,?_,g⟩
 simp only [Yv,hpl,hx.2.2.2.1,Option.bind_some,Bool.not_true,cond_false,e,f]
theorem zk {z : Int} (h0 : -1000000 ≤ z) (h1 : z ≤ 1000000) : zp z := by
 show (Lit.int .i64 z).wf = true
 simp [Lit.wf,show IntKind.wrap .i64 z = z from wrap64 (by omega) (by omega)]
 exact ⟨by show (-9223372036854775808 : Int) ≤ z; omega,by omega⟩
theorem zID : ∀ a < 64,∀ b < 64,IntKind.wrap .i64 (BitVec.ofInt (IntKind.bits .i64) ((a : Nat) : Int) &&& BitVec.ofInt (IntKind.bits .i64) ((b : Nat) : Int)).toNat = ((a &&& b : Nat) : Int) := by decide +kernel
theorem zC8 : ∀ p < 7,IntKind.wrap .u64 ((p : Nat) : Int) = p ∧ IntKind.wrap .i64 ((IntKind.wrap .i64 ((IntKind.wrap .i64 (1 * 2 ^ min (((IntKind.wrap .u64 ((p : Nat) : Int)) : Int)).toNat (IntKind.bits .i64))) - 1)) + 1) = ((2 ^ p : Nat) : Int) ∧ (IntKind.wrap .i64 ((IntKind.wrap .i64 (1 * 2 ^ min (((IntKind.wrap .u64 ((p : Nat) : Int)) : Int)).toNat (IntKind.bits .i64))) - 1)) = ((2 ^ p - 1 : Nat) : Int) ∧ 1 ≤ 2 ^ p ∧ 2 ^ p ≤ 64 := by decide +kernel
theorem zEo (n p : Nat) (hp : p < 7) (c : Src) (h : c.ok) : ∃ v c',Y1 n c p = some (v,c') ∧ v.wf ∧ 0 ≤ v.Bare ∧ v.Bare ≤ 63 ∧ c'.ok := by
 obtain ⟨s1,s2,s3,s4,s5⟩ := zC8 p hp
 obtain ⟨v1,c1,e1,a1,b1,g1⟩ := zU n c ((2 ^ p : Nat) : Int) h
 obtain ⟨v2,c2,e2,a2,g2⟩ := qz n c1 [1,2,3,2] g1 (by decide)
 obtain ⟨v3,c3,e3,a3,b3,g3⟩ := zU n c2 ((2 ^ p : Nat) : Int) g2
 have b1 := b1 (by omega)
 have b3 := b3 (by omega)
 obtain ⟨x,rfl⟩ : ∃ x : Nat,v1 = x := ⟨v1.toNat,by omega⟩
 obtain ⟨y,rfl⟩ : ∃ y : Nat,v3 = y := ⟨v3.toNat,by omega⟩
 have hand := zID x (by omega) y (by omega)
 have hle : x &&& y ≤ x := Nat.and_le_left
 have hu : decide ((0 : Int) ≤ IntKind.wrap .u64 ((p : Nat) : Int)) = true := decide_eq_true (by rw [s1]; omega)
 unfold Y1
 simp only [s2,hu,cond_true,e1,e2,e3,Option.bind_some,hand]
 have w1 : zp v2 := by
  simp only [List.mem_cons,List.not_mem_nil,or_false] at a2
  refine zk ?_ ?_ <;> rcases a2 with a | a | a | a <;> omega
 have w2 : zp ((x : Nat) : Int) := zk (by omega) (by omega)
 have w3 : zp ((x &&& y : Nat) : Int) := zk (by omega) (by omega)
 refine ⟨_,_,rfl,⟨w1,w2,w3,trivial⟩,?_,?_,g3⟩
 ·show (0 : Int) ≤ ((x &&& y : Nat) : Int); omega
 ·show ((x &&& y : Nat) : Int) ≤ 63; omega
theorem zAX (n p : Nat) (hp : p ≤ 1000) : ∀ (m k : Nat) (acc : List Int),k ≤ p → p < m + k → acc = List.replicate k 1 → ZD n m p k acc = some (.inl (List.replicate p 1))
 | 0,k,acc,h1,h2,h3 => by omega
 | m + 1,k,acc,h1,h2,h3 => by
  rw [ZD]
  by_cases hk : k < p
  ·have hlen : decide (acc.length + [(1 : Int)].length ≤ 268435456) = true := decide_eq_true (by rw [List.length_singleton,h3]; simp; omega)
   simp only [qy hk,cond_true,zy (by omega : k ≤ 1099511627776)]
   refine Eq.trans (congrArg (fun b => cond b _ none) hlen) ?_
   exact zAX n p hp m (k + 1) (acc ++ [1]) (by omega) (by omega) (by rw [h3,← List.replicate_succ'])
  ·have he : k = p := by omega
   subst he
   rw [qm,cond_false,h3]
theorem zD9 (n p : Nat) (h0 : 1 ≤ p) (h1 : p < 7) (hn : 1000 < n) : QH n p = some ⟨[⟨1,((2 ^ p - 1 : Nat) : Int),((2 ^ p - 1 : Nat) : Int)⟩],List.replicate p 1⟩ := by
 obtain ⟨s1,s2,s3,s4,s5⟩ := zC8 p h1
 have e := zAX n p (by omega) n 0 [] (by omega) (by omega) rfl
 have e : ZD n n p 0 ([] : List Int) = some (.inl (List.replicate p 1)) := e
 unfold QH
 have hu : decide ((0 : Int) ≤ IntKind.wrap .u64 ((p : Nat) : Int)) = true := decide_eq_true (by rw [s1]; omega)
 simp only [zK,Option.bind_some,decide_eq_true (show (1 : Int) ≤ (p : Int) by omega),decide_eq_true (show (p : Int) ≤ 6 by omega),Bool.and_self,Bool.not_true,cond_false,hu,cond_true,e,Ql,s3]
theorem zJQ : ∀ p < 7,1 ≤ p → zh 1048580 ⟨[⟨1,((2 ^ p - 1 : Nat) : Int),((2 ^ p - 1 : Nat) : Int)⟩],List.replicate p 1⟩ ((p : Nat) : Int) = some true := by decide +kernel
theorem zJP (p : Nat) (h0 : 1 ≤ p) (h1 : p < 7) : ∃ v,QH 1048580 p = some v ∧ VtG 1048580 p v := by
 obtain ⟨s1,s2,s3,s4,s5⟩ := zC8 p h1
 have w : zp ((2 ^ p - 1 : Nat) : Int) := zk (by omega) (by omega)
 refine ⟨_,zD9 1048580 p h0 h1 (by omega),⟨⟨by show 1 ≤ maxLen; decide,fun v hv => ?_⟩,⟨by rw [List.length_replicate]; exact Nat.le_trans (Nat.le_of_lt h1) (by decide),fun v hv => ?_⟩,trivial⟩,List.length_replicate,by show 1 ≤ 6; decide,zJQ p h1 h0,fun v hv => ?_⟩
 ·rw [List.mem_singleton.1 hv]; have w1 : zp 1 := zk (by decide) (by decide)
  exact ⟨w1,w,w,trivial⟩
 ·rw [(List.mem_replicate.1 hv).2]; exact zk (by decide) (by decide)
 ·rw [List.mem_singleton.1 hv]
  have h : (0 : Int) ≤ ((2 ^ p - 1 : Nat) : Int) ∧ ((2 ^ p - 1 : Nat) : Int) ≤ 63 := by omega
  exact h
theorem zAr (p : Nat) (h0 : 1 ≤ p) (h7 : p < 7) : ∀ (m k : Nat) (c : Src) (v : zC),k < m → k ≤ 1000 → c.ok → VtG 1048580 p v → ∃ (c' : Src) (v' : zC),q6 1048580 m p k c.b c.i c.h v.Rows v.Pv = some (.inl (c'.b,c'.i,c'.h,v'.Rows,v'.Pv)) ∧ c'.ok ∧ VtG 1048580 p v'
 | 0,k,c,v,h1,h2,h3,h4 => by omega
 | m + 1,k,c,v,h1,h2,h3,h4 => by
  rw [q6]
  by_cases hk : 0 < k
  ·obtain ⟨j,rfl⟩ : ∃ j,k = j + 1 := ⟨k - 1,by omega⟩
   have hw : IntKind.wrap .i64 (((j + 1 : Nat) : Int) - 1) = (j : Nat) := by rw [wrap64 (by omega) (by omega)]; omega
   have ih := fun c v h3 h4 => zAr p h0 h7 m j c v (by omega) (by omega) h3 h4
   obtain ⟨v1,c1,e1,a1,b1,g1⟩ := zU 1048580 c 4 h3
   obtain ⟨v2,c2,e2,a2,b2,g2⟩ := zU 1048580 c1 (p : Int) g1
   obtain ⟨v3,c3,e3,a3,b3,g3⟩ := zU 1048580 c2 3 g2
   obtain ⟨v4,c4,e4,a4,b4,g4⟩ := zU 1048580 c1 2 g1
   obtain ⟨v5,c5,e5,w5,p5,q5,g5⟩ := zEo 1048580 p h7 c1 g1
   have b3 := b3 (by decide)
   have b4 := b4 (by decide)
   obtain ⟨y2,d2,f2,k2⟩ := zD8 1048580 p (by omega) v h4 v2 (1 + v3) (zk (by omega) (by omega)) (by omega)
   obtain ⟨y4,d4,f4,k4⟩ := zD4 1048580 p (by omega) v h4 (2 + v4) (by omega)
   obtain ⟨y5,d5,f5,k5⟩ := zEk 1048580 p (by omega) v h4 v5 w5 ⟨p5,q5⟩ (by omega)
   have hpos : decide (((j + 1 : Nat) : Int) > 0) = true := decide_eq_true (by omega)
   simp only [hpos,cond_true,e1,Option.bind_some,e2,e3,e4,e5,hw,wrap64 (show -9223372036854775808 ≤ 1 + v3 by omega) (by omega),wrap64 (show -9223372036854775808 ≤ 2 + v4 by omega) (by omega),f2,f4,f5]
   cases (v1 == 0)
   ·cases (v1 == 1)
    ·exact ih c5 y5 g5 k5
    ·exact ih c4 y4 g4 k4
   ·exact ih c3 y2 g3 k2
  ·have : k = 0 := by omega
   subst this
   exact ⟨c,v,rfl,h3,h4⟩
theorem zEn (p : Nat) (h0 : 1 ≤ p) (h7 : p < 7) (c : Src) (h : c.ok) : ∃ v c',Y0 1048580 c p = some (v,c') ∧ VtG 1048580 p v ∧ c'.ok := by
 obtain ⟨v0,e0,g0⟩ := zJP p h0 h7
 obtain ⟨v1,c1,e1,a1,b1,g1⟩ := zU 1048580 c 6 h
 have b1 := b1 (by decide)
 obtain ⟨k,rfl⟩ : ∃ k : Nat,v1 = k := ⟨v1.toNat,by omega⟩
 obtain ⟨c',v',e,g,g'⟩ := zAr p h0 h7 1048580 k c1 v0 (by omega) (by omega) g1 g0
 unfold Y0
 rw [e0,Option.bind_some,e1,Option.bind_some,e]
 exact ⟨v',c',rfl,g',g⟩
def QK (a : Int) (i : Nat) : Bool := (IntKind.wrap .i64 (BitVec.ofInt (IntKind.bits .i64) (Int.fdiv a (2 ^ min ((i : Int)).toNat (IntKind.bits .i64))) &&& BitVec.ofInt (IntKind.bits .i64) 1).toNat == 1)
theorem QI (n : Nat) (a : Int) (i : Nat) (h : i ≤ 62) : qY n a i = some (QK a i) := by
 unfold qY
 simp only [ZZ,zK,Option.bind_some,decide_eq_true (show (0 : Int) ≤ (i : Int) by omega),decide_eq_true (show (i : Int) ≤ 62 by omega),Bool.and_self,cond_true]
 rfl
theorem ZG (n : Nat) (a : Int) (i : Nat) (h : i ≤ 7) : ZK n a i = some (QK a i) := by
 unfold ZK
 have hu : IntKind.wrap .u64 (i : Int) = i := zA5 (by omega)
 simp only [zK,Option.bind_some,decide_eq_true (show (0 : Int) ≤ (i : Int) by omega),decide_eq_true (show (i : Int) ≤ 7 by omega),Bool.and_self,cond_true,hu]
 rfl
theorem zBl (n : Nat) (a i : Int) (h : i < 0 ∨ 7 < i) : ZK n a i = some false := by
 unfold ZK
 have : (decide ((0 : Int) ≤ i) && decide (i ≤ 7)) = false := by
  simp only [Bool.and_eq_false_iff,decide_eq_false_iff_not]; omega
 simp only [zK,Option.bind_some,this,cond_false]
theorem Yu (n : Nat) (x : zC) (h : x.Rows.length ≤ 1048580) (hn : x.Rows.length < n) (hq : x.Pv.length ≤ 1048580) (p t : Int) (hp : -1 ≤ p ∧ p ≤ 7) : ∃ a b,ZM n x p t = some (a,b) ∧ QC n x p t = some (a,b) ∧ (b = true → ∃ (i : Nat) (m : Int),p = i ∧ i ≤ 7 ∧ Zy n x a = some m ∧ QK m i = true) := by
 have hw : IntKind.wrap .i64 ((x.Pv.length : Int) - 1) = (x.Pv.length : Int) - 1 := wrap64 (by omega) (by omega)
 by_cases hi : 0 ≤ p ∧ p ≤ (x.Pv.length : Int) - 1
 ·obtain ⟨i,rfl⟩ : ∃ i : Nat,p = i := ⟨p.toNat,by omega⟩
  obtain ⟨v,hv,_⟩ := zB0 (xs := x.Pv) hi.1 (by omega)
  have hj : ∀ z,∃ a b,ZC n x i z = some (a,b) ∧ Zd n x i z = some (a,b) ∧ (b = true → ∃ (i' : Nat) (m : Int),(i : Int) = i' ∧ i' ≤ 7 ∧ Zy n x a = some m ∧ QK m i' = true) := fun z => by
   obtain ⟨r,hr,hk⟩ := ZX n x z h hn
   unfold ZC Zd
   rw [Y4,hr]
   simp only [Option.bind_some]
   by_cases hneg : r < 0
   ·rw [decide_eq_true hneg]
    exact ⟨0,false,rfl,rfl,by simp⟩
   ·rw [decide_eq_false hneg]
    rcases hk with ⟨rfl,_⟩ | ⟨u,h0,hu,_⟩
    ·omega
    simp only [cond_false,hu,Option.bind_some,ZG n u.Members i (by omega),QI n u.Members i (by omega)]
    cases hb : QK u.Members i
    ·exact ⟨0,false,rfl,rfl,by simp⟩
    ·refine ⟨z,true,rfl,rfl,fun _ => ⟨i,u.Members,rfl,by omega,?_,hb⟩⟩
     rw [JC]
     unfold qS
     rw [hr]
     simp only [Option.bind_some,decide_eq_false hneg,cond_false,hu]
  unfold ZM QC
  simp only [ZZ,zK,Option.bind_some,hw,decide_eq_true hi.1,decide_eq_true hi.2,Bool.and_self,Bool.not_true,cond_false,hv]
  cases (t == 0)
  ·exact hj t
  ·exact hj v
 ·have hp' : (decide (0 ≤ p) && decide (p ≤ (x.Pv.length : Int) - 1)) = false := by
   simp only [Bool.and_eq_false_iff,decide_eq_false_iff_not]; omega
  refine ⟨0,false,?_,?_,by simp⟩
  ·unfold ZM
   simp only [zK,Option.bind_some,hw,hp',Bool.not_false,cond_true]
  ·unfold QC
   simp only [ZZ,zK,Option.bind_some,hw,hp',Bool.not_false,cond_true]
theorem zAE {c : Bool} {x : Option Bool} (h : (bif c then x else some false) = some true) : c = true ∧ x = some true := by
 cases c with
 | true => exact ⟨rfl,h⟩
 | false => cases h
theorem zD3 {L : Nat → Int → Option (Unit ⊕ Bool)} {N : Nat} {P : Nat → Prop} (h0 : ∀ k,L 0 k = none) (hs : ∀ m (k : Nat) o,k < N → L (m + 1) (k : Int) = some o → o = .inr false ∨ (P k ∧ L m ((k + 1 : Nat) : Int) = some o)) (he : ∀ m o,L (m + 1) (N : Int) = some o → o = .inl ()) :
  ∀ (m k : Nat) o,k ≤ N → L m (k : Int) = some o → o = .inr false ∨ (o = .inl () ∧ ∀ j,k ≤ j → j < N → P j)
 | 0,k,o,_,h => by rw [h0] at h; cases h
 | m + 1,k,o,hk,h => by
  by_cases hlt : k < N
  ·rcases hs m k o hlt h with e | ⟨hp,h⟩
   ·exact .inl e
   ·rcases zD3 h0 hs he m (k + 1) o (by omega) h with e | ⟨e,h2⟩
    ·exact .inl e
    ·refine .inr ⟨e,fun j hj hj2 => ?_⟩
     by_cases hjk : j = k
     ·subst hjk; exact hp
     ·exact h2 j (by omega) hj2
  ·have : k = N := by omega
   subst this
   exact .inr ⟨he m o h,fun j hj hj2 => by omega⟩
theorem zCa (n : Nat) (x : zD) (hl : x.Ps.length ≤ 1048580) {o : Unit ⊕ Bool} (h : zd n n x 0 = some o) : o = .inr false ∨ (o = .inl () ∧ ∀ j (hj : j < x.Ps.length),qG n x.Ps[j] = some true) := by
 rcases zD3 (L := fun m k => zd n m x k) (N := x.Ps.length) (P := fun j => ∀ hj : j < x.Ps.length,qG n x.Ps[j] = some true) (fun k => rfl) (fun m k o hk h => by
  simp only [zd] at h
  rw [qy hk,cond_true,zg hk,Option.bind_some,zy (by omega : k ≤ 1099511627776)] at h
  obtain ⟨b,hb⟩ := zB6 n x.Ps[k]
  rw [hb,Option.bind_some] at h
  cases b with
  | true => exact .inr ⟨fun _ => hb,h⟩
  | false => cases h; exact .inl rfl) (fun m o h => by
  simp only [zd] at h
  rw [qm] at h; cases h; rfl) n 0 o (by omega) h with e | ⟨e,h2⟩
 ·exact .inl e
 ·exact .inr ⟨e,fun j hj => h2 j (by omega) hj hj⟩
theorem QM (n : Nat) (x : zD) (hl : x.Ps.length ≤ 1048580) (h : qL n x = some true) : 1 ≤ x.Ps.length ∧ x.Ps.length ≤ 6 ∧ 1 ≤ x.Id ∧ x.Id ≤ 99 ∧ x.Name.size ≤ 10 ∧ qX n x.F = some true ∧ zh n x.V (x.Ps.length : Int) = some true ∧
  (0 ≤ x.Tk ∧ x.Tk ≤ 1000000) ∧ (0 ≤ x.Pa ∧ x.Pa ≤ 1000000) ∧ (0 ≤ x.Wo ∧ x.Wo ≤ 1000000) ∧ (0 ≤ x.Dr ∧ x.Dr ≤ 1000000) ∧ (0 ≤ x.Ve ∧ x.Ve ≤ 1000000) ∧ ∀ j (hj : j < x.Ps.length),qG n x.Ps[j] = some true := by
 unfold qL at h
 obtain ⟨o,ho,h⟩ := bind_some h
 rcases zCa n x hl ho with rfl | ⟨rfl,hp⟩
 ·cases h
 ·simp only [ZS,QA,zK,Option.bind_some] at h
  obtain ⟨h1,h⟩ := zAE h
  obtain ⟨h2,h⟩ := zAE h
  obtain ⟨h3,h⟩ := zAE h
  obtain ⟨b4,h4,h⟩ := bind_some h
  obtain ⟨rfl,h⟩ := zAE h
  obtain ⟨b5,h5,h⟩ := bind_some h
  obtain ⟨rfl,h⟩ := zAE h
  obtain ⟨b6,h6,h⟩ := bind_some h
  cases h
  obtain ⟨h7,h6⟩ := zAE h6
  obtain ⟨h8,h6⟩ := zAE h6
  obtain ⟨h9,h6⟩ := zAE h6
  obtain ⟨h10,h6⟩ := zAE h6
  have h11 := Option.some.inj h6
  simp only [Bool.and_eq_true,decide_eq_true_eq] at h1 h2 h3 h7 h8 h9 h10 h11
  exact ⟨by omega,by omega,h1.1,h1.2,by omega,h4,h5,h7,h8,h9,h10,h11,hp⟩
theorem zCf (n : Nat) (z : Int) (h0 : 0 ≤ z) (h1 : z ≤ 1000000) : ∃ y,Zi n z = some y ∧ Q8 n z = some y ∧ 0 ≤ y ∧ y ≤ 1000000 := by
 unfold Zi Q8
 rw [wrap64 (by omega) (by omega)]
 by_cases h : z ≥ 1000000
 ·rw [decide_eq_true h,if_pos (by omega)]; exact ⟨z,rfl,by rw [show z = 1000000 by omega],h0,h1⟩
 ·rw [decide_eq_false h,if_neg (by omega)]; exact ⟨_,rfl,rfl,by omega,by omega⟩
theorem Jf (n : Nat) (x : zD) (h : x.sz ≤ 268435456) : YJ n x = some x := by
 have hs : x.Name.size + x.Ps.length + x.F.length + x.V.sz = x.sz := rfl
 unfold YJ z8
 rw [Qn n x.V (by omega),decide_eq_true (by simp; omega),decide_eq_true (by simp; omega)]
 rfl
theorem zCh (n : Nat) (x : zD) (h : x.sz ≤ 268435456) : QZ n x = some x := by
 have hs : x.Name.size + x.Ps.length + x.F.length + x.V.sz = x.sz := rfl
 unfold QZ qC
 rw [zDV n x.V (by omega),decide_eq_true (by simp; omega),decide_eq_true (by simp; omega)]
 rfl
theorem Yx (n : Nat) (x : zD) (p : Int) (b : Bool) (hb : qL n x = some b) (hl : x.Ps.length ≤ 1048580) : Q1 n x p = some (b && (decide (0 ≤ p) && decide (p < x.Ps.length))) := by
 unfold Q1
 rw [hb,Option.bind_some,zK,wrap64 (by omega) (by omega)]
 have : decide (p ≤ (x.Ps.length : Int) - 1) = decide (p < x.Ps.length) := by
  by_cases h : p < x.Ps.length
  ·rw [decide_eq_true h,decide_eq_true (by omega)]
  ·rw [decide_eq_false h,decide_eq_false (by omega)]
 rw [this]
 cases b <;> rfl
theorem zDw (n : Nat) (x : zD) (p : Int) (b : Bool) (hb : QS n x = some b) (hl : x.Ps.length ≤ 1048580) : Yn n x p = some (b && (decide (0 ≤ p) && decide (p < x.Ps.length))) := by
 unfold Yn
 rw [hb,Option.bind_some,ZZ,zK,wrap64 (by omega) (by omega)]
 have : decide (p ≤ (x.Ps.length : Int) - 1) = decide (p < x.Ps.length) := by
  by_cases h : p < x.Ps.length
  ·rw [decide_eq_true h,decide_eq_true (by omega)]
  ·rw [decide_eq_false h,decide_eq_false (by omega)]
 rw [this]
 cases b <;> rfl
theorem Ya (n : Nat) (xs : List zA) (h : xs.length ≤ 1048580) (hok : qX n xs = some true) : xs.length ≤ 12 ∧ (∀ j (hj : j < xs.length),qP n xs[j] = some true) ∧ ∀ j (hj : j + 1 < xs.length),qk n xs[j] xs[j + 1].Tag xs[j + 1].Mac = some true := by
 unfold qX at hok
 obtain ⟨o,ho,hok⟩ := bind_some hok
 rcases zD3 (L := fun m k => z7 n m xs k) (N := xs.length) (P := fun k => ∀ hk : k < xs.length,qP n xs[k] = some true ∧ ∀ j (e : k = j + 1),qk n (xs[j]'(by omega)) xs[k].Tag xs[k].Mac = some true) (fun k => rfl) (fun m k o hk h => by
  simp only [z7] at h
  rw [qy hk,cond_true,zg hk,Option.bind_some,zy (by omega : k ≤ 1099511627776)] at h
  obtain ⟨b,hb⟩ := Yf n xs[k]
  rw [hb,Option.bind_some] at h
  cases b with
  | false => cases h; exact .inl rfl
  | true =>
   simp only [Bool.not_true,cond_false] at h
   cases k with
   | zero => exact .inr ⟨fun _ => ⟨hb,fun j e => by omega⟩,h⟩
   | succ k =>
    have hw2 : IntKind.wrap .i64 (((k + 1 : Nat) : Int) - 1) = (k : Int) := by rw [wrap64 (by omega) (by omega)]; omega
    have hpos : decide (((k + 1 : Nat) : Int) > 0) = true := decide_eq_true (by omega)
    rw [hpos,hw2,cond_true,zg (show k < xs.length by omega),Option.bind_some,Option.bind_some,Option.bind_some] at h
    obtain ⟨c,hc⟩ := zAq n (xs[k]'(by omega)) xs[k + 1].Tag xs[k + 1].Mac
    rw [hc,Option.bind_some] at h
    cases c with
    | false => cases h; exact .inl rfl
    | true => exact .inr ⟨fun _ => ⟨hb,fun j e => (show k = j by omega) ▸ hc⟩,h⟩) (fun m o h => by
  simp only [z7] at h
  rw [qm] at h; cases h; rfl) n 0 o (by omega) ho with rfl | ⟨rfl,hp⟩
 ·cases hok
 ·have h12 := of_decide_eq_true (Option.some.inj hok)
  exact ⟨by omega,fun j hj => (hp j (by omega) hj hj).1,fun j hj => (hp (j + 1) (by omega) hj hj).2 j rfl⟩
theorem J7 (n : Nat) (v : zA) (h : qP n v = some true) : (1 ≤ v.Tag ∧ v.Tag ≤ 99) ∧ (1 ≤ v.Mac ∧ v.Mac ≤ 9999) ∧ (0 ≤ v.Port ∧ v.Port ≤ 7) ∧ (0 ≤ v.Age ∧ v.Age ≤ 4) ∧ (v.Sc = true → v.Age = 0) := by
 unfold qP at h
 simp only [zK,Option.bind_some] at h
 obtain ⟨h1,h⟩ := zAE h
 obtain ⟨h2,h⟩ := zAE h
 obtain ⟨h3,h⟩ := zAE h
 obtain ⟨h4,h⟩ := zAE h
 simp only [Bool.and_eq_true,decide_eq_true_eq] at h1 h2 h3 h4
 refine ⟨h1,h2,h3,h4,fun hs => ?_⟩
 rw [hs] at h
 simpa using h
theorem zIH : ∀ i < 63,6 ≤ i → ∀ a < 64,QK ((a : Nat) : Int) i = false := by decide +kernel
theorem zAh (n : Nat) (a i : Int) (h : i < 0 ∨ 62 < i) : qY n a i = some false := by
 unfold qY
 have : (decide ((0 : Int) ≤ i) && decide (i ≤ 62)) = false := by
  simp only [Bool.and_eq_false_iff,decide_eq_false_iff_not]; omega
 simp only [ZZ,zK,Option.bind_some,this,cond_false]
theorem zDa (n a : Nat) (ha : a < 64) (i : Int) : ∃ b,ZK n (a : Int) i = some b ∧ qY n (a : Int) i = some b := by
 by_cases h0 : i < 0
 ·exact ⟨false,zBl n a i (.inl h0),zAh n a i (.inl h0)⟩
 ·obtain ⟨k,rfl⟩ := Int.eq_ofNat_of_zero_le (show 0 ≤ i by omega)
  by_cases h7 : k ≤ 7
  ·exact ⟨_,ZG n a k h7,QI n a k (by omega)⟩
  ·refine ⟨false,zBl n a k (.inr (by omega)),?_⟩
   by_cases h62 : k ≤ 62
   ·rw [QI n a k h62,zIH k (by omega) (by omega) a ha]
   ·exact zAh n a k (.inr (by omega))
theorem YT (n : Nat) (x0 : Int) (x1 : List Pt) (h : x1.length ≤ 1048576) : ∀ (m k a : Nat) o,k ≤ 6 → a < 64 → qZ n m x0 x1 k a = some o → ∃ b : Nat,o = .inl (b : Int) ∧ b < 64
 | 0,k,a,o,h1,h2,h3 => by cases h3
 | m + 1,k,a,o,h1,h2,h3 => by
  rw [qZ] at h3
  by_cases hk : k < x1.length
  ·rw [qy hk,cond_true] at h3
   by_cases h6 : k < 6
   ·rw [decide_eq_true (show ((k : Nat) : Int) < 6 by omega),cond_true] at h3
    obtain ⟨r,hr,h3⟩ := bind_some h3
    rw [zA5 (show k ≤ 1099511627776 by omega),decide_eq_true (show (0 : Int) ≤ (k : Int) by omega),cond_true,zIa k h6 a h2,zy (by omega : k ≤ 1099511627776)] at h3
    cases hc : decide (r ≤ 2) with
    | true => rw [hc] at h3; exact YT n x0 x1 h m (k + 1) _ o (by omega) (Nat.or_lt_two_pow (n := 6) h2 (Nat.pow_lt_pow_right (by decide) h6)) h3
    | false => rw [hc] at h3; exact YT n x0 x1 h m (k + 1) a o (by omega) h2 h3
   ·rw [decide_eq_false (show ¬ ((k : Nat) : Int) < 6 by omega)] at h3
    cases h3; exact ⟨a,rfl,h2⟩
  ·rw [decide_eq_false (by omega)] at h3
   cases h3; exact ⟨a,rfl,h2⟩
theorem zAm (n : Nat) (x0 : Int) (x1 : List Pt) (h : x1.length ≤ 1048576) (hn : x1.length < n) : ∃ b : Nat,b < 64 ∧ Z3 n x0 x1 = some (b : Int) ∧ YP n x0 x1 = some (b : Int) := by
 obtain ⟨e,b,hb⟩ := zD7 n x0 x1 h hn
 have hb2 := hb
 unfold Z3 at hb2
 obtain ⟨o,ho,hb2⟩ := bind_some hb2
 obtain ⟨c,rfl,hc⟩ := YT n x0 x1 h n 0 0 o (by omega) (by omega) ho
 have : (c : Int) = b := Option.some.inj hb2
 subst this
 exact ⟨c,hc,hb,e.trans hb⟩
theorem Jp {α : Type} {L : Nat → Int → Option (α ⊕ Bool)} {N : Nat} {P : Nat → Prop} (hs : ∀ m (k : Nat),k < N → (P k ∧ L (m + 1) (k : Int) = L m ((k + 1 : Nat) : Int)) ∨ (¬ P k ∧ L (m + 1) (k : Int) = some (.inr false))) (he : ∀ m,∃ a,L (m + 1) (N : Int) = some (.inl a)) :
  ∀ (m k : Nat),k ≤ N → N < m + k → (∃ a,L m (k : Int) = some (.inl a) ∧ ∀ j,k ≤ j → j < N → P j) ∨ (L m (k : Int) = some (.inr false) ∧ ¬ ∀ j,k ≤ j → j < N → P j)
 | 0,k,h1,h2 => by omega
 | m + 1,k,h1,h2 => by
  by_cases hk : k < N
  ·rcases hs m k hk with ⟨hp,e⟩ | ⟨hp,e⟩
   ·rcases Jp hs he m (k + 1) (by omega) (by omega) with ⟨a,h3,h4⟩ | ⟨h3,h4⟩
    ·refine .inl ⟨a,e.trans h3,fun j hj hj2 => ?_⟩
     by_cases hjk : j = k
     ·subst hjk; exact hp
     ·exact h4 j (by omega) hj2
    ·exact .inr ⟨e.trans h3,fun h => h4 fun j hj hj2 => h j (by omega) hj2⟩
   ·exact .inr ⟨e,fun h => hp (h k (Nat.le_refl _) hk)⟩
  ·have : k = N := by omega
   subst this
   obtain ⟨a,ha⟩ := he m
   exact .inl ⟨a,ha,fun j hj hj2 => by omega⟩
def zDQ (p : Int) : Int := IntKind.wrap .i64 ((IntKind.wrap .i64 (1 * 2 ^ min (((IntKind.wrap .u64 p) : Int)).toNat (IntKind.bits .i64))) - 1)
def zCZ (p : Int) (v : zB) : Bool := (decide (1 ≤ v.Id) && decide (v.Id ≤ 99)) && ((decide (0 ≤ v.Members) && decide (v.Members ≤ zDQ p)) && ((decide (0 ≤ v.Bare) && decide (v.Bare ≤ zDQ p)) && ((IntKind.wrap .i64 (BitVec.ofInt (IntKind.bits .i64) v.Bare &&& BitVec.ofInt (IntKind.bits .i64) v.Members).toNat) == v.Bare)))
theorem zCj (n : Nat) (x : zC) (p : Int) (h : x.Rows.length ≤ 1048580) (m k : Nat) (hk : k < x.Rows.length) :
  ((∀ hk : k < x.Rows.length,zCZ p x.Rows[k] = true ∧ ∀ i (e : k = i + 1),(x.Rows[i]'(by omega)).Id < x.Rows[k].Id) ∧ ze n (m + 1) x p k = ze n m x p ((k + 1 : Nat) : Int)) ∨
  (¬ (∀ hk : k < x.Rows.length,zCZ p x.Rows[k] = true ∧ ∀ i (e : k = i + 1),(x.Rows[i]'(by omega)).Id < x.Rows[k].Id) ∧ ze n (m + 1) x p k = some (.inr false)) := by
 rw [ze,qy hk,cond_true,zg hk,Option.bind_some]
 simp only [zK,Option.bind_some,zy (by omega : k ≤ 1099511627776)]
 have hrow : zCZ p x.Rows[k] = ((decide (1 ≤ x.Rows[k].Id) && decide (x.Rows[k].Id ≤ 99)) && ((decide (0 ≤ x.Rows[k].Members) && decide (x.Rows[k].Members ≤ zDQ p)) && ((decide (0 ≤ x.Rows[k].Bare) && decide (x.Rows[k].Bare ≤ zDQ p)) && ((IntKind.wrap .i64 (BitVec.ofInt (IntKind.bits .i64) x.Rows[k].Bare &&& BitVec.ofInt (IntKind.bits .i64) x.Rows[k].Members).toNat) == x.Rows[k].Bare)))) := rfl
 have hb : ∀ a b : Int,(a != b) = !(a == b) := fun a b => rfl
 unfold zDQ at hrow
 rw [hb]
 generalize (decide (1 ≤ x.Rows[k].Id) && decide (x.Rows[k].Id ≤ 99)) = b1 at hrow ⊢
 generalize (decide (0 ≤ x.Rows[k].Members) && decide (x.Rows[k].Members ≤ IntKind.wrap .i64 ((IntKind.wrap .i64 (1 * 2 ^ min (((IntKind.wrap .u64 p) : Int)).toNat (IntKind.bits .i64))) - 1))) = b2 at hrow ⊢
 generalize (decide (0 ≤ x.Rows[k].Bare) && decide (x.Rows[k].Bare ≤ IntKind.wrap .i64 ((IntKind.wrap .i64 (1 * 2 ^ min (((IntKind.wrap .u64 p) : Int)).toNat (IntKind.bits .i64))) - 1))) = b3 at hrow ⊢
 generalize ((IntKind.wrap .i64 (BitVec.ofInt (IntKind.bits .i64) x.Rows[k].Bare &&& BitVec.ofInt (IntKind.bits .i64) x.Rows[k].Members).toNat) == x.Rows[k].Bare) = b4 at hrow ⊢
 have bad : (b1 && (b2 && (b3 && b4))) = false → ¬ (∀ hk : k < x.Rows.length,zCZ p x.Rows[k] = true ∧ ∀ i (e : k = i + 1),(x.Rows[i]'(by omega)).Id < x.Rows[k].Id) := fun e hc => by
  have := (hc hk).1
  rw [hrow,e] at this
  cases this
 cases b1 with
 | false => exact .inr ⟨bad rfl,rfl⟩
 | true =>
  cases b2 with
  | false => exact .inr ⟨bad rfl,rfl⟩
  | true =>
   cases b3 with
   | false => exact .inr ⟨bad rfl,rfl⟩
   | true =>
    cases b4 with
    | false => exact .inr ⟨bad rfl,rfl⟩
    | true =>
     simp only [Bool.not_true,cond_false]
     cases k with
     | zero => exact .inl ⟨fun _ => ⟨hrow,fun i e => by omega⟩,rfl⟩
     | succ k =>
      have hw2 : IntKind.wrap .i64 (((k + 1 : Nat) : Int) - 1) = (k : Int) := by rw [wrap64 (by omega) (by omega)]; omega
      rw [decide_eq_true (show ((k + 1 : Nat) : Int) > 0 by omega),cond_true,hw2,zg (show k < x.Rows.length by omega),Option.bind_some]
      by_cases hge : (x.Rows[k]'(by omega)).Id ≥ x.Rows[k + 1].Id
      ·exact .inr ⟨fun hc => by have := (hc hk).2 k rfl; omega,by rw [decide_eq_true hge]; rfl⟩
      ·refine .inl ⟨fun _ => ⟨hrow,fun i e => ?_⟩,by rw [decide_eq_false hge]; rfl⟩
       obtain rfl : k = i := by omega
       omega
theorem zBO (n : Nat) (x : zC) (p : Int) (h : x.Rows.length ≤ 1048580) (hn : x.Rows.length < n) (hq : x.Pv.length ≤ 1048580) (hqn : x.Pv.length < n) (h0 : 0 ≤ p) (h1 : p ≤ 1099511627776) : zh n x p = some true ↔
  (1 ≤ p ∧ p ≤ 6) ∧ (x.Pv.length : Int) = p ∧ x.Rows.length ≤ 6 ∧ (∀ j (hj : j < x.Rows.length),zCZ p x.Rows[j] = true) ∧ zEh x.Rows 0 ∧ ∀ q ∈ x.Pv,∃ v ∈ x.Rows,v.Id = q := by
 obtain ⟨k,rfl⟩ := Int.eq_ofNat_of_zero_le h0
 unfold zh
 rw [zK,Option.bind_some,zA5 (show k ≤ 1099511627776 by omega),decide_eq_true (show (0 : Int) ≤ (k : Int) by omega),cond_true]
 by_cases hp : 1 ≤ (k : Int) ∧ (k : Int) ≤ 6
 ·rw [decide_eq_true hp.1,decide_eq_true hp.2]
  simp only [Bool.and_self,Bool.not_true,cond_false]
  by_cases hl : (x.Pv.length : Int) = k
  ·rw [show ((x.Pv.length : Int) != (k : Int)) = false from by simpa using hl,cond_false]
   by_cases h6 : x.Rows.length ≤ 6
   ·rw [decide_eq_false (show ¬ (x.Rows.length : Int) > 6 by omega),cond_false]
    rcases Jp (L := fun m j => ze n m x k j) (N := x.Rows.length) (P := fun k_1 => ∀ hk : k_1 < x.Rows.length,zCZ (k : Int) x.Rows[k_1] = true ∧ ∀ i (e : k_1 = i + 1),(x.Rows[i]'(by omega)).Id < x.Rows[k_1].Id) (fun m j hj => zCj n x k h m j hj) (fun m => ⟨(),by simp only [ze]; rw [qm]; rfl⟩) n 0 (by omega) (by omega) with ⟨a,e,pp⟩ | ⟨e,pp⟩
    ·rw [show ze n n x k 0 = _ from e,Option.bind_some]
     simp only [ZY]
     have hs : zEh x.Rows 0 := fun j hj _ => (pp (j + 1) (by omega) hj hj).2 j rfl
     rcases Jp (L := fun m j => z5 n m x j) (N := x.Pv.length) (P := fun j => ∀ hj : j < x.Pv.length,∃ v ∈ x.Rows,v.Id = x.Pv[j]) (fun m j hj => by
      simp only [z5]
      rw [qy hj,cond_true,zg hj,Option.bind_some,zy (by omega : j ≤ 1099511627776)]
      obtain ⟨r,hr,hk⟩ := ZX n x x.Pv[j] h hn
      rw [hr,Option.bind_some]
      rcases hk with ⟨rfl,hno⟩ | ⟨v,hr0,hv,he⟩
      ·exact .inr ⟨fun hc => by obtain ⟨v,hv,he⟩ := hc hj; exact hno v hv he,rfl⟩
      ·exact .inl ⟨fun _ => ⟨v,List.mem_of_getElem? (Y3 hv).2,he⟩,by rw [decide_eq_false (show ¬ r < 0 by omega)]; rfl⟩) (fun m => ⟨(),by simp only [z5]; rw [qm]; rfl⟩) n 0 (by omega) (by omega) with ⟨a3,e3,p3⟩ | ⟨e3,p3⟩
     ·rw [show z5 n n x 0 = _ from e3,Option.bind_some]
      refine ⟨fun _ => ⟨hp,hl,h6,fun j hj => (pp j (by omega) hj hj).1,hs,fun q hq' => ?_⟩,fun _ => rfl⟩
      obtain ⟨j,hj,rfl⟩ := List.getElem_of_mem hq'
      exact p3 j (by omega) hj hj
     ·rw [show z5 n n x 0 = _ from e3,Option.bind_some]
      exact ⟨fun hc => (by cases hc),fun hc => absurd (fun j _ hj _ => hc.2.2.2.2.2 _ (List.getElem_mem hj)) p3⟩
    ·rw [show ze n n x k 0 = _ from e,Option.bind_some]
     refine ⟨fun hc => (by cases hc),fun hc => absurd (fun j _ hj _ => ⟨hc.2.2.2.1 j hj,fun i e => ?_⟩) pp⟩
     subst e
     exact hc.2.2.2.2.1 i hj (by omega)
   ·rw [decide_eq_true (show (x.Rows.length : Int) > 6 by omega)]
    exact ⟨fun hc => (by cases hc),fun hc => absurd hc.2.2.1 h6⟩
  ·rw [show ((x.Pv.length : Int) != (k : Int)) = true from by simpa using hl]
   exact ⟨fun hc => (by cases hc),fun hc => absurd hc.2.1 hl⟩
 ·have : (decide (1 ≤ (k : Int)) && decide ((k : Int) ≤ 6)) = false := by
   simp only [Bool.and_eq_false_iff,decide_eq_false_iff_not]; omega
  rw [this]
  exact ⟨fun hc => (by cases hc),fun hc => absurd hc.1 hp⟩
theorem zFD (n : Nat) (v : Vec) (h : qf n v = some true) : v.wf := by
 unfold qf at h
 simp only [zK,Option.bind_some] at h
 cases h1 : (decide (1 ≤ v.Root) && decide (v.Root ≤ 99)) with
 | false => rw [h1] at h; cases h
 | true =>
  cases h2 : (decide (0 ≤ v.Co) && decide (v.Co ≤ 100000)) with
  | false => rw [h1,h2] at h; cases h
  | true =>
   cases h3 : (decide (0 ≤ v.Hops) && decide (v.Hops ≤ 10)) with
   | false => rw [h1,h2,h3] at h; cases h
   | true =>
    cases h4 : (decide (1 ≤ v.Bridge) && decide (v.Bridge ≤ 99)) with
    | false => rw [h1,h2,h3,h4] at h; cases h
    | true =>
     rw [h1,h2,h3,h4] at h
     simp only [cond_true,Option.some.injEq,Bool.and_eq_true,decide_eq_true_eq] at h h1 h2 h3 h4
     exact ⟨zk (by omega) (by omega),zk (by omega) (by omega),zk (by omega) (by omega),zk (by omega) (by omega),zk (by omega) (by omega),trivial⟩
theorem zAj (n : Nat) (x : zD) (hn : x.Ps.length < n) (h1 : 1 ≤ x.Ps.length) (h2 : x.Ps.length ≤ 6) (h3 : 1 ≤ x.Id) (h4 : x.Id ≤ 99) (h5 : x.Name.size ≤ 10) (h6 : qX n x.F = some true) (h7 : zh n x.V (x.Ps.length : Int) = some true) (h8 : 0 ≤ x.Tk ∧ x.Tk ≤ 1000000) (h9 : 0 ≤ x.Pa ∧ x.Pa ≤ 1000000) (h10 : 0 ≤ x.Wo ∧ x.Wo ≤ 1000000) (h11 : 0 ≤ x.Dr ∧ x.Dr ≤ 1000000) (h12 : 0 ≤ x.Ve ∧ x.Ve ≤ 1000000) (h13 : ∀ j (hj : j < x.Ps.length),qG n x.Ps[j] = some true) : qL n x = some true := by
 have two : ∀ {a b c : Int},a ≤ b → b ≤ c → (decide (a ≤ b) && decide (b ≤ c)) = true := fun h h' => by rw [decide_eq_true h,decide_eq_true h']; rfl
 unfold qL
 rcases Jp (L := fun m k => zd n m x k) (N := x.Ps.length) (P := fun k => ∀ hk : k < x.Ps.length,qG n x.Ps[k] = some true) (fun m k hk => by
  simp only [zd]
  rw [qy hk,cond_true,zg hk,Option.bind_some,h13 k hk,Option.bind_some,zy (by omega : k ≤ 1099511627776)]
  exact .inl ⟨fun _ => h13 k hk,rfl⟩) (fun m => ⟨(),by simp only [zd]; rw [qm]; rfl⟩) n 0 (by omega) (by omega) with ⟨a,e,_⟩ | ⟨_,p⟩
 ·rw [show zd n n x 0 = _ from e]
  simp only [Option.bind_some,ZS,QA,zK,two h3 h4,two h8.1 h8.2,two h9.1 h9.2,two h10.1 h10.2,two h11.1 h11.2,two h12.1 h12.2,two (show (1 : Int) ≤ (x.Ps.length : Int) by omega) (show (x.Ps.length : Int) ≤ 6 by omega),decide_eq_true (show (x.Name.size : Int) ≤ 10 by omega),h6,h7,cond_true]
 ·exact absurd (fun j _ _ hj => h13 j hj) p
theorem zBH (n : Nat) : ∀ m,Zo n m = qc n m
 | 0 => rfl
 | m + 1 => by
  funext xs t a y
  rw [Zo,qc,zBH n m]
  cases idx xs y with
  | none => rfl
  | some v => rfl
theorem zAG (n : Nat) : Qp n = Zk n := by
 funext xs t a
 unfold Qp Zk
 rw [zBH]
 rfl
theorem zBa (n : Nat) : QY n = qb n := by
 funext xs t a
 unfold QY qb
 rw [zAG]
theorem zCQ (n : Nat) (xs : List zA) (t a : Int) (h : xs.length ≤ 1048580) : ∀ (m k : Nat),k ≤ xs.length → xs.length < m + k → (qc n m xs t a k = some (.inl ()) ∧ ∀ j,k ≤ j → ∀ hj : j < xs.length,¬ (xs[j].Tag = t ∧ xs[j].Mac = a)) ∨ ∃ j,k ≤ j ∧ ∃ hj : j < xs.length,qc n m xs t a k = some (.inr (j : Int)) ∧ xs[j].Tag = t ∧ xs[j].Mac = a
 | 0,k,h1,h2 => by omega
 | m + 1,k,h1,h2 => by
  rw [qc]
  by_cases hk : k < xs.length
  ·rw [qy hk,cond_true,zg hk,Option.bind_some,Option.bind_some,zy (by omega : k ≤ 1099511627776)]
   by_cases ht : xs[k].Tag = t
   ·rw [show (xs[k].Tag == t) = true from by simpa using ht,cond_true]
    by_cases ha : xs[k].Mac = a
    ·rw [show (xs[k].Mac == a) = true from by simpa using ha,cond_true]
     exact .inr ⟨k,Nat.le_refl _,hk,rfl,ht,ha⟩
    ·rw [show (xs[k].Mac == a) = false from by simpa using ha,cond_false]
     rcases zCQ n xs t a h m (k + 1) (by omega) (by omega) with ⟨e,p⟩ | ⟨j,hj,hj2,e,p⟩
     ·refine .inl ⟨e,fun j hj hj2 => ?_⟩
      by_cases hjk : j = k
      ·subst hjk; exact fun hc => ha hc.2
      ·exact p j (by omega) hj2
     ·exact .inr ⟨j,by omega,hj2,e,p⟩
   ·rw [show (xs[k].Tag == t) = false from by simpa using ht,cond_false]
    rcases zCQ n xs t a h m (k + 1) (by omega) (by omega) with ⟨e,p⟩ | ⟨j,hj,hj2,e,p⟩
    ·refine .inl ⟨e,fun j hj hj2 => ?_⟩
     by_cases hjk : j = k
     ·subst hjk; exact fun hc => ht hc.1
     ·exact p j (by omega) hj2
    ·exact .inr ⟨j,by omega,hj2,e,p⟩
  ·obtain rfl : k = xs.length := by omega
   rw [qm]
   exact .inl ⟨rfl,fun j hj hj2 => by omega⟩
theorem Zs (n : Nat) (xs : List zA) (t a : Int) (h : xs.length ≤ 1048580) (hn : xs.length < n) : (Zk n xs t a = some (-1) ∧ ∀ j (hj : j < xs.length),¬ (xs[j].Tag = t ∧ xs[j].Mac = a)) ∨ ∃ j,∃ hj : j < xs.length,Zk n xs t a = some (j : Int) ∧ xs[j].Tag = t ∧ xs[j].Mac = a := by
 unfold Zk
 rcases zCQ n xs t a h n 0 (by omega) (by omega) with ⟨e,p⟩ | ⟨j,_,hj,e,p⟩
 ·rw [show qc n n xs t a 0 = _ from e]
  exact .inl ⟨rfl,fun j hj => p j (by omega) hj⟩
 ·rw [show qc n n xs t a 0 = _ from e]
  exact .inr ⟨j,hj,rfl,p⟩
def qD (v : zA) (t a : Int) : Prop := v.Tag < t ∨ v.Tag = t ∧ v.Mac < a
instance (v : zA) (t a : Int) : Decidable (qD v t a) := inferInstanceAs (Decidable (_ ∨ _))
def Zu (e : zA) : List zA → List zA
 | [] => [e]
 | v :: vs => if qD v e.Tag e.Mac then v :: Zu e vs else if v.Tag = e.Tag ∧ v.Mac = e.Mac then e :: vs else e :: v :: vs
theorem zDx (e : zA) : ∀ xs : List zA,(Zu e xs).length ≤ xs.length + 1
 | [] => Nat.le_refl _
 | v :: vs => by
  unfold Zu
  have := zDx e vs
  split
  ·simp only [List.length_cons]; omega
  ·split <;> simp only [List.length_cons] <;> omega
theorem zCP (e : zA) : ∀ (xs : List zA) (v : zA),v ∈ Zu e xs → v = e ∨ v ∈ xs
 | [],v,h => by simp [Zu] at h; exact .inl h
 | u :: us,v,h => by
  unfold Zu at h
  split at h
  ·rcases List.mem_cons.1 h with rfl | h
   ·exact .inr (by simp)
   ·rcases zCP e us v h with h | h
    ·exact .inl h
    ·exact .inr (by simp [h])
  ·split at h
   ·rcases List.mem_cons.1 h with rfl | h
    ·exact .inl rfl
    ·exact .inr (by simp [h])
   ·rcases List.mem_cons.1 h with rfl | h
    ·exact .inl rfl
    ·exact .inr h
theorem Qs (n : Nat) (v : zA) (t a : Int) : qk n v t a = some (decide (qD v t a)) := by
 unfold qk
 by_cases h : v.Tag = t
 ·rw [show (v.Tag != t) = false from by simpa using h,cond_false]
  congr 1
  rw [decide_eq_decide]
  unfold qD
  constructor
  ·intro h2; exact .inr ⟨h,h2⟩
  ·rintro (h2 | h2)
   ·omega
   ·exact h2.2
 ·rw [show (v.Tag != t) = true from by simpa using h,cond_true]
  congr 1
  rw [decide_eq_decide]
  unfold qD
  constructor
  ·intro h2; exact .inl h2
  ·rintro (h2 | h2)
   ·exact h2
   ·exact absurd h2.1 h
theorem zAT (n : Nat) (xs : List zA) (h : xs.length ≤ 1048580) (hok : qX n xs = some true) : ∀ (j i : Nat) (hij : i < j) (hj : j < xs.length),qD (xs[i]'(by omega)) xs[j].Tag xs[j].Mac := by
 have hs := (Ya n xs h hok).2.2
 intro j
 induction j with
 | zero => intro i hij; omega
 | succ j ih =>
  intro i hij hj
  have h1 := hs j hj
  rw [Qs] at h1
  have h1 := of_decide_eq_true (Option.some.inj h1)
  by_cases e : i = j
  ·subst e; exact h1
  ·have := ih i (by omega) (by omega)
   unfold qD at this h1 ⊢
   omega
theorem Jg (n : Nat) (xs : List zA) (e : zA) (h : xs.length ≤ 1048580) : ∀ (m k : Nat) (acc : List zA),k ≤ xs.length → xs.length < m + k → acc.length ≤ k + 1 → (∀ j,k ≤ j → ∀ hj : j < xs.length,¬ (xs[j].Tag = e.Tag ∧ xs[j].Mac = e.Mac)) → qN n m xs e k true acc = some (.inl (true,acc ++ xs.drop k))
 | 0,k,acc,h1,h2,h3,hne => by omega
 | m + 1,k,acc,h1,h2,h3,hne => by
  rw [qN]
  by_cases hk : k < xs.length
  ·have hg : ∀ v : zA,decide (acc.length + [v].length ≤ 268435456) = true := fun v => decide_eq_true (by simp; omega)
   have ih := Jg n xs e h m (k + 1) (acc ++ [xs[k]]) (by omega) (by omega) (by simp; omega) (fun j hj => hne j (by omega))
   rw [qy hk,cond_true,Bool.not_true,cond_false]
   simp only [ZN,zg hk,Option.bind_some,hg,cond_true,zy (by omega : k ≤ 1099511627776)]
   have hd : acc ++ [xs[k]] ++ xs.drop (k + 1) = acc ++ xs.drop k := by rw [List.append_assoc,List.drop_eq_getElem_cons hk]; rfl
   rw [hd] at ih
   by_cases ht : xs[k].Tag = e.Tag
   ·have hm : xs[k].Mac ≠ e.Mac := fun hm => hne k (Nat.le_refl _) hk ⟨ht,hm⟩
    rw [show (xs[k].Tag != e.Tag) = false from by simpa using ht,cond_false,show (xs[k].Mac != e.Mac) = true from by simpa using hm,cond_true]
    exact ih
   ·rw [show (xs[k].Tag != e.Tag) = true from by simpa using ht,cond_true]
    exact ih
  ·obtain rfl : k = xs.length := by omega
   rw [qm,cond_false,List.drop_length,List.append_nil]
theorem zBR (n : Nat) (xs : List zA) (e : zA) (h : xs.length ≤ 1048580) (hs : ∀ (j i : Nat) (hij : i < j) (hj : j < xs.length),qD (xs[i]'(by omega)) xs[j].Tag xs[j].Mac) : ∀ (m k : Nat) (acc : List zA),k ≤ xs.length → xs.length < m + k → acc.length ≤ k → ∃ b zs,qN n m xs e k false acc = some (.inl (b,zs)) ∧ zs.length ≤ xs.length + 1 ∧ (bif !b then zs ++ [e] else zs) = acc ++ Zu e (xs.drop k)
 | 0,k,acc,h1,h2,h3 => by omega
 | m + 1,k,acc,h1,h2,h3 => by
  rw [qN]
  by_cases hk : k < xs.length
  ·have hg : ∀ (zs : List zA) (v : zA),zs.length ≤ k + 1 → decide (zs.length + [v].length ≤ 268435456) = true := fun zs v hz => decide_eq_true (by simp; omega)
   rw [qy hk,cond_true,Bool.not_false,cond_true,zg hk,Option.bind_some,Qs,Option.bind_some]
   rw [List.drop_eq_getElem_cons hk]
   by_cases ha : qD xs[k] e.Tag e.Mac
   ·obtain ⟨b,zs,e1,e2,e3⟩ := zBR n xs e h hs m (k + 1) (acc ++ [xs[k]]) (by omega) (by omega) (by simp; omega)
    refine ⟨b,zs,?_,e2,?_⟩
    ·rw [decide_eq_true ha]
     simp only [Bool.not_true,cond_false,ZN,zg hk,Option.bind_some,hg acc _ (by omega),cond_true,zy (by omega : k ≤ 1099511627776)]
     by_cases ht : xs[k].Tag = e.Tag
     ·have hm : xs[k].Mac ≠ e.Mac := fun hm => by unfold qD at ha; omega
      rw [show (xs[k].Tag != e.Tag) = false from by simpa using ht,cond_false,show (xs[k].Mac != e.Mac) = true from by simpa using hm,cond_true]
      exact e1
     ·rw [show (xs[k].Tag != e.Tag) = true from by simpa using ht,cond_true]
      exact e1
    ·rw [e3,Zu,if_pos ha,List.append_assoc]; rfl
   ·rw [decide_eq_false ha,Zu,if_neg ha]
    have rest : ∀ j,k + 1 ≤ j → ∀ hj : j < xs.length,¬ (xs[j].Tag = e.Tag ∧ xs[j].Mac = e.Mac) := fun j hj hj2 hc => by
     have := hs j k (by omega) hj2
     rw [hc.1,hc.2] at this
     exact ha this
    simp only [Bool.not_false,cond_true,hg acc _ (by omega),ZN,zg hk,Option.bind_some,hg (acc ++ [e]) _ (by simp; omega),zy (by omega : k ≤ 1099511627776)]
    by_cases hkey : xs[k].Tag = e.Tag ∧ xs[k].Mac = e.Mac
    ·rw [show (xs[k].Tag != e.Tag) = false from by simpa using hkey.1,cond_false,show (xs[k].Mac != e.Mac) = false from by simpa using hkey.2,cond_false]
     refine ⟨true,_,Jg n xs e h m (k + 1) (acc ++ [e]) (by omega) (by omega) (by simp; omega) rest,by simp; omega,?_⟩
     rw [if_pos hkey,Bool.not_true,cond_false,List.append_assoc]; rfl
    ·have e1 := Jg n xs e h m (k + 1) (acc ++ [e] ++ [xs[k]]) (by omega) (by omega) (by simp; omega) rest
     refine ⟨true,acc ++ [e] ++ [xs[k]] ++ xs.drop (k + 1),?_,by simp; omega,?_⟩
     ·by_cases ht : xs[k].Tag = e.Tag
      ·have hm : xs[k].Mac ≠ e.Mac := fun hm => hkey ⟨ht,hm⟩
       rw [show (xs[k].Tag != e.Tag) = false from by simpa using ht,cond_false,show (xs[k].Mac != e.Mac) = true from by simpa using hm,cond_true]
       exact e1
      ·rw [show (xs[k].Tag != e.Tag) = true from by simpa using ht,cond_true]
       exact e1
     ·rw [if_neg hkey,Bool.not_true,cond_false]
      simp
  ·obtain rfl : k = xs.length := by omega
   rw [qm]
   refine ⟨false,acc,rfl,by omega,?_⟩
   rw [List.drop_length]
   rfl
theorem J8 (n : Nat) (xs : List zA) (e : zA) (h : xs.length ≤ 1048580) (hn : xs.length < n) (hs : ∀ (j i : Nat) (hij : i < j) (hj : j < xs.length),qD (xs[i]'(by omega)) xs[j].Tag xs[j].Mac) : Za n xs e = some (Zu e xs) := by
 obtain ⟨b,zs,e1,e2,e3⟩ := zBR n xs e h hs n 0 [] (by omega) (by omega) (by simp)
 unfold Za
 rw [show qN n n xs e 0 false [] = _ from e1]
 simp only [Option.bind_some,YM]
 rw [decide_eq_true (by simp; omega)]
 rw [List.drop_zero,List.nil_append] at e3
 rw [← e3]
 cases b <;> rfl
theorem zDy (e : zA) : ∀ (xs : List zA) (k : Nat) (hk : k < xs.length) (hs : ∀ (j i : Nat) (hij : i < j) (hj : j < xs.length),qD (xs[i]'(by omega)) xs[j].Tag xs[j].Mac),xs[k].Tag = e.Tag → xs[k].Mac = e.Mac → Zu e xs = xs.set k e
 | [],k,hk,hs,h1,h2 => by simp at hk
 | v :: vs,0,hk,hs,h1,h2 => by
  have h1 : v.Tag = e.Tag := h1
  have h2 : v.Mac = e.Mac := h2
  unfold Zu
  rw [if_neg (by unfold qD; omega),if_pos ⟨h1,h2⟩]
  rfl
 | v :: vs,k + 1,hk,hs,h1,h2 => by
  have ha : qD v e.Tag e.Mac := by
   have := hs (k + 1) 0 (by omega) hk
   rw [h1,h2] at this
   exact this
  unfold Zu
  rw [if_pos ha,zDy e vs k (by simpa using hk) (fun j i hij hj => hs (j + 1) (i + 1) (by omega) (by simpa using hj)) h1 h2]
  rfl
theorem zEV (e : zA) : ∀ (xs : List zA) (k : Nat) (hk : k ≤ xs.length),(∀ j (hj : j < xs.length),¬ (xs[j].Tag = e.Tag ∧ xs[j].Mac = e.Mac)) → (∀ j (hj : j < k),¬ qD e (xs[j]'(by omega)).Tag (xs[j]'(by omega)).Mac) → (∀ h : k < xs.length,qD e xs[k].Tag xs[k].Mac) → Zu e xs = xs.take k ++ e :: xs.drop k
 | [],k,hk,hne,h1,h2 => by
  have : k = 0 := by simpa using hk
  subst this; rfl
 | v :: vs,0,hk,hne,h1,h2 => by
  have h2 : qD e v.Tag v.Mac := h2 (by simp)
  have hv := hne 0 (by simp)
  simp only [List.getElem_cons_zero] at hv
  unfold Zu
  rw [if_neg (by unfold qD at h2 ⊢; omega),if_neg hv]
  rfl
 | v :: vs,k + 1,hk,hne,h1,h2 => by
  have hv := hne 0 (by simp)
  have h0 := h1 0 (by omega)
  simp only [List.getElem_cons_zero] at hv h0
  unfold Zu
  rw [if_pos (by unfold qD at h0 ⊢; omega),zEV e vs k (by simpa using hk) (fun j hj => by have := hne (j + 1) (by simpa using hj); simpa using this) (fun j hj => by have := h1 (j + 1) (by omega); simpa using this) (fun h => by have := h2 (by simpa using h); simpa using this)]
  rfl
theorem zB1 (n : Nat) (xs : List zA) (e : zA) (h : xs.length ≤ 1048580) : ∀ (m k : Nat),k ≤ xs.length → xs.length < m + k → (∀ j (hj : j < k) (hj2 : j < xs.length),¬ qD e xs[j].Tag xs[j].Mac) → ∃ k',k' ≤ xs.length ∧ QQ n m xs e k = some (.inl (k' : Int)) ∧ (∀ j (hj : j < k') (hj2 : j < xs.length),¬ qD e xs[j].Tag xs[j].Mac) ∧ ∀ h : k' < xs.length,qD e xs[k'].Tag xs[k'].Mac
 | 0,k,h1,h2,h3 => by omega
 | m + 1,k,h1,h2,h3 => by
  rw [QQ]
  by_cases hk : k < xs.length
  ·rw [qy hk,cond_true,zg hk,Option.bind_some,zBb,Qs,Option.bind_some,zy (by omega : k ≤ 1099511627776)]
   by_cases ha : qD e xs[k].Tag xs[k].Mac
   ·rw [decide_eq_true ha]
    exact ⟨k,h1,rfl,h3,fun _ => ha⟩
   ·rw [decide_eq_false ha]
    exact zB1 n xs e h m (k + 1) (by omega) (by omega) (fun j hj hj2 => by
     by_cases hjk : j = k
     ·subst hjk; exact ha
     ·exact h3 j (by omega) hj2)
  ·obtain rfl : k = xs.length := by omega
   rw [qm]
   exact ⟨xs.length,Nat.le_refl _,rfl,h3,fun h => absurd h (Nat.lt_irrefl _)⟩
theorem zFm (n : Nat) (xs : List zA) (e : zA) (h : xs.length ≤ 12) (hn : 100 < n) (hs : ∀ (j i : Nat) (hij : i < j) (hj : j < xs.length),qD (xs[i]'(by omega)) xs[j].Tag xs[j].Mac) : ∃ b,Ji n xs e = some (if 12 ≤ xs.length ∧ ∀ j (hj : j < xs.length),¬ (xs[j].Tag = e.Tag ∧ xs[j].Mac = e.Mac) then xs else Zu e xs,b) := by
 have hc : qC n xs = some xs := by unfold qC; rw [decide_eq_true (by simp; omega)]; rfl
 unfold Ji
 rw [hc,Option.bind_some,zAG]
 rcases Zs n xs e.Tag e.Mac (by omega) (by omega) with ⟨e1,hne⟩ | ⟨k,hk,e1,h1,h2⟩
 ·rw [e1,Option.bind_some]
  rw [decide_eq_false (by omega : ¬ (-1 : Int) ≥ 0),cond_false]
  by_cases h12 : 12 ≤ xs.length
  ·rw [decide_eq_true (show (xs.length : Int) ≥ 12 by omega),if_pos ⟨h12,hne⟩]
   exact ⟨false,rfl⟩
  ·rw [decide_eq_false (show ¬ (xs.length : Int) ≥ 12 by omega),cond_false,if_neg (fun hc => h12 hc.1)]
   obtain ⟨k,hk,f1,f2,f3⟩ := zB1 n xs e (by omega) n 0 (by omega) (by omega) (fun j hj => by omega)
   rw [show QQ n n xs e 0 = _ from f1,zEV e xs k hk hne (fun j hj => f2 j hj (by omega)) f3]
   have t1 : ((xs.drop ((0 : Int)).toNat).take (((k : Int)).toNat - ((0 : Int)).toNat)) = xs.take k := by simp
   have t2 : ((xs.drop ((k : Int)).toNat).take ((((xs.length : Int) : Int)).toNat - ((k : Int)).toNat)) = xs.drop k := by
    rw [Int.toNat_natCast,Int.toNat_natCast]; exact List.take_of_length_le (by simp)
   have hc2 : qC n (xs.take k) = some (xs.take k) := by unfold qC; rw [decide_eq_true (by simp; omega)]; rfl
   have g1 : (decide ((0 : Int) ≤ 0) && (decide ((0 : Int) ≤ (k : Int)) && decide ((k : Int) ≤ (xs.length : Int)))) = true := by
    rw [decide_eq_true (by omega),decide_eq_true (by omega),decide_eq_true (by omega)]; rfl
   have g2 : (decide ((0 : Int) ≤ (k : Int)) && (decide ((k : Int) ≤ (xs.length : Int)) && decide (((xs.length : Int) : Int) ≤ (xs.length : Int)))) = true := by
    rw [decide_eq_true (by omega),decide_eq_true (by omega),decide_eq_true (Int.le_refl _)]; rfl
   simp only [Option.bind_some,JJ,t1,t2,g1,g2,hc2,cond_true]
   rw [decide_eq_true (by simp; omega),decide_eq_true (by simp; omega),cond_true,cond_true]
   exact ⟨true,by rw [List.append_assoc]; rfl⟩
 ·rw [e1,Option.bind_some,decide_eq_true (show ((k : Nat) : Int) ≥ 0 by omega),cond_true,zg hk,Option.bind_some,if_neg (fun hc => hc.2 k hk ⟨h1,h2⟩),zDy e xs k hk hs h1 h2]
  exact ⟨true,rfl⟩
theorem zD5 (n : Nat) (xs : List zA) (t a p : Int) (wx : Zv zA.wf xs) (h : xs.length ≤ 1048576) (hn : 1048577 < n) : ∃ ys,Zz n xs t a p = some ys ∧ JI n xs t a p = some ys ∧ ys.length ≤ xs.length + 1 ∧ (ys = xs ∨ qP n ⟨t,a,p,0,false⟩ = some true) ∧ ∀ v ∈ ys,v ∈ xs ∨ v = ⟨t,a,p,0,false⟩ := by
 have hcs : z8 n xs = some xs := by unfold z8; rw [decide_eq_true (by simp; omega)]; rfl
 have hci : qC n xs = some xs := by unfold qC; rw [decide_eq_true (by simp; omega)]; rfl
 obtain ⟨b,hb,hb2⟩ := zBK n xs (by omega) (by omega)
 obtain ⟨c,hc⟩ := Yf n ⟨t,a,p,0,false⟩
 have hat : ∃ r,Zk n xs t a = some r := by
  rcases Zs n xs t a (by omega) (by omega) with ⟨e,_⟩ | ⟨_,_,e,_⟩ <;> exact ⟨_,e⟩
 obtain ⟨r,hr⟩ := hat
 have stay : ∀ v ∈ xs,v ∈ xs ∨ v = (⟨t,a,p,0,false⟩ : zA) := fun v hv => .inl hv
 unfold Zz JI
 rw [zAG,hr,Option.bind_some,Option.bind_some,hb,hb2,Option.bind_some,Option.bind_some]
 cases b with
 | false => exact ⟨xs,by simp only [Bool.not_false,cond_true,hcs,Option.bind_some],by simp only [Bool.not_false,cond_true,hci,Option.bind_some],by omega,.inl rfl,stay⟩
 | true =>
  rw [zBc,hc]
  simp only [Bool.not_true,cond_false,Option.bind_some]
  cases c with
  | false => exact ⟨xs,by simp only [Bool.not_false,cond_true,hcs,Option.bind_some],by simp only [Bool.not_false,cond_true,hci,Option.bind_some],by omega,.inl rfl,stay⟩
  | true =>
   have h12 := (Ya n xs (by omega) hb).1
   have hs := zAT n xs (by omega) hb
   have hp := J8 n xs ⟨t,a,p,0,false⟩ (by omega) (by omega) hs
   obtain ⟨bp,hi⟩ := zFm n xs ⟨t,a,p,0,false⟩ h12 (by omega) hs
   have hlen := zDx ⟨t,a,p,0,false⟩ xs
   have hmem := fun v hv => (zCP ⟨t,a,p,0,false⟩ xs v hv).symm
   rcases Zs n xs t a (by omega) (by omega) with ⟨e,hne⟩ | ⟨k,hk,e,k1,k2⟩
   ·rw [hr] at e
    cases e
    simp only [Bool.not_true,cond_false,decide_eq_false (show ¬ (-1 : Int) ≥ 0 by omega),decide_eq_true (show (-1 : Int) < 0 by omega),cond_true,hi,hp,Option.bind_some,hcs]
    by_cases hf : 12 ≤ xs.length
    ·rw [decide_eq_true (show (xs.length : Int) ≥ 12 by omega),if_pos ⟨hf,hne⟩]
     exact ⟨xs,rfl,rfl,by omega,.inl rfl,stay⟩
    ·rw [decide_eq_false (show ¬ (xs.length : Int) ≥ 12 by omega),if_neg (fun hc => hf hc.1)]
     exact ⟨_,rfl,rfl,hlen,.inr (by first | trivial | rfl),hmem⟩
   ·rw [hr] at e
    cases e
    simp only [Bool.not_true,cond_false,decide_eq_true (show ((k : Nat) : Int) ≥ 0 by omega),decide_eq_false (show ¬ ((k : Nat) : Int) < 0 by omega),cond_true,hi,hp,Option.bind_some,hcs,hci,zg hk]
    cases xs[k].Sc with
    | true => exact ⟨xs,rfl,rfl,by omega,.inl rfl,stay⟩
    | false =>
     rw [if_neg (fun hc => hc.2 k hk ⟨k1,k2⟩)]
     exact ⟨_,rfl,rfl,hlen,.inr (by first | trivial | rfl),hmem⟩
def Yq (a b : Int) : Int := IntKind.wrap .i64 (BitVec.ofInt (IntKind.bits .i64) a &&& BitVec.ofInt (IntKind.bits .i64) b).toNat
def Ju (a p : Int) : Int := IntKind.wrap .i64 (BitVec.ofInt (IntKind.bits .i64) a &&& ~~~BitVec.ofInt (IntKind.bits .i64) (IntKind.wrap .i64 (1 * 2 ^ min (((IntKind.wrap .u64 p) : Int)).toNat (IntKind.bits .i64)))).toNat
def zE4 (a p : Int) : Int := IntKind.wrap .i64 (BitVec.ofInt (IntKind.bits .i64) a &&& BitVec.ofInt (IntKind.bits .i64) (IntKind.wrap .i64 (1 * 2 ^ min (((IntKind.wrap .u64 p) : Int)).toNat (IntKind.bits .i64)))).toNat
theorem zEa : ∀ a < 64,∀ b < 64,Yq ((a : Nat) : Int) ((b : Nat) : Int) = ((a &&& b : Nat) : Int) := by decide +kernel
theorem zEb : ∀ a < 64,∀ p < 6,0 ≤ Ju ((a : Nat) : Int) ((p : Nat) : Int) ∧ Ju ((a : Nat) : Int) ((p : Nat) : Int) < 64 ∧ ∀ j < 6,QK (Ju ((a : Nat) : Int) ((p : Nat) : Int)) j = (QK ((a : Nat) : Int) j && !(j == p)) := by decide +kernel
theorem zEc : ∀ a < 64,∀ q < 8,∀ j < 6,QK (zE4 ((a : Nat) : Int) ((q : Nat) : Int)) j = (QK ((a : Nat) : Int) j && (q == j)) := by decide +kernel
theorem zCC (n : Nat) (x : zC) (p : Int) (h : x.Rows.length ≤ 1048580) (hn : x.Rows.length < n) (hq : x.Pv.length ≤ 1048580) (hqn : x.Pv.length < n) (h0 : 0 ≤ p) (h1 : p ≤ 1099511627776) (hok : zh n x p = some true) : ∀ v ∈ x.Rows,∃ m b : Nat,v.Members = m ∧ v.Bare = b ∧ m < 64 ∧ b < 64 := by
 obtain ⟨hp,_,_,hr,_⟩ := (zBO n x p h hn hq hqn h0 h1).1 hok
 intro v hv
 obtain ⟨j,hj,rfl⟩ := List.getElem_of_mem hv
 have hb := hr j hj
 unfold zCZ at hb
 simp only [Bool.and_eq_true,decide_eq_true_eq] at hb
 obtain ⟨_,⟨m0,m1⟩,⟨b0,b1⟩,_⟩ := hb
 have hm : zDQ p ≤ 63 := by
  have hc : p = 1 ∨ p = 2 ∨ p = 3 ∨ p = 4 ∨ p = 5 ∨ p = 6 := by omega
  rcases hc with rfl | rfl | rfl | rfl | rfl | rfl <;> decide +kernel
 exact ⟨x.Rows[j].Members.toNat,x.Rows[j].Bare.toNat,by omega,by omega,by omega,by omega⟩
theorem Jz (n : Nat) (x : zC) (c : Int) (h : x.Rows.length ≤ 1048580) (hn : x.Rows.length < n) (hr : ∀ v ∈ x.Rows,∃ m b : Nat,v.Members = m ∧ v.Bare = b ∧ m < 64 ∧ b < 64) : ∃ e : Nat,e < 64 ∧ qS n x c = some (e : Int) := by
 obtain ⟨r,e,k⟩ := ZX n x c h hn
 unfold qS
 rw [e,Option.bind_some]
 rcases k with ⟨rfl,_⟩ | ⟨v,r0,hv,_⟩
 ·exact ⟨0,by omega,rfl⟩
 ·obtain ⟨m,b,e1,_,h1,_⟩ := hr v (List.mem_of_getElem? (Y3 hv).2)
  rw [decide_eq_false (show ¬ r < 0 by omega),cond_false,hv]
  exact ⟨m,h1,by rw [Option.bind_some,e1]⟩
theorem J1 (n : Nat) (x : zC) (c p : Int) (h : x.Rows.length ≤ 1048580) (hn : x.Rows.length < n) (hr : ∀ v ∈ x.Rows,∃ m b : Nat,v.Members = m ∧ v.Bare = b ∧ m < 64 ∧ b < 64) : ∃ t,QU n x c p = some t ∧ Qv n x c p = some t := by
 obtain ⟨r,e,k⟩ := ZX n x c h hn
 unfold QU Qv
 rw [Y4,e,Option.bind_some,Option.bind_some]
 rcases k with ⟨rfl,_⟩ | ⟨v,r0,hv,_⟩
 ·exact ⟨0,rfl,rfl⟩
 ·obtain ⟨m,b,_,e1,_,h1⟩ := hr v (List.mem_of_getElem? (Y3 hv).2)
  obtain ⟨s,s1,s2⟩ := zDa n b h1 p
  rw [decide_eq_false (show ¬ r < 0 by omega),cond_false,cond_false,hv,Option.bind_some,Option.bind_some,e1,s1,s2]
  simp only [Option.bind_some]
  cases s <;> exact ⟨_,rfl,rfl⟩
theorem zAn (n : Nat) (f : Frame) (t : Int) (h : f.Data.length ≤ 20) : Yw n f t = some ⟨f.Dst,f.Src,t,f.Data⟩ ∧ Yj n f t = some ⟨f.Dst,f.Src,t,f.Data⟩ := by
 unfold Yw Yj J4 YX
 rw [decide_eq_true (by simp; omega)]
 exact ⟨rfl,rfl⟩
theorem zBg (n : Nat) (x : zD) (c : Int) (f : Frame) (b e p : Nat) (y M : Int) (ok : Bool) (hb : b < 64) (he : e < 64) (hp : p < 6) (hl : x.Ps.length ≤ 6) (hf : f.Data.length ≤ 20) (hR : x.V.Rows.length ≤ 1048580) (hRn : x.V.Rows.length < n) (hr : ∀ v ∈ x.V.Rows,∃ m b : Nat,v.Members = m ∧ v.Bare = b ∧ m < 64 ∧ b < 64) (hE : qS n x.V c = some (e : Int)) (hM : ∀ j < 6,QK M j = ((QK (Yq b e) j && !(j == p)) && (decide (y < 0) || decide (y = (j : Int))))) :
  ∀ (m k : Nat) (acc : List Out),k ≤ x.Ps.length → x.Ps.length < m + k → acc.length ≤ k → (∀ o ∈ acc,o.F.Data.length ≤ 20) → ∃ zs,qH n m x c M f k acc = some (.inl zs) ∧ qB n m b (c,ok) x p f y k acc = some (.inl zs) ∧ zs.length ≤ 6 ∧ ∀ o ∈ zs,o.F.Data.length ≤ 20
 | 0,k,acc,h1,h2,h3,h4 => by omega
 | m + 1,k,acc,h1,h2,h3,h4 => by
  rw [qH,qB]
  by_cases hk : k < x.Ps.length
  ·obtain ⟨t,t1,t2⟩ := J1 n x.V c k hR hRn hr
   obtain ⟨g1,g2⟩ := zAn n f t hf
   have hg : decide (acc.length + [(⟨(k : Int),⟨f.Dst,f.Src,t,f.Data⟩⟩ : Out)].length ≤ 268435456) = true := decide_eq_true (by simp; omega)
   have ih := zBg n x c f b e p y M ok hb he hp hl hf hR hRn hr hE hM m (k + 1) acc (by omega) (by omega) (by omega) h4
   have ih2 := zBg n x c f b e p y M ok hb he hp hl hf hR hRn hr hE hM m (k + 1) (acc ++ [⟨(k : Int),⟨f.Dst,f.Src,t,f.Data⟩⟩]) (by omega) (by omega) (by simp; omega) (fun o ho => by
    rcases List.mem_append.1 ho with ho | ho
    ·exact h4 o ho
    ·rw [List.mem_singleton] at ho; subst ho; exact hf)
   have hbit : qY n (IntKind.wrap .i64 (BitVec.ofInt (IntKind.bits .i64) (b : Int) &&& BitVec.ofInt (IntKind.bits .i64) (e : Int)).toNat) k = some (QK (Yq b e) k) := QI n (Yq b e) k (by omega)
   rw [qy hk,cond_true,cond_true,ZG n M k (by omega),Option.bind_some,hM k (by omega),zy (by omega : k ≤ 1099511627776)]
   simp only [JC,hE,Option.bind_some,hbit,ZB,t1,t2,g1,g2,hg,cond_true,zy (by omega : k ≤ 1099511627776)]
   by_cases hkp : k = p
   ·subst hkp
    rw [show (((k : Nat) : Int) != ((k : Nat) : Int)) = false from by simp,cond_false,cond_false,show (k == k) = true from by simp]
    simp only [Bool.not_true,Bool.and_false,Bool.false_and,cond_false]
    exact ih
   ·rw [show (((k : Nat) : Int) != ((p : Nat) : Int)) = true from by simp; omega,cond_true,show (k == p) = false from by simpa using hkp]
    cases QK (Yq b e) k with
    | false => simp only [Bool.false_and,cond_false]; exact ih
    | true =>
     simp only [Bool.not_false,Bool.and_self,Bool.true_and,cond_true]
     by_cases hy : y < 0
     ·rw [decide_eq_true hy]
      simp only [Bool.true_or,cond_true]
      exact ih2
     ·rw [decide_eq_false hy]
      simp only [Bool.false_or,cond_false]
      by_cases hyk : y = (k : Int)
      ·rw [decide_eq_true hyk,show (y == (k : Int)) = true from by simpa using hyk]
       simp only [cond_true]
       exact ih2
      ·rw [decide_eq_false hyk,show (y == (k : Int)) = false from by simpa using hyk]
       simp only [cond_false]
       exact ih
  ·obtain rfl : k = x.Ps.length := by omega
   rw [qm]
   exact ⟨acc,rfl,rfl,by omega,h4⟩
theorem zDt (n : Nat) : JU n = qj n := rfl
theorem zBM (n : Nat) (f : Frame) : ∃ b,qj n f = some b ∧ (b = true → f.Data.length ≤ 20) := by
 unfold qj
 simp only [zK,Option.bind_some]
 cases (decide (0 ≤ f.Dst) && decide (f.Dst ≤ 9999)) with
 | false => exact ⟨false,rfl,fun h => by cases h⟩
 | true =>
  cases (decide (1 ≤ f.Src) && decide (f.Src ≤ 9999)) with
  | false => exact ⟨false,rfl,fun h => by cases h⟩
  | true =>
   cases (decide (0 ≤ f.Tag) && decide (f.Tag ≤ 99)) with
   | false => exact ⟨false,rfl,fun h => by cases h⟩
   | true => exact ⟨_,rfl,fun h => by have := of_decide_eq_true h; omega⟩
theorem zDX (n : Nat) (xs : List zA) (t a : Int) (h : xs.length ≤ 1048580) (hn : xs.length < n) (hx : ∀ v ∈ xs,0 ≤ v.Port ∧ v.Port ≤ 7) : ∃ r,qb n xs t a = some r ∧ -1 ≤ r ∧ r ≤ 7 := by
 unfold qb
 rcases Zs n xs t a h hn with ⟨e,_⟩ | ⟨k,hk,e,_⟩
 ·rw [e]; exact ⟨-1,rfl,by omega,by omega⟩
 ·rw [e,Option.bind_some,decide_eq_false (show ¬ ((k : Nat) : Int) < 0 by omega),cond_false,zg hk,Option.bind_some]
  have := hx _ (List.getElem_mem hk)
  exact ⟨_,rfl,by omega,this.2⟩
theorem zAV (n : Nat) (x : zD) (p : Int) (f : Frame) (wx : x.wf) (hx : x.sz ≤ 1048576) (hn : 1048577 < n) : ∃ (y : zD) (zs : List Out),qu n x p f = some (y,zs) ∧ Qe n x p f = some (y,zs) ∧ y.sz ≤ x.sz + 1 ∧ zs.length ≤ 6 ∧ ∀ o ∈ zs,o.F.Data.length ≤ 20 := by
 have hs : x.Name.size + x.Ps.length + x.F.length + x.V.sz = x.sz := rfl
 have hs2 : x.V.Rows.length + x.V.Pv.length = x.V.sz := rfl
 have nil : ∀ o ∈ ([] : List Out),o.F.Data.length ≤ 20 := fun o ho => by cases ho
 obtain ⟨b,h1,h2⟩ := zCi n x wx (by omega) (by omega)
 unfold qu Qe
 rw [Jf n x (by omega),zCh n x (by omega),Option.bind_some,Option.bind_some,Yx n x p b h1 (by omega),zDw n x p b h2 (by omega),Option.bind_some,Option.bind_some]
 cases hc : (b && (decide (0 ≤ p) && decide (p < x.Ps.length))) with
 | false => exact ⟨x,[],rfl,rfl,by omega,by simp,nil⟩
 | true =>
  simp only [Bool.and_eq_true,decide_eq_true_eq] at hc
  obtain ⟨rfl,q0,q1⟩ := hc
  obtain ⟨k,rfl⟩ := Int.eq_ofNat_of_zero_le q0
  have hk : k < x.Ps.length := by omega
  obtain ⟨p1,p2,p3,p4,p5,p6,p7,p8,p9,p10,p11,p12,p13⟩ := QM n x (by omega) h1
  obtain ⟨fo,f1,f2⟩ := zBM n f
  simp only [Bool.not_true,cond_false]
  rw [zDt,f1,Option.bind_some,Option.bind_some]
  cases fo with
  | false => exact ⟨x,[],rfl,rfl,by omega,by simp,nil⟩
  | true =>
   have hf := f2 rfl
   obtain ⟨s,s0,s1,s2⟩ := zAm n x.Id x.Ps (by omega) (by omega)
   obtain ⟨c,ok,c1,c2,_⟩ := Yu n x.V (by omega) (by omega) (by omega) (k : Int) f.Tag ⟨by omega,by omega⟩
   obtain ⟨dr,d1,d2,_,_⟩ := zCf n x.Dr p11.1 p11.2
   obtain ⟨vr,v1,v2,_,_⟩ := zCf n x.Ve p12.1 p12.2
   have hb6 : k < 6 := by omega
   simp only [Bool.not_true,cond_false,s1,s2,c1,c2,Option.bind_some,ZG n (s : Int) k (by omega),QI n (s : Int) k (by omega)]
   cases QK (s : Int) k with
   | false =>
    simp only [Bool.not_false,cond_true,d1,d2,Option.bind_some]
    exact ⟨_,[],rfl,rfl,by show x.Name.size + x.Ps.length + x.F.length + x.V.sz ≤ x.sz + 1; omega,by simp,nil⟩
   | true =>
    simp only [Bool.not_true,cond_false]
    cases ok with
    | false =>
     simp only [Bool.not_false,cond_true,d1,d2,Option.bind_some]
     exact ⟨_,[],rfl,rfl,by show x.Name.size + x.Ps.length + x.F.length + x.V.sz ≤ x.sz + 1; omega,by simp,nil⟩
    | true =>
     obtain ⟨ys,l1,l2,l3,l4,l5⟩ := zD5 n x.F c f.Src k wx.2.2.2.1 (by omega) hn
     have hr := zCC n x.V _ (by omega) (by omega) (by omega) (by omega) (by omega) (by omega) p7
     obtain ⟨e,e0,e1⟩ := Jz n x.V c (by omega) (by omega) hr
     have hport : ∀ v ∈ ys,0 ≤ v.Port ∧ v.Port ≤ 7 := fun v hv => by
      rcases l5 v hv with h | rfl
      ·obtain ⟨j,hj,rfl⟩ := List.getElem_of_mem h
       exact (J7 n _ ((Ya n x.F (by omega) p6).2.1 j hj)).2.2.1
      ·exact ⟨by simp only; omega,by simp only; omega⟩
     have hand : ∀ a : Int,IntKind.wrap .i64 (BitVec.ofInt (IntKind.bits .i64) (s : Int) &&& BitVec.ofInt (IntKind.bits .i64) (e : Int)).toNat = Yq s e := fun _ => rfl
     have hsm := zEa s s0 e e0
     have hlt : s &&& e < 64 := Nat.lt_of_le_of_lt Nat.and_le_left s0
     obtain ⟨n1,n2,n3⟩ := zEb (s &&& e) hlt k hb6
     have hu : IntKind.wrap .u64 ((k : Nat) : Int) = k := zA5 (by omega)
     have ysz : x.Name.size + x.Ps.length + ys.length + x.V.sz ≤ x.sz + 1 := by omega
     have fin : ∀ y : Int,-1 ≤ y → y ≤ 7 → ∃ zs,qq n x s (c,true) ys vr e x k f y = some (⟨x.Id,x.Name,x.Ps,ys,x.V,x.Tk,x.Pa,x.Wo,x.Dr,vr⟩,zs) ∧ Ze n x s (c,true) ys vr x k f y = some (⟨x.Id,x.Name,x.Ps,ys,x.V,x.Tk,x.Pa,x.Wo,x.Dr,vr⟩,zs) ∧ zs.length ≤ 6 ∧ ∀ o ∈ zs,o.F.Data.length ≤ 20 := fun y y0 y1 => by
      unfold qq Ze
      by_cases hy : y ≥ 0
      ·obtain ⟨q,rfl⟩ := Int.eq_ofNat_of_zero_le hy
       have hq : IntKind.wrap .u64 ((q : Nat) : Int) = q := zA5 (by omega)
       obtain ⟨zs,z1,z2,z3,z4⟩ := zBg n x c f s e k q (zE4 (Ju (Yq s e) k) q) true s0 e0 hb6 p2 hf (by omega) (by omega) hr e1 (fun j hj => by
        rw [hsm]
        obtain ⟨a,ha⟩ := Int.eq_ofNat_of_zero_le n1
        rw [ha] at n2
        have h3 := n3 j hj
        rw [ha] at h3 ⊢
        rw [zEc a (by omega) q (by omega) j hj,h3,decide_eq_false (show ¬ ((q : Nat) : Int) < 0 by omega),Bool.false_or]
        congr 1
        rw [Bool.eq_iff_iff]
        simp only [beq_iff_eq,decide_eq_true_eq]
        omega) n 0 [] (by omega) (by omega) (by simp) nil
       refine ⟨zs,?_,?_,z3,z4⟩
       ·rw [decide_eq_true hy,cond_true,decide_eq_true (show (0 : Int) ≤ IntKind.wrap .u64 ((q : Nat) : Int) by rw [hq]; omega),cond_true]
        have : qw n x c (zE4 (Ju (Yq s e) k) q) f = some zs := by
         unfold qw
         rw [show qH n n x c _ f 0 [] = _ from z1]
         rfl
        refine (congrArg (fun o => Option.bind o _) this).trans rfl
       ·rw [show qB n n s (c,true) x k f q 0 [] = _ from z2]
        rfl
      ·have hym : y = -1 := by omega
       subst hym
       obtain ⟨zs,z1,z2,z3,z4⟩ := zBg n x c f s e k (-1) (Ju (Yq s e) k) true s0 e0 hb6 p2 hf (by omega) (by omega) hr e1 (fun j hj => by
        rw [hsm,n3 j hj,decide_eq_true (show (-1 : Int) < 0 by omega),Bool.true_or,Bool.and_true]) n 0 [] (by omega) (by omega) (by simp) nil
       refine ⟨zs,?_,?_,z3,z4⟩
       ·rw [decide_eq_false hy,cond_false]
        have : qw n x c (Ju (Yq s e) k) f = some zs := by
         unfold qw
         rw [show qH n n x c _ f 0 [] = _ from z1]
         rfl
        refine (congrArg (fun o => Option.bind o _) this).trans rfl
       ·rw [show qB n n s (c,true) x k f (-1) 0 [] = _ from z2]
        rfl
     simp only [Bool.not_true,cond_false,l1,l2,v1,v2,e1,Option.bind_some,hu,decide_eq_true (show (0 : Int) ≤ ((k : Nat) : Int) by omega),cond_true]
     cases hd : (f.Dst != 0) with
     | true =>
      obtain ⟨r,r1,r2,r3⟩ := zDX n ys c f.Dst (by omega) (by omega) hport
      obtain ⟨zs,z1,z2,z3,z4⟩ := fin r r2 r3
      simp only [cond_true,zBa,r1,Option.bind_some]
      exact ⟨_,zs,z1,z2,ysz,z3,z4⟩
     | false =>
      obtain ⟨zs,z1,z2,z3,z4⟩ := fin (-1) (by omega) (by omega)
      simp only [cond_false]
      exact ⟨_,zs,z1,z2,ysz,z3,z4⟩
def zCI (v : zA) : Prop := (1 ≤ v.Tag ∧ v.Tag ≤ 99) ∧ (1 ≤ v.Mac ∧ v.Mac ≤ 9999) ∧ (0 ≤ v.Port ∧ v.Port ≤ 7) ∧ (0 ≤ v.Age ∧ v.Age ≤ 4) ∧ (v.Sc = true → v.Age = 0)
def YS (xs : List zA) : Prop := xs.length ≤ 12 ∧ (∀ v ∈ xs,zCI v) ∧ xs.Pairwise fun a b => qD a b.Tag b.Mac
theorem zB7 (n : Nat) (v : zA) (h : zCI v) : qP n v = some true := by
 obtain ⟨h1,h2,h3,h4,h5⟩ := h
 have two : ∀ {a b c : Int},a ≤ b → b ≤ c → (decide (a ≤ b) && decide (b ≤ c)) = true := fun h h' => by rw [decide_eq_true h,decide_eq_true h']; rfl
 unfold qP
 simp only [zK,Option.bind_some,two h1.1 h1.2,two h2.1 h2.2,two h3.1 h3.2,two h4.1 h4.2,cond_true]
 cases hs : v.Sc with
 | false => rfl
 | true => rw [h5 hs]; rfl
theorem Y8 (n : Nat) (xs : List zA) (hn : xs.length < n) (h : YS xs) : qX n xs = some true := by
 obtain ⟨h1,h2,h3⟩ := h
 rw [List.pairwise_iff_getElem] at h3
 unfold qX
 rcases Jp (L := fun m k => z7 n m xs k) (N := xs.length) (P := fun _ => True) (fun m k hk => by
  refine .inl ⟨trivial,?_⟩
  simp only [z7]
  rw [qy hk,cond_true,zg hk,Option.bind_some,zB7 n _ (h2 _ (List.getElem_mem hk)),Option.bind_some,zy (by omega : k ≤ 1099511627776),Bool.not_true,cond_false]
  cases k with
  | zero => rfl
  | succ k =>
   have hw2 : IntKind.wrap .i64 (((k + 1 : Nat) : Int) - 1) = (k : Int) := by rw [wrap64 (by omega) (by omega)]; omega
   rw [decide_eq_true (show ((k + 1 : Nat) : Int) > 0 by omega),hw2,cond_true,zg (show k < xs.length by omega),Option.bind_some,Option.bind_some,Option.bind_some,Qs,decide_eq_true (h3 k (k + 1) (by omega) hk (by omega))]
   rfl) (fun m => ⟨(),by simp only [z7]; rw [qm]; rfl⟩) n 0 (by omega) (by omega) with ⟨a,e,_⟩ | ⟨_,p⟩
 ·rw [show z7 n n xs 0 = _ from e,Option.bind_some]
  simp only [YG]
  rw [decide_eq_true (by omega)]
 ·exact absurd (fun _ _ _ => trivial) p
theorem zFs (n : Nat) (xs : List zA) (h : xs.length ≤ 1048580) (hok : qX n xs = some true) : YS xs := by
 obtain ⟨h1,h2,_⟩ := Ya n xs h hok
 refine ⟨h1,fun v hv => ?_,?_⟩
 ·obtain ⟨j,hj,rfl⟩ := List.getElem_of_mem hv
  exact J7 n _ (h2 j hj)
 ·rw [List.pairwise_iff_getElem]
  intro i j hi hj hij
  exact zAT n xs h hok j i hij hj
theorem zEP {v : zA} (h : zCI v) : v.wf := by
 obtain ⟨h1,h2,h3,h4,_⟩ := h
 exact ⟨zk (by omega) (by omega),zk (by omega) (by omega),zk (by omega) (by omega),zk (by omega) (by omega),trivial⟩
theorem zI1 : (⟨0,0,0,0,0⟩ : Vec).wf := by
 have z0 : zp 0 := zk (by omega) (by omega)
 exact ⟨z0,z0,z0,z0,z0,trivial⟩
theorem zE9 (n : Nat) (c : Int) (up : Bool) (h : 1 ≤ c ∧ c ≤ 1000) : qG n ⟨up,c,false,⟨0,0,0,0,0⟩⟩ = some true := by
 unfold qG
 rw [zK,Option.bind_some,decide_eq_true h.1,decide_eq_true h.2]
 cases up <;> rfl
theorem zFA (n : Nat) (c : Int) (v : Vec) (h : 1 ≤ c ∧ c ≤ 1000) (hv : qf n v = some true) : qG n ⟨true,c,true,v⟩ = some true := by
 unfold qG
 rw [zK,Option.bind_some,decide_eq_true h.1,decide_eq_true h.2]
 simp only [Bool.and_self,Bool.not_true,cond_false,hv,Option.bind_some]
theorem zFC (n : Nat) (v : Vec) (h1 : 1 ≤ v.Root ∧ v.Root ≤ 99) (h2 : 0 ≤ v.Co ∧ v.Co ≤ 100000) (h3 : 0 ≤ v.Hops ∧ v.Hops ≤ 10) (h4 : 1 ≤ v.Bridge ∧ v.Bridge ≤ 99) (h5 : 0 ≤ v.Port ∧ v.Port ≤ 7) : qf n v = some true := by
 unfold qf
 simp only [zK,Option.bind_some,decide_eq_true h1.1,decide_eq_true h1.2,decide_eq_true h2.1,decide_eq_true h2.2,decide_eq_true h3.1,decide_eq_true h3.2,decide_eq_true h4.1,decide_eq_true h4.2,decide_eq_true h5.1,decide_eq_true h5.2,Bool.and_self,cond_true]
theorem zEE (n : Nat) (c : Src) (h : c.ok) : ∃ v c',Yz n c = some (v,c') ∧ qf n v = some true ∧ c'.ok := by
 obtain ⟨v1,c1,e1,a1,b1,g1⟩ := zU n c 5 h
 obtain ⟨v2,c2,e2,a2,g2⟩ := qz n c1 [0,1,2,5,10,100] g1 (by decide)
 obtain ⟨v3,c3,e3,a3,g3⟩ := qz n c2 [0,1,2,9,10] g2 (by decide)
 obtain ⟨v4,c4,e4,a4,b4,g4⟩ := zU n c3 5 g3
 obtain ⟨v5,c5,e5,a5,b5,g5⟩ := zU n c4 4 g4
 have b1 := b1 (by decide)
 have b4 := b4 (by decide)
 have b5 := b5 (by decide)
 simp only [List.mem_cons,List.not_mem_nil,or_false] at a2 a3
 refine ⟨⟨1 + v1,v2,v3,1 + v4,v5⟩,c5,?_,zFC n _ (by simp only; omega) (by simp only; omega) (by simp only; omega) (by simp only; omega) (by simp only; omega),g5⟩
 unfold Yz
 simp only [e1,e2,e3,e4,e5,Option.bind_some]
 rw [wrap64 (z := 1 + v1) (by omega) (by omega),wrap64 (z := 1 + v4) (by omega) (by omega)]
theorem zAa (n : Nat) (p : Nat) (hp : p ≤ 1000) : ∀ (m k : Nat) (ys : List Pt) (c : Src),k ≤ p → p < m + k → ys.length = k → c.ok → (∀ q ∈ ys,qG n q = some true ∧ q.wf) → ∃ (ys' : List Pt) (c' : Src),qM n m p k ys c.b c.i c.h = some (.inl (ys',c'.b,c'.i,c'.h)) ∧ ys'.length = p ∧ c'.ok ∧ ∀ q ∈ ys',qG n q = some true ∧ q.wf
 | 0,k,ys,c,h1,h2,_,_,_ => by omega
 | m + 1,k,ys,c,h1,h2,h3,h4,h5 => by
  rw [qM]
  by_cases hk : k < p
  ·obtain ⟨v1,c1,e1,g1⟩ := J2 n c 4 h4
   obtain ⟨v2,c2,e2,a2,g2⟩ := qz n c1 [1,1,2,5,10] g1 (by decide)
   obtain ⟨v3,c3,e3,g3⟩ := J2 n c2 4 g2
   obtain ⟨v4,c4,e4,o4,g4⟩ := zEE n c3 g3
   have hc : 1 ≤ v2 ∧ v2 ≤ 1000 := by
    simp only [List.mem_cons,List.not_mem_nil,or_false] at a2
    omega
   have w2 : zp v2 := zk (by omega) (by omega)
   have w4 := zFD n v4 o4
   have e1' : Zj n (⟨c.b,c.i,c.h⟩ : Src) 4 = some (v1,c1) := e1
   have hlen : ∀ u : Pt,decide (ys.length + [u].length ≤ 268435456) = true := fun u => decide_eq_true (by rw [List.length_singleton]; omega)
   have ih := fun (u : Pt) c' hc (hu : qG n u = some true ∧ u.wf) => zAa n p hp m (k + 1) (ys ++ [u]) c' (by omega) (by omega) (by simp [h3]) hc (fun q hq => by
    rcases List.mem_append.1 hq with hq | hq
    ·exact h5 q hq
    ·rw [List.mem_singleton] at hq; subst hq; exact hu)
   have ok0 : ∀ up : Bool,qG n ⟨up,v2,false,⟨0,0,0,0,0⟩⟩ = some true ∧ (⟨up,v2,false,⟨0,0,0,0,0⟩⟩ : Pt).wf := fun up => ⟨zE9 n v2 up hc,w2,zI1⟩
   simp only [qy hk,cond_true,e1',e2,e3,e4,Option.bind_some,Zg,hlen,zy (by omega : k ≤ 1099511627776)]
   cases v1 with
   | false =>
    simp only [Bool.not_false,cond_true]
    cases v3 with
    | false => simp only [Bool.not_false,cond_true]; exact ih _ c4 g4 ⟨zFA n v2 v4 hc o4,w2,w4⟩
    | true => simp only [Bool.not_true,cond_false]; exact ih _ c3 g3 (ok0 true)
   | true => simp only [Bool.not_true,cond_false]; exact ih _ c2 g2 (ok0 false)
  ·have he : k = p := by omega
   rw [he,qm]
   exact ⟨ys,c,rfl,by omega,h4,h5⟩
theorem zHD (e : zA) : ∀ (xs : List zA),(xs.Pairwise fun a b => qD a b.Tag b.Mac) → (Zu e xs).Pairwise fun a b => qD a b.Tag b.Mac
 | [],_ => by unfold Zu; exact List.pairwise_singleton _ _
 | v :: vs,h => by
  rw [List.pairwise_cons] at h
  unfold Zu
  by_cases h1 : qD v e.Tag e.Mac
  ·rw [if_pos h1,List.pairwise_cons]
   refine ⟨fun w hw => ?_,zHD e vs h.2⟩
   rcases zCP e vs w hw with rfl | hw
   ·exact h1
   ·exact h.1 w hw
  ·rw [if_neg h1]
   by_cases h2 : v.Tag = e.Tag ∧ v.Mac = e.Mac
   ·rw [if_pos h2,List.pairwise_cons]
    refine ⟨fun w hw => ?_,h.2⟩
    have := h.1 w hw
    unfold qD at this ⊢
    rw [← h2.1,← h2.2]; exact this
   ·rw [if_neg h2,List.pairwise_cons,List.pairwise_cons]
    have hev : qD e v.Tag v.Mac := by unfold qD at h1 ⊢; omega
    refine ⟨fun w hw => ?_,h⟩
    rcases List.mem_cons.1 hw with rfl | hw
    ·exact hev
    ·have := h.1 w hw
     unfold qD at this hev ⊢
     omega
theorem YS.put {xs : List zA} (hx : YS xs) (e : zA) (he : zCI e) (h : xs.length < 12 ∨ ∃ k,∃ hk : k < xs.length,xs[k].Tag = e.Tag ∧ xs[k].Mac = e.Mac) : YS (Zu e xs) := by
 refine ⟨?_,fun v hv => ?_,zHD e xs hx.2.2⟩
 ·rcases h with h | ⟨k,hk,k1,k2⟩
  ·have := zDx e xs; omega
  ·rw [zDy e xs k hk (fun j i hij hj => List.pairwise_iff_getElem.1 hx.2.2 i j (by omega) hj hij) k1 k2,List.length_set]
   exact hx.1
 ·rcases zCP e xs v hv with rfl | hv
  ·exact he
  ·exact hx.2.1 v hv
theorem YS.srt {xs : List zA} (hx : YS xs) : ∀ (j i : Nat) (hij : i < j) (hj : j < xs.length),qD (xs[i]'(by omega)) xs[j].Tag xs[j].Mac := fun j i hij hj => List.pairwise_iff_getElem.1 hx.2.2 i j (by omega) hj hij
theorem zBk (n : Nat) (v : zA) : ∃ b,qP n v = some b ∧ (b = true ↔ zCI v) := by
 obtain ⟨b,hb⟩ := Yf n v
 refine ⟨b,hb,fun h => ?_,fun h => ?_⟩
 ·rw [h] at hb
  have := J7 n v hb
  exact this
 ·have := zB7 n v h
  rw [hb] at this
  exact Option.some.inj this
theorem zBi (n : Nat) (xs : List zA) (t a p : Int) (hx : YS xs) (hn : 1048577 < n) : ∃ ys,Zz n xs t a p = some ys ∧ YS ys ∧ (zCI ⟨t,a,p,0,false⟩ → ys = Zu ⟨t,a,p,0,false⟩ xs ∨ (ys = xs ∧ ((∃ k,∃ hk : k < xs.length,xs[k].Tag = t ∧ xs[k].Mac = a) ∨ xs.length = 12))) := by
 have h12 := hx.1
 have hcs : z8 n xs = some xs := by unfold z8; rw [decide_eq_true (by simp; omega)]; rfl
 have hb := Y8 n xs (by omega) hx
 obtain ⟨c,hc,hce⟩ := zBk n ⟨t,a,p,0,false⟩
 have hp := J8 n xs ⟨t,a,p,0,false⟩ (by omega) (by omega) hx.srt
 unfold Zz
 rcases Zs n xs t a (by omega) (by omega) with ⟨e,hne⟩ | ⟨k,hk,e,k1,k2⟩
 ·rw [e,Option.bind_some,hb,Option.bind_some,hc,Option.bind_some]
  cases c with
  | false => exact ⟨xs,by simp only [Bool.not_true,Bool.not_false,cond_true,cond_false,hcs,Option.bind_some],hx,fun he => absurd (hce.2 he) (by simp)⟩
  | true =>
   simp only [Bool.not_true,cond_false,decide_eq_false (show ¬ (-1 : Int) ≥ 0 by omega),decide_eq_true (show (-1 : Int) < 0 by omega),cond_true,hp,Option.bind_some,hcs]
   by_cases hf : 12 ≤ xs.length
   ·rw [decide_eq_true (show (xs.length : Int) ≥ 12 by omega)]
    exact ⟨xs,rfl,hx,fun _ => .inr ⟨rfl,.inr (by omega)⟩⟩
   ·rw [decide_eq_false (show ¬ (xs.length : Int) ≥ 12 by omega)]
    exact ⟨_,rfl,hx.put _ (hce.1 rfl) (.inl (by omega)),fun _ => .inl rfl⟩
 ·rw [e,Option.bind_some,hb,Option.bind_some,hc,Option.bind_some]
  cases c with
  | false => exact ⟨xs,by simp only [Bool.not_true,Bool.not_false,cond_true,cond_false,hcs,Option.bind_some],hx,fun he => absurd (hce.2 he) (by simp)⟩
  | true =>
   simp only [Bool.not_true,cond_false,decide_eq_true (show ((k : Nat) : Int) ≥ 0 by omega),decide_eq_false (show ¬ ((k : Nat) : Int) < 0 by omega),cond_true,hp,Option.bind_some,hcs,zg hk]
   cases xs[k].Sc with
   | true => exact ⟨xs,rfl,hx,fun _ => .inr ⟨rfl,.inl ⟨k,hk,k1,k2⟩⟩⟩
   | false => exact ⟨_,rfl,hx.put _ (hce.1 rfl) (.inr ⟨k,hk,k1,k2⟩),fun _ => .inl rfl⟩
theorem zDB (n : Nat) (xs : List zA) (t a p : Int) (hx : YS xs) (hn : 1048577 < n) : ∃ ys b,Qk n xs t a p = some (ys,b) ∧ YS ys := by
 have h12 := hx.1
 have hcs : z8 n xs = some xs := by unfold z8; rw [decide_eq_true (by simp; omega)]; rfl
 have hb := Y8 n xs (by omega) hx
 obtain ⟨c,hc,hce⟩ := zBk n ⟨t,a,p,0,true⟩
 have hp := J8 n xs ⟨t,a,p,0,true⟩ (by omega) (by omega) hx.srt
 unfold Qk
 rw [hb,Option.bind_some,hc,Option.bind_some]
 cases c with
 | false => exact ⟨xs,false,by simp only [Bool.not_true,Bool.not_false,cond_true,cond_false,hcs,Option.bind_some],hx⟩
 | true =>
  simp only [Bool.not_true,cond_false]
  rcases Zs n xs t a (by omega) (by omega) with ⟨e,hne⟩ | ⟨k,hk,e,k1,k2⟩
  ·rw [e]
   simp only [Option.bind_some,decide_eq_true (show (-1 : Int) < 0 by omega),cond_true,hp,hcs]
   by_cases hf : 12 ≤ xs.length
   ·rw [decide_eq_true (show (xs.length : Int) ≥ 12 by omega)]
    exact ⟨xs,_,rfl,hx⟩
   ·rw [decide_eq_false (show ¬ (xs.length : Int) ≥ 12 by omega)]
    exact ⟨_,_,rfl,hx.put _ (hce.1 rfl) (.inl (by omega))⟩
  ·rw [e]
   simp only [Option.bind_some,decide_eq_false (show ¬ ((k : Nat) : Int) < 0 by omega),cond_false,hp]
   exact ⟨_,_,rfl,hx.put _ (hce.1 rfl) (.inr ⟨k,hk,k1,k2⟩)⟩
theorem zJO : ∀ z < 5,∀ p < 4,((Z9 1048580 ((1 + z : Nat) : Int) ((1 + p : Nat) : Int)).any fun y => decide (y.Id = ((1 + z : Nat) : Int)) && (y.F.isEmpty && (decide (y.Pa = 0) && (decide (y.Wo = 0) && decide (y.Dr = 0))))) = true := by decide +kernel
theorem zAH (n : Nat) (c : Src) (h : c.ok) : ∃ v c',Qq n c = some (v,c') ∧ (11 ≤ v ∧ v ≤ 14) ∧ c'.ok := by
 obtain ⟨v,c',e,hv,g⟩ := qz n c [11,12,13,14] h (by decide)
 simp only [List.mem_cons,List.not_mem_nil,or_false] at hv
 unfold Qq
 rw [e]
 exact ⟨v,c',rfl,by omega,g⟩
theorem zED (n : Nat) (c : Src) (z : Int) (h : c.ok) (z0 : 0 ≤ z) (z9 : z ≤ 9) (hn : 100 < n) : ∃ xs c',YL n c z = some (xs,c') ∧ xs.length ≤ 9 ∧ c'.ok := by
 obtain ⟨q,rfl⟩ := Int.eq_ofNat_of_zero_le z0
 have loop : ∀ (m k : Nat) (ys : List Int) (c : Src),k ≤ q → q < m + k → ys.length = k → c.ok → ∃ (zs : List Int) (c' : Src),ZF n m q k ys c.b c.i c.h = some (.inl (zs,c'.b,c'.i,c'.h)) ∧ zs.length = q ∧ c'.ok := fun m => by
  induction m with
  | zero => intro k ys c h1 h2; omega
  | succ m ih =>
   intro k ys c h1 h2 h3 h4
   rw [ZF]
   by_cases hk : k < q
   ·obtain ⟨v,c',e,_,_,g⟩ := Qm n c h4
    rw [decide_eq_true (show (k : Int) < (q : Int) by omega),cond_true,show ZJ n ⟨c.b,c.i,c.h⟩ = _ from e,Option.bind_some,decide_eq_true (by simp; omega),cond_true,zy (by omega : k ≤ 1099511627776)]
    exact ih (k + 1) _ c' (by omega) (by omega) (by simp; omega) g
   ·obtain rfl : k = q := by omega
    rw [decide_eq_false (by omega)]
    exact ⟨ys,c,rfl,h3,h4⟩
 obtain ⟨zs,c',e,l,g⟩ := loop n 0 [] c (by omega) (by omega) rfl h
 unfold YL
 rw [show ZF n n q 0 [] c.b c.i c.h = _ from e]
 exact ⟨zs,c',rfl,by omega,g⟩
theorem zEm (n : Nat) (c : Src) (h : c.ok) (hn : 100 < n) : ∃ f c',Yy n c = some (f,c') ∧ (0 ≤ f.Dst ∧ f.Dst ≤ 14) ∧ (11 ≤ f.Src ∧ f.Src ≤ 14) ∧ (0 ≤ f.Tag ∧ f.Tag ≤ 3) ∧ f.Data.length ≤ 9 ∧ c'.ok := by
 obtain ⟨v1,c1,e1,a1,g1⟩ := qz n c [0,11,12,13,14,11,12] h (by decide)
 obtain ⟨v2,c2,e2,a2,g2⟩ := zAH n c1 g1
 obtain ⟨v3,c3,e3,a3,g3⟩ := qz n c2 [0,0,0,1,2,3] g2 (by decide)
 obtain ⟨v4,c4,e4,a4,g4⟩ := qz n c3 [0,1,2,5,9] g3 (by decide)
 simp only [List.mem_cons,List.not_mem_nil,or_false] at a1 a3 a4
 obtain ⟨xs,c5,e5,l5,g5⟩ := zED n c4 v4 g4 (by omega) (by omega) hn
 refine ⟨⟨v1,v2,v3,xs⟩,c5,?_,by simp only; omega,a2,by simp only; omega,l5,g5⟩
 unfold Yy J3
 simp only [e1,e2,e3,e4,e5,Option.bind_some]
def DrB (x : zD) : Prop := qL 1048580 x = some true ∧ x.wf ∧ x.sz ≤ 40 ∧ x.Dr = 0 ∧ YS x.F ∧ VtG 1048580 x.Ps.length x.V ∧ x.Ps.length ≤ 4
theorem zAb (p : Nat) (r : Int × Src) (hr : r.1 = p) (hp : p ≤ 3) : ∀ (m k : Nat) (c : Src) (fs : List zA),k < m → k ≤ 1000 → c.ok → YS fs → ∃ (c' : Src) (zs : List zA),c'.ok ∧ YS zs ∧ ZE 1048580 m r k c.b c.i c.h fs = some (.inl (c'.b,c'.i,c'.h,zs))
 | 0,k,c,fs,h,_,_,_ => by omega
 | m + 1,k,c,fs,h,h',hc,hf => by
  rw [ZE]
  by_cases hk : (k : Int) > 0
  ·obtain ⟨v1,c1,e1,a1,b1,g1⟩ := zU 1048580 c 3 hc
   obtain ⟨v2,c2,e2,a2,g2⟩ := zAH 1048580 c1 g1
   obtain ⟨v3,c3,e3,a3,b3,g3⟩ := zU 1048580 c2 (IntKind.wrap .i64 (1 + r.1)) g2
   obtain ⟨ys,e4,f4,_⟩ := zBi 1048580 fs (IntKind.wrap .i64 (1 + v1)) v2 v3 hf (by omega)
   rw [decide_eq_true hk,cond_true,show zT 1048580 ⟨c.b,c.i,c.h⟩ 3 = _ from e1,Option.bind_some,e2,Option.bind_some,e3,Option.bind_some,e4,Option.bind_some,show IntKind.wrap .i64 ((k : Int) - 1) = ((k - 1 : Nat) : Int) from by rw [wrap64 (by omega) (by omega)]; omega]
   exact zAb p r hr hp m (k - 1) c3 ys (by omega) (by omega) g3 f4
  ·rw [decide_eq_false hk,cond_false]
   exact ⟨c,fs,hc,hf,rfl⟩
theorem zEC (c : Src) (hc : c.ok) : ∃ x c',YK 1048580 c = some (x,c') ∧ DrB x ∧ c'.ok := by
 obtain ⟨v1,c1,e1,a1,b1,g1⟩ := zU 1048580 c 4 hc
 obtain ⟨v2,c2,e2,a2,b2,g2⟩ := zU 1048580 c1 5 g1
 have b1 := b1 (by decide)
 have b2 := b2 (by decide)
 obtain ⟨v1,rfl⟩ := Int.eq_ofNat_of_zero_le a1
 obtain ⟨v2,rfl⟩ := Int.eq_ofNat_of_zero_le a2
 have t1 : IntKind.wrap .i64 (1 + (v1 : Int)) = ((1 + v1 : Nat) : Int) := by rw [wrap64 (by omega) (by omega)]; omega
 have t2 : IntKind.wrap .i64 (1 + (v2 : Int)) = ((1 + v2 : Nat) : Int) := by rw [wrap64 (by omega) (by omega)]; omega
 obtain ⟨y,ey,hy⟩ : ∃ y,Z9 1048580 ((1 + v2 : Nat) : Int) ((1 + v1 : Nat) : Int) = some y ∧ y.Id = ((1 + v2 : Nat) : Int) ∧ y.F = [] ∧ y.Pa = 0 ∧ y.Wo = 0 ∧ y.Dr = 0 := by
  have := zJO v2 (by omega) v1 (by omega)
  cases hb : Z9 1048580 ((1 + v2 : Nat) : Int) ((1 + v1 : Nat) : Int) with
  | none => rw [hb] at this; cases this
  | some y =>
   rw [hb] at this
   simp only [Option.any_some,Bool.and_eq_true,decide_eq_true_eq,List.isEmpty_iff] at this
   exact ⟨y,rfl,this.1,this.2.1,this.2.2.1,this.2.2.2.1,this.2.2.2.2⟩
 obtain ⟨y1,y2,y3,y4,y5⟩ := hy
 obtain ⟨nm,c3,e3,hnm,g3⟩ : ∃ nm c',JO 1048580 c2 [(⟨#[]⟩ : ByteArray),(⟨#[121,97,114,100]⟩ : ByteArray),(⟨#[98,49]⟩ : ByteArray)] = some (nm,c') ∧ nm.size ≤ 4 ∧ c'.ok := by
  obtain ⟨v,c',e,a,b,g⟩ := zU 1048580 c2 (([(⟨#[]⟩ : ByteArray),(⟨#[121,97,114,100]⟩ : ByteArray),(⟨#[98,49]⟩ : ByteArray)].length : Nat) : Int) g2
  have b := b (by decide)
  obtain ⟨v,rfl⟩ := Int.eq_ofNat_of_zero_le a
  have b : v < 3 := by simp only [List.length_cons,List.length_nil] at b; omega
  unfold JO
  rw [e]
  have : v = 0 ∨ v = 1 ∨ v = 2 := by omega
  rcases this with rfl | rfl | rfl
  ·exact ⟨_,c',rfl,by decide,g⟩
  ·exact ⟨_,c',rfl,by decide,g⟩
  ·exact ⟨_,c',rfl,by decide,g⟩
 obtain ⟨ps,c4,e4,l4,g4,w4⟩ := zAa 1048580 (1 + v1) (by omega) 1048580 0 [] c3 (by omega) (by omega) rfl g3 (fun q hq => by cases hq)
 obtain ⟨vt,c5,e5,g5,h5⟩ := zEn (1 + v1) (by omega) (by omega) c4 g4
 obtain ⟨v6,c6,e6,a6,b6,g6⟩ := zU 1048580 c5 6 h5
 have b6 := b6 (by decide)
 obtain ⟨v6,rfl⟩ := Int.eq_ofNat_of_zero_le a6
 obtain ⟨c7,fs,g7,f7,e7⟩ := zAb v1 ((v1 : Int),c1) rfl (by omega) 1048580 v6 c6 [] (by omega) (by omega) g6 ⟨Nat.zero_le _,(fun v hv => by cases hv),List.Pairwise.nil⟩
 have j2 : ∀ (fs : List zA) (c : Src),YS fs → c.ok → ∃ x c',Zh 1048580 y (nm,c3) (ps,c4) (vt,c5) c.b c.i c.h fs = some (x,c') ∧ DrB x ∧ c'.ok := fun fs c hf hc => by
  obtain ⟨u1,d1,k1,m1,n1,o1⟩ := zU 1048580 c 5 hc
  have n1 := n1 (by decide)
  obtain ⟨u2,d2,k2,m2,o2⟩ := qz 1048580 d1 [0,1,5,1000000] o1 (by decide)
  simp only [List.mem_cons,List.not_mem_nil,or_false] at m2
  have hvs := g5.sz
  have h12 := hf.1
  refine ⟨⟨y.Id,nm,ps,fs,vt,u1,y.Pa,y.Wo,y.Dr,u2⟩,d2,?_,⟨?_,?_,?_,y5,hf,by simp only; rw [l4]; exact g5,by simp only; omega⟩,o2⟩
  ·unfold Zh
   rw [show zT 1048580 ⟨c.b,c.i,c.h⟩ 5 = _ from k1,Option.bind_some,k2]
   rfl
  ·refine zAj 1048580 _ (by simp only; omega) (by simp only; omega) (by simp only; omega) (by simp only; omega) (by simp only; omega) (by simp only; omega) (Y8 1048580 fs (by omega) hf) ?_ ⟨m1,by simp only; omega⟩ (by simp only; omega) (by simp only; omega) (by simp only; omega) ?_ (fun j hj => (w4 _ (List.getElem_mem hj)).1)
   ·simp only; rw [l4]; exact g5.2.2.2.1
   ·simp only; omega
  ·have z0 : zp 0 := zk (by omega) (by omega)
   have hm : maxLen = 9223372036854775807 := by decide
   refine ⟨by simp only; rw [y1]; exact zk (by omega) (by omega),by simp only; omega,⟨by simp only; omega,fun q hq => (w4 q hq).2⟩,⟨by simp only; omega,fun v hv => zEP (hf.2.1 v hv)⟩,g5.1.1,g5.1.2.1,zk (z := u1) (by omega) (by omega),by simp only; rw [y3]; exact z0,by simp only; rw [y4]; exact z0,by simp only; rw [y5]; exact z0,zk (z := u2) (by omega) (by omega),trivial⟩
  ·show nm.size + ps.length + fs.length + vt.sz ≤ 40
   omega
 have j1 : ∃ x c',QB 1048580 ((v1 : Int),c1) y (nm,c3) (ps,c4) (vt,c5) c7.b c7.i c7.h fs = some (x,c') ∧ DrB x ∧ c'.ok := by
  unfold QB
  obtain ⟨u1,d1,k1,o1⟩ := J2 1048580 c7 3 g7
  rw [show Zj 1048580 ⟨c7.b,c7.i,c7.h⟩ 3 = _ from k1,Option.bind_some]
  cases u1 with
  | false => exact j2 fs d1 f7 o1
  | true =>
   obtain ⟨u2,d2,k2,m2,o2⟩ := zAH 1048580 d1 o1
   obtain ⟨u3,d3,k3,m3,n3,o3⟩ := zU 1048580 d2 (IntKind.wrap .i64 (1 + (v1 : Int))) o2
   obtain ⟨ys,b,k4,f4⟩ := zDB 1048580 fs 1 u2 u3 f7 (by omega)
   simp only [cond_true,k2,k3,k4,Option.bind_some]
   exact j2 ys d3 f4 o3
 obtain ⟨x,c8,e8,h8⟩ := j1
 refine ⟨x,c8,?_,h8⟩
 have e4' : YI 1048580 c3 ((1 + v1 : Nat) : Int) = some (ps,c4) := by
  unfold YI
  rw [show qM 1048580 1048580 ((1 + v1 : Nat) : Int) 0 ([] : List Pt) c3.b c3.i c3.h = _ from e4]
  rfl
 unfold YK
 simp only [e1,Option.bind_some,e2,t1,t2,ey,e3,e4',e5,e6,y2]
 rw [show ZE 1048580 1048580 ((v1 : Int),c1) v6 c6.b c6.i c6.h [] = _ from e7]
 exact e8
theorem zDW (x0 : List Int) (h : x0.length ≤ 1048576) : ∃ (x : zD) (p : Nat) (f : Frame),Qz 1048580 x0 = some (x,(p : Int),f) ∧ DrB x ∧ p < x.Ps.length ∧ (0 ≤ f.Dst ∧ f.Dst ≤ 14) ∧ (11 ≤ f.Src ∧ f.Src ≤ 14) ∧ (0 ≤ f.Tag ∧ f.Tag ≤ 3) ∧ f.Data.length ≤ 9 := by
 obtain ⟨c,e1,g1⟩ := zFI 1048580 x0 (by omega) (by omega)
 obtain ⟨x,c2,e2,h2,g2⟩ := zEC c g1
 have hs : x.Name.size + x.Ps.length + x.F.length + x.V.sz = x.sz := rfl
 have hp := (QM 1048580 x (by have := h2.2.2.1; omega) h2.1).1
 obtain ⟨v3,c3,e3,a3,b3,g3⟩ := zU 1048580 c2 (x.Ps.length : Int) g2
 have b3 := b3 (by omega)
 obtain ⟨v3,rfl⟩ := Int.eq_ofNat_of_zero_le a3
 obtain ⟨f,c4,e4,d1,d2,d3,d4,_⟩ := zEm 1048580 c3 g3 (by omega)
 refine ⟨x,v3,f,?_,h2,by omega,d1,d2,d3,d4⟩
 unfold Qz
 simp only [e1,e2,e3,e4,Option.bind_some]
theorem zDL : ∀ a < 64,∀ i < 6,QK ((a : Nat) : Int) i = a.testBit i := by decide +kernel
theorem zFW (e : zA) : ∀ xs : List zA,e ∈ Zu e xs
 | [] => by unfold Zu; exact List.mem_singleton_self _
 | v :: vs => by
  unfold Zu
  split
  ·exact List.mem_cons_of_mem _ (zFW e vs)
  ·split <;> exact List.mem_cons_self
theorem zFV (e : zA) {v : zA} (hk : ¬ (v.Tag = e.Tag ∧ v.Mac = e.Mac)) : ∀ xs : List zA,v ∈ xs → v ∈ Zu e xs
 | w :: ws,h => by
  unfold Zu
  rcases List.mem_cons.1 h with rfl | h
  ·split
   ·exact List.mem_cons_self
   ·try rw [if_neg hk]
    exact List.mem_cons_of_mem _ List.mem_cons_self
  ·split
   ·exact List.mem_cons_of_mem _ (zFV e hk ws h)
   ·split
    ·exact List.mem_cons_of_mem _ h
    ·exact List.mem_cons_of_mem _ (List.mem_cons_of_mem _ h)
theorem zFX (n : Nat) {xs : List zA} (hx : YS xs) (hn : 100 < n) {v : zA} (hv : v ∈ xs) : qb n xs v.Tag v.Mac = some v.Port := by
 have h12 := hx.1
 obtain ⟨i,hi,rfl⟩ := List.getElem_of_mem hv
 unfold qb
 rcases Zs n xs xs[i].Tag xs[i].Mac (by omega) (by omega) with ⟨_,h⟩ | ⟨k,hk,e,k1,k2⟩
 ·exact absurd ⟨rfl,rfl⟩ (h i hi)
 ·rw [e,Option.bind_some,decide_eq_false (show ¬ ((k : Nat) : Int) < 0 by omega),cond_false,zg hk,Option.bind_some]
  have : k = i := by
   rcases Nat.lt_trichotomy k i with h | h | h
   ·have := hx.srt i k h hi
    unfold qD at this
    omega
   ·exact h
   ·have := hx.srt k i h hk
    unfold qD at this
    omega
  subst this
  rfl
theorem zCS (n : Nat) {xs : List zA} (hx : YS xs) (hn : 100 < n) (t a : Int) : ∃ r,qb n xs t a = some r ∧ -1 ≤ r ∧ r ≤ 7 ∧ (0 ≤ r → ∃ v ∈ xs,v.Tag = t ∧ v.Mac = a ∧ v.Port = r) ∧ (r < 0 → ∀ v ∈ xs,¬ (v.Tag = t ∧ v.Mac = a)) := by
 have h12 := hx.1
 unfold qb
 rcases Zs n xs t a (by omega) (by omega) with ⟨e,h⟩ | ⟨k,hk,e,k1,k2⟩
 ·rw [e]
  refine ⟨-1,rfl,by omega,by omega,by omega,fun _ v hv => ?_⟩
  obtain ⟨i,hi,rfl⟩ := List.getElem_of_mem hv
  exact h i hi
 ·rw [e,Option.bind_some,decide_eq_false (show ¬ ((k : Nat) : Int) < 0 by omega),cond_false,zg hk]
  have hp := (hx.2.1 _ (List.getElem_mem hk)).2.2.1
  exact ⟨xs[k].Port,rfl,by omega,hp.2,fun _ => ⟨_,List.getElem_mem hk,k1,k2,rfl⟩,fun h => by omega⟩
def YB (n : Nat) (x : zD) (c : Int) (f : Frame) (j : Nat) : Out := ⟨(j : Int),⟨f.Dst,f.Src,(QU n x.V c j).getD 0,f.Data⟩⟩
theorem zD0 (n : Nat) (x : zD) (c M : Int) (f : Frame) (hl : x.Ps.length ≤ 6) (hf : f.Data.length ≤ 20) (hR : x.V.Rows.length ≤ 1048580) (hRn : x.V.Rows.length < n) (hr : ∀ v ∈ x.V.Rows,∃ m b : Nat,v.Members = m ∧ v.Bare = b ∧ m < 64 ∧ b < 64) : ∀ (m k : Nat) (acc : List Out),k ≤ x.Ps.length → x.Ps.length < m + k → acc.length ≤ k → qH n m x c M f k acc = some (.inl (acc ++ (((List.range x.Ps.length).drop k).filter fun j => QK M j).map (YB n x c f)))
 | 0,k,acc,h1,h2,h3 => by omega
 | m + 1,k,acc,h1,h2,h3 => by
  rw [qH]
  by_cases hk : k < x.Ps.length
  ·obtain ⟨t,t1,_⟩ := J1 n x.V c k hR hRn hr
   obtain ⟨g1,_⟩ := zAn n f t hf
   have hd : (List.range x.Ps.length).drop k = k :: (List.range x.Ps.length).drop (k + 1) := by
    rw [List.drop_eq_getElem_cons (by simpa using hk),List.getElem_range]
   rw [qy hk,cond_true,ZG n M k (by omega),Option.bind_some,zy (by omega : k ≤ 1099511627776),hd,List.filter_cons]
   cases hb : QK M k with
   | false =>
    rw [cond_false,zD0 n x c M f hl hf hR hRn hr m (k + 1) acc (by omega) (by omega) (by omega)]
    simp
   | true =>
    rw [cond_true,t1,Option.bind_some,g1,Option.bind_some,decide_eq_true (by simp; omega),cond_true,zD0 n x c M f hl hf hR hRn hr m (k + 1) _ (by omega) (by omega) (by simp; omega)]
    have ho : YB n x c f k = ⟨(k : Int),⟨f.Dst,f.Src,t,f.Data⟩⟩ := by unfold YB; rw [t1]; rfl
    simp [ho]
  ·obtain rfl : k = x.Ps.length := by omega
   rw [qm,List.drop_eq_nil_of_le (by simp)]
   simp
def goes (s e p : Nat) (y : Int) (j : Nat) : Bool := ((s.testBit j && e.testBit j) && !(j == p)) && (decide (y < 0) || decide (y = (j : Int)))
theorem zAo (n : Nat) (x : zD) (c : Int) (f : Frame) (s e p : Nat) (y M : Int) (hl : x.Ps.length ≤ 6) (hf : f.Data.length ≤ 20) (hR : x.V.Rows.length ≤ 1048580) (hn : 1048577 < n) (hRn : x.V.Rows.length < n) (hr : ∀ v ∈ x.V.Rows,∃ m b : Nat,v.Members = m ∧ v.Bare = b ∧ m < 64 ∧ b < 64) (hM : ∀ j < 6,QK M j = goes s e p y j) : qw n x c M f = some (((List.range x.Ps.length).filter (goes s e p y)).map (YB n x c f)) := by
 unfold qw
 rw [show qH n n x c M f 0 [] = _ from zD0 n x c M f hl hf hR hRn hr n 0 [] (by omega) (by omega) (by simp)]
 have : (List.range x.Ps.length).filter (fun j => QK M j) = (List.range x.Ps.length).filter (goes s e p y) := List.filter_congr fun j hj => hM j (by have := List.mem_range.1 hj; omega)
 rw [List.nil_append,List.drop_zero,this]
 rfl
def Z6 (z : Int) : Int := if z ≥ 1000000 then z else z + 1
theorem zBQ (n : Nat) (z : Int) (h0 : 0 ≤ z) (h1 : z ≤ 1000000) : Zi n z = some (Z6 z) := by
 unfold Zi Z6
 by_cases h : z ≥ 1000000
 ·rw [decide_eq_true h,if_pos h]; rfl
 ·rw [decide_eq_false h,if_neg h,wrap64 (by omega) (by omega)]; rfl
theorem zAk (n : Nat) (x : zD) (p : Nat) (f : Frame) (hx : x.sz ≤ 1048576) (hn : 1048577 < n) (hb : qL n x = some true) (hp : p < x.Ps.length) (hf : qj n f = some true) : ∃ (s : Nat) (c : Int) (ok : Bool),s < 64 ∧ Z3 n x.Id x.Ps = some (s : Int) ∧ ZM n x.V p f.Tag = some (c,ok) ∧
  ((s.testBit p && ok) = false → qu n x p f = some (⟨x.Id,x.Name,x.Ps,x.F,x.V,x.Tk,x.Pa,x.Wo,Z6 x.Dr,x.Ve⟩,[])) ∧
  ((s.testBit p && ok) = true → ∃ (e : Nat) (ys : List zA) (y : Int),e < 64 ∧ qS n x.V c = some (e : Int) ∧ e.testBit p = true ∧ Zz n x.F c f.Src p = some ys ∧ YS ys ∧ (zCI ⟨c,f.Src,p,0,false⟩ → ys = Zu ⟨c,f.Src,p,0,false⟩ x.F ∨ (ys = x.F ∧ ((∃ k,∃ hk : k < x.F.length,x.F[k].Tag = c ∧ x.F[k].Mac = f.Src) ∨ x.F.length = 12))) ∧ (f.Dst = 0 → y = -1) ∧ (f.Dst ≠ 0 → qb n ys c f.Dst = some y) ∧
   qu n x p f = some (⟨x.Id,x.Name,x.Ps,ys,x.V,x.Tk,x.Pa,x.Wo,x.Dr,Z6 x.Ve⟩,((List.range x.Ps.length).filter (goes s e p y)).map (YB n x c f))) := by
 have hs : x.Name.size + x.Ps.length + x.F.length + x.V.sz = x.sz := rfl
 have hs2 : x.V.Rows.length + x.V.Pv.length = x.V.sz := rfl
 obtain ⟨p1,p2,p3,p4,p5,p6,p7,p8,p9,p10,p11,p12,p13⟩ := QM n x (by omega) hb
 have hfd : f.Data.length ≤ 20 := by
  obtain ⟨b,f1,f2⟩ := zBM n f
  rw [hf] at f1
  exact f2 (Option.some.inj f1).symm
 obtain ⟨s,s0,s1,s2⟩ := zAm n x.Id x.Ps (by omega) (by omega)
 obtain ⟨c,ok,c1,c2,c3⟩ := Yu n x.V (by omega) (by omega) (by omega) (p : Int) f.Tag ⟨by omega,by omega⟩
 have hbit : QK (s : Int) p = s.testBit p := zDL s s0 p (by omega)
 have there : (true && (decide ((0 : Int) ≤ p) && decide ((p : Int) < x.Ps.length))) = true := by
  rw [decide_eq_true (by omega),decide_eq_true (by omega)]; rfl
 refine ⟨s,c,ok,s0,s1,c1,fun h => ?_,fun h => ?_⟩
 ·unfold qu
  rw [Jf n x (by omega),Option.bind_some,Yx n x p true hb (by omega),Option.bind_some,there]
  simp only [Bool.not_true,cond_false,hf,s1,c1,Option.bind_some,ZG n (s : Int) p (by omega),hbit,zBQ n x.Dr p11.1 p11.2]
  cases hsb : s.testBit p with
  | false => rfl
  | true =>
   rw [hsb,Bool.true_and] at h
   rw [h]
   rfl
 ·rw [Bool.and_eq_true] at h
  obtain ⟨hsb,rfl⟩ := h
  have hr := zCC n x.V _ (by omega) (by omega) (by omega) (by omega) (by omega) (by omega) p7
  obtain ⟨e,e0,e1⟩ := Jz n x.V c (by omega) (by omega) hr
  have heb : e.testBit p = true := by
   obtain ⟨i,m,i1,_,i3,i4⟩ := c3 rfl
   rw [JC,e1] at i3
   rw [← zDL e e0 p (by omega),Option.some.inj i3,show p = i by omega]
   exact i4
  have hF := zFs n x.F (by omega) p6
  obtain ⟨ys,l1,l2,l3⟩ := zBi n x.F c f.Src p hF hn
  obtain ⟨y,y1,y2,y3,_⟩ := zCS n l2 (by omega) c f.Dst
  have hsm := zEa s s0 e e0
  have hlt : s &&& e < 64 := Nat.lt_of_le_of_lt Nat.and_le_left s0
  obtain ⟨n1,n2,n3⟩ := zEb (s &&& e) hlt p (by omega)
  obtain ⟨a,ha⟩ := Int.eq_ofNat_of_zero_le n1
  have hu : IntKind.wrap .u64 ((p : Nat) : Int) = p := zA5 (by omega)
  have hnot : ∀ j < 6,QK (Ju (Yq s e) p) j = ((s.testBit j && e.testBit j) && !(j == p)) := fun j hj => by
   rw [hsm,n3 j hj,zDL _ hlt j hj,Nat.testBit_and]
  have j1 : ∀ y : Int,-1 ≤ y → y ≤ 7 → qq n x s (c,true) ys (Z6 x.Ve) e x p f y = some (⟨x.Id,x.Name,x.Ps,ys,x.V,x.Tk,x.Pa,x.Wo,x.Dr,Z6 x.Ve⟩,((List.range x.Ps.length).filter (goes s e p y)).map (YB n x c f)) := fun y y0 y7 => by
   unfold qq
   by_cases hy : y ≥ 0
   ·obtain ⟨q,rfl⟩ := Int.eq_ofNat_of_zero_le hy
    have hq : IntKind.wrap .u64 ((q : Nat) : Int) = q := zA5 (by omega)
    have hM : ∀ j < 6,QK (zE4 (Ju (Yq s e) p) q) j = goes s e p q j := fun j hj => by
     have h3 := hnot j hj
     rw [hsm] at h3 ⊢
     rw [ha] at n2 h3 ⊢
     rw [zEc a (by omega) q (by omega) j hj,h3]
     unfold goes
     rw [decide_eq_false (show ¬ ((q : Nat) : Int) < 0 by omega),Bool.false_or]
     congr 1
     rw [Bool.eq_iff_iff]
     simp only [beq_iff_eq,decide_eq_true_eq]
     omega
    have hv := zAo n x c f s e p q (zE4 (Ju (Yq s e) p) q) p2 hfd (by omega) hn (by omega) hr hM
    rw [decide_eq_true hy,cond_true,decide_eq_true (show (0 : Int) ≤ IntKind.wrap .u64 ((q : Nat) : Int) by rw [hq]; omega),cond_true]
    unfold zE4 Ju Yq at hv
    simp only
    rw [hv]
    rfl
   ·have hM : ∀ j < 6,QK (Ju (Yq s e) p) j = goes s e p y j := fun j hj => by
     rw [hnot j hj]
     unfold goes
     rw [decide_eq_true (show y < 0 by omega),Bool.true_or,Bool.and_true]
    have hv := zAo n x c f s e p y (Ju (Yq s e) p) p2 hfd (by omega) hn (by omega) hr hM
    rw [decide_eq_false hy,cond_false]
    unfold Ju Yq at hv
    simp only
    rw [hv]
    rfl
  have top : ∀ y : Int,-1 ≤ y → y ≤ 7 → (f.Dst = 0 → y = -1) → (f.Dst ≠ 0 → qb n ys c f.Dst = some y) → qu n x p f = some (⟨x.Id,x.Name,x.Ps,ys,x.V,x.Tk,x.Pa,x.Wo,x.Dr,Z6 x.Ve⟩,((List.range x.Ps.length).filter (goes s e p y)).map (YB n x c f)) := fun y y0 y7 d0 d1 => by
   unfold qu
   rw [Jf n x (by omega),Option.bind_some,Yx n x p true hb (by omega),Option.bind_some,there]
   simp only [Bool.not_true,cond_false,hf,s1,c1,Option.bind_some,ZG n (s : Int) p (by omega),hbit,hsb,zBQ n x.Ve p12.1 p12.2,l1,e1]
   rw [decide_eq_true (show (0 : Int) ≤ IntKind.wrap .u64 ((p : Nat) : Int) by rw [hu]; omega),cond_true]
   by_cases hd : f.Dst = 0
   ·rw [show (f.Dst != 0) = false from by simp [hd],cond_false]
    have := j1 (-1) (by omega) (by omega)
    rw [d0 hd]
    exact this
   ·rw [show (f.Dst != 0) = true from by simpa using hd,cond_true,d1 hd,Option.bind_some]
    exact j1 y y0 y7
  by_cases hd : f.Dst = 0
  ·exact ⟨e,ys,-1,e0,e1,heb,l1,l2,l3,fun _ => rfl,fun h => absurd hd h,top (-1) (by omega) (by omega) (fun _ => rfl) (fun h => absurd hd h)⟩
  ·exact ⟨e,ys,y,e0,e1,heb,l1,l2,l3,fun h => absurd h hd,fun _ => y1,top y y2 y3 (fun h => absurd h hd) (fun _ => y1)⟩
theorem zC0 (n : Nat) (zs : List Out) (hz : ∀ o ∈ zs,0 ≤ o.Port ∧ o.Port ≤ 7) (hl : zs.length ≤ 100) (hn : 1000 < n) : ∃ v,QD n zs = some v ∧ QG n zs = some v := by
 have loop : ∀ (m k : Nat) (y : Int),k ≤ zs.length → zs.length < m + k → ∃ v,qo n m zs k y = some (.inl v) ∧ qr n m zs k y = some (.inl v) := fun m => by
  induction m with
  | zero => intro k y h1 h2; omega
  | succ m ih =>
   intro k y h1 h2
   rw [qo,qr]
   by_cases hk : k < zs.length
   ·have hp := hz _ (List.getElem_mem hk)
    obtain ⟨q,hq⟩ := Int.eq_ofNat_of_zero_le hp.1
    rw [qy hk,cond_true,cond_true,zg hk,Option.bind_some,Option.bind_some,ZZ,zK,zK,Option.bind_some,Option.bind_some,hq,decide_eq_true (show (0 : Int) ≤ (q : Int) by omega),decide_eq_true (show (q : Int) ≤ 62 by omega),decide_eq_true (show (q : Int) ≤ 7 by omega),Bool.and_self,cond_true,cond_true,Option.bind_some,hq,zA5 (by omega),decide_eq_true (show (0 : Int) ≤ (q : Int) by omega),cond_true,cond_true,zy (by omega : k ≤ 1099511627776)]
    exact ih (k + 1) _ (by omega) (by omega)
   ·obtain rfl : k = zs.length := by omega
    rw [qm]
    exact ⟨y,rfl,rfl⟩
 obtain ⟨v,e1,e2⟩ := loop n 0 0 (by omega) (by omega)
 unfold QD QG
 rw [show qo n n zs 0 0 = _ from e1,show qr n n zs 0 0 = _ from e2]
 exact ⟨v,rfl,rfl⟩
theorem zDd (n : Nat) (x : zC) (c : Int) (e j : Nat) (h : x.Rows.length ≤ 1048580) (hn : x.Rows.length < n) (hq : x.Pv.length ≤ 1048580) (hr : ∀ v ∈ x.Rows,(∃ m b : Nat,v.Members = m ∧ v.Bare = b ∧ m < 64 ∧ b < 64) ∧ 1 ≤ v.Id ∧ v.Id ≤ 99) (he : e < 64) (hE : qS n x c = some (e : Int)) (hj : j < x.Pv.length) (hj6 : j < 6) (hb : e.testBit j = true) : ZM n x j c = some (c,true) ∧ 1 ≤ c ∧ c ≤ 99 := by
 obtain ⟨r,e1,k⟩ := ZX n x c h hn
 unfold qS at hE
 rw [e1,Option.bind_some] at hE
 rcases k with ⟨rfl,_⟩ | ⟨v,r0,hv,hid⟩
 ·rw [decide_eq_true (by omega),cond_true] at hE
  have : e = 0 := by have := Option.some.inj hE; omega
  subst this
  simp at hb
 ·rw [decide_eq_false (show ¬ r < 0 by omega),cond_false,hv,Option.bind_some] at hE
  obtain ⟨_,i1,i2⟩ := hr v (List.mem_of_getElem? (Y3 hv).2)
  have hm := Option.some.inj hE
  have hw : IntKind.wrap .i64 ((x.Pv.length : Int) - 1) = (x.Pv.length : Int) - 1 := wrap64 (by omega) (by omega)
  refine ⟨?_,by omega,by omega⟩
  unfold ZM
  rw [zK,Option.bind_some,hw,decide_eq_true (show (0 : Int) ≤ j by omega),decide_eq_true (show (j : Int) ≤ (x.Pv.length : Int) - 1 by omega),Bool.and_self,Bool.not_true,cond_false,show (c == 0) = false from by rw [beq_eq_false_iff_ne]; omega,cond_false]
  unfold ZC
  rw [e1,Option.bind_some,decide_eq_false (show ¬ r < 0 by omega),cond_false,hv,Option.bind_some,hm,ZG n (e : Int) j (by omega),Option.bind_some,zDL e he j hj6,hb]
  rfl
theorem zGf (n : Nat) (x : zC) (p : Int) (h : x.Rows.length ≤ 1048580) (hn : x.Rows.length < n) (hq : x.Pv.length ≤ 1048580) (hqn : x.Pv.length < n) (h0 : 0 ≤ p) (h1 : p ≤ 1099511627776) (hok : zh n x p = some true) : (∀ v ∈ x.Rows,(∃ m b : Nat,v.Members = m ∧ v.Bare = b ∧ m < 64 ∧ b < 64) ∧ 1 ≤ v.Id ∧ v.Id ≤ 99) ∧ (x.Pv.length : Int) = p := by
 obtain ⟨hp,hpl,_,hr,_⟩ := (zBO n x p h hn hq hqn h0 h1).1 hok
 refine ⟨fun v hv => ⟨zCC n x p h hn hq hqn h0 h1 hok v hv,?_⟩,hpl⟩
 obtain ⟨j,hj,rfl⟩ := List.getElem_of_mem hv
 have hb := hr j hj
 unfold zCZ at hb
 simp only [Bool.and_eq_true,decide_eq_true_eq] at hb
 exact hb.1
theorem zBL (n : Nat) (f : Frame) (h1 : 0 ≤ f.Dst ∧ f.Dst ≤ 9999) (h2 : 1 ≤ f.Src ∧ f.Src ≤ 9999) (h3 : 0 ≤ f.Tag ∧ f.Tag ≤ 99) (h4 : f.Data.length ≤ 20) : qj n f = some true := by
 unfold qj
 simp only [zK,Option.bind_some,decide_eq_true h1.1,decide_eq_true h1.2,decide_eq_true h2.1,decide_eq_true h2.2,decide_eq_true h3.1,decide_eq_true h3.2,Bool.and_self,cond_true,decide_eq_true (show (f.Data.length : Int) ≤ 20 by omega)]
theorem zIM (s e q L p : Nat) (hp : p < L) (h1 : s.testBit p = true) (h2 : e.testBit p = true) (h3 : p ≠ q) : (List.range L).filter (goes s e q (p : Int)) = [p] := by
 have : (List.range L).filter (goes s e q (p : Int)) = (List.range L).filter (fun j => p == j) := List.filter_congr fun j _ => by
  unfold goes
  rw [decide_eq_false (show ¬ (p : Int) < 0 by omega),Bool.false_or]
  by_cases hj : p = j
  ·subst hj
   simp [h1,h2,h3]
  ·rw [decide_eq_false (show ¬ (p : Int) = (j : Int) by omega),Bool.and_false]
   exact (beq_eq_false_iff_ne.2 hj).symm
 rw [this]
 clear this
 induction L with
 | zero => omega
 | succ L ih =>
  rw [List.range_succ,List.filter_append]
  by_cases hL : p = L
  ·subst hL
   have : (List.range p).filter (fun j => p == j) = [] := List.filter_eq_nil_iff.2 fun a ha => by
    have := List.mem_range.1 ha
    simp only [beq_iff_eq]
    omega
   rw [this]
   simp
  ·have hf : [L].filter (fun j => p == j) = [] := List.filter_eq_nil_iff.2 fun a ha => by
    rw [List.mem_singleton] at ha
    subst ha
    simpa using hL
   rw [ih (by omega),hf]
   rfl
theorem zB3 (x0 : List Int) (w0 : Zv zCl x0) : ∃ n,Q9 n x0 = some true := by
 refine ⟨1048580,?_⟩
 simp only [Q9,zBe,Option.bind_some]
 by_cases hbig : (x0.length : Int) > 1048576
 ·rw [decide_eq_true hbig]; rfl
 obtain ⟨x,p,f,e1,⟨hb,wx,hsz,hdr,hF,hV,hp4⟩,hp,fd,fs,ft,fl⟩ := zDW x0 (by omega)
 rw [decide_eq_false hbig,cond_false,e1,Option.bind_some]
 have hs : x.Name.size + x.Ps.length + x.F.length + x.V.sz = x.sz := rfl
 have hs2 : x.V.Rows.length + x.V.Pv.length = x.V.sz := rfl
 obtain ⟨p1,p2,p3,p4,p5,p6,p7,p8,p9,p10,p11,p12,p13⟩ := QM 1048580 x (by omega) hb
 have hfo : qj 1048580 f = some true := zBL 1048580 f ⟨fd.1,by omega⟩ ⟨by omega,by omega⟩ ⟨ft.1,by omega⟩ (by omega)
 obtain ⟨s,c,ok,s0,s1,c1,hno,hyes⟩ := zAk 1048580 x p f (by omega) (by omega) hb hp hfo
 obtain ⟨y0,zs0,k1,k2,_⟩ := zAV 1048580 x p f wx (by omega) (by omega)
 obtain ⟨rows,pv⟩ := zGf 1048580 x.V _ (by omega) (by omega) (by omega) (by omega) (by omega) (by omega) p7
 simp only
 rw [k2,Option.bind_some,k1,Option.bind_some,bne_self_eq_false,cond_false]
 have one_ne : ∀ z : Int,0 ≤ z → z < 1000000 → Z6 z = z + 1 := fun z h0 h1 => by unfold Z6; rw [if_neg (by omega)]
 cases hd : s.testBit p && ok with
 | false =>
  have k3 := hno hd
  rw [k1] at k3
  cases k3
  have h1 : IntKind.wrap .i64 (x.Ve + Z6 x.Dr) = x.Ve + 1 := by rw [hdr,one_ne 0 (by omega) (by omega),wrap64 (by omega) (by omega)]; omega
  have h2 : IntKind.wrap .i64 (x.Ve + x.Dr) = x.Ve := by rw [hdr,wrap64 (by omega) (by omega)]; omega
  simp only [h1,h2]
  rw [show (x.Ve + 1 == x.Ve) = false from by rw [beq_eq_false_iff_ne]; omega,cond_false]
  unfold qh
  obtain ⟨v,v1,v2⟩ := zC0 1048580 [] (fun o ho => by cases ho) (by simp) (by omega)
  simp only [v1,v2,Option.bind_some,beq_self_eq_true]
  rfl
 | true =>
  obtain ⟨e,ys,y,e0,hE,heb,l1,l2,l3,d0,d1,k3⟩ := hyes hd
  rw [Bool.and_eq_true] at hd
  obtain ⟨hsb,rfl⟩ := hd
  rw [k1] at k3
  cases k3
  obtain ⟨cls,cl1,cl9⟩ := zDd 1048580 x.V c e p (by omega) (by omega) (by omega) rows e0 hE (by omega) (by omega) heb
  have hout : ∀ o ∈ ((List.range x.Ps.length).filter (goes s e p y)).map (YB 1048580 x c f),∃ j : Nat,o.Port = j ∧ j < x.Ps.length ∧ goes s e p y j = true := fun o ho => by
   obtain ⟨j,hj,rfl⟩ := List.mem_map.1 ho
   obtain ⟨h1,h2⟩ := List.mem_filter.1 hj
   exact ⟨j,rfl,List.mem_range.1 h1,h2⟩
  obtain ⟨v,v1,v2⟩ := zC0 1048580 (((List.range x.Ps.length).filter (goes s e p y)).map (YB 1048580 x c f)) (fun o ho => by obtain ⟨j,h1,h2,_⟩ := hout o ho; omega) (by
   rw [List.length_map]
   have := List.length_filter_le (goes s e p y) (List.range x.Ps.length)
   rw [List.length_range] at this
   omega) (by omega)
  have hJ : qh 1048580 (x,(p : Int),f) (⟨x.Id,x.Name,x.Ps,ys,x.V,x.Tk,x.Pa,x.Wo,x.Dr,Z6 x.Ve⟩,((List.range x.Ps.length).filter (goes s e p y)).map (YB 1048580 x c f)) = some true := by
   unfold qh
   simp only [v1,v2,Option.bind_some,beq_self_eq_true]
   cases hz : (((((List.range x.Ps.length).filter (goes s e p y)).map (YB 1048580 x c f)).length : Int) == 0) with
   | true => rfl
   | false =>
    rw [cond_false]
    cases hds : f.Dst == f.Src with
    | true => rfl
    | false =>
     obtain ⟨ca,cb,ce1,ce2,_⟩ := Yu 1048580 x.V (by omega) (by omega) (by omega) (p : Int) f.Tag ⟨by omega,by omega⟩
     rw [c1] at ce1
     cases ce1
     rw [cond_false,ce2,Option.bind_some]
     have ent : zCI ⟨c,f.Src,p,0,false⟩ := ⟨⟨cl1,cl9⟩,⟨by simp only; omega,by simp only; omega⟩,⟨by simp only; omega,by simp only; omega⟩,⟨by simp only; omega,by simp only; omega⟩,fun h => by cases h⟩
     obtain ⟨r,r1,r2,r3,r4,r5⟩ := zCS 1048580 l2 (by omega) c f.Src
     rw [zBa,r1,Option.bind_some]
     by_cases hr : r = (p : Int)
     ·rw [show (r != (p : Int)) = false from by simp [hr],cond_false]
      cases hL : ((List.range x.Ps.length).filter (goes s e p y)).map (YB 1048580 x c f) with
      | nil => rw [hL] at hz; simp at hz
      | cons o os =>
       obtain ⟨q,hq,hqL,hg⟩ := hout o (by rw [hL]; exact List.mem_cons_self)
       unfold goes at hg
       simp only [Bool.and_eq_true,Bool.not_eq_true',beq_eq_false_iff_ne] at hg
       obtain ⟨⟨⟨g1,g2⟩,g3⟩,_⟩ := hg
       have hi0 : idx (o :: os) 0 = some o := rfl
       rw [hi0,Option.bind_some,hq]
       have okb : qL 1048580 ⟨x.Id,x.Name,x.Ps,ys,x.V,x.Tk,x.Pa,x.Wo,x.Dr,Z6 x.Ve⟩ = some true := zAj 1048580 _ (by simp only; omega) p1 p2 p3 p4 p5 (Y8 1048580 ys (by have := l2.1; omega) l2) p7 p8 p9 p10 p11 (by simp only; unfold Z6; split <;> omega) p13
       have wb : (⟨x.Id,x.Name,x.Ps,ys,x.V,x.Tk,x.Pa,x.Wo,x.Dr,Z6 x.Ve⟩ : zD).wf := by
        obtain ⟨w1,w2,w3,w4,w5,w6,w7,w8,w9,w10,w11,w12⟩ := wx
        have hm : maxLen = 9223372036854775807 := by decide
        exact ⟨w1,w2,w3,⟨by have := l2.1; simp only; omega,fun v hv => zEP (l2.2.1 v hv)⟩,w5,w6,w7,w8,w9,w10,zk (z := Z6 x.Ve) (by unfold Z6; split <;> omega) (by unfold Z6; split <;> omega),trivial⟩
       have hbs : (⟨x.Id,x.Name,x.Ps,ys,x.V,x.Tk,x.Pa,x.Wo,x.Dr,Z6 x.Ve⟩ : zD).sz ≤ 1000 := by
        show x.Name.size + x.Ps.length + ys.length + x.V.sz ≤ 1000
        have := l2.1
        omega
       have hgo : qj 1048580 ⟨f.Src,77,c,[]⟩ = some true := zBL 1048580 _ ⟨by simp only; omega,by simp only; omega⟩ ⟨by simp only; omega,by simp only; omega⟩ ⟨by simp only; omega,cl9⟩ (by simp)
       obtain ⟨s',c',ok',s0',s1',c1',_,hyes'⟩ := zAk 1048580 ⟨x.Id,x.Name,x.Ps,ys,x.V,x.Tk,x.Pa,x.Wo,x.Dr,Z6 x.Ve⟩ q ⟨f.Src,77,c,[]⟩ (by omega) (by omega) okb hqL hgo
       obtain ⟨clq,_,_⟩ := zDd 1048580 x.V c e q (by omega) (by omega) (by omega) rows e0 hE (by omega) (by omega) g2
       simp only at s1' c1'
       rw [clq] at c1'
       cases c1'
       rw [s1] at s1'
       have hss : s = s' := by have := Option.some.inj s1'; omega
       subst hss
       obtain ⟨e',ys',y',_,hE',_,m1,m2,m3,_,m5,m6⟩ := hyes' (by rw [g1]; rfl)
       simp only at hE' m1 m3 m5 m6
       rw [hE] at hE'
       have hee : e = e' := by have := Option.some.inj hE'; omega
       subst hee
       have ent' : zCI ⟨c,77,q,0,false⟩ := ⟨⟨cl1,cl9⟩,⟨by simp only; omega,by simp only; omega⟩,⟨by simp only; omega,by simp only; omega⟩,⟨by simp only; omega,by simp only; omega⟩,fun h => by cases h⟩
       obtain ⟨w,wm,w1,w2,w3⟩ := r4 (by omega)
       have wm' : w ∈ ys' := by
        rcases m3 ent' with h | ⟨h,_⟩
        ·rw [h]
         exact zFV _ (by simp only; omega) ys wm
        ·rw [h]; exact wm
       have hy' : y' = (p : Int) := by
        have := zFX 1048580 m2 (by omega) wm'
        rw [w1,w2,m5 (by omega),w3,hr] at this
        exact Option.some.inj this
       rw [hy',zIM s e q x.Ps.length p hp hsb heb (by omega)] at m6
       obtain ⟨y2,zs2,j1,j2,_⟩ := zAV 1048580 ⟨x.Id,x.Name,x.Ps,ys,x.V,x.Tk,x.Pa,x.Wo,x.Dr,Z6 x.Ve⟩ q ⟨f.Src,77,c,[]⟩ wb (by omega) (by omega)
       rw [j1] at m6
       cases m6
       rw [j2,Option.bind_some]
       have hi1 : idx ([p].map (YB 1048580 ⟨x.Id,x.Name,x.Ps,ys,x.V,x.Tk,x.Pa,x.Wo,x.Dr,Z6 x.Ve⟩ c ⟨f.Src,77,c,[]⟩)) 0 = some (YB 1048580 ⟨x.Id,x.Name,x.Ps,ys,x.V,x.Tk,x.Pa,x.Wo,x.Dr,Z6 x.Ve⟩ c ⟨f.Src,77,c,[]⟩ p) := rfl
       simp only [hi1,Option.bind_some]
       rw [show (YB 1048580 (⟨x.Id,x.Name,x.Ps,ys,x.V,x.Tk,x.Pa,x.Wo,x.Dr,Z6 x.Ve⟩ : zD) c ⟨f.Src,77,c,[]⟩ p).Port = (p : Int) from rfl,beq_self_eq_true,cond_true]
       rfl
     ·rw [show (r != (p : Int)) = true from by simpa using hr,cond_true]
      obtain ⟨r',q1,q2,q3,q4,q5⟩ := zCS 1048580 hF (by omega) c f.Src
      rw [q1,Option.bind_some]
      rcases l3 ent with h | ⟨h,h' | h'⟩
      ·exfalso
       have := zFX 1048580 l2 (by omega) (v := ⟨c,f.Src,p,0,false⟩) (by rw [h]; exact zFW _ _)
       rw [r1] at this
       exact hr (Option.some.inj this)
      ·obtain ⟨k,hk,k1,k2⟩ := h'
       rw [decide_eq_true (show r' ≥ 0 by
        by_cases h0 : r' < 0
        ·exact absurd ⟨k1,k2⟩ (q5 h0 _ (List.getElem_mem hk))
        ·omega),cond_true]
      ·rw [show ((x.F.length : Int) == 12) = true from by rw [h']; rfl]
       cases decide (r' ≥ 0) <;> rfl
  cases hv : (IntKind.wrap .i64 (Z6 x.Ve + x.Dr) == IntKind.wrap .i64 (x.Ve + x.Dr)) with
  | false => exact hJ
  | true =>
   rw [hdr,wrap64 (by unfold Z6; split <;> omega) (by unfold Z6; split <;> omega),wrap64 (by omega) (by omega),beq_iff_eq] at hv
   have : ¬ x.Ve < 1000000 := fun h => by rw [one_ne x.Ve p12.1 h] at hv; omega
   rw [cond_true,decide_eq_false this,cond_false]
   exact hJ
end Go.Proofs.Ytcegokjpmppdbaa.Tw
