import Derived.Test.YtcegokjpmppdbaaGreatTwSE
import Derived.Test.YtcegokjpmppdbaaGreatTlPlain
set_option linter.unusedVariables false
set_option linter.unusedSimpArgs false
set_option maxRecDepth 100000
set_option maxHeartbeats 1000000
namespace Go.Proofs.YtcegokjpmppdbaaGreat.Tw
open Go Go.TL Go.Proofs
def zE.sz (x : zE) : Nat := x.Rows.length + x.Pv.length
theorem zEX (n : Nat) : QX n = ZE n := by
 funext m
 induction m with
 | zero => rfl
 | succ m ih => funext x i y; simp only [QX,ZE,ih]
theorem Jb (n : Nat) : Qg n = ZW n := by
 funext x i; simp only [Qg,ZW,zEX]; rfl
theorem Zp (n : Nat) (x : zE) (id : Int) (h : x.Rows.length ≤ 1048580) (hn : x.Rows.length < n) : ∃ r,ZW n x id = some r ∧ (r = -1 ∧ (∀ v ∈ x.Rows,v.Id ≠ id) ∨ ∃ v,0 ≤ r ∧ idx x.Rows r = some v ∧ v.Id = id) := by
 unfold ZW
 have hf := zGN (L := fun m xs i => ZE n m ⟨xs,x.Pv⟩ id i) (p := fun i v => bif v.Id == id then some i else none) (fun m xs i => by
  show (bif _ then _ else _) = _
  congr 1
  congr 1
  funext v
  cases (v.Id == id) <;> rfl) x.Rows (by omega) n 0 (by omega) (by omega)
 rcases hf with ⟨e1,e2⟩ | ⟨j,hj,r,e1,e2,e3,e4⟩
 ·rw [show ZE n n x id 0 = _ from e1]
  refine ⟨-1,rfl,.inl ⟨rfl,fun v hv => ?_⟩⟩
  obtain ⟨j,hj,rfl⟩ := List.getElem_of_mem hv
  have := e2 j hj (by omega)
  intro hid
  simp [hid] at this
 ·rw [show ZE n n x id 0 = _ from e4]
  have hid : (x.Rows[j].Id == id) = true := by
   cases hc : (x.Rows[j].Id == id) with
   | true => rfl
   | false => rw [hc] at e2; cases e2
  rw [hid] at e2
  cases e2
  exact ⟨_,rfl,.inr ⟨_,by omega,zg hj,by simpa using hid⟩⟩
theorem YF (n : Nat) : qG n = qU n := by
 funext x i; simp only [qG,qU,Jb]
theorem YU (n : Nat) (a b c : Int) : Tot (zU n a b c) := Tot.bif (fun _ => .of) (fun _ => .of)
theorem zFl (n : Nat) : Yw n = qr n := rfl
theorem zCH (n : Nat) (v : Vec) : Tot (qr n v) := by
 unfold qr
 repeat' first | exact Tot.of | refine Tot.bind (YU _ _ _ _) fun _ _ => ?_ | refine Tot.bif (fun _ => ?_) (fun _ => ?_)
theorem zEY (n : Nat) : J8 n = Q0 n := rfl
theorem zEA (n : Nat) (v : Vec) (c : Int) : Tot (Q0 n v c) := by
 unfold Q0
 repeat' first | exact Tot.of | refine Tot.bind (YU _ _ _ _) fun _ _ => ?_ | refine Tot.bind (zCH _ _) fun _ _ => ?_ | refine Tot.bif (fun _ => ?_) (fun _ => ?_)
theorem zBq (n : Nat) : Yk n = QY n := rfl
theorem zBN (n : Nat) (v u : Vec) : Tot (QY n v u) := by
 unfold QY
 repeat' first | exact Tot.of | refine Tot.bif (fun _ => ?_) (fun _ => ?_)
theorem zAk (n : Nat) (x0 : Int) (x1 : List Pt) (h : x1.length ≤ 1048576) : ∀ (m k : Nat) (y2 y3 y4 y5 y6 y7 y8 y9 y10 : Int),k ≤ x1.length → x1.length < m + k → Tot (z6 n m x0 x1 k y2 y3 y4 y5 y6 y7 y8 y9 y10)
 | 0,k,y2,y3,y4,y5,y6,y7,y8,y9,y10,h1,h2 => by omega
 | m + 1,k,y2,y3,y4,y5,y6,y7,y8,y9,y10,h1,h2 => by
  rw [z6]
  refine Tot.step (fun hk => ?_) .of
  have ih := fun y2 y3 y4 y5 y6 y7 y8 y9 y10 => zAk n x0 x1 h m (k + 1) y2 y3 y4 y5 y6 y7 y8 y9 y10 (by omega) (by omega)
  simp only [q3,zm (by omega : k ≤ 1099511627776)]
  repeat' first | exact ih _ _ _ _ _ _ _ _ _ | exact Tot.of | refine Tot.bind (zIC hk) fun _ _ => ?_ | refine Tot.bind (zEA _ _ _) fun _ _ => ?_ | refine Tot.bind (zBN _ _ _) fun _ _ => ?_ | refine Tot.bif (fun _ => ?_) (fun _ => ?_)
theorem zBM (n : Nat) (x0 : Int) (x1 : List Pt) (h : x1.length ≤ 1048576) (hn : x1.length < n) : Tot (Z9 n x0 x1) := by
 unfold Z9
 refine Tot.bind (zAk n x0 x1 h n 0 _ _ _ _ _ _ _ _ _ (by omega) (by omega)) fun o _ => ?_
 cases o <;> exact Tot.of
theorem zDR (n : Nat) : qE n = z6 n := by
 funext m
 induction m with
 | zero => rfl
 | succ m ih =>
  funext x0 x1 y1 y2 y3 y4 y5 y6 y7 y8 y9 y10
  simp only [qE,z6,ih,ZN,q3,zEY,zBq]
  cases idx x1 y1 <;> rfl
theorem zBp (n : Nat) : Qy n = Z9 n := by
 funext x i; simp only [Qy,Z9,zDR]; rfl
theorem zFC (n : Nat) : JF n = YS n := by
 funext x i y; simp only [JF,YS,zBp]
theorem zEm (n : Nat) (x0 : Int) (x1 : List Pt) (x2 : Int) (h : x1.length ≤ 1048576) (hn : x1.length < n) : Tot (YS n x0 x1 x2) := Tot.bind (zBM n x0 x1 h hn) fun _ _ => .of
theorem zFA (n : Nat) : JE n = Qv n := by
 funext x i y; simp only [JE,Qv,zBp,zFC,zBq]; rfl
theorem zFV (n : Nat) (x0 : Int) (x1 : List Pt) (x2 : Int) (h : x1.length ≤ 1048576) (hn : x1.length < n) : ∃ r,Qv n x0 x1 x2 = some r ∧ 1 ≤ r ∧ r ≤ 4 := by
 unfold Qv zU
 rw [wrap64 (by omega) (by omega)]
 obtain ⟨b,hb⟩ := zBM n x0 x1 h hn
 obtain ⟨s,hs⟩ := zEm n x0 x1 x2 h hn
 by_cases h1 : x2 ≥ 0
 ·by_cases h2 : x2 ≤ (x1.length : Int) - 1
  ·obtain ⟨v,hv,_⟩ := zCX (xs := x1) h1 (by omega)
   obtain ⟨l,hl⟩ := zBN n s v.Hd
   simp only [decide_eq_true h1,decide_eq_true h2,cond_true,Option.bind_some,Bool.not_true,cond_false,hb,hs,hv,hl]
   cases v.Up <;> cases (b.2 == x2) <;> cases v.Has <;> cases l <;> exact ⟨_,rfl,by decide,by decide⟩
  ·simp only [decide_eq_true h1,decide_eq_false h2,cond_true,Option.bind_some,Bool.not_false]
   exact ⟨_,rfl,by decide,by decide⟩
 ·simp only [decide_eq_false h1,cond_false,Option.bind_some,Bool.not_false,cond_true]
  exact ⟨_,rfl,by decide,by decide⟩
theorem zBg {k : Nat} (h : k ≤ 1099511627776) : IntKind.wrap .u64 (k : Int) = k := by
 show ((k : Int) % 18446744073709551616) = k
 omega
theorem zA9 (n : Nat) (x0 : Int) (x1 : List Pt) (h : x1.length ≤ 1048576) (hn : x1.length < n) : ∀ (m k : Nat) (y2 : Int),k ≤ x1.length → x1.length < m + k → ZB n m x0 x1 k y2 = qm n m x0 x1 k y2 ∧ Tot (qm n m x0 x1 k y2)
 | 0,k,y2,h1,h2 => by omega
 | m + 1,k,y2,h1,h2 => by
  rw [qm,ZB]
  by_cases hk : k < x1.length
  ·have ih := fun y2 => zA9 n x0 x1 h hn m (k + 1) y2 (by omega) (by omega)
   obtain ⟨r,hr,r1,r2⟩ := zFV n x0 x1 k h hn
   have hk' : decide ((k : Int) < (x1.length : Int)) = true := decide_eq_true (by omega)
   have h0 : decide ((0 : Int) ≤ (k : Int)) = true := decide_eq_true (by omega)
   simp only [hk',zm (by omega : k ≤ 1099511627776),zBg (by omega : k ≤ 1099511627776),zFA,hr,Option.bind_some,h0,cond_true,(ih _).1,true_and]
   have hc : r = 1 ∨ r = 2 ∨ r = 3 ∨ r = 4 := by omega
   rcases hc with rfl | rfl | rfl | rfl <;> cases (decide ((k : Int) < 6)) <;> first | exact ⟨rfl,(ih _).2⟩ | exact ⟨by trivial,Tot.of⟩
  ·have hk' : decide ((k : Int) < (x1.length : Int)) = false := decide_eq_false (by omega)
   rw [hk']
   exact ⟨by trivial,Tot.of⟩
theorem zBw (n : Nat) (x0 : Int) (x1 : List Pt) (h : x1.length ≤ 1048576) (hn : x1.length < n) : Qh n x0 x1 = QJ n x0 x1 ∧ Tot (QJ n x0 x1) := by
 obtain ⟨h1,o,h2⟩ := zA9 n x0 x1 h hn n 0 0 (by omega) (by omega)
 unfold Qh QJ
 have e1 : ZB n n x0 x1 0 0 = some o := h1.trans h2
 have e2 : qm n n x0 x1 0 0 = some o := h2
 rw [e1,e2]
 cases o <;> exact ⟨by trivial,Tot.of⟩
theorem QG (n : Nat) : z8 n = zU n := rfl
theorem zR (n : Nat) (a b c : Int) : zU n a b c = some (decide (b ≤ a) && decide (a ≤ c)) := by
 unfold zU
 by_cases h : a ≥ b
 ·rw [decide_eq_true h]; rfl
 ·rw [decide_eq_false h]; rfl
theorem zBy {p : Int} (h0 : 1 ≤ p) (h1 : p ≤ 6) : ∃ a : Int,0 ≤ a ∧ a < 9223372036854775808 ∧ (IntKind.wrap .i64 ((IntKind.wrap .i64 (1 * 2 ^ min ((IntKind.wrap .u64 p)).toNat (IntKind.bits .i64))) - 1)) = a ∧ (IntKind.wrap .i64 ((IntKind.wrap .i64 (1 * 2 ^ min (p).toNat (IntKind.bits .i64))) - 1)) = a ∧ decide (0 ≤ (IntKind.wrap .u64 p)) = true ∧ decide (0 ≤ p) = true := by
 have hc : p = 1 ∨ p = 2 ∨ p = 3 ∨ p = 4 ∨ p = 5 ∨ p = 6 := by omega
 rcases hc with rfl | rfl | rfl | rfl | rfl | rfl
 ·exact ⟨1,by decide,by decide,by decide,by decide,by decide,by decide⟩
 ·exact ⟨3,by decide,by decide,by decide,by decide,by decide,by decide⟩
 ·exact ⟨7,by decide,by decide,by decide,by decide,by decide,by decide⟩
 ·exact ⟨15,by decide,by decide,by decide,by decide,by decide,by decide⟩
 ·exact ⟨31,by decide,by decide,by decide,by decide,by decide,by decide⟩
 ·exact ⟨63,by decide,by decide,by decide,by decide,by decide,by decide⟩
theorem zAn (n : Nat) (x0 : zE) (w0 : x0.wf) (x1 : Int) (hp0 : 1 ≤ x1) (hp1 : x1 ≤ 6) (h : x0.Rows.length ≤ 1048580) : ∀ (m k : Nat),k ≤ x0.Rows.length → x0.Rows.length < m + k → ZG n m x0 x1 k = zn n m x0 x1 k ∧ Tot (zn n m x0 x1 k)
 | 0,k,h1,h2 => by omega
 | m + 1,k,h1,h2 => by
  rw [zn,ZG]
  by_cases hk : k < x0.Rows.length
  ·obtain ⟨ih1,o,ih2⟩ := zAn n x0 w0 x1 hp0 hp1 h m (k + 1) (by omega) (by omega)
   obtain ⟨a,ha0,ha1,ha2,ha3,ha4,ha5⟩ := zBy hp0 hp1
   have hk' : decide ((k : Int) < (x0.Rows.length : Int)) = true := decide_eq_true (by omega)
   have hv : x0.Rows[k] ∈ x0.Rows := List.getElem_mem hk
   have hi := zg hk
   generalize x0.Rows[k] = v at hv hi
   have hw := w0.1.2 v hv
   have hin : Zl n x1 = some a := by unfold Zl; rw [ha5,ha3]; rfl
   simp only [hk',zm (by omega : k ≤ 1099511627776),hi,Option.bind_some,cond_true,ih1,ih2,hin,QG,zR,ha2]
   have hbits := fun hm0 hm1 => zJr (B := v.Bare) (M := v.Members) hw.2.2.1 hm0 hm1
   by_cases hm : 0 ≤ v.Members ∧ v.Members ≤ a
   ·have hb := hbits hm.1 (by omega)
    simp only [decide_eq_true hm.1,decide_eq_true hm.2,Bool.and_self,Bool.not_true,cond_false]
    by_cases hz : IntKind.wrap .i64 (BitVec.ofInt (IntKind.bits .i64) v.Bare &&& ~~~BitVec.ofInt (IntKind.bits .i64) v.Members).toNat = 0
    ·have h3 := hb.1 hz
     have hz' : ((IntKind.wrap .i64 (BitVec.ofInt (IntKind.bits .i64) v.Bare &&& ~~~BitVec.ofInt (IntKind.bits .i64) v.Members).toNat) != 0) = false := by rw [hz]; rfl
     have hy' : ((IntKind.wrap .i64 (BitVec.ofInt (IntKind.bits .i64) v.Bare &&& BitVec.ofInt (IntKind.bits .i64) v.Members).toNat) != v.Bare) = false := by rw [h3.2.2]; simp
     simp only [hz',hy',decide_eq_true h3.1,decide_eq_true (show v.Bare ≤ a by omega),Bool.and_self,Bool.not_true,cond_false]
     cases k with
     | zero => cases (decide (1 ≤ v.Id) && decide (v.Id ≤ 99)) <;> exact ⟨by trivial,Tot.of⟩
     | succ k =>
      have hw2 : IntKind.wrap .i64 (((k + 1 : Nat) : Int) - 1) = (k : Int) := by rw [wrap64 (by omega) (by omega)]; omega
      have hpos : decide (((k + 1 : Nat) : Int) > 0) = true := decide_eq_true (by omega)
      simp only [hw2,hpos,cond_true,zg (show k < x0.Rows.length by omega),Option.bind_some]
      cases (decide (1 ≤ v.Id) && decide (v.Id ≤ 99)) <;> cases (decide ((x0.Rows[k]'(by omega)).Id ≥ v.Id)) <;> exact ⟨by trivial,Tot.of⟩
    ·have hz' : ((IntKind.wrap .i64 (BitVec.ofInt (IntKind.bits .i64) v.Bare &&& ~~~BitVec.ofInt (IntKind.bits .i64) v.Members).toNat) != 0) = true := by simpa using hz
     have h3 : (decide (0 ≤ v.Bare) && decide (v.Bare ≤ a)) = false ∨ ((IntKind.wrap .i64 (BitVec.ofInt (IntKind.bits .i64) v.Bare &&& BitVec.ofInt (IntKind.bits .i64) v.Members).toNat) != v.Bare) = true := by
      by_cases hq : ((IntKind.wrap .i64 (BitVec.ofInt (IntKind.bits .i64) v.Bare &&& BitVec.ofInt (IntKind.bits .i64) v.Members).toNat) != v.Bare) = true
      ·exact .inr hq
      ·left
       simp at hq
       by_cases hr : 0 ≤ v.Bare ∧ v.Bare ≤ a
       ·have hle := zJs hw.2.2.1 hm.1 (by omega) hq
        exact absurd (hb.2 ⟨hle.1,hle.2,hq⟩) hz
       ·simp only [Bool.and_eq_false_iff,decide_eq_false_iff_not]; omega
     simp only [hz',cond_true]
     have hspec : (bif !(decide (0 ≤ v.Bare) && decide (v.Bare ≤ a)) then some (Sum.inr false) else bif ((IntKind.wrap .i64 (BitVec.ofInt (IntKind.bits .i64) v.Bare &&& BitVec.ofInt (IntKind.bits .i64) v.Members).toNat) != v.Bare) then some (Sum.inr false) else (bif decide ((k : Int) > 0) then (idx x0.Rows (IntKind.wrap .i64 ((k : Int) - 1))).bind fun v13 => bif decide (v13.Id ≥ v.Id) then some (Sum.inr false) else some o else some o)) = (some (Sum.inr false) : Option (Unit ⊕ Bool)) := by
      rcases h3 with h3 | h3
      ·rw [h3]; rfl
      ·rw [h3]; cases (decide (0 ≤ v.Bare) && decide (v.Bare ≤ a)) <;> rfl
     rw [hspec]
     cases k with
     | zero => cases (decide (1 ≤ v.Id) && decide (v.Id ≤ 99)) <;> exact ⟨by trivial,Tot.of⟩
     | succ k =>
      have hw2 : IntKind.wrap .i64 (((k + 1 : Nat) : Int) - 1) = (k : Int) := by rw [wrap64 (by omega) (by omega)]; omega
      have hpos : decide (((k + 1 : Nat) : Int) > 0) = true := decide_eq_true (by omega)
      simp only [hw2,hpos,cond_true,zg (show k < x0.Rows.length by omega),Option.bind_some]
      cases (decide (1 ≤ v.Id) && decide (v.Id ≤ 99)) <;> cases (decide ((x0.Rows[k]'(by omega)).Id ≥ v.Id)) <;> exact ⟨by trivial,Tot.of⟩
   ·have hm' : (decide (0 ≤ v.Members) && decide (v.Members ≤ a)) = false := by
     simp only [Bool.and_eq_false_iff,decide_eq_false_iff_not]; omega
    simp only [hm',Bool.not_false,cond_true]
    cases k with
    | zero => cases (decide (1 ≤ v.Id) && decide (v.Id ≤ 99)) <;> exact ⟨by trivial,Tot.of⟩
    | succ k =>
     have hw2 : IntKind.wrap .i64 (((k + 1 : Nat) : Int) - 1) = (k : Int) := by rw [wrap64 (by omega) (by omega)]; omega
     have hpos : decide (((k + 1 : Nat) : Int) > 0) = true := decide_eq_true (by omega)
     simp only [hw2,hpos,cond_true,zg (show k < x0.Rows.length by omega),Option.bind_some]
     cases (decide (1 ≤ v.Id) && decide (v.Id ≤ 99)) <;> cases (decide ((x0.Rows[k]'(by omega)).Id ≥ v.Id)) <;> exact ⟨by trivial,Tot.of⟩
  ·have hk' : decide ((k : Int) < (x0.Rows.length : Int)) = false := decide_eq_false (by omega)
   rw [hk']
   exact ⟨by trivial,Tot.of⟩
theorem zAm (n : Nat) (x0 : zE) (h : x0.Rows.length ≤ 1048580) (hn : x0.Rows.length < n) (hq : x0.Pv.length ≤ 1048580) : ∀ (m k : Nat),k ≤ x0.Pv.length → x0.Pv.length < m + k → Zk n m x0 k = qA n m x0 k ∧ Tot (qA n m x0 k)
 | 0,k,h1,h2 => by omega
 | m + 1,k,h1,h2 => by
  rw [qA,Zk]
  by_cases hk : k < x0.Pv.length
  ·obtain ⟨ih1,o,ih2⟩ := zAm n x0 h hn hq m (k + 1) (by omega) (by omega)
   have hk' : decide ((k : Int) < (x0.Pv.length : Int)) = true := decide_eq_true (by omega)
   obtain ⟨r,hr,_⟩ := Zp n x0 x0.Pv[k] h hn
   simp only [hk',zm (by omega : k ≤ 1099511627776),zg hk,Option.bind_some,cond_true,ih1,ih2,Jb,hr]
   cases decide (r < 0) <;> exact ⟨by trivial,Tot.of⟩
  ·have hk' : decide ((k : Int) < (x0.Pv.length : Int)) = false := decide_eq_false (by omega)
   rw [hk']
   exact ⟨by trivial,Tot.of⟩
theorem zEB (n : Nat) (x0 : zE) (w0 : x0.wf) (x1 : Int) (h : x0.sz ≤ 1048580) (hn : x0.sz < n) : JH n x0 x1 = zq n x0 x1 ∧ Tot (zq n x0 x1) := by
 have hs : x0.Rows.length + x0.Pv.length = x0.sz := rfl
 unfold JH zq
 simp only [QG,zR,Option.bind_some]
 by_cases hp : 1 ≤ x1 ∧ x1 ≤ 6
 ·obtain ⟨a,ha0,ha1,ha2,ha3,ha4,ha5⟩ := zBy hp.1 hp.2
  obtain ⟨e1,o,e2⟩ := zAn n x0 w0 x1 hp.1 hp.2 (by omega) n 0 (by omega) (by omega)
  obtain ⟨f1,q,f2⟩ := zAm n x0 (by omega) (by omega) (by omega) n 0 (by omega) (by omega)
  have e1' : ZG n n x0 x1 0 = some o := e1.trans e2
  have e2' : zn n n x0 x1 0 = some o := e2
  have f1' : Zk n n x0 0 = some q := f1.trans f2
  have f2' : qA n n x0 0 = some q := f2
  simp only [decide_eq_true hp.1,decide_eq_true hp.2,Bool.and_self,Bool.not_true,cond_false,ha4,cond_true,e1',e2',Option.bind_some]
  cases o with
  | inl u =>
   simp only [YL,Zq,f1',f2',Option.bind_some]
   cases q <;> exact ⟨rfl,Tot.bif (fun _ => .of) fun _ => Tot.bif (fun _ => .of) fun _ => .of⟩
  | inr r => exact ⟨rfl,Tot.bif (fun _ => .of) fun _ => Tot.bif (fun _ => .of) fun _ => .of⟩
 ·have hp' : (decide (1 ≤ x1) && decide (x1 ≤ 6)) = false := by
   simp only [Bool.and_eq_false_iff,decide_eq_false_iff_not]; omega
  rw [hp']
  exact ⟨by trivial,Tot.of⟩
theorem YA (n : Nat) (x : zE) (h : x.sz ≤ 268435456) : qp n x = some x := by
 have hs : x.Rows.length + x.Pv.length = x.sz := rfl
 unfold qp
 simp only [List.length_nil,Nat.zero_add,decide_eq_true (show x.Rows.length ≤ 268435456 by omega),decide_eq_true (show x.Pv.length ≤ 268435456 by omega),cond_true,List.nil_append]
theorem zD5 (n : Nat) (x : zE) (h : x.sz ≤ 268435456) : YN n x = some x := by
 have hs : x.Rows.length + x.Pv.length = x.sz := rfl
 unfold YN Jd
 simp only [List.length_nil,Nat.zero_add,decide_eq_true (show x.Rows.length ≤ 268435456 by omega),decide_eq_true (show x.Pv.length ≤ 268435456 by omega),cond_true,List.nil_append,Option.bind_some]
theorem zIa {α : Type} {wf : α → Prop} {xs ys : List α} (h : QD wf xs) (hs : ∀ y ∈ ys,y ∈ xs) (hl : ys.length ≤ xs.length) : QD wf ys := ⟨Nat.le_trans hl h.1,fun y hy => h.2 y (hs y hy)⟩
theorem zIZ {α : Type} {wf : α → Prop} {xs : List α} {i : Nat} {v : α} (h : QD wf xs) (hv : wf v) : QD wf (xs.set i v) := ⟨by rw [List.length_set]; exact h.1,fun y hy => by
 rcases List.mem_or_eq_of_mem_set hy with h1 | h1
 ·exact h.2 y h1
 ·rw [h1]; exact hv⟩
def zA.sz (x : zA) : Nat := x.Name.size + x.Ps.length + x.F.length + x.V.sz
theorem zGb (n : Nat) : zAR n = qK n := by
 funext v
 unfold zAR qK
 rw [QG,zFl]
 obtain ⟨b,hb⟩ := YU n v.Co 1 1000
 rw [hb]
 cases b <;> cases v.Up <;> cases v.Has <;> rfl
theorem zCd (n : Nat) (v : Pt) : Tot (qK n v) := by
 unfold qK
 repeat' first | exact Tot.of | refine Tot.bind (YU _ _ _ _) fun _ _ => ?_ | refine Tot.bind (zCH _ _) fun _ _ => ?_ | refine Tot.bif (fun _ => ?_) (fun _ => ?_)
theorem JA (n : Nat) (v : zB) : Tot (qZ n v) := by
 unfold qZ
 repeat' first | exact Tot.of | refine Tot.bind (YU _ _ _ _) fun _ _ => ?_ | refine Tot.bif (fun _ => ?_) (fun _ => ?_)
theorem zCA (n : Nat) : JI n = qZ n := rfl
theorem zB9 (n : Nat) (v u : zB) : YM n u v.Tag v.Mac = qv n v u.Tag u.Mac := by
 unfold YM qv
 by_cases h1 : v.Tag = u.Tag
 ·simp [h1]
 ·have e1 : (v.Tag != u.Tag) = true := by simpa using h1
  have e2 : (u.Tag == v.Tag) = false := by simpa using fun e : u.Tag = v.Tag => h1 e.symm
  rw [e1,e2]
  by_cases h2 : v.Tag < u.Tag
  ·rw [decide_eq_true h2]; rfl
  ·rw [decide_eq_false h2]; rfl
theorem zBS (n : Nat) (v : zB) (a b : Int) : Tot (qv n v a b) := Tot.bif (fun _ => .of) (fun _ => .of)
theorem zA8 (n : Nat) (xs : List zB) (h : xs.length ≤ 1048580) : ∀ (m k : Nat),k ≤ xs.length → xs.length < m + k → ZZ n m xs k = qB n m xs k ∧ Tot (qB n m xs k)
 | 0,k,h1,h2 => by omega
 | m + 1,k,h1,h2 => by
  rw [qB,ZZ]
  by_cases hk : k < xs.length
  ·obtain ⟨ih1,o,ih2⟩ := zA8 n xs h m (k + 1) (by omega) (by omega)
   rw [qd hk]
   obtain ⟨a,ha⟩ := JA n xs[k]
   simp only [zm (by omega : k ≤ 1099511627776),zg hk,Option.bind_some,cond_true,ih1,ih2,zCA,ha]
   cases k with
   | zero => cases a <;> exact ⟨by trivial,Tot.of⟩
   | succ k =>
    have hw2 : IntKind.wrap .i64 (((k + 1 : Nat) : Int) - 1) = (k : Int) := by rw [wrap64 (by omega) (by omega)]; omega
    have hpos : decide (((k + 1 : Nat) : Int) > 0) = true := decide_eq_true (by omega)
    obtain ⟨b,hb⟩ := zBS n (xs[k]'(by omega)) xs[k + 1].Tag xs[k + 1].Mac
    simp only [hw2,hpos,cond_true,zg (show k < xs.length by omega),Option.bind_some,zB9,hb]
    cases a <;> cases b <;> exact ⟨by trivial,Tot.of⟩
  ·have he : k = xs.length := by omega
   rw [he,qR]
   exact ⟨rfl,Tot.of⟩
theorem zBu (n : Nat) (xs : List zB) (h : xs.length ≤ 1048580) (hn : xs.length < n) : ∃ b,qj n xs = some b ∧ Yv n xs = some b := by
 obtain ⟨e1,o,e2⟩ := zA8 n xs h n 0 (by omega) (by omega)
 have e1' : ZZ n n xs 0 = some o := e1.trans e2
 have e2' : qB n n xs 0 = some o := e2
 unfold qj Yv
 rw [e1',e2']
 cases o <;> exact ⟨_,rfl,rfl⟩
theorem zDG (n : Nat) : Ze n = zl n := by
 funext m
 induction m with
 | zero => rfl
 | succ m ih => funext x i; simp only [Ze,zl,ih,zGb]
theorem zAY (n : Nat) (x : zA) (h : x.Ps.length ≤ 1048580) : ∀ (m k : Nat),k ≤ x.Ps.length → x.Ps.length < m + k → Tot (zl n m x k)
 | 0,k,h1,h2 => by omega
 | m + 1,k,h1,h2 => by
  rw [zl]
  refine Tot.step (fun hk => ?_) .of
  have ih := zAY n x h m (k + 1) (by omega) (by omega)
  rw [zm (by omega : k ≤ 1099511627776)]
  exact Tot.bind (zIC hk) fun _ _ => Tot.bind (zCd _ _) fun _ _ => Tot.bif (fun _ => .of) fun _ => ih
theorem zAl (n : Nat) (x : zA) (wx : x.wf) (h : x.sz ≤ 1048580) (hn : x.sz < n) : ∃ b,qT n x = some b ∧ Zj n x = some b := by
 have hs : x.Name.size + x.Ps.length + x.F.length + x.V.sz = x.sz := rfl
 obtain ⟨o,ho⟩ := zAY n x (by omega) n 0 (by omega) (by omega)
 have ho' : zl n n x 0 = some o := ho
 obtain ⟨f,hf1,hf2⟩ := zBu n x.F (by omega) (by omega)
 obtain ⟨g,v,hv⟩ := zEB n x.V ⟨wx.2.2.2.2.1,wx.2.2.2.2.2.1,trivial⟩ (x.Ps.length : Int) (by omega) (by omega)
 unfold qT Zj
 rw [zDG,ho',Option.bind_some,Option.bind_some]
 cases o with
 | inr r => exact ⟨_,rfl,rfl⟩
 | inl u =>
  simp only [Zg,Qr,QG,Z8,QS,zR,hf1,hf2,g,hv,Option.bind_some]
  have hname : decide ((x.Name.size : Int) > 10) = !decide ((x.Name.size : Int) ≤ 10) := by
   by_cases h : (x.Name.size : Int) ≤ 10
   ·rw [decide_eq_true h,decide_eq_false (by omega)]; rfl
   ·rw [decide_eq_false h,decide_eq_true (by omega)]; rfl
  rw [hname]
  generalize decide ((x.Name.size : Int) ≤ 10) = b1
  generalize (decide (1 ≤ x.Id) && decide (x.Id ≤ 99)) = b2
  generalize (decide (1 ≤ (x.Ps.length : Int)) && decide ((x.Ps.length : Int) ≤ 6)) = b3
  generalize (decide (0 ≤ x.Tk) && decide (x.Tk ≤ 1000000)) = b4
  generalize (decide (0 ≤ x.Pa) && decide (x.Pa ≤ 1000000)) = b5
  generalize (decide (0 ≤ x.Wo) && decide (x.Wo ≤ 1000000)) = b6
  generalize (decide (0 ≤ x.Dr) && decide (x.Dr ≤ 1000000)) = b7
  generalize (decide (0 ≤ x.Ve) && decide (x.Ve ≤ 1000000)) = b8
  clear hf1 hf2 g hv hname
  revert f v b1 b2 b3 b4 b5 b6 b7 b8
  decide +kernel
def Src.ok (c : Src) : Prop := 0 ≤ c.i ∧ c.b.length ≤ 1099511627776
theorem zIq (z : Int) : ∃ v : Int,(IntKind.wrap .i64 (BitVec.ofInt (IntKind.bits .i64) z &&& BitVec.ofInt (IntKind.bits .i64) 255).toNat) = v ∧ 0 ≤ v ∧ v ≤ 255 := by
 have h : (BitVec.ofInt 64 z &&& BitVec.ofInt 64 255).toNat ≤ 255 := by
  rw [BitVec.toNat_and]
  exact Nat.le_trans Nat.and_le_right (by decide)
 refine ⟨((BitVec.ofInt 64 z &&& BitVec.ofInt 64 255).toNat : Int),?_,by omega,by omega⟩
 exact wrap64 (z := ((BitVec.ofInt 64 z &&& BitVec.ofInt 64 255).toNat : Int)) (by omega) (by omega)
theorem Q9 (n : Nat) (c : Src) (h : c.ok) : ∃ v c',ZX n c = some (v,c') ∧ 0 ≤ v ∧ v ≤ 255 ∧ c'.ok := by
 unfold ZX
 rw [show decide ((0 : Int) ≤ 33) = true from rfl,show decide ((0 : Int) ≤ 47) = true from rfl]
 simp only [cond_true]
 by_cases hi : c.i < (c.b.length : Int)
 ·obtain ⟨v,hv,_⟩ := zCX (xs := c.b) h.1 hi
  rw [decide_eq_true hi,hv,wrap64 (z := c.i + 1) (by have := h.1; omega) (by have := h.2; omega)]
  obtain ⟨w,e,e1,e2⟩ := zIq (IntKind.wrap .i64 ((IntKind.wrap .i64 (BitVec.ofInt (IntKind.bits .i64) (IntKind.wrap .i64 (BitVec.ofInt (IntKind.bits .i64) (Int.fdiv (IntKind.wrap .i64 ((IntKind.wrap .i64 (c.h * 6364136223846793005)) + 1442695040888963407)) (2 ^ min ((33 : Int)).toNat (IntKind.bits .i64))) ^^^ BitVec.ofInt (IntKind.bits .i64) (Int.fdiv (IntKind.wrap .i64 ((IntKind.wrap .i64 (c.h * 6364136223846793005)) + 1442695040888963407)) (2 ^ min ((47 : Int)).toNat (IntKind.bits .i64)))).toNat) &&& BitVec.ofInt (IntKind.bits .i64) 255).toNat) + (IntKind.wrap .i64 v)))
  simp only [cond_true,Option.bind_some]
  exact ⟨_,_,rfl,by rw [e]; exact e1,by rw [e]; exact e2,by have := h.1; show 0 ≤ c.i + 1; omega,h.2⟩
 ·rw [decide_eq_false hi]
  obtain ⟨w,e,e1,e2⟩ := zIq (IntKind.wrap .i64 (BitVec.ofInt (IntKind.bits .i64) (Int.fdiv (IntKind.wrap .i64 ((IntKind.wrap .i64 (c.h * 6364136223846793005)) + 1442695040888963407)) (2 ^ min ((33 : Int)).toNat (IntKind.bits .i64))) ^^^ BitVec.ofInt (IntKind.bits .i64) (Int.fdiv (IntKind.wrap .i64 ((IntKind.wrap .i64 (c.h * 6364136223846793005)) + 1442695040888963407)) (2 ^ min ((47 : Int)).toNat (IntKind.bits .i64)))).toNat)
  simp only [cond_false]
  exact ⟨_,_,rfl,by rw [e]; exact e1,by rw [e]; exact e2,h.1,h.2⟩
theorem zIM {v k : Int} (h0 : 0 ≤ v) (hk : 0 < k) : 0 ≤ Int.tmod v k ∧ Int.tmod v k < k := by
 rw [Int.tmod_eq_emod_of_nonneg h0]
 exact ⟨Int.emod_nonneg _ (by omega),Int.emod_lt_of_pos _ hk⟩
theorem zc (n : Nat) (c : Src) (k : Int) (h : c.ok) : ∃ v c',za n c k = some (v,c') ∧ 0 ≤ v ∧ (0 < k → v < k) ∧ c'.ok := by
 unfold za
 by_cases h1 : k ≤ 0
 ·rw [decide_eq_true h1]
  exact ⟨0,c,rfl,by omega,fun h => by omega,h⟩
 ·rw [decide_eq_false h1]
  have hne : decide ((k : Int) ≠ 0) = true := decide_eq_true (by omega)
  by_cases h2 : k ≤ 256
  ·rw [decide_eq_true h2]
   obtain ⟨v,c',e,e1,e2,e3⟩ := Q9 n c h
   simp only [cond_true,cond_false,e,Option.bind_some,hne]
   obtain ⟨t1,t2⟩ := zIM e1 (show 0 < k by omega)
   exact ⟨_,_,rfl,t1,fun _ => t2,e3⟩
  ·rw [decide_eq_false h2]
   obtain ⟨v1,c1,e,e1,e2,e3⟩ := Q9 n c h
   obtain ⟨v2,c2,f,f1,f2,f3⟩ := Q9 n c1 e3
   obtain ⟨v3,c3,g,g1,g2,g3⟩ := Q9 n c2 f3
   simp only [cond_false,e,f,g,Option.bind_some,hne,cond_true]
   simp (disch := omega) only [wrap64]
   obtain ⟨t1,t2⟩ := zIM (show 0 ≤ v1 * 65536 + v2 * 256 + v3 by omega) (show 0 < k by omega)
   exact ⟨_,_,rfl,t1,fun _ => t2,g3⟩
theorem zAb (n : Nat) (c : Src) (k : Int) (h : c.ok) : ∃ v c',Zz n c k = some (v,c') ∧ c'.ok := by
 obtain ⟨v,c',e,_,_,e3⟩ := zc n c k h
 unfold Zz
 rw [e]
 exact ⟨_,_,rfl,e3⟩
theorem ZJ (n : Nat) (c : Src) (xs : List Int) (h : c.ok) (hx : 0 < xs.length) : ∃ v c',qw n c xs = some (v,c') ∧ v ∈ xs ∧ c'.ok := by
 obtain ⟨v,c',e,e1,e2,e3⟩ := zc n c (xs.length : Int) h
 obtain ⟨u,hu,hm⟩ := zCX (xs := xs) e1 (e2 (by omega))
 unfold qw
 simp only [e,hu,Option.bind_some]
 exact ⟨_,_,rfl,hm,e3⟩
theorem zBR (n : Nat) (x0 : List Int) (h : x0.length ≤ 1048580) : ∀ (m k : Nat) (y : Int),k ≤ x0.length → x0.length < m + k → ∃ v,QA n m x0 k y = some (.inl v)
 | 0,k,y,h1,h2 => by omega
 | m + 1,k,y,h1,h2 => by
  rw [QA]
  by_cases hk : k < x0.length
  ·rw [qd hk,zg hk,zm (by omega)]
   by_cases h4 : (k : Int) < 4000
   ·rw [decide_eq_true h4]
    simp only [cond_true,Option.bind_some]
    exact zBR n x0 h m (k + 1) _ (by omega) (by omega)
   ·rw [decide_eq_false h4]
    exact ⟨_,rfl⟩
  ·have he : k = x0.length := by omega
   rw [he,qR]
   exact ⟨_,rfl⟩
theorem zGD (n : Nat) (x0 : List Int) (h : x0.length ≤ 1048580) (hn : x0.length < n) : ∃ c,Jy n x0 = some c ∧ c.ok := by
 obtain ⟨v,e⟩ := zBR n x0 h n 0 (IntKind.wrap .i64 (762762 + (x0.length : Int))) (by omega) (by omega)
 unfold Jy
 rw [show QA n n x0 0 (IntKind.wrap .i64 (762762 + (x0.length : Int))) = _ from e]
 exact ⟨_,rfl,by show (0 : Int) ≤ 0; omega,by show x0.length ≤ _; omega⟩
def zFR (xs : List zC) (k : Nat) : Prop := ∀ j (hj : j + 1 < xs.length),k ≤ j + 1 → xs[j].Id < xs[j + 1].Id
theorem zJe : ∀ k < 6,∀ a < 64,IntKind.wrap .i64 (BitVec.ofInt (IntKind.bits .i64) (a : Nat) ||| BitVec.ofInt (IntKind.bits .i64) (IntKind.wrap .i64 (1 * 2 ^ min ((k : Nat) : Int).toNat (IntKind.bits .i64)))).toNat = ((a ||| 2 ^ k : Nat) : Int) := by decide +kernel
theorem zBC (n : Nat) (x0 : zE) (x1 : Int) (h : x0.Rows.length ≤ 1048580) : ∀ (m k : Nat),k ≤ x0.Rows.length → x0.Rows.length < m + k → Tot (zn n m x0 x1 k)
 | 0,k,h1,h2 => by omega
 | m + 1,k,h1,h2 => by
  rw [zn]
  refine Tot.step (fun hk => ?_) .of
  have ih := zBC n x0 x1 h m (k + 1) (by omega) (by omega)
  simp only [zg hk,Option.bind_some,zR,zm (by omega : k ≤ 1099511627776)]
  refine Tot.bif (fun _ => .of) fun _ => Tot.bif (fun _ => .of) fun _ => Tot.bif (fun _ => .of) fun _ => Tot.bif (fun _ => .of) fun _ => Tot.bif (fun hp => ?_) fun _ => ih
  have hp := of_decide_eq_true hp
  obtain ⟨v,hv,_⟩ := zCX (xs := x0.Rows) (i := (k : Int) - 1) (by omega) (by omega)
  rw [wrap64 (by omega) (by omega),hv,Option.bind_some]
  exact Tot.bif (fun _ => .of) fun _ => ih
theorem zBB (n : Nat) (x0 : zE) (h : x0.Rows.length ≤ 1048580) (hn : x0.Rows.length < n) (hq : x0.Pv.length ≤ 1048580) : ∀ (m k : Nat),k ≤ x0.Pv.length → x0.Pv.length < m + k → Tot (qA n m x0 k)
 | 0,k,h1,h2 => by omega
 | m + 1,k,h1,h2 => by
  rw [qA]
  refine Tot.step (fun hk => ?_) .of
  have ih := zBB n x0 h hn hq m (k + 1) (by omega) (by omega)
  obtain ⟨r,hr,_⟩ := Zp n x0 x0.Pv[k] h hn
  simp only [zg hk,Option.bind_some,hr,zm (by omega : k ≤ 1099511627776)]
  exact Tot.bif (fun _ => .of) fun _ => ih
theorem zEq (n : Nat) (x0 : zE) (p : Nat) (hp : p ≤ 1000000) (h : x0.sz ≤ 1048580) (hn : x0.sz < n) : Tot (zq n x0 p) := by
 have hs : x0.Rows.length + x0.Pv.length = x0.sz := rfl
 unfold zq
 simp only [zR,Option.bind_some]
 have hu : decide ((0 : Int) ≤ IntKind.wrap .u64 (p : Int)) = true := by rw [show IntKind.wrap .u64 (p : Int) = p from by show ((p : Int) % 18446744073709551616) = p; omega]; exact decide_eq_true (by omega)
 refine Tot.bif (fun _ => .of) fun _ => Tot.bif (fun _ => .of) fun _ => Tot.bif (fun _ => .of) fun _ => ?_
 rw [hu,cond_true]
 refine Tot.bind (zBC n x0 p (by omega) n 0 (by omega) (by omega)) fun o _ => ?_
 cases o with
 | inr b => exact Tot.of
 | inl u =>
  show Tot (Zq n x0)
  unfold Zq
  refine Tot.bind (zBB n x0 (by omega) (by omega) (by omega) n 0 (by omega) (by omega)) fun o _ => ?_
  cases o <;> exact Tot.of
theorem zEp (n : Nat) (x : zE) (p : Int) (hok : zq n x p = some true) : x.Rows.length ≤ 6 ∧ (x.Pv.length : Int) = p := by
 unfold zq at hok
 simp only [zR,Option.bind_some] at hok
 revert hok
 cases (decide (1 ≤ p) && decide (p ≤ 6)) with
 | false => intro h; cases h
 | true =>
  simp only [Bool.not_true,cond_false]
  by_cases hp : (x.Pv.length : Int) = p
  ·have : ((x.Pv.length : Int) != p) = false := by simp [hp]
   rw [this,cond_false]
   by_cases hr : (x.Rows.length : Int) > 6
   ·rw [decide_eq_true hr]; intro h; cases h
   ·exact fun _ => ⟨by omega,hp⟩
  ·have : ((x.Pv.length : Int) != p) = true := by simp [hp]
   rw [this]; intro h; cases h
def VtG (n p : Nat) (x : zE) : Prop := x.wf ∧ x.Pv.length = p ∧ x.Rows.length ≤ 6 ∧ zq n x p = some true ∧ ∀ r ∈ x.Rows,0 ≤ r.Bare ∧ r.Bare ≤ 63
theorem VtG.sz {n p : Nat} {x : zE} (h : VtG n p x) : x.sz ≤ 6 + p := by
 have hs : x.Rows.length + x.Pv.length = x.sz := rfl
 have := h.2.1; have := h.2.2.1; omega
theorem zBI (n p : Nat) (hp : p ≤ 1000) (x y : zE) (hx : VtG n p x) (wy : y.wf) (hy : y.Pv.length = p) (hl : y.Rows.length ≤ 1000) (hb : ∀ r ∈ y.Rows,0 ≤ r.Bare ∧ r.Bare ≤ 63) (hn : 1048577 < n) : ∃ r b,Yh n y x = some (r,b) ∧ VtG n p r := by
 have hs : y.Rows.length + y.Pv.length = y.sz := rfl
 have hxs := hx.sz
 obtain ⟨b,e⟩ := zEq n y p (by omega) (by omega) (by omega)
 unfold Yh
 rw [hx.2.1,e,Option.bind_some,YA n x (by omega)]
 cases b
 ·exact ⟨x,false,rfl,hx⟩
 ·exact ⟨y,true,rfl,wy,hy,(zEp n y p e).1,e,hb⟩
theorem zEn (n p : Nat) (hp : p ≤ 1000) (x : zE) (hx : VtG n p x) (i id : Int) (wi : z5 id) (hn : 1048577 < n) : ∃ r b,Yo n x i id = some (r,b) ∧ VtG n p r := by
 have hxs := hx.sz
 have hpl := hx.2.1
 have hw : IntKind.wrap .i64 ((p : Int) - 1) = (p : Int) - 1 := wrap64 (by omega) (by omega)
 unfold Yo
 simp only [hpl,hx.2.2.2.1,Option.bind_some,Bool.not_true,cond_false,zR,hw,YA n x (by omega)]
 by_cases hi : 0 ≤ i ∧ i ≤ (p : Int) - 1
 ·obtain ⟨v,hv,_⟩ := zCX (xs := x.Pv) hi.1 (by omega)
  obtain ⟨r,b,e,g⟩ := zBI n p hp x ⟨x.Rows,x.Pv.set i.toNat id⟩ hx ⟨hx.1.1,zIZ hx.1.2.1 wi,trivial⟩ (by simp [hpl]) (by have := hx.2.2.1; show x.Rows.length ≤ 1000; omega) hx.2.2.2.2 hn
  rw [decide_eq_true hi.1,decide_eq_true hi.2]
  simp only [Bool.and_self,Bool.not_true,cond_false,hv,Option.bind_some,e]
  exact ⟨r,b,rfl,g⟩
 ·have hp' : (decide (0 ≤ i) && decide (i ≤ (p : Int) - 1)) = false := by
   simp only [Bool.and_eq_false_iff,decide_eq_false_iff_not]; omega
  rw [hp']
  exact ⟨x,false,rfl,hx⟩
theorem zEj (n p : Nat) (hp : p ≤ 1000) (x : zE) (hx : VtG n p x) (id : Int) (hn : 1048577 < n) : ∃ r b,Qz n x id = some (r,b) ∧ VtG n p r := by
 have hxs := hx.sz
 have hpl := hx.2.1
 have h6 := hx.2.2.1
 obtain ⟨r,hr,hk⟩ := Zp n x id (by omega) (by omega)
 rcases hk with ⟨rfl,_⟩ | ⟨v,h0,hv,_⟩
 ·refine ⟨x,false,?_,hx⟩
  simp only [Qz,hr,hpl,hx.2.2.2.1,Option.bind_some,YA n x (by omega)]
  rfl
 ·obtain ⟨g1,g2⟩ := zY hv
  have hlt : r.toNat < x.Rows.length := (List.getElem?_eq_some_iff.1 g2).1
  obtain ⟨k,rfl⟩ : ∃ k : Nat,r = k := ⟨r.toNat,by omega⟩
  simp only [Int.toNat_natCast] at hlt
  have hw : IntKind.wrap .i64 ((k : Int) + 1) = ((k + 1 : Nat) : Int) := zm (by omega)
  have hlist : (([] : List zC) ++ ((x.Rows.drop ((0 : Int)).toNat).take (((k : Int)).toNat - ((0 : Int)).toNat))) ++ ((x.Rows.drop ((((k + 1 : Nat) : Int))).toNat).take ((((x.Rows.length : Int) : Int)).toNat - ((((k + 1 : Nat) : Int))).toNat)) = x.Rows.take k ++ x.Rows.drop (k + 1) := by
   simp only [Int.toNat_natCast,List.nil_append,show ((0 : Int)).toNat = 0 from rfl,List.drop_zero,Nat.sub_zero]
   congr 1
   exact List.take_of_length_le (by simp)
  have hmem : ∀ y ∈ x.Rows.take k ++ x.Rows.drop (k + 1),y ∈ x.Rows := fun y hy => by
   rcases List.mem_append.1 hy with h | h
   ·exact List.mem_of_mem_take h
   ·exact List.mem_of_mem_drop h
  obtain ⟨y,b,e,g⟩ := zBI n p hp x ⟨x.Rows.take k ++ x.Rows.drop (k + 1),x.Pv⟩ hx ⟨zIa hx.1.1 hmem (by simp; omega),hx.1.2⟩ hpl (by show (x.Rows.take k ++ x.Rows.drop (k + 1)).length ≤ 1000; simp; omega) (fun r hr => hx.2.2.2.2 r (hmem r hr)) hn
  have hg1 : (decide ((0 : Int) ≤ 0) && (decide ((0 : Int) ≤ (k : Int)) && decide ((k : Int) ≤ (x.Rows.length : Int)))) = true := by
   rw [decide_eq_true (by omega : (0 : Int) ≤ (k : Int)),decide_eq_true (by omega : (k : Int) ≤ (x.Rows.length : Int))]; rfl
  have hg2 : (decide ((0 : Int) ≤ ((k + 1 : Nat) : Int)) && (decide ((((k + 1 : Nat) : Int) : Int) ≤ (x.Rows.length : Int)) && decide (((x.Rows.length : Int) : Int) ≤ (x.Rows.length : Int)))) = true := by
   rw [decide_eq_true (by omega : (0 : Int) ≤ ((k + 1 : Nat) : Int)),decide_eq_true (by omega : ((k + 1 : Nat) : Int) ≤ (x.Rows.length : Int)),decide_eq_true (Int.le_refl _)]; rfl
  have hg3 : decide (([] : List zC).length + ((x.Rows.drop ((0 : Int)).toNat).take (((k : Int)).toNat - ((0 : Int)).toNat)).length ≤ 268435456) = true := decide_eq_true (by simp; omega)
  have hg4 : decide ((([] : List zC) ++ ((x.Rows.drop ((0 : Int)).toNat).take (((k : Int)).toNat - ((0 : Int)).toNat))).length + ((x.Rows.drop ((((k + 1 : Nat) : Int))).toNat).take ((((x.Rows.length : Int) : Int)).toNat - ((((k + 1 : Nat) : Int))).toNat)).length ≤ 268435456) = true := decide_eq_true (by simp; omega)
  have hn0 : decide ((k : Int) < 0) = false := decide_eq_false (by omega)
  refine ⟨y,b,?_,g⟩
  simp only [Qz,hr,hpl,hx.2.2.2.1,Option.bind_some,Bool.not_true,YA n x (by omega),hn0,cond_false,hw,hg1,hg2,hg3,hg4,cond_true,hlist,e]
theorem zBU (n : Nat) (x0 : zE) (r : zC) (h : x0.Rows.length ≤ 1000) : ∀ (m k : Nat) (d : Bool) (acc : List zC),k ≤ x0.Rows.length → x0.Rows.length < m + k → acc.length ≤ 2 * k → (∀ v ∈ acc,v = r ∨ v ∈ x0.Rows) → ∃ d' acc',qe n m x0 r k d acc = some (.inl (d',acc')) ∧ acc'.length ≤ 2 * x0.Rows.length ∧ (∀ v ∈ acc',v = r ∨ v ∈ x0.Rows)
 | 0,k,d,acc,h1,h2,_,_ => by omega
 | m + 1,k,d,acc,h1,h2,h3,h4 => by
  rw [qe]
  by_cases hk : k < x0.Rows.length
  ·have ih := fun d acc h3 h4 => zBU n x0 r h m (k + 1) d acc (by omega) (by omega) h3 h4
   have hmem : x0.Rows[k] ∈ x0.Rows := List.getElem_mem hk
   have hj : ∀ b1 b2 b3 (d : Bool) (acc : List zC),acc.length ≤ 2 * k + 1 → (∀ v ∈ acc,v = r ∨ v ∈ x0.Rows) → ∃ d' acc',QB n (fun v => qe n m x0 r v.1 v.2.1 v.2.2) x0 r k b1 b2 b3 d acc = some (.inl (d',acc')) ∧ acc'.length ≤ 2 * x0.Rows.length ∧ (∀ v ∈ acc',v = r ∨ v ∈ x0.Rows) := fun b1 b2 b3 d acc hl ha => by
    have hlen : decide (acc.length + [x0.Rows[k]].length ≤ 268435456) = true := decide_eq_true (by rw [List.length_singleton]; omega)
    simp only [QB,zg hk,Option.bind_some,hlen,cond_true,zm (by omega : k ≤ 1099511627776)]
    cases (x0.Rows[k].Id != r.Id)
    ·exact ih d acc (by omega) ha
    ·refine ih d _ (by simp; omega) fun v hv => ?_
     rcases List.mem_append.1 hv with a | a
     ·exact ha v a
     ·rw [List.mem_singleton.1 a]; exact .inr hmem
   have hlen : decide (acc.length + [r].length ≤ 268435456) = true := decide_eq_true (by rw [List.length_singleton]; omega)
   simp only [qd hk,cond_true,zg hk,Option.bind_some,hlen]
   cases d
   ·simp only [Bool.not_false,cond_true]
    cases (decide (x0.Rows[k].Id ≥ r.Id))
    ·simp only [cond_false]; exact hj _ _ _ _ _ (by omega) h4
    ·simp only [cond_true]
     refine hj _ _ _ _ _ (by simp; omega) fun v hv => ?_
     rcases List.mem_append.1 hv with a | a
     ·exact h4 v a
     ·exact .inl (List.mem_singleton.1 a)
   ·simp only [Bool.not_true,cond_false]; exact hj _ _ _ _ _ (by omega) h4
  ·have he : k = x0.Rows.length := by omega
   subst he
   rw [qR,cond_false]
   exact ⟨d,acc,rfl,h3,h4⟩
theorem zFZ (n : Nat) (x : zE) (r : zC) (h : x.Rows.length ≤ 1000) (hq : x.Pv.length ≤ 1000) (hn : 1000 < n) : ∃ y,J0 n x r = some y ∧ y.Pv = x.Pv ∧ y.Rows.length ≤ 2 * x.Rows.length + 1 ∧ (∀ v ∈ y.Rows,v = r ∨ v ∈ x.Rows) := by
 obtain ⟨d,acc,e,h1,h2⟩ := zBU n x r h n 0 false [] (by omega) (by omega) (by simp) (by simp)
 have e : qe n n x r 0 false ([] : List zC) = some (.inl (d,acc)) := e
 unfold J0
 rw [decide_eq_true (by simp; omega),cond_true,e,Option.bind_some]
 simp only [Yu,List.nil_append]
 have hlen : decide (acc.length + [r].length ≤ 268435456) = true := decide_eq_true (by rw [List.length_singleton]; omega)
 rw [hlen]
 cases d
 ·refine ⟨_,rfl,rfl,by simp; omega,fun v hv => ?_⟩
  rcases List.mem_append.1 hv with a | a
  ·exact h2 v a
  ·exact .inl (List.mem_singleton.1 a)
 ·exact ⟨_,rfl,rfl,by simp; omega,h2⟩
theorem zJ5 {xs ys : List zC} {r : zC} (hx : QD zC.wf xs) (wr : r.wf) (hl : ys.length ≤ 4000) (h : ∀ v ∈ ys,v = r ∨ v ∈ xs) : QD zC.wf ys := ⟨Nat.le_trans hl (by decide),fun v hv => by
 rcases h v hv with a | a
 ·rw [a]; exact wr
 ·exact hx.2 v a⟩
theorem zFU (n p : Nat) (hp : p ≤ 1000) (x : zE) (hx : VtG n p x) (r : zC) (wr : r.wf) (hr : 0 ≤ r.Bare ∧ r.Bare ≤ 63) (hn : 1048577 < n) : ∃ y b,JS n x r = some (y,b) ∧ VtG n p y := by
 have hxs := hx.sz
 have hpl := hx.2.1
 have h6 := hx.2.2.1
 obtain ⟨z,e,e1,e2,e3⟩ := zFZ n x r (by omega) (by omega) (by omega)
 have wz : z.wf := ⟨zJ5 hx.1.1 wr (by omega) e3,by rw [e1]; exact hx.1.2.1,trivial⟩
 obtain ⟨y,b,f,g⟩ := zBI n p hp x z hx wz (by rw [e1]; exact hpl) (by omega) (fun v hv => by
  rcases e3 v hv with a | a
  ·rw [a]; exact hr
  ·exact hx.2.2.2.2 v a) hn
 refine ⟨y,b,?_,g⟩
 simp only [JS,hpl,hx.2.2.2.1,Option.bind_some,Bool.not_true,cond_false,e,f]
theorem zr {z : Int} (h0 : -1000000 ≤ z) (h1 : z ≤ 1000000) : z5 z := by
 show (Lit.int .i64 z).wf = true
 simp [Lit.wf,show IntKind.wrap .i64 z = z from wrap64 (by omega) (by omega)]
 exact ⟨by show (-9223372036854775808 : Int) ≤ z; omega,by omega⟩
theorem zJF : ∀ a < 64,∀ b < 64,IntKind.wrap .i64 (BitVec.ofInt (IntKind.bits .i64) ((a : Nat) : Int) &&& BitVec.ofInt (IntKind.bits .i64) ((b : Nat) : Int)).toNat = ((a &&& b : Nat) : Int) := by decide +kernel
theorem zDh : ∀ p < 7,IntKind.wrap .u64 ((p : Nat) : Int) = p ∧ IntKind.wrap .i64 ((IntKind.wrap .i64 ((IntKind.wrap .i64 (1 * 2 ^ min (((IntKind.wrap .u64 ((p : Nat) : Int)) : Int)).toNat (IntKind.bits .i64))) - 1)) + 1) = ((2 ^ p : Nat) : Int) ∧ (IntKind.wrap .i64 ((IntKind.wrap .i64 (1 * 2 ^ min (((IntKind.wrap .u64 ((p : Nat) : Int)) : Int)).toNat (IntKind.bits .i64))) - 1)) = ((2 ^ p - 1 : Nat) : Int) ∧ 1 ≤ 2 ^ p ∧ 2 ^ p ≤ 64 := by decide +kernel
theorem zFY (n p : Nat) (hp : p < 7) (c : Src) (h : c.ok) : ∃ v c',JY n c p = some (v,c') ∧ v.wf ∧ 0 ≤ v.Bare ∧ v.Bare ≤ 63 ∧ c'.ok := by
 obtain ⟨s1,s2,s3,s4,s5⟩ := zDh p hp
 obtain ⟨v1,c1,e1,a1,b1,g1⟩ := zc n c ((2 ^ p : Nat) : Int) h
 obtain ⟨v2,c2,e2,a2,g2⟩ := ZJ n c1 [1,2,3,2] g1 (by decide)
 obtain ⟨v3,c3,e3,a3,b3,g3⟩ := zc n c2 ((2 ^ p : Nat) : Int) g2
 have b1 := b1 (by omega)
 have b3 := b3 (by omega)
 obtain ⟨x,rfl⟩ : ∃ x : Nat,v1 = x := ⟨v1.toNat,by omega⟩
 obtain ⟨y,rfl⟩ : ∃ y : Nat,v3 = y := ⟨v3.toNat,by omega⟩
 have hand := zJF x (by omega) y (by omega)
 have hle : x &&& y ≤ x := Nat.and_le_left
 have hu : decide ((0 : Int) ≤ IntKind.wrap .u64 ((p : Nat) : Int)) = true := decide_eq_true (by rw [s1]; omega)
 unfold JY
 simp only [s2,hu,cond_true,e1,e2,e3,Option.bind_some,hand]
 have w1 : z5 v2 := by
  simp only [List.mem_cons,List.not_mem_nil,or_false] at a2
  refine zr ?_ ?_ <;> rcases a2 with a | a | a | a <;> omega
 have w2 : z5 ((x : Nat) : Int) := zr (by omega) (by omega)
 have w3 : z5 ((x &&& y : Nat) : Int) := zr (by omega) (by omega)
 refine ⟨_,_,rfl,⟨w1,w2,w3,trivial⟩,?_,?_,g3⟩
 ·show (0 : Int) ≤ ((x &&& y : Nat) : Int); omega
 ·show ((x &&& y : Nat) : Int) ≤ 63; omega
theorem zBA (n p : Nat) (hp : p ≤ 1000) : ∀ (m k : Nat) (acc : List Int),k ≤ p → p < m + k → acc = List.replicate k 1 → ZR n m p k acc = some (.inl (List.replicate p 1))
 | 0,k,acc,h1,h2,h3 => by omega
 | m + 1,k,acc,h1,h2,h3 => by
  rw [ZR]
  by_cases hk : k < p
  ·have hlen : decide (acc.length + [(1 : Int)].length ≤ 268435456) = true := decide_eq_true (by rw [List.length_singleton,h3]; simp; omega)
   simp only [qd hk,cond_true,zm (by omega : k ≤ 1099511627776)]
   refine Eq.trans (congrArg (fun b => cond b _ none) hlen) ?_
   exact zBA n p hp m (k + 1) (acc ++ [1]) (by omega) (by omega) (by rw [h3,← List.replicate_succ'])
  ·have he : k = p := by omega
   subst he
   rw [qR,cond_false,h3]
theorem zEo (n p : Nat) (h0 : 1 ≤ p) (h1 : p < 7) (hn : 1000 < n) : QZ n p = some ⟨[⟨1,((2 ^ p - 1 : Nat) : Int),((2 ^ p - 1 : Nat) : Int)⟩],List.replicate p 1⟩ := by
 obtain ⟨s1,s2,s3,s4,s5⟩ := zDh p h1
 have e := zBA n p (by omega) n 0 [] (by omega) (by omega) rfl
 have e : ZR n n p 0 ([] : List Int) = some (.inl (List.replicate p 1)) := e
 unfold QZ
 have hu : decide ((0 : Int) ≤ IntKind.wrap .u64 ((p : Nat) : Int)) = true := decide_eq_true (by rw [s1]; omega)
 simp only [zR,Option.bind_some,decide_eq_true (show (1 : Int) ≤ (p : Int) by omega),decide_eq_true (show (p : Int) ≤ 6 by omega),Bool.and_self,Bool.not_true,cond_false,hu,cond_true,e,Q8,s3]
theorem zKe : ∀ p < 7,1 ≤ p → zq 1048580 ⟨[⟨1,((2 ^ p - 1 : Nat) : Int),((2 ^ p - 1 : Nat) : Int)⟩],List.replicate p 1⟩ ((p : Nat) : Int) = some true := by decide +kernel
theorem zKd (p : Nat) (h0 : 1 ≤ p) (h1 : p < 7) : ∃ v,QZ 1048580 p = some v ∧ VtG 1048580 p v := by
 obtain ⟨s1,s2,s3,s4,s5⟩ := zDh p h1
 have w : z5 ((2 ^ p - 1 : Nat) : Int) := zr (by omega) (by omega)
 refine ⟨_,zEo 1048580 p h0 h1 (by omega),⟨⟨by show 1 ≤ maxLen; decide,fun v hv => ?_⟩,⟨by rw [List.length_replicate]; exact Nat.le_trans (Nat.le_of_lt h1) (by decide),fun v hv => ?_⟩,trivial⟩,List.length_replicate,by show 1 ≤ 6; decide,zKe p h1 h0,fun v hv => ?_⟩
 ·rw [List.mem_singleton.1 hv]; have w1 : z5 1 := zr (by decide) (by decide)
  exact ⟨w1,w,w,trivial⟩
 ·rw [(List.mem_replicate.1 hv).2]; exact zr (by decide) (by decide)
 ·rw [List.mem_singleton.1 hv]
  have h : (0 : Int) ≤ ((2 ^ p - 1 : Nat) : Int) ∧ ((2 ^ p - 1 : Nat) : Int) ≤ 63 := by omega
  exact h
theorem zBT (p : Nat) (h0 : 1 ≤ p) (h7 : p < 7) : ∀ (m k : Nat) (c : Src) (v : zE),k < m → k ≤ 1000 → c.ok → VtG 1048580 p v → ∃ (c' : Src) (v' : zE),ZK 1048580 m p k c.b c.i c.h v.Rows v.Pv = some (.inl (c'.b,c'.i,c'.h,v'.Rows,v'.Pv)) ∧ c'.ok ∧ VtG 1048580 p v'
 | 0,k,c,v,h1,h2,h3,h4 => by omega
 | m + 1,k,c,v,h1,h2,h3,h4 => by
  rw [ZK]
  by_cases hk : 0 < k
  ·obtain ⟨j,rfl⟩ : ∃ j,k = j + 1 := ⟨k - 1,by omega⟩
   have hw : IntKind.wrap .i64 (((j + 1 : Nat) : Int) - 1) = (j : Nat) := by rw [wrap64 (by omega) (by omega)]; omega
   have ih := fun c v h3 h4 => zBT p h0 h7 m j c v (by omega) (by omega) h3 h4
   obtain ⟨v1,c1,e1,a1,b1,g1⟩ := zc 1048580 c 4 h3
   obtain ⟨v2,c2,e2,a2,b2,g2⟩ := zc 1048580 c1 (p : Int) g1
   obtain ⟨v3,c3,e3,a3,b3,g3⟩ := zc 1048580 c2 3 g2
   obtain ⟨v4,c4,e4,a4,b4,g4⟩ := zc 1048580 c1 2 g1
   obtain ⟨v5,c5,e5,w5,p5,q5,g5⟩ := zFY 1048580 p h7 c1 g1
   have b3 := b3 (by decide)
   have b4 := b4 (by decide)
   obtain ⟨y2,d2,f2,k2⟩ := zEn 1048580 p (by omega) v h4 v2 (1 + v3) (zr (by omega) (by omega)) (by omega)
   obtain ⟨y4,d4,f4,k4⟩ := zEj 1048580 p (by omega) v h4 (2 + v4) (by omega)
   obtain ⟨y5,d5,f5,k5⟩ := zFU 1048580 p (by omega) v h4 v5 w5 ⟨p5,q5⟩ (by omega)
   have hpos : decide (((j + 1 : Nat) : Int) > 0) = true := decide_eq_true (by omega)
   simp only [hpos,cond_true,e1,Option.bind_some,e2,e3,e4,e5,hw,wrap64 (show -9223372036854775808 ≤ 1 + v3 by omega) (by omega),wrap64 (show -9223372036854775808 ≤ 2 + v4 by omega) (by omega),f2,f4,f5]
   cases (v1 == 0)
   ·cases (v1 == 1)
    ·exact ih c5 y5 g5 k5
    ·exact ih c4 y4 g4 k4
   ·exact ih c3 y2 g3 k2
  ·have : k = 0 := by omega
   subst this
   exact ⟨c,v,rfl,h3,h4⟩
theorem zFX (p : Nat) (h0 : 1 ≤ p) (h7 : p < 7) (c : Src) (h : c.ok) : ∃ v c',JX 1048580 c p = some (v,c') ∧ VtG 1048580 p v ∧ c'.ok := by
 obtain ⟨v0,e0,g0⟩ := zKd p h0 h7
 obtain ⟨v1,c1,e1,a1,b1,g1⟩ := zc 1048580 c 6 h
 have b1 := b1 (by decide)
 obtain ⟨k,rfl⟩ : ∃ k : Nat,v1 = k := ⟨v1.toNat,by omega⟩
 obtain ⟨c',v',e,g,g'⟩ := zBT p h0 h7 1048580 k c1 v0 (by omega) (by omega) g1 g0
 unfold JX
 rw [e0,Option.bind_some,e1,Option.bind_some,e]
 exact ⟨v',c',rfl,g',g⟩
def QV (a : Int) (i : Nat) : Bool := (IntKind.wrap .i64 (BitVec.ofInt (IntKind.bits .i64) (Int.fdiv a (2 ^ min ((i : Int)).toNat (IntKind.bits .i64))) &&& BitVec.ofInt (IntKind.bits .i64) 1).toNat == 1)
theorem Qb (n : Nat) (a : Int) (i : Nat) (h : i ≤ 62) : ql n a i = some (QV a i) := by
 unfold ql
 simp only [QG,zR,Option.bind_some,decide_eq_true (show (0 : Int) ≤ (i : Int) by omega),decide_eq_true (show (i : Int) ≤ 62 by omega),Bool.and_self,cond_true]
 rfl
theorem ZU (n : Nat) (a : Int) (i : Nat) (h : i ≤ 7) : ZY n a i = some (QV a i) := by
 unfold ZY
 have hu : IntKind.wrap .u64 (i : Int) = i := zBg (by omega)
 simp only [zR,Option.bind_some,decide_eq_true (show (0 : Int) ≤ (i : Int) by omega),decide_eq_true (show (i : Int) ≤ 7 by omega),Bool.and_self,cond_true,hu]
 rfl
theorem zCJ (n : Nat) (a i : Int) (h : i < 0 ∨ 7 < i) : ZY n a i = some false := by
 unfold ZY
 have : (decide ((0 : Int) ≤ i) && decide (i ≤ 7)) = false := by
  simp only [Bool.and_eq_false_iff,decide_eq_false_iff_not]; omega
 simp only [zR,Option.bind_some,this,cond_false]
theorem Je (n : Nat) (a : Int) (i : Nat) (h : i ≤ 7) : qM n a i = some (QV a i) := by
 unfold qM
 have hu : IntKind.wrap .u64 (i : Int) = i := zBg (by omega)
 simp only [decide_eq_true (show (i : Int) ≥ 0 by omega),decide_eq_true (show (i : Int) < 8 by omega),cond_true,hu,decide_eq_true (show (0 : Int) ≤ (i : Int) by omega)]
 rfl
theorem JR (n : Nat) (x : zE) (h : x.Rows.length ≤ 1048580) (hn : x.Rows.length < n) (hq : x.Pv.length ≤ 1048580) (p t : Int) (hp : -1 ≤ p ∧ p ≤ 7) : ∃ a b,Za n x p t = some (a,b) ∧ QW n x p t = some (a,b) ∧ (b = true → ∃ (i : Nat) (m : Int),p = i ∧ i ≤ 7 ∧ qG n x a = some m ∧ QV m i = true) := by
 have hw : IntKind.wrap .i64 ((x.Pv.length : Int) - 1) = (x.Pv.length : Int) - 1 := wrap64 (by omega) (by omega)
 by_cases hi : 0 ≤ p ∧ p ≤ (x.Pv.length : Int) - 1
 ·obtain ⟨i,rfl⟩ : ∃ i : Nat,p = i := ⟨p.toNat,by omega⟩
  obtain ⟨v,hv,_⟩ := zCX (xs := x.Pv) hi.1 (by omega)
  have hj : ∀ z,∃ a b,ZQ n x i z = some (a,b) ∧ Zs n x i z = some (a,b) ∧ (b = true → ∃ (i' : Nat) (m : Int),(i : Int) = i' ∧ i' ≤ 7 ∧ qG n x a = some m ∧ QV m i' = true) := fun z => by
   obtain ⟨r,hr,hk⟩ := Zp n x z h hn
   unfold ZQ Zs
   rw [Jb,hr]
   simp only [Option.bind_some]
   by_cases hneg : r < 0
   ·rw [decide_eq_true hneg]
    exact ⟨0,false,rfl,rfl,by simp⟩
   ·rw [decide_eq_false hneg]
    rcases hk with ⟨rfl,_⟩ | ⟨u,h0,hu,_⟩
    ·omega
    simp only [cond_false,hu,Option.bind_some,ZU n u.Members i (by omega),Qb n u.Members i (by omega)]
    cases hb : QV u.Members i
    ·exact ⟨0,false,rfl,rfl,by simp⟩
    ·refine ⟨z,true,rfl,rfl,fun _ => ⟨i,u.Members,rfl,by omega,?_,hb⟩⟩
     rw [YF]
     unfold qU
     rw [hr]
     simp only [Option.bind_some,decide_eq_false hneg,cond_false,hu]
  unfold Za QW
  simp only [QG,zR,Option.bind_some,hw,decide_eq_true hi.1,decide_eq_true hi.2,Bool.and_self,Bool.not_true,cond_false,hv]
  cases (t == 0)
  ·exact hj t
  ·exact hj v
 ·have hp' : (decide (0 ≤ p) && decide (p ≤ (x.Pv.length : Int) - 1)) = false := by
   simp only [Bool.and_eq_false_iff,decide_eq_false_iff_not]; omega
  refine ⟨0,false,?_,?_,by simp⟩
  ·unfold Za
   simp only [zR,Option.bind_some,hw,hp',Bool.not_false,cond_true]
  ·unfold QW
   simp only [QG,zR,Option.bind_some,hw,hp',Bool.not_false,cond_true]
theorem zAq {c : Bool} {x : Option Bool} (h : (bif c then x else some false) = some true) : c = true ∧ x = some true := by
 cases c with
 | true => exact ⟨rfl,h⟩
 | false => cases h
theorem zEi {L : Nat → Int → Option (Unit ⊕ Bool)} {N : Nat} {P : Nat → Prop} (h0 : ∀ k,L 0 k = none) (hs : ∀ m (k : Nat) o,k < N → L (m + 1) (k : Int) = some o → o = .inr false ∨ (P k ∧ L m ((k + 1 : Nat) : Int) = some o)) (he : ∀ m o,L (m + 1) (N : Int) = some o → o = .inl ()) :
  ∀ (m k : Nat) o,k ≤ N → L m (k : Int) = some o → o = .inr false ∨ (o = .inl () ∧ ∀ j,k ≤ j → j < N → P j)
 | 0,k,o,_,h => by rw [h0] at h; cases h
 | m + 1,k,o,hk,h => by
  by_cases hlt : k < N
  ·rcases hs m k o hlt h with e | ⟨hp,h⟩
   ·exact .inl e
   ·rcases zEi h0 hs he m (k + 1) o (by omega) h with e | ⟨e,h2⟩
    ·exact .inl e
    ·refine .inr ⟨e,fun j hj hj2 => ?_⟩
     by_cases hjk : j = k
     ·subst hjk; exact hp
     ·exact h2 j (by omega) hj2
  ·have : k = N := by omega
   subst this
   exact .inr ⟨he m o h,fun j hj hj2 => by omega⟩
theorem zC9 (n : Nat) (x : zA) (hl : x.Ps.length ≤ 1048580) {o : Unit ⊕ Bool} (h : zl n n x 0 = some o) : o = .inr false ∨ (o = .inl () ∧ ∀ j (hj : j < x.Ps.length),qK n x.Ps[j] = some true) := by
 rcases zEi (L := fun m k => zl n m x k) (N := x.Ps.length) (P := fun j => ∀ hj : j < x.Ps.length,qK n x.Ps[j] = some true) (fun k => rfl) (fun m k o hk h => by
  simp only [zl] at h
  rw [qd hk,cond_true,zg hk,Option.bind_some,zm (by omega : k ≤ 1099511627776)] at h
  obtain ⟨b,hb⟩ := zCd n x.Ps[k]
  rw [hb,Option.bind_some] at h
  cases b with
  | true => exact .inr ⟨fun _ => hb,h⟩
  | false => cases h; exact .inl rfl) (fun m o h => by
  simp only [zl] at h
  rw [qR] at h; cases h; rfl) n 0 o (by omega) h with e | ⟨e,h2⟩
 ·exact .inl e
 ·exact .inr ⟨e,fun j hj => h2 j (by omega) hj hj⟩
theorem Qd (n : Nat) (x : zA) (hl : x.Ps.length ≤ 1048580) (h : qT n x = some true) : 1 ≤ x.Ps.length ∧ x.Ps.length ≤ 6 ∧ 1 ≤ x.Id ∧ x.Id ≤ 99 ∧ x.Name.size ≤ 10 ∧ qj n x.F = some true ∧ zq n x.V (x.Ps.length : Int) = some true ∧
  (0 ≤ x.Tk ∧ x.Tk ≤ 1000000) ∧ (0 ≤ x.Pa ∧ x.Pa ≤ 1000000) ∧ (0 ≤ x.Wo ∧ x.Wo ≤ 1000000) ∧ (0 ≤ x.Dr ∧ x.Dr ≤ 1000000) ∧ (0 ≤ x.Ve ∧ x.Ve ≤ 1000000) ∧ ∀ j (hj : j < x.Ps.length),qK n x.Ps[j] = some true := by
 unfold qT at h
 obtain ⟨o,ho,h⟩ := bind_some h
 rcases zC9 n x hl ho with rfl | ⟨rfl,hp⟩
 ·cases h
 ·simp only [Zg,QS,zR,Option.bind_some] at h
  obtain ⟨h1,h⟩ := zAq h
  obtain ⟨h2,h⟩ := zAq h
  obtain ⟨h3,h⟩ := zAq h
  obtain ⟨b4,h4,h⟩ := bind_some h
  obtain ⟨rfl,h⟩ := zAq h
  obtain ⟨b5,h5,h⟩ := bind_some h
  obtain ⟨rfl,h⟩ := zAq h
  obtain ⟨b6,h6,h⟩ := bind_some h
  cases h
  obtain ⟨h7,h6⟩ := zAq h6
  obtain ⟨h8,h6⟩ := zAq h6
  obtain ⟨h9,h6⟩ := zAq h6
  obtain ⟨h10,h6⟩ := zAq h6
  have h11 := Option.some.inj h6
  simp only [Bool.and_eq_true,decide_eq_true_eq] at h1 h2 h3 h7 h8 h9 h10 h11
  exact ⟨by omega,by omega,h1.1,h1.2,by omega,h4,h5,h7,h8,h9,h10,h11,hp⟩
theorem zDF (n : Nat) (z : Int) (h0 : 0 ≤ z) (h1 : z ≤ 1000000) : ∃ y,Zy n z = some y ∧ Yb n z = some y ∧ 0 ≤ y ∧ y ≤ 1000000 := by
 unfold Zy Yb
 rw [wrap64 (by omega) (by omega)]
 by_cases h : z ≥ 1000000
 ·rw [decide_eq_true h,if_pos (by omega)]; exact ⟨z,rfl,by rw [show z = 1000000 by omega],h0,h1⟩
 ·rw [decide_eq_false h,if_neg (by omega)]; exact ⟨_,rfl,rfl,by omega,by omega⟩
theorem zAF (n : Nat) (x : zA) (h : x.sz ≤ 268435456) : Yq n x = some x := by
 have hs : x.Name.size + x.Ps.length + x.F.length + x.V.sz = x.sz := rfl
 unfold Yq qD
 rw [YA n x.V (by omega),decide_eq_true (by simp; omega),decide_eq_true (by simp; omega)]
 rfl
theorem zDH (n : Nat) (x : zA) (h : x.sz ≤ 268435456) : Qu n x = some x := by
 have hs : x.Name.size + x.Ps.length + x.F.length + x.V.sz = x.sz := rfl
 unfold Qu qH
 rw [zD5 n x.V (by omega),decide_eq_true (by simp; omega),decide_eq_true (by simp; omega)]
 rfl
theorem JU (n : Nat) (x : zA) (p : Int) (b : Bool) (hb : qT n x = some b) (hl : x.Ps.length ≤ 1048580) : YT n x p = some (b && (decide (0 ≤ p) && decide (p < x.Ps.length))) := by
 unfold YT
 rw [hb,Option.bind_some,zR,wrap64 (by omega) (by omega)]
 have : decide (p ≤ (x.Ps.length : Int) - 1) = decide (p < x.Ps.length) := by
  by_cases h : p < x.Ps.length
  ·rw [decide_eq_true h,decide_eq_true (by omega)]
  ·rw [decide_eq_false h,decide_eq_false (by omega)]
 rw [this]
 cases b <;> rfl
theorem zEZ (n : Nat) (x : zA) (p : Int) (b : Bool) (hb : Zj n x = some b) (hl : x.Ps.length ≤ 1048580) : JK n x p = some (b && (decide (0 ≤ p) && decide (p < x.Ps.length))) := by
 unfold JK
 rw [hb,Option.bind_some,QG,zR,wrap64 (by omega) (by omega)]
 have : decide (p ≤ (x.Ps.length : Int) - 1) = decide (p < x.Ps.length) := by
  by_cases h : p < x.Ps.length
  ·rw [decide_eq_true h,decide_eq_true (by omega)]
  ·rw [decide_eq_false h,decide_eq_false (by omega)]
 rw [this]
 cases b <;> rfl
theorem Y6 (n : Nat) (xs : List zB) (h : xs.length ≤ 1048580) (hok : qj n xs = some true) : xs.length ≤ 12 ∧ (∀ j (hj : j < xs.length),qZ n xs[j] = some true) ∧ ∀ j (hj : j + 1 < xs.length),qv n xs[j] xs[j + 1].Tag xs[j + 1].Mac = some true := by
 unfold qj at hok
 obtain ⟨o,ho,hok⟩ := bind_some hok
 rcases zEi (L := fun m k => qB n m xs k) (N := xs.length) (P := fun k => ∀ hk : k < xs.length,qZ n xs[k] = some true ∧ ∀ j (e : k = j + 1),qv n (xs[j]'(by omega)) xs[k].Tag xs[k].Mac = some true) (fun k => rfl) (fun m k o hk h => by
  simp only [qB] at h
  rw [qd hk,cond_true,zg hk,Option.bind_some,zm (by omega : k ≤ 1099511627776)] at h
  obtain ⟨b,hb⟩ := JA n xs[k]
  rw [hb,Option.bind_some] at h
  cases b with
  | false => cases h; exact .inl rfl
  | true =>
   simp only [Bool.not_true,cond_false] at h
   cases k with
   | zero => exact .inr ⟨fun _ => ⟨hb,fun j e => by omega⟩,h⟩
   | succ k =>
    have hw2 : IntKind.wrap .i64 (((k + 1 : Nat) : Int) - 1) = (k : Int) := by rw [wrap64 (by omega) (by omega)]; omega
    have hpos : decide (((k + 1 : Nat) : Int) > 0) = true := decide_eq_true (by omega)
    rw [hpos,hw2,cond_true,zg (show k < xs.length by omega),Option.bind_some,Option.bind_some,Option.bind_some] at h
    obtain ⟨c,hc⟩ := zBS n (xs[k]'(by omega)) xs[k + 1].Tag xs[k + 1].Mac
    rw [hc,Option.bind_some] at h
    cases c with
    | false => cases h; exact .inl rfl
    | true => exact .inr ⟨fun _ => ⟨hb,fun j e => (show k = j by omega) ▸ hc⟩,h⟩) (fun m o h => by
  simp only [qB] at h
  rw [qR] at h; cases h; rfl) n 0 o (by omega) ho with rfl | ⟨rfl,hp⟩
 ·cases hok
 ·have h12 := of_decide_eq_true (Option.some.inj hok)
  exact ⟨by omega,fun j hj => (hp j (by omega) hj hj).1,fun j hj => (hp (j + 1) (by omega) hj hj).2 j rfl⟩
theorem zAg (n : Nat) (v : zB) (h : qZ n v = some true) : (1 ≤ v.Tag ∧ v.Tag ≤ 99) ∧ (1 ≤ v.Mac ∧ v.Mac ≤ 9999) ∧ (0 ≤ v.Port ∧ v.Port ≤ 7) ∧ (0 ≤ v.Age ∧ v.Age ≤ 4) ∧ (v.Sc = true → v.Age = 0) := by
 unfold qZ at h
 simp only [zR,Option.bind_some] at h
 obtain ⟨h1,h⟩ := zAq h
 obtain ⟨h2,h⟩ := zAq h
 obtain ⟨h3,h⟩ := zAq h
 obtain ⟨h4,h⟩ := zAq h
 simp only [Bool.and_eq_true,decide_eq_true_eq] at h1 h2 h3 h4
 refine ⟨h1,h2,h3,h4,fun hs => ?_⟩
 rw [hs] at h
 simpa using h
theorem zJK : ∀ i < 63,6 ≤ i → ∀ a < 64,QV ((a : Nat) : Int) i = false := by decide +kernel
theorem zBK (n : Nat) (a i : Int) (h : i < 0 ∨ 62 < i) : ql n a i = some false := by
 unfold ql
 have : (decide ((0 : Int) ≤ i) && decide (i ≤ 62)) = false := by
  simp only [Bool.and_eq_false_iff,decide_eq_false_iff_not]; omega
 simp only [QG,zR,Option.bind_some,this,cond_false]
theorem zEC (n a : Nat) (ha : a < 64) (i : Int) : ∃ b,ZY n (a : Int) i = some b ∧ ql n (a : Int) i = some b := by
 by_cases h0 : i < 0
 ·exact ⟨false,zCJ n a i (.inl h0),zBK n a i (.inl h0)⟩
 ·obtain ⟨k,rfl⟩ := Int.eq_ofNat_of_zero_le (show 0 ≤ i by omega)
  by_cases h7 : k ≤ 7
  ·exact ⟨_,ZU n a k h7,Qb n a k (by omega)⟩
  ·refine ⟨false,zCJ n a k (.inr (by omega)),?_⟩
   by_cases h62 : k ≤ 62
   ·rw [Qb n a k h62,zJK k (by omega) (by omega) a ha]
   ·exact zBK n a k (.inr (by omega))
theorem Yy (n : Nat) (x0 : Int) (x1 : List Pt) (h : x1.length ≤ 1048576) : ∀ (m k a : Nat) o,k ≤ 6 → a < 64 → qm n m x0 x1 k a = some o → ∃ b : Nat,o = .inl (b : Int) ∧ b < 64
 | 0,k,a,o,h1,h2,h3 => by cases h3
 | m + 1,k,a,o,h1,h2,h3 => by
  rw [qm] at h3
  by_cases hk : k < x1.length
  ·rw [qd hk,cond_true] at h3
   by_cases h6 : k < 6
   ·rw [decide_eq_true (show ((k : Nat) : Int) < 6 by omega),cond_true] at h3
    obtain ⟨r,hr,h3⟩ := bind_some h3
    rw [zBg (show k ≤ 1099511627776 by omega),decide_eq_true (show (0 : Int) ≤ (k : Int) by omega),cond_true,zJe k h6 a h2,zm (by omega : k ≤ 1099511627776)] at h3
    cases hc : decide (r ≤ 2) with
    | true => rw [hc] at h3; exact Yy n x0 x1 h m (k + 1) _ o (by omega) (Nat.or_lt_two_pow (n := 6) h2 (Nat.pow_lt_pow_right (by decide) h6)) h3
    | false => rw [hc] at h3; exact Yy n x0 x1 h m (k + 1) a o (by omega) h2 h3
   ·rw [decide_eq_false (show ¬ ((k : Nat) : Int) < 6 by omega)] at h3
    cases h3; exact ⟨a,rfl,h2⟩
  ·rw [decide_eq_false (by omega)] at h3
   cases h3; exact ⟨a,rfl,h2⟩
theorem zBO (n : Nat) (x0 : Int) (x1 : List Pt) (h : x1.length ≤ 1048576) (hn : x1.length < n) : ∃ b : Nat,b < 64 ∧ QJ n x0 x1 = some (b : Int) ∧ Qh n x0 x1 = some (b : Int) := by
 obtain ⟨e,b,hb⟩ := zBw n x0 x1 h hn
 have hb2 := hb
 unfold QJ at hb2
 obtain ⟨o,ho,hb2⟩ := bind_some hb2
 obtain ⟨c,rfl,hc⟩ := Yy n x0 x1 h n 0 0 o (by omega) (by omega) ho
 have : (c : Int) = b := Option.some.inj hb2
 subst this
 exact ⟨c,hc,hb,e.trans hb⟩
theorem zAO {α : Type} {L : Nat → Int → Option (α ⊕ Bool)} {N : Nat} {P : Nat → Prop} (hs : ∀ m (k : Nat),k < N → (P k ∧ L (m + 1) (k : Int) = L m ((k + 1 : Nat) : Int)) ∨ (¬ P k ∧ L (m + 1) (k : Int) = some (.inr false))) (he : ∀ m,∃ a,L (m + 1) (N : Int) = some (.inl a)) :
  ∀ (m k : Nat),k ≤ N → N < m + k → (∃ a,L m (k : Int) = some (.inl a) ∧ ∀ j,k ≤ j → j < N → P j) ∨ (L m (k : Int) = some (.inr false) ∧ ¬ ∀ j,k ≤ j → j < N → P j)
 | 0,k,h1,h2 => by omega
 | m + 1,k,h1,h2 => by
  by_cases hk : k < N
  ·rcases hs m k hk with ⟨hp,e⟩ | ⟨hp,e⟩
   ·rcases zAO hs he m (k + 1) (by omega) (by omega) with ⟨a,h3,h4⟩ | ⟨h3,h4⟩
    ·refine .inl ⟨a,e.trans h3,fun j hj hj2 => ?_⟩
     by_cases hjk : j = k
     ·subst hjk; exact hp
     ·exact h4 j (by omega) hj2
    ·exact .inr ⟨e.trans h3,fun h => h4 fun j hj hj2 => h j (by omega) hj2⟩
   ·exact .inr ⟨e,fun h => hp (h k (Nat.le_refl _) hk)⟩
  ·have : k = N := by omega
   subst this
   obtain ⟨a,ha⟩ := he m
   exact .inl ⟨a,ha,fun j hj hj2 => by omega⟩
def zD0 (p : Int) : Int := IntKind.wrap .i64 ((IntKind.wrap .i64 (1 * 2 ^ min (((IntKind.wrap .u64 p) : Int)).toNat (IntKind.bits .i64))) - 1)
def zC8 (p : Int) (v : zC) : Bool := (decide (1 ≤ v.Id) && decide (v.Id ≤ 99)) && ((decide (0 ≤ v.Members) && decide (v.Members ≤ zD0 p)) && ((decide (0 ≤ v.Bare) && decide (v.Bare ≤ zD0 p)) && ((IntKind.wrap .i64 (BitVec.ofInt (IntKind.bits .i64) v.Bare &&& BitVec.ofInt (IntKind.bits .i64) v.Members).toNat) == v.Bare)))
theorem zDJ (n : Nat) (x : zE) (p : Int) (h : x.Rows.length ≤ 1048580) (m k : Nat) (hk : k < x.Rows.length) :
  ((∀ hk : k < x.Rows.length,zC8 p x.Rows[k] = true ∧ ∀ i (e : k = i + 1),(x.Rows[i]'(by omega)).Id < x.Rows[k].Id) ∧ zn n (m + 1) x p k = zn n m x p ((k + 1 : Nat) : Int)) ∨
  (¬ (∀ hk : k < x.Rows.length,zC8 p x.Rows[k] = true ∧ ∀ i (e : k = i + 1),(x.Rows[i]'(by omega)).Id < x.Rows[k].Id) ∧ zn n (m + 1) x p k = some (.inr false)) := by
 rw [zn,qd hk,cond_true,zg hk,Option.bind_some]
 simp only [zR,Option.bind_some,zm (by omega : k ≤ 1099511627776)]
 have hrow : zC8 p x.Rows[k] = ((decide (1 ≤ x.Rows[k].Id) && decide (x.Rows[k].Id ≤ 99)) && ((decide (0 ≤ x.Rows[k].Members) && decide (x.Rows[k].Members ≤ zD0 p)) && ((decide (0 ≤ x.Rows[k].Bare) && decide (x.Rows[k].Bare ≤ zD0 p)) && ((IntKind.wrap .i64 (BitVec.ofInt (IntKind.bits .i64) x.Rows[k].Bare &&& BitVec.ofInt (IntKind.bits .i64) x.Rows[k].Members).toNat) == x.Rows[k].Bare)))) := rfl
 have hb : ∀ a b : Int,(a != b) = !(a == b) := fun a b => rfl
 unfold zD0 at hrow
 rw [hb]
 generalize (decide (1 ≤ x.Rows[k].Id) && decide (x.Rows[k].Id ≤ 99)) = b1 at hrow ⊢
 generalize (decide (0 ≤ x.Rows[k].Members) && decide (x.Rows[k].Members ≤ IntKind.wrap .i64 ((IntKind.wrap .i64 (1 * 2 ^ min (((IntKind.wrap .u64 p) : Int)).toNat (IntKind.bits .i64))) - 1))) = b2 at hrow ⊢
 generalize (decide (0 ≤ x.Rows[k].Bare) && decide (x.Rows[k].Bare ≤ IntKind.wrap .i64 ((IntKind.wrap .i64 (1 * 2 ^ min (((IntKind.wrap .u64 p) : Int)).toNat (IntKind.bits .i64))) - 1))) = b3 at hrow ⊢
 generalize ((IntKind.wrap .i64 (BitVec.ofInt (IntKind.bits .i64) x.Rows[k].Bare &&& BitVec.ofInt (IntKind.bits .i64) x.Rows[k].Members).toNat) == x.Rows[k].Bare) = b4 at hrow ⊢
 have bad : (b1 && (b2 && (b3 && b4))) = false → ¬ (∀ hk : k < x.Rows.length,zC8 p x.Rows[k] = true ∧ ∀ i (e : k = i + 1),(x.Rows[i]'(by omega)).Id < x.Rows[k].Id) := fun e hc => by
  have := (hc hk).1
  rw [hrow,e] at this
  cases this
 cases b1 with
 | false => exact .inr ⟨bad rfl,rfl⟩
 | true =>
  cases b2 with
  | false => exact .inr ⟨bad rfl,rfl⟩
  | true =>
   cases b3 with
   | false => exact .inr ⟨bad rfl,rfl⟩
   | true =>
    cases b4 with
    | false => exact .inr ⟨bad rfl,rfl⟩
    | true =>
     simp only [Bool.not_true,cond_false]
     cases k with
     | zero => exact .inl ⟨fun _ => ⟨hrow,fun i e => by omega⟩,rfl⟩
     | succ k =>
      have hw2 : IntKind.wrap .i64 (((k + 1 : Nat) : Int) - 1) = (k : Int) := by rw [wrap64 (by omega) (by omega)]; omega
      rw [decide_eq_true (show ((k + 1 : Nat) : Int) > 0 by omega),cond_true,hw2,zg (show k < x.Rows.length by omega),Option.bind_some]
      by_cases hge : (x.Rows[k]'(by omega)).Id ≥ x.Rows[k + 1].Id
      ·exact .inr ⟨fun hc => by have := (hc hk).2 k rfl; omega,by rw [decide_eq_true hge]; rfl⟩
      ·refine .inl ⟨fun _ => ⟨hrow,fun i e => ?_⟩,by rw [decide_eq_false hge]; rfl⟩
       obtain rfl : k = i := by omega
       omega
theorem zBx (n : Nat) (x : zE) (p : Int) (h : x.Rows.length ≤ 1048580) (hn : x.Rows.length < n) (hq : x.Pv.length ≤ 1048580) (hqn : x.Pv.length < n) (h0 : 0 ≤ p) (h1 : p ≤ 1099511627776) : zq n x p = some true ↔
  (1 ≤ p ∧ p ≤ 6) ∧ (x.Pv.length : Int) = p ∧ x.Rows.length ≤ 6 ∧ (∀ j (hj : j < x.Rows.length),zC8 p x.Rows[j] = true) ∧ zFR x.Rows 0 ∧ ∀ q ∈ x.Pv,∃ v ∈ x.Rows,v.Id = q := by
 obtain ⟨k,rfl⟩ := Int.eq_ofNat_of_zero_le h0
 unfold zq
 rw [zR,Option.bind_some,zBg (show k ≤ 1099511627776 by omega),decide_eq_true (show (0 : Int) ≤ (k : Int) by omega),cond_true]
 by_cases hp : 1 ≤ (k : Int) ∧ (k : Int) ≤ 6
 ·rw [decide_eq_true hp.1,decide_eq_true hp.2]
  simp only [Bool.and_self,Bool.not_true,cond_false]
  by_cases hl : (x.Pv.length : Int) = k
  ·rw [show ((x.Pv.length : Int) != (k : Int)) = false from by simpa using hl,cond_false]
   by_cases h6 : x.Rows.length ≤ 6
   ·rw [decide_eq_false (show ¬ (x.Rows.length : Int) > 6 by omega),cond_false]
    rcases zAO (L := fun m j => zn n m x k j) (N := x.Rows.length) (P := fun k_1 => ∀ hk : k_1 < x.Rows.length,zC8 (k : Int) x.Rows[k_1] = true ∧ ∀ i (e : k_1 = i + 1),(x.Rows[i]'(by omega)).Id < x.Rows[k_1].Id) (fun m j hj => zDJ n x k h m j hj) (fun m => ⟨(),by simp only [zn]; rw [qR]; rfl⟩) n 0 (by omega) (by omega) with ⟨a,e,pp⟩ | ⟨e,pp⟩
    ·rw [show zn n n x k 0 = _ from e,Option.bind_some]
     simp only [Zq]
     have hs : zFR x.Rows 0 := fun j hj _ => (pp (j + 1) (by omega) hj hj).2 j rfl
     rcases zAO (L := fun m j => qA n m x j) (N := x.Pv.length) (P := fun j => ∀ hj : j < x.Pv.length,∃ v ∈ x.Rows,v.Id = x.Pv[j]) (fun m j hj => by
      simp only [qA]
      rw [qd hj,cond_true,zg hj,Option.bind_some,zm (by omega : j ≤ 1099511627776)]
      obtain ⟨r,hr,hk⟩ := Zp n x x.Pv[j] h hn
      rw [hr,Option.bind_some]
      rcases hk with ⟨rfl,hno⟩ | ⟨v,hr0,hv,he⟩
      ·exact .inr ⟨fun hc => by obtain ⟨v,hv,he⟩ := hc hj; exact hno v hv he,rfl⟩
      ·exact .inl ⟨fun _ => ⟨v,List.mem_of_getElem? (zY hv).2,he⟩,by rw [decide_eq_false (show ¬ r < 0 by omega)]; rfl⟩) (fun m => ⟨(),by simp only [qA]; rw [qR]; rfl⟩) n 0 (by omega) (by omega) with ⟨a3,e3,p3⟩ | ⟨e3,p3⟩
     ·rw [show qA n n x 0 = _ from e3,Option.bind_some]
      refine ⟨fun _ => ⟨hp,hl,h6,fun j hj => (pp j (by omega) hj hj).1,hs,fun q hq' => ?_⟩,fun _ => rfl⟩
      obtain ⟨j,hj,rfl⟩ := List.getElem_of_mem hq'
      exact p3 j (by omega) hj hj
     ·rw [show qA n n x 0 = _ from e3,Option.bind_some]
      exact ⟨fun hc => (by cases hc),fun hc => absurd (fun j _ hj _ => hc.2.2.2.2.2 _ (List.getElem_mem hj)) p3⟩
    ·rw [show zn n n x k 0 = _ from e,Option.bind_some]
     refine ⟨fun hc => (by cases hc),fun hc => absurd (fun j _ hj _ => ⟨hc.2.2.2.1 j hj,fun i e => ?_⟩) pp⟩
     subst e
     exact hc.2.2.2.2.1 i hj (by omega)
   ·rw [decide_eq_true (show (x.Rows.length : Int) > 6 by omega)]
    exact ⟨fun hc => (by cases hc),fun hc => absurd hc.2.2.1 h6⟩
  ·rw [show ((x.Pv.length : Int) != (k : Int)) = true from by simpa using hl]
   exact ⟨fun hc => (by cases hc),fun hc => absurd hc.2.1 hl⟩
 ·have : (decide (1 ≤ (k : Int)) && decide ((k : Int) ≤ 6)) = false := by
   simp only [Bool.and_eq_false_iff,decide_eq_false_iff_not]; omega
  rw [this]
  exact ⟨fun hc => (by cases hc),fun hc => absurd hc.1 hp⟩
theorem zF8 (n : Nat) (v : Vec) (h : qr n v = some true) : v.wf := by
 unfold qr at h
 simp only [zR,Option.bind_some] at h
 cases h1 : (decide (1 ≤ v.Root) && decide (v.Root ≤ 99)) with
 | false => rw [h1] at h; cases h
 | true =>
  cases h2 : (decide (0 ≤ v.Co) && decide (v.Co ≤ 100000)) with
  | false => rw [h1,h2] at h; cases h
  | true =>
   cases h3 : (decide (0 ≤ v.Hops) && decide (v.Hops ≤ 10)) with
   | false => rw [h1,h2,h3] at h; cases h
   | true =>
    cases h4 : (decide (1 ≤ v.Bridge) && decide (v.Bridge ≤ 99)) with
    | false => rw [h1,h2,h3,h4] at h; cases h
    | true =>
     rw [h1,h2,h3,h4] at h
     simp only [cond_true,Option.some.injEq,Bool.and_eq_true,decide_eq_true_eq] at h h1 h2 h3 h4
     exact ⟨zr (by omega) (by omega),zr (by omega) (by omega),zr (by omega) (by omega),zr (by omega) (by omega),zr (by omega) (by omega),trivial⟩
theorem Jm (n : Nat) (x : zA) (hn : x.Ps.length < n) (h1 : 1 ≤ x.Ps.length) (h2 : x.Ps.length ≤ 6) (h3 : 1 ≤ x.Id) (h4 : x.Id ≤ 99) (h5 : x.Name.size ≤ 10) (h6 : qj n x.F = some true) (h7 : zq n x.V (x.Ps.length : Int) = some true) (h8 : 0 ≤ x.Tk ∧ x.Tk ≤ 1000000) (h9 : 0 ≤ x.Pa ∧ x.Pa ≤ 1000000) (h10 : 0 ≤ x.Wo ∧ x.Wo ≤ 1000000) (h11 : 0 ≤ x.Dr ∧ x.Dr ≤ 1000000) (h12 : 0 ≤ x.Ve ∧ x.Ve ≤ 1000000) (h13 : ∀ j (hj : j < x.Ps.length),qK n x.Ps[j] = some true) : qT n x = some true := by
 have two : ∀ {a b c : Int},a ≤ b → b ≤ c → (decide (a ≤ b) && decide (b ≤ c)) = true := fun h h' => by rw [decide_eq_true h,decide_eq_true h']; rfl
 unfold qT
 rcases zAO (L := fun m k => zl n m x k) (N := x.Ps.length) (P := fun k => ∀ hk : k < x.Ps.length,qK n x.Ps[k] = some true) (fun m k hk => by
  simp only [zl]
  rw [qd hk,cond_true,zg hk,Option.bind_some,h13 k hk,Option.bind_some,zm (by omega : k ≤ 1099511627776)]
  exact .inl ⟨fun _ => h13 k hk,rfl⟩) (fun m => ⟨(),by simp only [zl]; rw [qR]; rfl⟩) n 0 (by omega) (by omega) with ⟨a,e,_⟩ | ⟨_,p⟩
 ·rw [show zl n n x 0 = _ from e]
  simp only [Option.bind_some,Zg,QS,zR,two h3 h4,two h8.1 h8.2,two h9.1 h9.2,two h10.1 h10.2,two h11.1 h11.2,two h12.1 h12.2,two (show (1 : Int) ≤ (x.Ps.length : Int) by omega) (show (x.Ps.length : Int) ≤ 6 by omega),decide_eq_true (show (x.Name.size : Int) ≤ 10 by omega),h6,h7,cond_true]
 ·exact absurd (fun j _ _ hj => h13 j hj) p
theorem zBr (n : Nat) : ∀ m,Z7 n m = qo n m
 | 0 => rfl
 | m + 1 => by
  funext xs t a y
  rw [Z7,qo,zBr n m]
  cases idx xs y with
  | none => rfl
  | some v => rfl
theorem zAs (n : Nat) : YC n = Z3 n := by
 funext xs t a
 unfold YC Z3
 rw [zBr]
 rfl
theorem zAQ (n : Nat) : Qs n = ZA n := by
 funext xs t a
 unfold Qs ZA
 rw [zAs]
theorem zCz (n : Nat) (xs : List zB) (t a : Int) (h : xs.length ≤ 1048580) : ∀ (m k : Nat),k ≤ xs.length → xs.length < m + k → (qo n m xs t a k = some (.inl ()) ∧ ∀ j,k ≤ j → ∀ hj : j < xs.length,¬ (xs[j].Tag = t ∧ xs[j].Mac = a)) ∨ ∃ j,k ≤ j ∧ ∃ hj : j < xs.length,qo n m xs t a k = some (.inr (j : Int)) ∧ xs[j].Tag = t ∧ xs[j].Mac = a
 | 0,k,h1,h2 => by omega
 | m + 1,k,h1,h2 => by
  rw [qo]
  by_cases hk : k < xs.length
  ·rw [qd hk,cond_true,zg hk,Option.bind_some,Option.bind_some,zm (by omega : k ≤ 1099511627776)]
   by_cases ht : xs[k].Tag = t
   ·rw [show (xs[k].Tag == t) = true from by simpa using ht,cond_true]
    by_cases ha : xs[k].Mac = a
    ·rw [show (xs[k].Mac == a) = true from by simpa using ha,cond_true]
     exact .inr ⟨k,Nat.le_refl _,hk,rfl,ht,ha⟩
    ·rw [show (xs[k].Mac == a) = false from by simpa using ha,cond_false]
     rcases zCz n xs t a h m (k + 1) (by omega) (by omega) with ⟨e,p⟩ | ⟨j,hj,hj2,e,p⟩
     ·refine .inl ⟨e,fun j hj hj2 => ?_⟩
      by_cases hjk : j = k
      ·subst hjk; exact fun hc => ha hc.2
      ·exact p j (by omega) hj2
     ·exact .inr ⟨j,by omega,hj2,e,p⟩
   ·rw [show (xs[k].Tag == t) = false from by simpa using ht,cond_false]
    rcases zCz n xs t a h m (k + 1) (by omega) (by omega) with ⟨e,p⟩ | ⟨j,hj,hj2,e,p⟩
    ·refine .inl ⟨e,fun j hj hj2 => ?_⟩
     by_cases hjk : j = k
     ·subst hjk; exact fun hc => ht hc.1
     ·exact p j (by omega) hj2
    ·exact .inr ⟨j,by omega,hj2,e,p⟩
  ·obtain rfl : k = xs.length := by omega
   rw [qR]
   exact .inl ⟨rfl,fun j hj hj2 => by omega⟩
theorem Qa (n : Nat) (xs : List zB) (t a : Int) (h : xs.length ≤ 1048580) (hn : xs.length < n) : (Z3 n xs t a = some (-1) ∧ ∀ j (hj : j < xs.length),¬ (xs[j].Tag = t ∧ xs[j].Mac = a)) ∨ ∃ j,∃ hj : j < xs.length,Z3 n xs t a = some (j : Int) ∧ xs[j].Tag = t ∧ xs[j].Mac = a := by
 unfold Z3
 rcases zCz n xs t a h n 0 (by omega) (by omega) with ⟨e,p⟩ | ⟨j,_,hj,e,p⟩
 ·rw [show qo n n xs t a 0 = _ from e]
  exact .inl ⟨rfl,fun j hj => p j (by omega) hj⟩
 ·rw [show qo n n xs t a 0 = _ from e]
  exact .inr ⟨j,hj,rfl,p⟩
def qO (v : zB) (t a : Int) : Prop := v.Tag < t ∨ v.Tag = t ∧ v.Mac < a
instance (v : zB) (t a : Int) : Decidable (qO v t a) := inferInstanceAs (Decidable (_ ∨ _))
def QO (e : zB) : List zB → List zB
 | [] => [e]
 | v :: vs => if qO v e.Tag e.Mac then v :: QO e vs else if v.Tag = e.Tag ∧ v.Mac = e.Mac then e :: vs else e :: v :: vs
theorem zEa (e : zB) : ∀ xs : List zB,(QO e xs).length ≤ xs.length + 1
 | [] => Nat.le_refl _
 | v :: vs => by
  unfold QO
  have := zEa e vs
  split
  ·simp only [List.length_cons]; omega
  ·split <;> simp only [List.length_cons] <;> omega
theorem zCx (e : zB) : ∀ (xs : List zB) (v : zB),v ∈ QO e xs → v = e ∨ v ∈ xs
 | [],v,h => by simp [QO] at h; exact .inl h
 | u :: us,v,h => by
  unfold QO at h
  split at h
  ·rcases List.mem_cons.1 h with rfl | h
   ·exact .inr (by simp)
   ·rcases zCx e us v h with h | h
    ·exact .inl h
    ·exact .inr (by simp [h])
  ·split at h
   ·rcases List.mem_cons.1 h with rfl | h
    ·exact .inl rfl
    ·exact .inr (by simp [h])
   ·rcases List.mem_cons.1 h with rfl | h
    ·exact .inl rfl
    ·exact .inr h
theorem YI (n : Nat) (v : zB) (t a : Int) : qv n v t a = some (decide (qO v t a)) := by
 unfold qv
 by_cases h : v.Tag = t
 ·rw [show (v.Tag != t) = false from by simpa using h,cond_false]
  congr 1
  rw [decide_eq_decide]
  unfold qO
  constructor
  ·intro h2; exact .inr ⟨h,h2⟩
  ·rintro (h2 | h2)
   ·omega
   ·exact h2.2
 ·rw [show (v.Tag != t) = true from by simpa using h,cond_true]
  congr 1
  rw [decide_eq_decide]
  unfold qO
  constructor
  ·intro h2; exact .inl h2
  ·rintro (h2 | h2)
   ·exact h2
   ·exact absurd h2.1 h
theorem zA7 (n : Nat) (xs : List zB) (h : xs.length ≤ 1048580) (hok : qj n xs = some true) : ∀ (j i : Nat) (hij : i < j) (hj : j < xs.length),qO (xs[i]'(by omega)) xs[j].Tag xs[j].Mac := by
 have hs := (Y6 n xs h hok).2.2
 intro j
 induction j with
 | zero => intro i hij; omega
 | succ j ih =>
  intro i hij hj
  have h1 := hs j hj
  rw [YI] at h1
  have h1 := of_decide_eq_true (Option.some.inj h1)
  by_cases e : i = j
  ·subst e; exact h1
  ·have := ih i (by omega) (by omega)
   unfold qO at this h1 ⊢
   omega
theorem zAG (n : Nat) (xs : List zB) (e : zB) (h : xs.length ≤ 1048580) : ∀ (m k : Nat) (acc : List zB),k ≤ xs.length → xs.length < m + k → acc.length ≤ k + 1 → (∀ j,k ≤ j → ∀ hj : j < xs.length,¬ (xs[j].Tag = e.Tag ∧ xs[j].Mac = e.Mac)) → qW n m xs e k true acc = some (.inl (true,acc ++ xs.drop k))
 | 0,k,acc,h1,h2,h3,hne => by omega
 | m + 1,k,acc,h1,h2,h3,hne => by
  rw [qW]
  by_cases hk : k < xs.length
  ·have hg : ∀ v : zB,decide (acc.length + [v].length ≤ 268435456) = true := fun v => decide_eq_true (by simp; omega)
   have ih := zAG n xs e h m (k + 1) (acc ++ [xs[k]]) (by omega) (by omega) (by simp; omega) (fun j hj => hne j (by omega))
   rw [qd hk,cond_true,Bool.not_true,cond_false]
   simp only [Zb,zg hk,Option.bind_some,hg,cond_true,zm (by omega : k ≤ 1099511627776)]
   have hd : acc ++ [xs[k]] ++ xs.drop (k + 1) = acc ++ xs.drop k := by rw [List.append_assoc,List.drop_eq_getElem_cons hk]; rfl
   rw [hd] at ih
   by_cases ht : xs[k].Tag = e.Tag
   ·have hm : xs[k].Mac ≠ e.Mac := fun hm => hne k (Nat.le_refl _) hk ⟨ht,hm⟩
    rw [show (xs[k].Tag != e.Tag) = false from by simpa using ht,cond_false,show (xs[k].Mac != e.Mac) = true from by simpa using hm,cond_true]
    exact ih
   ·rw [show (xs[k].Tag != e.Tag) = true from by simpa using ht,cond_true]
    exact ih
  ·obtain rfl : k = xs.length := by omega
   rw [qR,cond_false,List.drop_length,List.append_nil]
theorem zB0 (n : Nat) (xs : List zB) (e : zB) (h : xs.length ≤ 1048580) (hs : ∀ (j i : Nat) (hij : i < j) (hj : j < xs.length),qO (xs[i]'(by omega)) xs[j].Tag xs[j].Mac) : ∀ (m k : Nat) (acc : List zB),k ≤ xs.length → xs.length < m + k → acc.length ≤ k → ∃ b zs,qW n m xs e k false acc = some (.inl (b,zs)) ∧ zs.length ≤ xs.length + 1 ∧ (bif !b then zs ++ [e] else zs) = acc ++ QO e (xs.drop k)
 | 0,k,acc,h1,h2,h3 => by omega
 | m + 1,k,acc,h1,h2,h3 => by
  rw [qW]
  by_cases hk : k < xs.length
  ·have hg : ∀ (zs : List zB) (v : zB),zs.length ≤ k + 1 → decide (zs.length + [v].length ≤ 268435456) = true := fun zs v hz => decide_eq_true (by simp; omega)
   rw [qd hk,cond_true,Bool.not_false,cond_true,zg hk,Option.bind_some,YI,Option.bind_some]
   rw [List.drop_eq_getElem_cons hk]
   by_cases ha : qO xs[k] e.Tag e.Mac
   ·obtain ⟨b,zs,e1,e2,e3⟩ := zB0 n xs e h hs m (k + 1) (acc ++ [xs[k]]) (by omega) (by omega) (by simp; omega)
    refine ⟨b,zs,?_,e2,?_⟩
    ·rw [decide_eq_true ha]
     simp only [Bool.not_true,cond_false,Zb,zg hk,Option.bind_some,hg acc _ (by omega),cond_true,zm (by omega : k ≤ 1099511627776)]
     by_cases ht : xs[k].Tag = e.Tag
     ·have hm : xs[k].Mac ≠ e.Mac := fun hm => by unfold qO at ha; omega
      rw [show (xs[k].Tag != e.Tag) = false from by simpa using ht,cond_false,show (xs[k].Mac != e.Mac) = true from by simpa using hm,cond_true]
      exact e1
     ·rw [show (xs[k].Tag != e.Tag) = true from by simpa using ht,cond_true]
      exact e1
    ·rw [e3,QO,if_pos ha,List.append_assoc]; rfl
   ·rw [decide_eq_false ha,QO,if_neg ha]
    have rest : ∀ j,k + 1 ≤ j → ∀ hj : j < xs.length,¬ (xs[j].Tag = e.Tag ∧ xs[j].Mac = e.Mac) := fun j hj hj2 hc => by
     have := hs j k (by omega) hj2
     rw [hc.1,hc.2] at this
     exact ha this
    simp only [Bool.not_false,cond_true,hg acc _ (by omega),Zb,zg hk,Option.bind_some,hg (acc ++ [e]) _ (by simp; omega),zm (by omega : k ≤ 1099511627776)]
    by_cases hkey : xs[k].Tag = e.Tag ∧ xs[k].Mac = e.Mac
    ·rw [show (xs[k].Tag != e.Tag) = false from by simpa using hkey.1,cond_false,show (xs[k].Mac != e.Mac) = false from by simpa using hkey.2,cond_false]
     refine ⟨true,_,zAG n xs e h m (k + 1) (acc ++ [e]) (by omega) (by omega) (by simp; omega) rest,by simp; omega,?_⟩
     rw [if_pos hkey,Bool.not_true,cond_false,List.append_assoc]; rfl
    ·have e1 := zAG n xs e h m (k + 1) (acc ++ [e] ++ [xs[k]]) (by omega) (by omega) (by simp; omega) rest
     refine ⟨true,acc ++ [e] ++ [xs[k]] ++ xs.drop (k + 1),?_,by simp; omega,?_⟩
     ·by_cases ht : xs[k].Tag = e.Tag
      ·have hm : xs[k].Mac ≠ e.Mac := fun hm => hkey ⟨ht,hm⟩
       rw [show (xs[k].Tag != e.Tag) = false from by simpa using ht,cond_false,show (xs[k].Mac != e.Mac) = true from by simpa using hm,cond_true]
       exact e1
      ·rw [show (xs[k].Tag != e.Tag) = true from by simpa using ht,cond_true]
       exact e1
     ·rw [if_neg hkey,Bool.not_true,cond_false]
      simp
  ·obtain rfl : k = xs.length := by omega
   rw [qR]
   refine ⟨false,acc,rfl,by omega,?_⟩
   rw [List.drop_length]
   rfl
theorem zAh (n : Nat) (xs : List zB) (e : zB) (h : xs.length ≤ 1048580) (hn : xs.length < n) (hs : ∀ (j i : Nat) (hij : i < j) (hj : j < xs.length),qO (xs[i]'(by omega)) xs[j].Tag xs[j].Mac) : Zr n xs e = some (QO e xs) := by
 obtain ⟨b,zs,e1,e2,e3⟩ := zB0 n xs e h hs n 0 [] (by omega) (by omega) (by simp)
 unfold Zr
 rw [show qW n n xs e 0 false [] = _ from e1]
 simp only [Option.bind_some,Yt]
 rw [decide_eq_true (by simp; omega)]
 rw [List.drop_zero,List.nil_append] at e3
 rw [← e3]
 cases b <;> rfl
theorem zEb (e : zB) : ∀ (xs : List zB) (k : Nat) (hk : k < xs.length) (hs : ∀ (j i : Nat) (hij : i < j) (hj : j < xs.length),qO (xs[i]'(by omega)) xs[j].Tag xs[j].Mac),xs[k].Tag = e.Tag → xs[k].Mac = e.Mac → QO e xs = xs.set k e
 | [],k,hk,hs,h1,h2 => by simp at hk
 | v :: vs,0,hk,hs,h1,h2 => by
  have h1 : v.Tag = e.Tag := h1
  have h2 : v.Mac = e.Mac := h2
  unfold QO
  rw [if_neg (by unfold qO; omega),if_pos ⟨h1,h2⟩]
  rfl
 | v :: vs,k + 1,hk,hs,h1,h2 => by
  have ha : qO v e.Tag e.Mac := by
   have := hs (k + 1) 0 (by omega) hk
   rw [h1,h2] at this
   exact this
  unfold QO
  rw [if_pos ha,zEb e vs k (by simpa using hk) (fun j i hij hj => hs (j + 1) (i + 1) (by omega) (by simpa using hj)) h1 h2]
  rfl
theorem zFF (e : zB) : ∀ (xs : List zB) (k : Nat) (hk : k ≤ xs.length),(∀ j (hj : j < xs.length),¬ (xs[j].Tag = e.Tag ∧ xs[j].Mac = e.Mac)) → (∀ j (hj : j < k),¬ qO e (xs[j]'(by omega)).Tag (xs[j]'(by omega)).Mac) → (∀ h : k < xs.length,qO e xs[k].Tag xs[k].Mac) → QO e xs = xs.take k ++ e :: xs.drop k
 | [],k,hk,hne,h1,h2 => by
  have : k = 0 := by simpa using hk
  subst this; rfl
 | v :: vs,0,hk,hne,h1,h2 => by
  have h2 : qO e v.Tag v.Mac := h2 (by simp)
  have hv := hne 0 (by simp)
  simp only [List.getElem_cons_zero] at hv
  unfold QO
  rw [if_neg (by unfold qO at h2 ⊢; omega),if_neg hv]
  rfl
 | v :: vs,k + 1,hk,hne,h1,h2 => by
  have hv := hne 0 (by simp)
  have h0 := h1 0 (by omega)
  simp only [List.getElem_cons_zero] at hv h0
  unfold QO
  rw [if_pos (by unfold qO at h0 ⊢; omega),zFF e vs k (by simpa using hk) (fun j hj => by have := hne (j + 1) (by simpa using hj); simpa using this) (fun j hj => by have := h1 (j + 1) (by omega); simpa using this) (fun h => by have := h2 (by simpa using h); simpa using this)]
  rfl
theorem zCZ (n : Nat) (xs : List zB) (e : zB) (h : xs.length ≤ 1048580) : ∀ (m k : Nat),k ≤ xs.length → xs.length < m + k → (∀ j (hj : j < k) (hj2 : j < xs.length),¬ qO e xs[j].Tag xs[j].Mac) → ∃ k',k' ≤ xs.length ∧ Qi n m xs e k = some (.inl (k' : Int)) ∧ (∀ j (hj : j < k') (hj2 : j < xs.length),¬ qO e xs[j].Tag xs[j].Mac) ∧ ∀ h : k' < xs.length,qO e xs[k'].Tag xs[k'].Mac
 | 0,k,h1,h2,h3 => by omega
 | m + 1,k,h1,h2,h3 => by
  rw [Qi]
  by_cases hk : k < xs.length
  ·rw [qd hk,cond_true,zg hk,Option.bind_some,zB9,YI,Option.bind_some,zm (by omega : k ≤ 1099511627776)]
   by_cases ha : qO e xs[k].Tag xs[k].Mac
   ·rw [decide_eq_true ha]
    exact ⟨k,h1,rfl,h3,fun _ => ha⟩
   ·rw [decide_eq_false ha]
    exact zCZ n xs e h m (k + 1) (by omega) (by omega) (fun j hj hj2 => by
     by_cases hjk : j = k
     ·subst hjk; exact ha
     ·exact h3 j (by omega) hj2)
  ·obtain rfl : k = xs.length := by omega
   rw [qR]
   exact ⟨xs.length,Nat.le_refl _,rfl,h3,fun h => absurd h (Nat.lt_irrefl _)⟩
theorem zGe (n : Nat) (xs : List zB) (e : zB) (h : xs.length ≤ 12) (hn : 100 < n) (hs : ∀ (j i : Nat) (hij : i < j) (hj : j < xs.length),qO (xs[i]'(by omega)) xs[j].Tag xs[j].Mac) : ∃ b,zAJ n xs e = some (if 12 ≤ xs.length ∧ ∀ j (hj : j < xs.length),¬ (xs[j].Tag = e.Tag ∧ xs[j].Mac = e.Mac) then xs else QO e xs,b) := by
 have hc : qH n xs = some xs := by unfold qH; rw [decide_eq_true (by simp; omega)]; rfl
 unfold zAJ
 rw [hc,Option.bind_some,zAs]
 rcases Qa n xs e.Tag e.Mac (by omega) (by omega) with ⟨e1,hne⟩ | ⟨k,hk,e1,h1,h2⟩
 ·rw [e1,Option.bind_some]
  rw [decide_eq_false (by omega : ¬ (-1 : Int) ≥ 0),cond_false]
  by_cases h12 : 12 ≤ xs.length
  ·rw [decide_eq_true (show (xs.length : Int) ≥ 12 by omega),if_pos ⟨h12,hne⟩]
   exact ⟨false,rfl⟩
  ·rw [decide_eq_false (show ¬ (xs.length : Int) ≥ 12 by omega),cond_false,if_neg (fun hc => h12 hc.1)]
   obtain ⟨k,hk,f1,f2,f3⟩ := zCZ n xs e (by omega) n 0 (by omega) (by omega) (fun j hj => by omega)
   rw [show Qi n n xs e 0 = _ from f1,zFF e xs k hk hne (fun j hj => f2 j hj (by omega)) f3]
   have t1 : ((xs.drop ((0 : Int)).toNat).take (((k : Int)).toNat - ((0 : Int)).toNat)) = xs.take k := by simp
   have t2 : ((xs.drop ((k : Int)).toNat).take ((((xs.length : Int) : Int)).toNat - ((k : Int)).toNat)) = xs.drop k := by
    rw [Int.toNat_natCast,Int.toNat_natCast]; exact List.take_of_length_le (by simp)
   have hc2 : qH n (xs.take k) = some (xs.take k) := by unfold qH; rw [decide_eq_true (by simp; omega)]; rfl
   have g1 : (decide ((0 : Int) ≤ 0) && (decide ((0 : Int) ≤ (k : Int)) && decide ((k : Int) ≤ (xs.length : Int)))) = true := by
    rw [decide_eq_true (by omega),decide_eq_true (by omega),decide_eq_true (by omega)]; rfl
   have g2 : (decide ((0 : Int) ≤ (k : Int)) && (decide ((k : Int) ≤ (xs.length : Int)) && decide (((xs.length : Int) : Int) ≤ (xs.length : Int)))) = true := by
    rw [decide_eq_true (by omega),decide_eq_true (by omega),decide_eq_true (Int.le_refl _)]; rfl
   simp only [Option.bind_some,Js,t1,t2,g1,g2,hc2,cond_true]
   rw [decide_eq_true (by simp; omega),decide_eq_true (by simp; omega),cond_true,cond_true]
   exact ⟨true,by rw [List.append_assoc]; rfl⟩
 ·rw [e1,Option.bind_some,decide_eq_true (show ((k : Nat) : Int) ≥ 0 by omega),cond_true,zg hk,Option.bind_some,if_neg (fun hc => hc.2 k hk ⟨h1,h2⟩),zEb e xs k hk hs h1 h2]
  exact ⟨true,rfl⟩
theorem zEl (n : Nat) (xs : List zB) (t a p : Int) (wx : QD zB.wf xs) (h : xs.length ≤ 1048576) (hn : 1048577 < n) : ∃ ys,QI n xs t a p = some ys ∧ Jr n xs t a p = some ys ∧ ys.length ≤ xs.length + 1 ∧ (ys = xs ∨ qZ n ⟨t,a,p,0,false⟩ = some true) ∧ ∀ v ∈ ys,v ∈ xs ∨ v = ⟨t,a,p,0,false⟩ := by
 have hcs : qD n xs = some xs := by unfold qD; rw [decide_eq_true (by simp; omega)]; rfl
 have hci : qH n xs = some xs := by unfold qH; rw [decide_eq_true (by simp; omega)]; rfl
 obtain ⟨b,hb,hb2⟩ := zBu n xs (by omega) (by omega)
 obtain ⟨c,hc⟩ := JA n ⟨t,a,p,0,false⟩
 have hat : ∃ r,Z3 n xs t a = some r := by
  rcases Qa n xs t a (by omega) (by omega) with ⟨e,_⟩ | ⟨_,_,e,_⟩ <;> exact ⟨_,e⟩
 obtain ⟨r,hr⟩ := hat
 have stay : ∀ v ∈ xs,v ∈ xs ∨ v = (⟨t,a,p,0,false⟩ : zB) := fun v hv => .inl hv
 unfold QI Jr
 rw [zAs,hr,Option.bind_some,Option.bind_some,hb,hb2,Option.bind_some,Option.bind_some]
 cases b with
 | false => exact ⟨xs,by simp only [Bool.not_false,cond_true,hcs,Option.bind_some],by simp only [Bool.not_false,cond_true,hci,Option.bind_some],by omega,.inl rfl,stay⟩
 | true =>
  rw [zCA,hc]
  simp only [Bool.not_true,cond_false,Option.bind_some]
  cases c with
  | false => exact ⟨xs,by simp only [Bool.not_false,cond_true,hcs,Option.bind_some],by simp only [Bool.not_false,cond_true,hci,Option.bind_some],by omega,.inl rfl,stay⟩
  | true =>
   have h12 := (Y6 n xs (by omega) hb).1
   have hs := zA7 n xs (by omega) hb
   have hp := zAh n xs ⟨t,a,p,0,false⟩ (by omega) (by omega) hs
   obtain ⟨bp,hi⟩ := zGe n xs ⟨t,a,p,0,false⟩ h12 (by omega) hs
   have hlen := zEa ⟨t,a,p,0,false⟩ xs
   have hmem := fun v hv => (zCx ⟨t,a,p,0,false⟩ xs v hv).symm
   rcases Qa n xs t a (by omega) (by omega) with ⟨e,hne⟩ | ⟨k,hk,e,k1,k2⟩
   ·rw [hr] at e
    cases e
    simp only [Bool.not_true,cond_false,decide_eq_false (show ¬ (-1 : Int) ≥ 0 by omega),decide_eq_true (show (-1 : Int) < 0 by omega),cond_true,hi,hp,Option.bind_some,hcs]
    by_cases hf : 12 ≤ xs.length
    ·rw [decide_eq_true (show (xs.length : Int) ≥ 12 by omega),if_pos ⟨hf,hne⟩]
     exact ⟨xs,rfl,rfl,by omega,.inl rfl,stay⟩
    ·rw [decide_eq_false (show ¬ (xs.length : Int) ≥ 12 by omega),if_neg (fun hc => hf hc.1)]
     exact ⟨_,rfl,rfl,hlen,.inr (by first | trivial | rfl),hmem⟩
   ·rw [hr] at e
    cases e
    simp only [Bool.not_true,cond_false,decide_eq_true (show ((k : Nat) : Int) ≥ 0 by omega),decide_eq_false (show ¬ ((k : Nat) : Int) < 0 by omega),cond_true,hi,hp,Option.bind_some,hcs,hci,zg hk]
    cases xs[k].Sc with
    | true => exact ⟨xs,rfl,rfl,by omega,.inl rfl,stay⟩
    | false =>
     rw [if_neg (fun hc => hc.2 k hk ⟨k1,k2⟩)]
     exact ⟨_,rfl,rfl,hlen,.inr (by first | trivial | rfl),hmem⟩
def JO (a b : Int) : Int := IntKind.wrap .i64 (BitVec.ofInt (IntKind.bits .i64) a &&& BitVec.ofInt (IntKind.bits .i64) b).toNat
def zAU (a p : Int) : Int := IntKind.wrap .i64 (BitVec.ofInt (IntKind.bits .i64) a &&& ~~~BitVec.ofInt (IntKind.bits .i64) (IntKind.wrap .i64 (1 * 2 ^ min (((IntKind.wrap .u64 p) : Int)).toNat (IntKind.bits .i64)))).toNat
def zFy (a p : Int) : Int := IntKind.wrap .i64 (BitVec.ofInt (IntKind.bits .i64) a &&& BitVec.ofInt (IntKind.bits .i64) (IntKind.wrap .i64 (1 * 2 ^ min (((IntKind.wrap .u64 p) : Int)).toNat (IntKind.bits .i64)))).toNat
theorem zFH : ∀ a < 64,∀ b < 64,JO ((a : Nat) : Int) ((b : Nat) : Int) = ((a &&& b : Nat) : Int) := by decide +kernel
theorem zFI : ∀ a < 64,∀ p < 6,0 ≤ zAU ((a : Nat) : Int) ((p : Nat) : Int) ∧ zAU ((a : Nat) : Int) ((p : Nat) : Int) < 64 ∧ ∀ j < 6,QV (zAU ((a : Nat) : Int) ((p : Nat) : Int)) j = (QV ((a : Nat) : Int) j && !(j == p)) := by decide +kernel
theorem zFJ : ∀ a < 64,∀ q < 8,∀ j < 6,QV (zFy ((a : Nat) : Int) ((q : Nat) : Int)) j = (QV ((a : Nat) : Int) j && (q == j)) := by decide +kernel
theorem zCk (n : Nat) (x : zE) (p : Int) (h : x.Rows.length ≤ 1048580) (hn : x.Rows.length < n) (hq : x.Pv.length ≤ 1048580) (hqn : x.Pv.length < n) (h0 : 0 ≤ p) (h1 : p ≤ 1099511627776) (hok : zq n x p = some true) : ∀ v ∈ x.Rows,∃ m b : Nat,v.Members = m ∧ v.Bare = b ∧ m < 64 ∧ b < 64 := by
 obtain ⟨hp,_,_,hr,_⟩ := (zBx n x p h hn hq hqn h0 h1).1 hok
 intro v hv
 obtain ⟨j,hj,rfl⟩ := List.getElem_of_mem hv
 have hb := hr j hj
 unfold zC8 at hb
 simp only [Bool.and_eq_true,decide_eq_true_eq] at hb
 obtain ⟨_,⟨m0,m1⟩,⟨b0,b1⟩,_⟩ := hb
 have hm : zD0 p ≤ 63 := by
  have hc : p = 1 ∨ p = 2 ∨ p = 3 ∨ p = 4 ∨ p = 5 ∨ p = 6 := by omega
  rcases hc with rfl | rfl | rfl | rfl | rfl | rfl <;> decide +kernel
 exact ⟨x.Rows[j].Members.toNat,x.Rows[j].Bare.toNat,by omega,by omega,by omega,by omega⟩
theorem zAZ (n : Nat) (x : zE) (c : Int) (h : x.Rows.length ≤ 1048580) (hn : x.Rows.length < n) (hr : ∀ v ∈ x.Rows,∃ m b : Nat,v.Members = m ∧ v.Bare = b ∧ m < 64 ∧ b < 64) : ∃ e : Nat,e < 64 ∧ qU n x c = some (e : Int) := by
 obtain ⟨r,e,k⟩ := Zp n x c h hn
 unfold qU
 rw [e,Option.bind_some]
 rcases k with ⟨rfl,_⟩ | ⟨v,r0,hv,_⟩
 ·exact ⟨0,by omega,rfl⟩
 ·obtain ⟨m,b,e1,_,h1,_⟩ := hr v (List.mem_of_getElem? (zY hv).2)
  rw [decide_eq_false (show ¬ r < 0 by omega),cond_false,hv]
  exact ⟨m,h1,by rw [Option.bind_some,e1]⟩
theorem Yg (n : Nat) (x : zE) (c p : Int) (h : x.Rows.length ≤ 1048580) (hn : x.Rows.length < n) (hr : ∀ v ∈ x.Rows,∃ m b : Nat,v.Members = m ∧ v.Bare = b ∧ m < 64 ∧ b < 64) : ∃ t,Qn n x c p = some t ∧ qc n x c p = some t := by
 obtain ⟨r,e,k⟩ := Zp n x c h hn
 unfold Qn qc
 rw [Jb,e,Option.bind_some,Option.bind_some]
 rcases k with ⟨rfl,_⟩ | ⟨v,r0,hv,_⟩
 ·exact ⟨0,rfl,rfl⟩
 ·obtain ⟨m,b,_,e1,_,h1⟩ := hr v (List.mem_of_getElem? (zY hv).2)
  obtain ⟨s,s1,s2⟩ := zEC n b h1 p
  rw [decide_eq_false (show ¬ r < 0 by omega),cond_false,cond_false,hv,Option.bind_some,Option.bind_some,e1,s1,s2]
  simp only [Option.bind_some]
  cases s <;> exact ⟨_,rfl,rfl⟩
theorem zBP (n : Nat) (f : Frame) (t : Int) (h : f.Data.length ≤ 20) : JT n f t = some ⟨f.Dst,f.Src,t,f.Data⟩ ∧ JG n f t = some ⟨f.Dst,f.Src,t,f.Data⟩ := by
 unfold JT JG zAd Y2
 rw [decide_eq_true (by simp; omega)]
 exact ⟨rfl,rfl⟩
theorem zCE (n : Nat) (x : zA) (c : Int) (f : Frame) (b e p : Nat) (y M : Int) (ok : Bool) (hb : b < 64) (he : e < 64) (hp : p < 6) (hl : x.Ps.length ≤ 6) (hf : f.Data.length ≤ 20) (hR : x.V.Rows.length ≤ 1048580) (hRn : x.V.Rows.length < n) (hr : ∀ v ∈ x.V.Rows,∃ m b : Nat,v.Members = m ∧ v.Bare = b ∧ m < 64 ∧ b < 64) (hE : qU n x.V c = some (e : Int)) (hM : ∀ j < 6,QV M j = ((QV (JO b e) j && !(j == p)) && (decide (y < 0) || decide (y = (j : Int))))) :
  ∀ (m k : Nat) (acc : List Out),k ≤ x.Ps.length → x.Ps.length < m + k → acc.length ≤ k → (∀ o ∈ acc,o.F.Data.length ≤ 20) → ∃ zs,qL n m x c M f k acc = some (.inl zs) ∧ qF n m b (c,ok) x p f y k acc = some (.inl zs) ∧ zs.length ≤ 6 ∧ ∀ o ∈ zs,o.F.Data.length ≤ 20
 | 0,k,acc,h1,h2,h3,h4 => by omega
 | m + 1,k,acc,h1,h2,h3,h4 => by
  rw [qL,qF]
  by_cases hk : k < x.Ps.length
  ·obtain ⟨t,t1,t2⟩ := Yg n x.V c k hR hRn hr
   obtain ⟨g1,g2⟩ := zBP n f t hf
   have hg : decide (acc.length + [(⟨(k : Int),⟨f.Dst,f.Src,t,f.Data⟩⟩ : Out)].length ≤ 268435456) = true := decide_eq_true (by simp; omega)
   have ih := zCE n x c f b e p y M ok hb he hp hl hf hR hRn hr hE hM m (k + 1) acc (by omega) (by omega) (by omega) h4
   have ih2 := zCE n x c f b e p y M ok hb he hp hl hf hR hRn hr hE hM m (k + 1) (acc ++ [⟨(k : Int),⟨f.Dst,f.Src,t,f.Data⟩⟩]) (by omega) (by omega) (by simp; omega) (fun o ho => by
    rcases List.mem_append.1 ho with ho | ho
    ·exact h4 o ho
    ·rw [List.mem_singleton] at ho; subst ho; exact hf)
   have hbit : ql n (IntKind.wrap .i64 (BitVec.ofInt (IntKind.bits .i64) (b : Int) &&& BitVec.ofInt (IntKind.bits .i64) (e : Int)).toNat) k = some (QV (JO b e) k) := Qb n (JO b e) k (by omega)
   rw [qd hk,cond_true,cond_true,ZU n M k (by omega),Option.bind_some,hM k (by omega),zm (by omega : k ≤ 1099511627776)]
   simp only [YF,hE,Option.bind_some,hbit,ZO,t1,t2,g1,g2,hg,cond_true,zm (by omega : k ≤ 1099511627776)]
   by_cases hkp : k = p
   ·subst hkp
    rw [show (((k : Nat) : Int) != ((k : Nat) : Int)) = false from by simp,cond_false,cond_false,show (k == k) = true from by simp]
    simp only [Bool.not_true,Bool.and_false,Bool.false_and,cond_false]
    exact ih
   ·rw [show (((k : Nat) : Int) != ((p : Nat) : Int)) = true from by simp; omega,cond_true,show (k == p) = false from by simpa using hkp]
    cases QV (JO b e) k with
    | false => simp only [Bool.false_and,cond_false]; exact ih
    | true =>
     simp only [Bool.not_false,Bool.and_self,Bool.true_and,cond_true]
     by_cases hy : y < 0
     ·rw [decide_eq_true hy]
      simp only [Bool.true_or,cond_true]
      exact ih2
     ·rw [decide_eq_false hy]
      simp only [Bool.false_or,cond_false]
      by_cases hyk : y = (k : Int)
      ·rw [decide_eq_true hyk,show (y == (k : Int)) = true from by simpa using hyk]
       simp only [cond_true]
       exact ih2
      ·rw [decide_eq_false hyk,show (y == (k : Int)) = false from by simpa using hyk]
       simp only [cond_false]
       exact ih
  ·obtain rfl : k = x.Ps.length := by omega
   rw [qR]
   exact ⟨acc,rfl,rfl,by omega,h4⟩
theorem zEW (n : Nat) : J5 n = ZD n := rfl
theorem zBv (n : Nat) (f : Frame) : ∃ b,ZD n f = some b ∧ (b = true → f.Data.length ≤ 20) := by
 unfold ZD
 simp only [zR,Option.bind_some]
 cases (decide (0 ≤ f.Dst) && decide (f.Dst ≤ 9999)) with
 | false => exact ⟨false,rfl,fun h => by cases h⟩
 | true =>
  cases (decide (1 ≤ f.Src) && decide (f.Src ≤ 9999)) with
  | false => exact ⟨false,rfl,fun h => by cases h⟩
  | true =>
   cases (decide (0 ≤ f.Tag) && decide (f.Tag ≤ 99)) with
   | false => exact ⟨false,rfl,fun h => by cases h⟩
   | true => exact ⟨_,rfl,fun h => by have := of_decide_eq_true h; omega⟩
theorem zD9 (n : Nat) (xs : List zB) (t a : Int) (h : xs.length ≤ 1048580) (hn : xs.length < n) (hx : ∀ v ∈ xs,0 ≤ v.Port ∧ v.Port ≤ 7) : ∃ r,ZA n xs t a = some r ∧ -1 ≤ r ∧ r ≤ 7 := by
 unfold ZA
 rcases Qa n xs t a h hn with ⟨e,_⟩ | ⟨k,hk,e,_⟩
 ·rw [e]; exact ⟨-1,rfl,by omega,by omega⟩
 ·rw [e,Option.bind_some,decide_eq_false (show ¬ ((k : Nat) : Int) < 0 by omega),cond_false,zg hk,Option.bind_some]
  have := hx _ (List.getElem_mem hk)
  exact ⟨_,rfl,by omega,this.2⟩
theorem zDj (n : Nat) (x : zA) (p : Int) (f : Frame) (wx : x.wf) (hx : x.sz ≤ 1048576) (hn : 1048577 < n) : ∃ (y : zA) (zs : List Out),ZC n x p f = some (y,zs) ∧ Yj n x p f = some (y,zs) ∧ y.sz ≤ x.sz + 1 ∧ zs.length ≤ 6 ∧ ∀ o ∈ zs,o.F.Data.length ≤ 20 := by
 have hs : x.Name.size + x.Ps.length + x.F.length + x.V.sz = x.sz := rfl
 have hs2 : x.V.Rows.length + x.V.Pv.length = x.V.sz := rfl
 have nil : ∀ o ∈ ([] : List Out),o.F.Data.length ≤ 20 := fun o ho => by cases ho
 obtain ⟨b,h1,h2⟩ := zAl n x wx (by omega) (by omega)
 unfold ZC Yj
 rw [zAF n x (by omega),zDH n x (by omega),Option.bind_some,Option.bind_some,JU n x p b h1 (by omega),zEZ n x p b h2 (by omega),Option.bind_some,Option.bind_some]
 cases hc : (b && (decide (0 ≤ p) && decide (p < x.Ps.length))) with
 | false => exact ⟨x,[],rfl,rfl,by omega,by simp,nil⟩
 | true =>
  simp only [Bool.and_eq_true,decide_eq_true_eq] at hc
  obtain ⟨rfl,q0,q1⟩ := hc
  obtain ⟨k,rfl⟩ := Int.eq_ofNat_of_zero_le q0
  have hk : k < x.Ps.length := by omega
  obtain ⟨p1,p2,p3,p4,p5,p6,p7,p8,p9,p10,p11,p12,p13⟩ := Qd n x (by omega) h1
  obtain ⟨fo,f1,f2⟩ := zBv n f
  simp only [Bool.not_true,cond_false]
  rw [zEW,f1,Option.bind_some,Option.bind_some]
  cases fo with
  | false => exact ⟨x,[],rfl,rfl,by omega,by simp,nil⟩
  | true =>
   have hf := f2 rfl
   obtain ⟨s,s0,s1,s2⟩ := zBO n x.Id x.Ps (by omega) (by omega)
   obtain ⟨c,ok,c1,c2,_⟩ := JR n x.V (by omega) (by omega) (by omega) (k : Int) f.Tag ⟨by omega,by omega⟩
   obtain ⟨dr,d1,d2,_,_⟩ := zDF n x.Dr p11.1 p11.2
   obtain ⟨vr,v1,v2,_,_⟩ := zDF n x.Ve p12.1 p12.2
   have hb6 : k < 6 := by omega
   simp only [Bool.not_true,cond_false,s1,s2,c1,c2,Option.bind_some,ZU n (s : Int) k (by omega),Qb n (s : Int) k (by omega)]
   cases QV (s : Int) k with
   | false =>
    simp only [Bool.not_false,cond_true,d1,d2,Option.bind_some]
    exact ⟨_,[],rfl,rfl,by show x.Name.size + x.Ps.length + x.F.length + x.V.sz ≤ x.sz + 1; omega,by simp,nil⟩
   | true =>
    simp only [Bool.not_true,cond_false]
    cases ok with
    | false =>
     simp only [Bool.not_false,cond_true,d1,d2,Option.bind_some]
     exact ⟨_,[],rfl,rfl,by show x.Name.size + x.Ps.length + x.F.length + x.V.sz ≤ x.sz + 1; omega,by simp,nil⟩
    | true =>
     obtain ⟨ys,l1,l2,l3,l4,l5⟩ := zEl n x.F c f.Src k wx.2.2.2.1 (by omega) hn
     have hr := zCk n x.V _ (by omega) (by omega) (by omega) (by omega) (by omega) (by omega) p7
     obtain ⟨e,e0,e1⟩ := zAZ n x.V c (by omega) (by omega) hr
     have hport : ∀ v ∈ ys,0 ≤ v.Port ∧ v.Port ≤ 7 := fun v hv => by
      rcases l5 v hv with h | rfl
      ·obtain ⟨j,hj,rfl⟩ := List.getElem_of_mem h
       exact (zAg n _ ((Y6 n x.F (by omega) p6).2.1 j hj)).2.2.1
      ·exact ⟨by simp only; omega,by simp only; omega⟩
     have hand : ∀ a : Int,IntKind.wrap .i64 (BitVec.ofInt (IntKind.bits .i64) (s : Int) &&& BitVec.ofInt (IntKind.bits .i64) (e : Int)).toNat = JO s e := fun _ => rfl
     have hsm := zFH s s0 e e0
     have hlt : s &&& e < 64 := Nat.lt_of_le_of_lt Nat.and_le_left s0
     obtain ⟨n1,n2,n3⟩ := zFI (s &&& e) hlt k hb6
     have hu : IntKind.wrap .u64 ((k : Nat) : Int) = k := zBg (by omega)
     have ysz : x.Name.size + x.Ps.length + ys.length + x.V.sz ≤ x.sz + 1 := by omega
     have fin : ∀ y : Int,-1 ≤ y → y ≤ 7 → ∃ zs,q4 n x s (c,true) ys vr e x k f y = some (⟨x.Id,x.Name,x.Ps,ys,x.V,x.Tk,x.Pa,x.Wo,x.Dr,vr⟩,zs) ∧ Zt n x s (c,true) ys vr x k f y = some (⟨x.Id,x.Name,x.Ps,ys,x.V,x.Tk,x.Pa,x.Wo,x.Dr,vr⟩,zs) ∧ zs.length ≤ 6 ∧ ∀ o ∈ zs,o.F.Data.length ≤ 20 := fun y y0 y1 => by
      unfold q4 Zt
      by_cases hy : y ≥ 0
      ·obtain ⟨q,rfl⟩ := Int.eq_ofNat_of_zero_le hy
       have hq : IntKind.wrap .u64 ((q : Nat) : Int) = q := zBg (by omega)
       obtain ⟨zs,z1,z2,z3,z4⟩ := zCE n x c f s e k q (zFy (zAU (JO s e) k) q) true s0 e0 hb6 p2 hf (by omega) (by omega) hr e1 (fun j hj => by
        rw [hsm]
        obtain ⟨a,ha⟩ := Int.eq_ofNat_of_zero_le n1
        rw [ha] at n2
        have h3 := n3 j hj
        rw [ha] at h3 ⊢
        rw [zFJ a (by omega) q (by omega) j hj,h3,decide_eq_false (show ¬ ((q : Nat) : Int) < 0 by omega),Bool.false_or]
        congr 1
        rw [Bool.eq_iff_iff]
        simp only [beq_iff_eq,decide_eq_true_eq]
        omega) n 0 [] (by omega) (by omega) (by simp) nil
       refine ⟨zs,?_,?_,z3,z4⟩
       ·rw [decide_eq_true hy,cond_true,decide_eq_true (show (0 : Int) ≤ IntKind.wrap .u64 ((q : Nat) : Int) by rw [hq]; omega),cond_true]
        have : ZF n x c (zFy (zAU (JO s e) k) q) f = some zs := by
         unfold ZF
         rw [show qL n n x c _ f 0 [] = _ from z1]
         rfl
        refine (congrArg (fun o => Option.bind o _) this).trans rfl
       ·rw [show qF n n s (c,true) x k f q 0 [] = _ from z2]
        rfl
      ·have hym : y = -1 := by omega
       subst hym
       obtain ⟨zs,z1,z2,z3,z4⟩ := zCE n x c f s e k (-1) (zAU (JO s e) k) true s0 e0 hb6 p2 hf (by omega) (by omega) hr e1 (fun j hj => by
        rw [hsm,n3 j hj,decide_eq_true (show (-1 : Int) < 0 by omega),Bool.true_or,Bool.and_true]) n 0 [] (by omega) (by omega) (by simp) nil
       refine ⟨zs,?_,?_,z3,z4⟩
       ·rw [decide_eq_false hy,cond_false]
        have : ZF n x c (zAU (JO s e) k) f = some zs := by
         unfold ZF
         rw [show qL n n x c _ f 0 [] = _ from z1]
         rfl
        refine (congrArg (fun o => Option.bind o _) this).trans rfl
       ·rw [show qF n n s (c,true) x k f (-1) 0 [] = _ from z2]
        rfl
     simp only [Bool.not_true,cond_false,l1,l2,v1,v2,e1,Option.bind_some,hu,decide_eq_true (show (0 : Int) ≤ ((k : Nat) : Int) by omega),cond_true]
     cases hd : (f.Dst != 0) with
     | true =>
      obtain ⟨r,r1,r2,r3⟩ := zD9 n ys c f.Dst (by omega) (by omega) hport
      obtain ⟨zs,z1,z2,z3,z4⟩ := fin r r2 r3
      simp only [cond_true,zAQ,r1,Option.bind_some]
      exact ⟨_,zs,z1,z2,ysz,z3,z4⟩
     | false =>
      obtain ⟨zs,z1,z2,z3,z4⟩ := fin (-1) (by omega) (by omega)
      simp only [cond_false]
      exact ⟨_,zs,z1,z2,ysz,z3,z4⟩
def zDO (v : zB) : Prop := (1 ≤ v.Tag ∧ v.Tag ≤ 99) ∧ (1 ≤ v.Mac ∧ v.Mac ≤ 9999) ∧ (0 ≤ v.Port ∧ v.Port ≤ 7) ∧ (0 ≤ v.Age ∧ v.Age ≤ 4) ∧ (v.Sc = true → v.Age = 0)
def JB (xs : List zB) : Prop := xs.length ≤ 12 ∧ (∀ v ∈ xs,zDO v) ∧ xs.Pairwise fun a b => qO a b.Tag b.Mac
theorem zCe (n : Nat) (v : zB) (h : zDO v) : qZ n v = some true := by
 obtain ⟨h1,h2,h3,h4,h5⟩ := h
 have two : ∀ {a b c : Int},a ≤ b → b ≤ c → (decide (a ≤ b) && decide (b ≤ c)) = true := fun h h' => by rw [decide_eq_true h,decide_eq_true h']; rfl
 unfold qZ
 simp only [zR,Option.bind_some,two h1.1 h1.2,two h2.1 h2.2,two h3.1 h3.2,two h4.1 h4.2,cond_true]
 cases hs : v.Sc with
 | false => rfl
 | true => rw [h5 hs]; rfl
theorem Jg (n : Nat) (xs : List zB) (hn : xs.length < n) (h : JB xs) : qj n xs = some true := by
 obtain ⟨h1,h2,h3⟩ := h
 rw [List.pairwise_iff_getElem] at h3
 unfold qj
 rcases zAO (L := fun m k => qB n m xs k) (N := xs.length) (P := fun _ => True) (fun m k hk => by
  refine .inl ⟨trivial,?_⟩
  simp only [qB]
  rw [qd hk,cond_true,zg hk,Option.bind_some,zCe n _ (h2 _ (List.getElem_mem hk)),Option.bind_some,zm (by omega : k ≤ 1099511627776),Bool.not_true,cond_false]
  cases k with
  | zero => rfl
  | succ k =>
   have hw2 : IntKind.wrap .i64 (((k + 1 : Nat) : Int) - 1) = (k : Int) := by rw [wrap64 (by omega) (by omega)]; omega
   rw [decide_eq_true (show ((k + 1 : Nat) : Int) > 0 by omega),hw2,cond_true,zg (show k < xs.length by omega),Option.bind_some,Option.bind_some,Option.bind_some,YI,decide_eq_true (h3 k (k + 1) (by omega) hk (by omega))]
   rfl) (fun m => ⟨(),by simp only [qB]; rw [qR]; rfl⟩) n 0 (by omega) (by omega) with ⟨a,e,_⟩ | ⟨_,p⟩
 ·rw [show qB n n xs 0 = _ from e,Option.bind_some]
  simp only [Yn]
  rw [decide_eq_true (by omega)]
 ·exact absurd (fun _ _ _ => trivial) p
theorem zGm (n : Nat) (xs : List zB) (h : xs.length ≤ 1048580) (hok : qj n xs = some true) : JB xs := by
 obtain ⟨h1,h2,_⟩ := Y6 n xs h hok
 refine ⟨h1,fun v hv => ?_,?_⟩
 ·obtain ⟨j,hj,rfl⟩ := List.getElem_of_mem hv
  exact zAg n _ (h2 j hj)
 ·rw [List.pairwise_iff_getElem]
  intro i j hi hj hij
  exact zA7 n xs h hok j i hij hj
theorem zE7 {v : zB} (h : zDO v) : v.wf := by
 obtain ⟨h1,h2,h3,h4,_⟩ := h
 exact ⟨zr (by omega) (by omega),zr (by omega) (by omega),zr (by omega) (by omega),zr (by omega) (by omega),trivial⟩
theorem zJ7 : (⟨0,0,0,0,0⟩ : Vec).wf := by
 have z0 : z5 0 := zr (by omega) (by omega)
 exact ⟨z0,z0,z0,z0,z0,trivial⟩
theorem zF4 (n : Nat) (c : Int) (up : Bool) (h : 1 ≤ c ∧ c ≤ 1000) : qK n ⟨up,c,false,⟨0,0,0,0,0⟩⟩ = some true := by
 unfold qK
 rw [zR,Option.bind_some,decide_eq_true h.1,decide_eq_true h.2]
 cases up <;> rfl
theorem zF5 (n : Nat) (c : Int) (v : Vec) (h : 1 ≤ c ∧ c ≤ 1000) (hv : qr n v = some true) : qK n ⟨true,c,true,v⟩ = some true := by
 unfold qK
 rw [zR,Option.bind_some,decide_eq_true h.1,decide_eq_true h.2]
 simp only [Bool.and_self,Bool.not_true,cond_false,hv,Option.bind_some]
theorem YW {L : Nat → Int → Option (Unit ⊕ Bool)} (l : Nat) (h : ∀ (m k : Nat),k < l → L (m + 1) k = L m ((k + 1 : Nat) : Int)) (h0 : ∀ m,L (m + 1) (l : Int) = some (.inl ())) : ∀ (m k : Nat),k ≤ l → l < m + k → L m k = some (.inl ())
 | 0,k,h1,h2 => by omega
 | m + 1,k,h1,h2 => by
  by_cases hk : k < l
  ·rw [h m k hk]
   exact YW l h h0 m (k + 1) hk (by omega)
  ·obtain rfl : k = l := by omega
   exact h0 m
theorem zCY (n : Nat) (x : zA) (hx : x.sz ≤ 1048576) (hn : 1048577 < n) : Qt n x x = some true := by
 have hs : x.Name.size + x.Ps.length + x.F.length + x.V.sz = x.sz := rfl
 have hs2 : x.V.Rows.length + x.V.Pv.length = x.V.sz := rfl
 have r1 := YW (L := fun m k => qt n m x.V.Rows x.V.Rows k) x.V.Rows.length (fun m k hk => by
  simp only [qt]
  rw [qd hk,cond_true,zg hk,zm (by omega : k ≤ 1099511627776)]
  simp only [Option.bind_some,beq_self_eq_true,Bool.and_self,Bool.not_true,cond_false]) (fun m => by simp only [qt]; rw [qR]; rfl) n 0 (by omega) (by omega)
 have r2 := YW (L := fun m k => qy n m x.V.Pv x.V.Pv k) x.V.Pv.length (fun m k hk => by
  simp only [qy]
  rw [qd hk,cond_true,zg hk,zm (by omega : k ≤ 1099511627776)]
  simp only [Option.bind_some,bne_self_eq_false,beq_self_eq_true,Bool.and_self,Bool.not_true,cond_false]) (fun m => by simp only [qy]; rw [qR]; rfl) n 0 (by omega) (by omega)
 have r3 := YW (L := fun m k => qf n m x x k) x.F.length (fun m k hk => by
  simp only [qf]
  rw [qd hk,cond_true,zg hk,zm (by omega : k ≤ 1099511627776)]
  simp only [Option.bind_some,beq_self_eq_true,Bool.and_self,Bool.not_true,cond_false]) (fun m => by simp only [qf]; rw [qR]; rfl) n 0 (by omega) (by omega)
 have r4 := YW (L := fun m k => qg n m x x k) x.Ps.length (fun m k hk => by
  simp only [qg]
  rw [qd hk,cond_true,zg hk,zm (by omega : k ≤ 1099511627776)]
  simp only [Option.bind_some,beq_self_eq_true,Bool.and_self,Bool.not_true,cond_false]) (fun m => by simp only [qg]; rw [qR]; rfl) n 0 (by omega) (by omega)
 have q1 : YO n x.V.Rows x.V.Rows = some true := by
  unfold YO
  rw [bne_self_eq_false,cond_false,show qt n n x.V.Rows x.V.Rows 0 = _ from r1]; rfl
 have q2 : Yl n x.V.Pv x.V.Pv = some true := by
  unfold Yl
  rw [bne_self_eq_false,cond_false,show qy n n x.V.Pv x.V.Pv 0 = _ from r2]; rfl
 unfold Qt QM QN
 rw [q1,q2,show qg n n x x 0 = _ from r4]
 simp only [bne_self_eq_false,beq_self_eq_true,Bool.not_true,cond_false,Option.bind_some,cond_true]
 rw [show qf n n x x 0 = _ from r3]
 rfl
theorem zF7 (n : Nat) (v : Vec) (h1 : 1 ≤ v.Root ∧ v.Root ≤ 99) (h2 : 0 ≤ v.Co ∧ v.Co ≤ 100000) (h3 : 0 ≤ v.Hops ∧ v.Hops ≤ 10) (h4 : 1 ≤ v.Bridge ∧ v.Bridge ≤ 99) (h5 : 0 ≤ v.Port ∧ v.Port ≤ 7) : qr n v = some true := by
 unfold qr
 simp only [zR,Option.bind_some,decide_eq_true h1.1,decide_eq_true h1.2,decide_eq_true h2.1,decide_eq_true h2.2,decide_eq_true h3.1,decide_eq_true h3.2,decide_eq_true h4.1,decide_eq_true h4.2,decide_eq_true h5.1,decide_eq_true h5.2,Bool.and_self,cond_true]
theorem zEt (n : Nat) (c : Src) (h : c.ok) : ∃ v c',JW n c = some (v,c') ∧ qr n v = some true ∧ c'.ok := by
 obtain ⟨v1,c1,e1,a1,b1,g1⟩ := zc n c 5 h
 obtain ⟨v2,c2,e2,a2,g2⟩ := ZJ n c1 [0,1,2,5,10,100] g1 (by decide)
 obtain ⟨v3,c3,e3,a3,g3⟩ := ZJ n c2 [0,1,2,9,10] g2 (by decide)
 obtain ⟨v4,c4,e4,a4,b4,g4⟩ := zc n c3 5 g3
 obtain ⟨v5,c5,e5,a5,b5,g5⟩ := zc n c4 4 g4
 have b1 := b1 (by decide)
 have b4 := b4 (by decide)
 have b5 := b5 (by decide)
 simp only [List.mem_cons,List.not_mem_nil,or_false] at a2 a3
 refine ⟨⟨1 + v1,v2,v3,1 + v4,v5⟩,c5,?_,zF7 n _ (by simp only; omega) (by simp only; omega) (by simp only; omega) (by simp only; omega) (by simp only; omega),g5⟩
 unfold JW
 simp only [e1,e2,e3,e4,e5,Option.bind_some]
 rw [wrap64 (z := 1 + v1) (by omega) (by omega),wrap64 (z := 1 + v4) (by omega) (by omega)]
theorem zBD (n : Nat) (p : Nat) (hp : p ≤ 1000) : ∀ (m k : Nat) (ys : List Pt) (c : Src),k ≤ p → p < m + k → ys.length = k → c.ok → (∀ q ∈ ys,qK n q = some true ∧ q.wf) → ∃ (ys' : List Pt) (c' : Src),qV n m p k ys c.b c.i c.h = some (.inl (ys',c'.b,c'.i,c'.h)) ∧ ys'.length = p ∧ c'.ok ∧ ∀ q ∈ ys',qK n q = some true ∧ q.wf
 | 0,k,ys,c,h1,h2,_,_,_ => by omega
 | m + 1,k,ys,c,h1,h2,h3,h4,h5 => by
  rw [qV]
  by_cases hk : k < p
  ·obtain ⟨v1,c1,e1,g1⟩ := zAb n c 4 h4
   obtain ⟨v2,c2,e2,a2,g2⟩ := ZJ n c1 [1,1,2,5,10] g1 (by decide)
   obtain ⟨v3,c3,e3,g3⟩ := zAb n c2 4 g2
   obtain ⟨v4,c4,e4,o4,g4⟩ := zEt n c3 g3
   have hc : 1 ≤ v2 ∧ v2 ≤ 1000 := by
    simp only [List.mem_cons,List.not_mem_nil,or_false] at a2
    omega
   have w2 : z5 v2 := zr (by omega) (by omega)
   have w4 := zF8 n v4 o4
   have e1' : Zz n (⟨c.b,c.i,c.h⟩ : Src) 4 = some (v1,c1) := e1
   have hlen : ∀ u : Pt,decide (ys.length + [u].length ≤ 268435456) = true := fun u => decide_eq_true (by rw [List.length_singleton]; omega)
   have ih := fun (u : Pt) c' hc (hu : qK n u = some true ∧ u.wf) => zBD n p hp m (k + 1) (ys ++ [u]) c' (by omega) (by omega) (by simp [h3]) hc (fun q hq => by
    rcases List.mem_append.1 hq with hq | hq
    ·exact h5 q hq
    ·rw [List.mem_singleton] at hq; subst hq; exact hu)
   have ok0 : ∀ up : Bool,qK n ⟨up,v2,false,⟨0,0,0,0,0⟩⟩ = some true ∧ (⟨up,v2,false,⟨0,0,0,0,0⟩⟩ : Pt).wf := fun up => ⟨zF4 n v2 up hc,w2,zJ7⟩
   simp only [qd hk,cond_true,e1',e2,e3,e4,Option.bind_some,Zw,hlen,zm (by omega : k ≤ 1099511627776)]
   cases v1 with
   | false =>
    simp only [Bool.not_false,cond_true]
    cases v3 with
    | false => simp only [Bool.not_false,cond_true]; exact ih _ c4 g4 ⟨zF5 n v2 v4 hc o4,w2,w4⟩
    | true => simp only [Bool.not_true,cond_false]; exact ih _ c3 g3 (ok0 true)
   | true => simp only [Bool.not_true,cond_false]; exact ih _ c2 g2 (ok0 false)
  ·have he : k = p := by omega
   rw [he,qR]
   exact ⟨ys,c,rfl,by omega,h4,h5⟩
theorem zID (e : zB) : ∀ (xs : List zB),(xs.Pairwise fun a b => qO a b.Tag b.Mac) → (QO e xs).Pairwise fun a b => qO a b.Tag b.Mac
 | [],_ => by unfold QO; exact List.pairwise_singleton _ _
 | v :: vs,h => by
  rw [List.pairwise_cons] at h
  unfold QO
  by_cases h1 : qO v e.Tag e.Mac
  ·rw [if_pos h1,List.pairwise_cons]
   refine ⟨fun w hw => ?_,zID e vs h.2⟩
   rcases zCx e vs w hw with rfl | hw
   ·exact h1
   ·exact h.1 w hw
  ·rw [if_neg h1]
   by_cases h2 : v.Tag = e.Tag ∧ v.Mac = e.Mac
   ·rw [if_pos h2,List.pairwise_cons]
    refine ⟨fun w hw => ?_,h.2⟩
    have := h.1 w hw
    unfold qO at this ⊢
    rw [← h2.1,← h2.2]; exact this
   ·rw [if_neg h2,List.pairwise_cons,List.pairwise_cons]
    have hev : qO e v.Tag v.Mac := by unfold qO at h1 ⊢; omega
    refine ⟨fun w hw => ?_,h⟩
    rcases List.mem_cons.1 hw with rfl | hw
    ·exact hev
    ·have := h.1 w hw
     unfold qO at this hev ⊢
     omega
theorem JB.put {xs : List zB} (hx : JB xs) (e : zB) (he : zDO e) (h : xs.length < 12 ∨ ∃ k,∃ hk : k < xs.length,xs[k].Tag = e.Tag ∧ xs[k].Mac = e.Mac) : JB (QO e xs) := by
 refine ⟨?_,fun v hv => ?_,zID e xs hx.2.2⟩
 ·rcases h with h | ⟨k,hk,k1,k2⟩
  ·have := zEa e xs; omega
  ·rw [zEb e xs k hk (fun j i hij hj => List.pairwise_iff_getElem.1 hx.2.2 i j (by omega) hj hij) k1 k2,List.length_set]
   exact hx.1
 ·rcases zCx e xs v hv with rfl | hv
  ·exact he
  ·exact hx.2.1 v hv
theorem JB.srt {xs : List zB} (hx : JB xs) : ∀ (j i : Nat) (hij : i < j) (hj : j < xs.length),qO (xs[i]'(by omega)) xs[j].Tag xs[j].Mac := fun j i hij hj => List.pairwise_iff_getElem.1 hx.2.2 i j (by omega) hj hij
theorem zCI (n : Nat) (v : zB) : ∃ b,qZ n v = some b ∧ (b = true ↔ zDO v) := by
 obtain ⟨b,hb⟩ := JA n v
 refine ⟨b,hb,fun h => ?_,fun h => ?_⟩
 ·rw [h] at hb
  have := zAg n v hb
  exact this
 ·have := zCe n v h
  rw [hb] at this
  exact Option.some.inj this
theorem zCG (n : Nat) (xs : List zB) (t a p : Int) (hx : JB xs) (hn : 1048577 < n) : ∃ ys,QI n xs t a p = some ys ∧ JB ys ∧ (zDO ⟨t,a,p,0,false⟩ → ys = QO ⟨t,a,p,0,false⟩ xs ∨ (ys = xs ∧ ((∃ k,∃ hk : k < xs.length,xs[k].Tag = t ∧ xs[k].Mac = a) ∨ xs.length = 12))) := by
 have h12 := hx.1
 have hcs : qD n xs = some xs := by unfold qD; rw [decide_eq_true (by simp; omega)]; rfl
 have hb := Jg n xs (by omega) hx
 obtain ⟨c,hc,hce⟩ := zCI n ⟨t,a,p,0,false⟩
 have hp := zAh n xs ⟨t,a,p,0,false⟩ (by omega) (by omega) hx.srt
 unfold QI
 rcases Qa n xs t a (by omega) (by omega) with ⟨e,hne⟩ | ⟨k,hk,e,k1,k2⟩
 ·rw [e,Option.bind_some,hb,Option.bind_some,hc,Option.bind_some]
  cases c with
  | false => exact ⟨xs,by simp only [Bool.not_true,Bool.not_false,cond_true,cond_false,hcs,Option.bind_some],hx,fun he => absurd (hce.2 he) (by simp)⟩
  | true =>
   simp only [Bool.not_true,cond_false,decide_eq_false (show ¬ (-1 : Int) ≥ 0 by omega),decide_eq_true (show (-1 : Int) < 0 by omega),cond_true,hp,Option.bind_some,hcs]
   by_cases hf : 12 ≤ xs.length
   ·rw [decide_eq_true (show (xs.length : Int) ≥ 12 by omega)]
    exact ⟨xs,rfl,hx,fun _ => .inr ⟨rfl,.inr (by omega)⟩⟩
   ·rw [decide_eq_false (show ¬ (xs.length : Int) ≥ 12 by omega)]
    exact ⟨_,rfl,hx.put _ (hce.1 rfl) (.inl (by omega)),fun _ => .inl rfl⟩
 ·rw [e,Option.bind_some,hb,Option.bind_some,hc,Option.bind_some]
  cases c with
  | false => exact ⟨xs,by simp only [Bool.not_true,Bool.not_false,cond_true,cond_false,hcs,Option.bind_some],hx,fun he => absurd (hce.2 he) (by simp)⟩
  | true =>
   simp only [Bool.not_true,cond_false,decide_eq_true (show ((k : Nat) : Int) ≥ 0 by omega),decide_eq_false (show ¬ ((k : Nat) : Int) < 0 by omega),cond_true,hp,Option.bind_some,hcs,zg hk]
   cases xs[k].Sc with
   | true => exact ⟨xs,rfl,hx,fun _ => .inr ⟨rfl,.inl ⟨k,hk,k1,k2⟩⟩⟩
   | false => exact ⟨_,rfl,hx.put _ (hce.1 rfl) (.inr ⟨k,hk,k1,k2⟩),fun _ => .inl rfl⟩
theorem zDl (n : Nat) (xs : List zB) (t a p : Int) (hx : JB xs) (hn : 1048577 < n) : ∃ ys b,Q7 n xs t a p = some (ys,b) ∧ JB ys := by
 have h12 := hx.1
 have hcs : qD n xs = some xs := by unfold qD; rw [decide_eq_true (by simp; omega)]; rfl
 have hb := Jg n xs (by omega) hx
 obtain ⟨c,hc,hce⟩ := zCI n ⟨t,a,p,0,true⟩
 have hp := zAh n xs ⟨t,a,p,0,true⟩ (by omega) (by omega) hx.srt
 unfold Q7
 rw [hb,Option.bind_some,hc,Option.bind_some]
 cases c with
 | false => exact ⟨xs,false,by simp only [Bool.not_true,Bool.not_false,cond_true,cond_false,hcs,Option.bind_some],hx⟩
 | true =>
  simp only [Bool.not_true,cond_false]
  rcases Qa n xs t a (by omega) (by omega) with ⟨e,hne⟩ | ⟨k,hk,e,k1,k2⟩
  ·rw [e]
   simp only [Option.bind_some,decide_eq_true (show (-1 : Int) < 0 by omega),cond_true,hp,hcs]
   by_cases hf : 12 ≤ xs.length
   ·rw [decide_eq_true (show (xs.length : Int) ≥ 12 by omega)]
    exact ⟨xs,_,rfl,hx⟩
   ·rw [decide_eq_false (show ¬ (xs.length : Int) ≥ 12 by omega)]
    exact ⟨_,_,rfl,hx.put _ (hce.1 rfl) (.inl (by omega))⟩
  ·rw [e]
   simp only [Option.bind_some,decide_eq_false (show ¬ ((k : Nat) : Int) < 0 by omega),cond_false,hp]
   exact ⟨_,_,rfl,hx.put _ (hce.1 rfl) (.inr ⟨k,hk,k1,k2⟩)⟩
theorem zKc : ∀ z < 5,∀ p < 4,((QR 1048580 ((1 + z : Nat) : Int) ((1 + p : Nat) : Int)).any fun y => decide (y.Id = ((1 + z : Nat) : Int)) && (y.F.isEmpty && (decide (y.Pa = 0) && (decide (y.Wo = 0) && decide (y.Dr = 0))))) = true := by decide +kernel
theorem zAw (n : Nat) (c : Src) (h : c.ok) : ∃ v c',YE n c = some (v,c') ∧ (11 ≤ v ∧ v ≤ 14) ∧ c'.ok := by
 obtain ⟨v,c',e,hv,g⟩ := ZJ n c [11,12,13,14] h (by decide)
 simp only [List.mem_cons,List.not_mem_nil,or_false] at hv
 unfold YE
 rw [e]
 exact ⟨v,c',rfl,by omega,g⟩
theorem zEs (n : Nat) (c : Src) (z : Int) (h : c.ok) (z0 : 0 ≤ z) (z9 : z ≤ 9) (hn : 100 < n) : ∃ xs c',Ys n c z = some (xs,c') ∧ xs.length ≤ 9 ∧ c'.ok := by
 obtain ⟨q,rfl⟩ := Int.eq_ofNat_of_zero_le z0
 have loop : ∀ (m k : Nat) (ys : List Int) (c : Src),k ≤ q → q < m + k → ys.length = k → c.ok → ∃ (zs : List Int) (c' : Src),ZT n m q k ys c.b c.i c.h = some (.inl (zs,c'.b,c'.i,c'.h)) ∧ zs.length = q ∧ c'.ok := fun m => by
  induction m with
  | zero => intro k ys c h1 h2; omega
  | succ m ih =>
   intro k ys c h1 h2 h3 h4
   rw [ZT]
   by_cases hk : k < q
   ·obtain ⟨v,c',e,_,_,g⟩ := Q9 n c h4
    rw [decide_eq_true (show (k : Int) < (q : Int) by omega),cond_true,show ZX n ⟨c.b,c.i,c.h⟩ = _ from e,Option.bind_some,decide_eq_true (by simp; omega),cond_true,zm (by omega : k ≤ 1099511627776)]
    exact ih (k + 1) _ c' (by omega) (by omega) (by simp; omega) g
   ·obtain rfl : k = q := by omega
    rw [decide_eq_false (by omega)]
    exact ⟨ys,c,rfl,h3,h4⟩
 obtain ⟨zs,c',e,l,g⟩ := loop n 0 [] c (by omega) (by omega) rfl h
 unfold Ys
 rw [show ZT n n q 0 [] c.b c.i c.h = _ from e]
 exact ⟨zs,c',rfl,by omega,g⟩
theorem zFW (n : Nat) (c : Src) (h : c.ok) (hn : 100 < n) : ∃ f c',JV n c = some (f,c') ∧ (0 ≤ f.Dst ∧ f.Dst ≤ 14) ∧ (11 ≤ f.Src ∧ f.Src ≤ 14) ∧ (0 ≤ f.Tag ∧ f.Tag ≤ 3) ∧ f.Data.length ≤ 9 ∧ c'.ok := by
 obtain ⟨v1,c1,e1,a1,g1⟩ := ZJ n c [0,11,12,13,14,11,12] h (by decide)
 obtain ⟨v2,c2,e2,a2,g2⟩ := zAw n c1 g1
 obtain ⟨v3,c3,e3,a3,g3⟩ := ZJ n c2 [0,0,0,1,2,3] g2 (by decide)
 obtain ⟨v4,c4,e4,a4,g4⟩ := ZJ n c3 [0,1,2,5,9] g3 (by decide)
 simp only [List.mem_cons,List.not_mem_nil,or_false] at a1 a3 a4
 obtain ⟨xs,c5,e5,l5,g5⟩ := zEs n c4 v4 g4 (by omega) (by omega) hn
 refine ⟨⟨v1,v2,v3,xs⟩,c5,?_,by simp only; omega,a2,by simp only; omega,l5,g5⟩
 unfold JV zAc
 simp only [e1,e2,e3,e4,e5,Option.bind_some]
def DrB (x : zA) : Prop := qT 1048580 x = some true ∧ x.wf ∧ x.sz ≤ 40 ∧ x.Dr = 0 ∧ JB x.F ∧ VtG 1048580 x.Ps.length x.V ∧ x.Ps.length ≤ 4
theorem zBE (p : Nat) (r : Int × Src) (hr : r.1 = p) (hp : p ≤ 3) : ∀ (m k : Nat) (c : Src) (fs : List zB),k < m → k ≤ 1000 → c.ok → JB fs → ∃ (c' : Src) (zs : List zB),c'.ok ∧ JB zs ∧ ZS 1048580 m r k c.b c.i c.h fs = some (.inl (c'.b,c'.i,c'.h,zs))
 | 0,k,c,fs,h,_,_,_ => by omega
 | m + 1,k,c,fs,h,h',hc,hf => by
  rw [ZS]
  by_cases hk : (k : Int) > 0
  ·obtain ⟨v1,c1,e1,a1,b1,g1⟩ := zc 1048580 c 3 hc
   obtain ⟨v2,c2,e2,a2,g2⟩ := zAw 1048580 c1 g1
   obtain ⟨v3,c3,e3,a3,b3,g3⟩ := zc 1048580 c2 (IntKind.wrap .i64 (1 + r.1)) g2
   obtain ⟨ys,e4,f4,_⟩ := zCG 1048580 fs (IntKind.wrap .i64 (1 + v1)) v2 v3 hf (by omega)
   rw [decide_eq_true hk,cond_true,show za 1048580 ⟨c.b,c.i,c.h⟩ 3 = _ from e1,Option.bind_some,e2,Option.bind_some,e3,Option.bind_some,e4,Option.bind_some,show IntKind.wrap .i64 ((k : Int) - 1) = ((k - 1 : Nat) : Int) from by rw [wrap64 (by omega) (by omega)]; omega]
   exact zBE p r hr hp m (k - 1) c3 ys (by omega) (by omega) g3 f4
  ·rw [decide_eq_false hk,cond_false]
   exact ⟨c,fs,hc,hf,rfl⟩
theorem zEr (c : Src) (hc : c.ok) : ∃ x c',Yr 1048580 c = some (x,c') ∧ DrB x ∧ c'.ok := by
 obtain ⟨v1,c1,e1,a1,b1,g1⟩ := zc 1048580 c 4 hc
 obtain ⟨v2,c2,e2,a2,b2,g2⟩ := zc 1048580 c1 5 g1
 have b1 := b1 (by decide)
 have b2 := b2 (by decide)
 obtain ⟨v1,rfl⟩ := Int.eq_ofNat_of_zero_le a1
 obtain ⟨v2,rfl⟩ := Int.eq_ofNat_of_zero_le a2
 have t1 : IntKind.wrap .i64 (1 + (v1 : Int)) = ((1 + v1 : Nat) : Int) := by rw [wrap64 (by omega) (by omega)]; omega
 have t2 : IntKind.wrap .i64 (1 + (v2 : Int)) = ((1 + v2 : Nat) : Int) := by rw [wrap64 (by omega) (by omega)]; omega
 obtain ⟨y,ey,hy⟩ : ∃ y,QR 1048580 ((1 + v2 : Nat) : Int) ((1 + v1 : Nat) : Int) = some y ∧ y.Id = ((1 + v2 : Nat) : Int) ∧ y.F = [] ∧ y.Pa = 0 ∧ y.Wo = 0 ∧ y.Dr = 0 := by
  have := zKc v2 (by omega) v1 (by omega)
  cases hb : QR 1048580 ((1 + v2 : Nat) : Int) ((1 + v1 : Nat) : Int) with
  | none => rw [hb] at this; cases this
  | some y =>
   rw [hb] at this
   simp only [Option.any_some,Bool.and_eq_true,decide_eq_true_eq,List.isEmpty_iff] at this
   exact ⟨y,rfl,this.1,this.2.1,this.2.2.1,this.2.2.2.1,this.2.2.2.2⟩
 obtain ⟨y1,y2,y3,y4,y5⟩ := hy
 obtain ⟨nm,c3,e3,hnm,g3⟩ : ∃ nm c',Jz 1048580 c2 [(⟨#[]⟩ : ByteArray),(⟨#[121,97,114,100]⟩ : ByteArray),(⟨#[98,49]⟩ : ByteArray)] = some (nm,c') ∧ nm.size ≤ 4 ∧ c'.ok := by
  obtain ⟨v,c',e,a,b,g⟩ := zc 1048580 c2 (([(⟨#[]⟩ : ByteArray),(⟨#[121,97,114,100]⟩ : ByteArray),(⟨#[98,49]⟩ : ByteArray)].length : Nat) : Int) g2
  have b := b (by decide)
  obtain ⟨v,rfl⟩ := Int.eq_ofNat_of_zero_le a
  have b : v < 3 := by simp only [List.length_cons,List.length_nil] at b; omega
  unfold Jz
  rw [e]
  have : v = 0 ∨ v = 1 ∨ v = 2 := by omega
  rcases this with rfl | rfl | rfl
  ·exact ⟨_,c',rfl,by decide,g⟩
  ·exact ⟨_,c',rfl,by decide,g⟩
  ·exact ⟨_,c',rfl,by decide,g⟩
 obtain ⟨ps,c4,e4,l4,g4,w4⟩ := zBD 1048580 (1 + v1) (by omega) 1048580 0 [] c3 (by omega) (by omega) rfl g3 (fun q hq => by cases hq)
 obtain ⟨vt,c5,e5,g5,h5⟩ := zFX (1 + v1) (by omega) (by omega) c4 g4
 obtain ⟨v6,c6,e6,a6,b6,g6⟩ := zc 1048580 c5 6 h5
 have b6 := b6 (by decide)
 obtain ⟨v6,rfl⟩ := Int.eq_ofNat_of_zero_le a6
 obtain ⟨c7,fs,g7,f7,e7⟩ := zBE v1 ((v1 : Int),c1) rfl (by omega) 1048580 v6 c6 [] (by omega) (by omega) g6 ⟨Nat.zero_le _,(fun v hv => by cases hv),List.Pairwise.nil⟩
 have j2 : ∀ (fs : List zB) (c : Src),JB fs → c.ok → ∃ x c',Zx 1048580 y (nm,c3) (ps,c4) (vt,c5) c.b c.i c.h fs = some (x,c') ∧ DrB x ∧ c'.ok := fun fs c hf hc => by
  obtain ⟨u1,d1,k1,m1,n1,o1⟩ := zc 1048580 c 5 hc
  have n1 := n1 (by decide)
  obtain ⟨u2,d2,k2,m2,o2⟩ := ZJ 1048580 d1 [0,1,5,1000000] o1 (by decide)
  simp only [List.mem_cons,List.not_mem_nil,or_false] at m2
  have hvs := g5.sz
  have h12 := hf.1
  refine ⟨⟨y.Id,nm,ps,fs,vt,u1,y.Pa,y.Wo,y.Dr,u2⟩,d2,?_,⟨?_,?_,?_,y5,hf,by simp only; rw [l4]; exact g5,by simp only; omega⟩,o2⟩
  ·unfold Zx
   rw [show za 1048580 ⟨c.b,c.i,c.h⟩ 5 = _ from k1,Option.bind_some,k2]
   rfl
  ·refine Jm 1048580 _ (by simp only; omega) (by simp only; omega) (by simp only; omega) (by simp only; omega) (by simp only; omega) (by simp only; omega) (Jg 1048580 fs (by omega) hf) ?_ ⟨m1,by simp only; omega⟩ (by simp only; omega) (by simp only; omega) (by simp only; omega) ?_ (fun j hj => (w4 _ (List.getElem_mem hj)).1)
   ·simp only; rw [l4]; exact g5.2.2.2.1
   ·simp only; omega
  ·have z0 : z5 0 := zr (by omega) (by omega)
   have hm : maxLen = 9223372036854775807 := by decide
   refine ⟨by simp only; rw [y1]; exact zr (by omega) (by omega),by simp only; omega,⟨by simp only; omega,fun q hq => (w4 q hq).2⟩,⟨by simp only; omega,fun v hv => zE7 (hf.2.1 v hv)⟩,g5.1.1,g5.1.2.1,zr (z := u1) (by omega) (by omega),by simp only; rw [y3]; exact z0,by simp only; rw [y4]; exact z0,by simp only; rw [y5]; exact z0,zr (z := u2) (by omega) (by omega),trivial⟩
  ·show nm.size + ps.length + fs.length + vt.sz ≤ 40
   omega
 have j1 : ∃ x c',QT 1048580 ((v1 : Int),c1) y (nm,c3) (ps,c4) (vt,c5) c7.b c7.i c7.h fs = some (x,c') ∧ DrB x ∧ c'.ok := by
  unfold QT
  obtain ⟨u1,d1,k1,o1⟩ := zAb 1048580 c7 3 g7
  rw [show Zz 1048580 ⟨c7.b,c7.i,c7.h⟩ 3 = _ from k1,Option.bind_some]
  cases u1 with
  | false => exact j2 fs d1 f7 o1
  | true =>
   obtain ⟨u2,d2,k2,m2,o2⟩ := zAw 1048580 d1 o1
   obtain ⟨u3,d3,k3,m3,n3,o3⟩ := zc 1048580 d2 (IntKind.wrap .i64 (1 + (v1 : Int))) o2
   obtain ⟨ys,b,k4,f4⟩ := zDl 1048580 fs 1 u2 u3 f7 (by omega)
   simp only [cond_true,k2,k3,k4,Option.bind_some]
   exact j2 ys d3 f4 o3
 obtain ⟨x,c8,e8,h8⟩ := j1
 refine ⟨x,c8,?_,h8⟩
 have e4' : Yp 1048580 c3 ((1 + v1 : Nat) : Int) = some (ps,c4) := by
  unfold Yp
  rw [show qV 1048580 1048580 ((1 + v1 : Nat) : Int) 0 ([] : List Pt) c3.b c3.i c3.h = _ from e4]
  rfl
 unfold Yr
 simp only [e1,Option.bind_some,e2,t1,t2,ey,e3,e4',e5,e6,y2]
 rw [show ZS 1048580 1048580 ((v1 : Int),c1) v6 c6.b c6.i c6.h [] = _ from e7]
 exact e8
theorem zD7 (x0 : List Int) (h : x0.length ≤ 1048576) : ∃ (x : zA) (p : Nat) (f : Frame),YR 1048580 x0 = some (x,(p : Int),f) ∧ DrB x ∧ p < x.Ps.length ∧ (0 ≤ f.Dst ∧ f.Dst ≤ 14) ∧ (11 ≤ f.Src ∧ f.Src ≤ 14) ∧ (0 ≤ f.Tag ∧ f.Tag ≤ 3) ∧ f.Data.length ≤ 9 := by
 obtain ⟨c,e1,g1⟩ := zGD 1048580 x0 (by omega) (by omega)
 obtain ⟨x,c2,e2,h2,g2⟩ := zEr c g1
 have hs : x.Name.size + x.Ps.length + x.F.length + x.V.sz = x.sz := rfl
 have hp := (Qd 1048580 x (by have := h2.2.2.1; omega) h2.1).1
 obtain ⟨v3,c3,e3,a3,b3,g3⟩ := zc 1048580 c2 (x.Ps.length : Int) g2
 have b3 := b3 (by omega)
 obtain ⟨v3,rfl⟩ := Int.eq_ofNat_of_zero_le a3
 obtain ⟨f,c4,e4,d1,d2,d3,d4,_⟩ := zFW 1048580 c3 g3 (by omega)
 refine ⟨x,v3,f,?_,h2,by omega,d1,d2,d3,d4⟩
 unfold YR
 simp only [e1,e2,e3,e4,Option.bind_some]
theorem zAI : ∀ a < 64,∀ i < 6,QV ((a : Nat) : Int) i = a.testBit i := by decide +kernel
theorem zGR (e : zB) : ∀ xs : List zB,e ∈ QO e xs
 | [] => by unfold QO; exact List.mem_singleton_self _
 | v :: vs => by
  unfold QO
  split
  ·exact List.mem_cons_of_mem _ (zGR e vs)
  ·split <;> exact List.mem_cons_self
theorem zC2 (n : Nat) {xs : List zB} (hx : JB xs) (hn : 100 < n) (t a : Int) : ∃ r,ZA n xs t a = some r ∧ -1 ≤ r ∧ r ≤ 7 ∧ (0 ≤ r → ∃ v ∈ xs,v.Tag = t ∧ v.Mac = a ∧ v.Port = r) ∧ (r < 0 → ∀ v ∈ xs,¬ (v.Tag = t ∧ v.Mac = a)) := by
 have h12 := hx.1
 unfold ZA
 rcases Qa n xs t a (by omega) (by omega) with ⟨e,h⟩ | ⟨k,hk,e,k1,k2⟩
 ·rw [e]
  refine ⟨-1,rfl,by omega,by omega,by omega,fun _ v hv => ?_⟩
  obtain ⟨i,hi,rfl⟩ := List.getElem_of_mem hv
  exact h i hi
 ·rw [e,Option.bind_some,decide_eq_false (show ¬ ((k : Nat) : Int) < 0 by omega),cond_false,zg hk]
  have hp := (hx.2.1 _ (List.getElem_mem hk)).2.2.1
  exact ⟨xs[k].Port,rfl,by omega,hp.2,fun _ => ⟨_,List.getElem_mem hk,k1,k2,rfl⟩,fun h => by omega⟩
def QH (n : Nat) (x : zA) (c : Int) (f : Frame) (j : Nat) : Out := ⟨(j : Int),⟨f.Dst,f.Src,(Qn n x.V c j).getD 0,f.Data⟩⟩
theorem zEe (n : Nat) (x : zA) (c M : Int) (f : Frame) (hl : x.Ps.length ≤ 6) (hf : f.Data.length ≤ 20) (hR : x.V.Rows.length ≤ 1048580) (hRn : x.V.Rows.length < n) (hr : ∀ v ∈ x.V.Rows,∃ m b : Nat,v.Members = m ∧ v.Bare = b ∧ m < 64 ∧ b < 64) : ∀ (m k : Nat) (acc : List Out),k ≤ x.Ps.length → x.Ps.length < m + k → acc.length ≤ k → qL n m x c M f k acc = some (.inl (acc ++ (((List.range x.Ps.length).drop k).filter fun j => QV M j).map (QH n x c f)))
 | 0,k,acc,h1,h2,h3 => by omega
 | m + 1,k,acc,h1,h2,h3 => by
  rw [qL]
  by_cases hk : k < x.Ps.length
  ·obtain ⟨t,t1,_⟩ := Yg n x.V c k hR hRn hr
   obtain ⟨g1,_⟩ := zBP n f t hf
   have hd : (List.range x.Ps.length).drop k = k :: (List.range x.Ps.length).drop (k + 1) := by
    rw [List.drop_eq_getElem_cons (by simpa using hk),List.getElem_range]
   rw [qd hk,cond_true,ZU n M k (by omega),Option.bind_some,zm (by omega : k ≤ 1099511627776),hd,List.filter_cons]
   cases hb : QV M k with
   | false =>
    rw [cond_false,zEe n x c M f hl hf hR hRn hr m (k + 1) acc (by omega) (by omega) (by omega)]
    simp
   | true =>
    rw [cond_true,t1,Option.bind_some,g1,Option.bind_some,decide_eq_true (by simp; omega),cond_true,zEe n x c M f hl hf hR hRn hr m (k + 1) _ (by omega) (by omega) (by simp; omega)]
    have ho : QH n x c f k = ⟨(k : Int),⟨f.Dst,f.Src,t,f.Data⟩⟩ := by unfold QH; rw [t1]; rfl
    simp [ho]
  ·obtain rfl : k = x.Ps.length := by omega
   rw [qR,List.drop_eq_nil_of_le (by simp)]
   simp
def goes (s e p : Nat) (y : Int) (j : Nat) : Bool := ((s.testBit j && e.testBit j) && !(j == p)) && (decide (y < 0) || decide (y = (j : Int)))
theorem zBQ (n : Nat) (x : zA) (c : Int) (f : Frame) (s e p : Nat) (y M : Int) (hl : x.Ps.length ≤ 6) (hf : f.Data.length ≤ 20) (hR : x.V.Rows.length ≤ 1048580) (hn : 1048577 < n) (hRn : x.V.Rows.length < n) (hr : ∀ v ∈ x.V.Rows,∃ m b : Nat,v.Members = m ∧ v.Bare = b ∧ m < 64 ∧ b < 64) (hM : ∀ j < 6,QV M j = goes s e p y j) : ZF n x c M f = some (((List.range x.Ps.length).filter (goes s e p y)).map (QH n x c f)) := by
 unfold ZF
 rw [show qL n n x c M f 0 [] = _ from zEe n x c M f hl hf hR hRn hr n 0 [] (by omega) (by omega) (by simp)]
 have : (List.range x.Ps.length).filter (fun j => QV M j) = (List.range x.Ps.length).filter (goes s e p y) := List.filter_congr fun j hj => hM j (by have := List.mem_range.1 hj; omega)
 rw [List.nil_append,List.drop_zero,this]
 rfl
def YD (z : Int) : Int := if z ≥ 1000000 then z else z + 1
theorem zBz (n : Nat) (z : Int) (h0 : 0 ≤ z) (h1 : z ≤ 1000000) : Zy n z = some (YD z) := by
 unfold Zy YD
 by_cases h : z ≥ 1000000
 ·rw [decide_eq_true h,if_pos h]; rfl
 ·rw [decide_eq_false h,if_neg h,wrap64 (by omega) (by omega)]; rfl
theorem zD8 (n : Nat) (x : zA) (p : Nat) (f : Frame) (hx : x.sz ≤ 1048576) (hn : 1048577 < n) (hb : qT n x = some true) (hp : p < x.Ps.length) (hf : ZD n f = some true) : ∃ (s : Nat) (c : Int) (ok : Bool),s < 64 ∧ QJ n x.Id x.Ps = some (s : Int) ∧ Za n x.V p f.Tag = some (c,ok) ∧
  ((s.testBit p && ok) = false → ZC n x p f = some (⟨x.Id,x.Name,x.Ps,x.F,x.V,x.Tk,x.Pa,x.Wo,YD x.Dr,x.Ve⟩,[])) ∧
  ((s.testBit p && ok) = true → ∃ (e : Nat) (ys : List zB) (y : Int),e < 64 ∧ qU n x.V c = some (e : Int) ∧ e.testBit p = true ∧ QI n x.F c f.Src p = some ys ∧ JB ys ∧ (zDO ⟨c,f.Src,p,0,false⟩ → ys = QO ⟨c,f.Src,p,0,false⟩ x.F ∨ (ys = x.F ∧ ((∃ k,∃ hk : k < x.F.length,x.F[k].Tag = c ∧ x.F[k].Mac = f.Src) ∨ x.F.length = 12))) ∧ (f.Dst = 0 → y = -1) ∧ (f.Dst ≠ 0 → ZA n ys c f.Dst = some y) ∧
   ZC n x p f = some (⟨x.Id,x.Name,x.Ps,ys,x.V,x.Tk,x.Pa,x.Wo,x.Dr,YD x.Ve⟩,((List.range x.Ps.length).filter (goes s e p y)).map (QH n x c f))) := by
 have hs : x.Name.size + x.Ps.length + x.F.length + x.V.sz = x.sz := rfl
 have hs2 : x.V.Rows.length + x.V.Pv.length = x.V.sz := rfl
 obtain ⟨p1,p2,p3,p4,p5,p6,p7,p8,p9,p10,p11,p12,p13⟩ := Qd n x (by omega) hb
 have hfd : f.Data.length ≤ 20 := by
  obtain ⟨b,f1,f2⟩ := zBv n f
  rw [hf] at f1
  exact f2 (Option.some.inj f1).symm
 obtain ⟨s,s0,s1,s2⟩ := zBO n x.Id x.Ps (by omega) (by omega)
 obtain ⟨c,ok,c1,c2,c3⟩ := JR n x.V (by omega) (by omega) (by omega) (p : Int) f.Tag ⟨by omega,by omega⟩
 have hbit : QV (s : Int) p = s.testBit p := zAI s s0 p (by omega)
 have there : (true && (decide ((0 : Int) ≤ p) && decide ((p : Int) < x.Ps.length))) = true := by
  rw [decide_eq_true (by omega),decide_eq_true (by omega)]; rfl
 refine ⟨s,c,ok,s0,s1,c1,fun h => ?_,fun h => ?_⟩
 ·unfold ZC
  rw [zAF n x (by omega),Option.bind_some,JU n x p true hb (by omega),Option.bind_some,there]
  simp only [Bool.not_true,cond_false,hf,s1,c1,Option.bind_some,ZU n (s : Int) p (by omega),hbit,zBz n x.Dr p11.1 p11.2]
  cases hsb : s.testBit p with
  | false => rfl
  | true =>
   rw [hsb,Bool.true_and] at h
   rw [h]
   rfl
 ·rw [Bool.and_eq_true] at h
  obtain ⟨hsb,rfl⟩ := h
  have hr := zCk n x.V _ (by omega) (by omega) (by omega) (by omega) (by omega) (by omega) p7
  obtain ⟨e,e0,e1⟩ := zAZ n x.V c (by omega) (by omega) hr
  have heb : e.testBit p = true := by
   obtain ⟨i,m,i1,_,i3,i4⟩ := c3 rfl
   rw [YF,e1] at i3
   rw [← zAI e e0 p (by omega),Option.some.inj i3,show p = i by omega]
   exact i4
  have hF := zGm n x.F (by omega) p6
  obtain ⟨ys,l1,l2,l3⟩ := zCG n x.F c f.Src p hF hn
  obtain ⟨y,y1,y2,y3,_⟩ := zC2 n l2 (by omega) c f.Dst
  have hsm := zFH s s0 e e0
  have hlt : s &&& e < 64 := Nat.lt_of_le_of_lt Nat.and_le_left s0
  obtain ⟨n1,n2,n3⟩ := zFI (s &&& e) hlt p (by omega)
  obtain ⟨a,ha⟩ := Int.eq_ofNat_of_zero_le n1
  have hu : IntKind.wrap .u64 ((p : Nat) : Int) = p := zBg (by omega)
  have hnot : ∀ j < 6,QV (zAU (JO s e) p) j = ((s.testBit j && e.testBit j) && !(j == p)) := fun j hj => by
   rw [hsm,n3 j hj,zAI _ hlt j hj,Nat.testBit_and]
  have j1 : ∀ y : Int,-1 ≤ y → y ≤ 7 → q4 n x s (c,true) ys (YD x.Ve) e x p f y = some (⟨x.Id,x.Name,x.Ps,ys,x.V,x.Tk,x.Pa,x.Wo,x.Dr,YD x.Ve⟩,((List.range x.Ps.length).filter (goes s e p y)).map (QH n x c f)) := fun y y0 y7 => by
   unfold q4
   by_cases hy : y ≥ 0
   ·obtain ⟨q,rfl⟩ := Int.eq_ofNat_of_zero_le hy
    have hq : IntKind.wrap .u64 ((q : Nat) : Int) = q := zBg (by omega)
    have hM : ∀ j < 6,QV (zFy (zAU (JO s e) p) q) j = goes s e p q j := fun j hj => by
     have h3 := hnot j hj
     rw [hsm] at h3 ⊢
     rw [ha] at n2 h3 ⊢
     rw [zFJ a (by omega) q (by omega) j hj,h3]
     unfold goes
     rw [decide_eq_false (show ¬ ((q : Nat) : Int) < 0 by omega),Bool.false_or]
     congr 1
     rw [Bool.eq_iff_iff]
     simp only [beq_iff_eq,decide_eq_true_eq]
     omega
    have hv := zBQ n x c f s e p q (zFy (zAU (JO s e) p) q) p2 hfd (by omega) hn (by omega) hr hM
    rw [decide_eq_true hy,cond_true,decide_eq_true (show (0 : Int) ≤ IntKind.wrap .u64 ((q : Nat) : Int) by rw [hq]; omega),cond_true]
    unfold zFy zAU JO at hv
    simp only
    rw [hv]
    rfl
   ·have hM : ∀ j < 6,QV (zAU (JO s e) p) j = goes s e p y j := fun j hj => by
     rw [hnot j hj]
     unfold goes
     rw [decide_eq_true (show y < 0 by omega),Bool.true_or,Bool.and_true]
    have hv := zBQ n x c f s e p y (zAU (JO s e) p) p2 hfd (by omega) hn (by omega) hr hM
    rw [decide_eq_false hy,cond_false]
    unfold zAU JO at hv
    simp only
    rw [hv]
    rfl
  have top : ∀ y : Int,-1 ≤ y → y ≤ 7 → (f.Dst = 0 → y = -1) → (f.Dst ≠ 0 → ZA n ys c f.Dst = some y) → ZC n x p f = some (⟨x.Id,x.Name,x.Ps,ys,x.V,x.Tk,x.Pa,x.Wo,x.Dr,YD x.Ve⟩,((List.range x.Ps.length).filter (goes s e p y)).map (QH n x c f)) := fun y y0 y7 d0 d1 => by
   unfold ZC
   rw [zAF n x (by omega),Option.bind_some,JU n x p true hb (by omega),Option.bind_some,there]
   simp only [Bool.not_true,cond_false,hf,s1,c1,Option.bind_some,ZU n (s : Int) p (by omega),hbit,hsb,zBz n x.Ve p12.1 p12.2,l1,e1]
   rw [decide_eq_true (show (0 : Int) ≤ IntKind.wrap .u64 ((p : Nat) : Int) by rw [hu]; omega),cond_true]
   by_cases hd : f.Dst = 0
   ·rw [show (f.Dst != 0) = false from by simp [hd],cond_false]
    have := j1 (-1) (by omega) (by omega)
    rw [d0 hd]
    exact this
   ·rw [show (f.Dst != 0) = true from by simpa using hd,cond_true,d1 hd,Option.bind_some]
    exact j1 y y0 y7
  by_cases hd : f.Dst = 0
  ·exact ⟨e,ys,-1,e0,e1,heb,l1,l2,l3,fun _ => rfl,fun h => absurd hd h,top (-1) (by omega) (by omega) (fun _ => rfl) (fun h => absurd hd h)⟩
  ·exact ⟨e,ys,y,e0,e1,heb,l1,l2,l3,fun h => absurd h hd,fun _ => y1,top y y2 y3 (fun h => absurd h hd) (fun _ => y1)⟩
theorem zHe (n : Nat) (x : zE) (c : Int) (e j : Nat) (h : x.Rows.length ≤ 1048580) (hn : x.Rows.length < n) (hq : x.Pv.length ≤ 1048580) (hr : ∀ v ∈ x.Rows,(∃ m b : Nat,v.Members = m ∧ v.Bare = b ∧ m < 64 ∧ b < 64) ∧ 1 ≤ v.Id ∧ v.Id ≤ 99) (he : e < 64) (hE : qU n x c = some (e : Int)) (hj : j < x.Pv.length) (hj6 : j < 6) (hb : e.testBit j = true) : Za n x j c = some (c,true) ∧ 1 ≤ c ∧ c ≤ 99 := by
 obtain ⟨r,e1,k⟩ := Zp n x c h hn
 unfold qU at hE
 rw [e1,Option.bind_some] at hE
 rcases k with ⟨rfl,_⟩ | ⟨v,r0,hv,hid⟩
 ·rw [decide_eq_true (by omega),cond_true] at hE
  have : e = 0 := by have := Option.some.inj hE; omega
  subst this
  simp at hb
 ·rw [decide_eq_false (show ¬ r < 0 by omega),cond_false,hv,Option.bind_some] at hE
  obtain ⟨_,i1,i2⟩ := hr v (List.mem_of_getElem? (zY hv).2)
  have hm := Option.some.inj hE
  have hw : IntKind.wrap .i64 ((x.Pv.length : Int) - 1) = (x.Pv.length : Int) - 1 := wrap64 (by omega) (by omega)
  refine ⟨?_,by omega,by omega⟩
  unfold Za
  rw [zR,Option.bind_some,hw,decide_eq_true (show (0 : Int) ≤ j by omega),decide_eq_true (show (j : Int) ≤ (x.Pv.length : Int) - 1 by omega),Bool.and_self,Bool.not_true,cond_false,show (c == 0) = false from by rw [beq_eq_false_iff_ne]; omega,cond_false]
  unfold ZQ
  rw [e1,Option.bind_some,decide_eq_false (show ¬ r < 0 by omega),cond_false,hv,Option.bind_some,hm,ZU n (e : Int) j (by omega),Option.bind_some,zAI e he j hj6,hb]
  rfl
theorem zHd (n : Nat) (x : zE) (p : Int) (h : x.Rows.length ≤ 1048580) (hn : x.Rows.length < n) (hq : x.Pv.length ≤ 1048580) (hqn : x.Pv.length < n) (h0 : 0 ≤ p) (h1 : p ≤ 1099511627776) (hok : zq n x p = some true) : (∀ v ∈ x.Rows,(∃ m b : Nat,v.Members = m ∧ v.Bare = b ∧ m < 64 ∧ b < 64) ∧ 1 ≤ v.Id ∧ v.Id ≤ 99) ∧ (x.Pv.length : Int) = p := by
 obtain ⟨hp,hpl,_,hr,_⟩ := (zBx n x p h hn hq hqn h0 h1).1 hok
 refine ⟨fun v hv => ⟨zCk n x p h hn hq hqn h0 h1 hok v hv,?_⟩,hpl⟩
 obtain ⟨j,hj,rfl⟩ := List.getElem_of_mem hv
 have hb := hr j hj
 unfold zC8 at hb
 simp only [Bool.and_eq_true,decide_eq_true_eq] at hb
 exact hb.1
theorem zEk (n : Nat) (f : Frame) (h1 : 0 ≤ f.Dst ∧ f.Dst ≤ 9999) (h2 : 1 ≤ f.Src ∧ f.Src ≤ 9999) (h3 : 0 ≤ f.Tag ∧ f.Tag ≤ 99) (h4 : f.Data.length ≤ 20) : ZD n f = some true := by
 unfold ZD
 simp only [zR,Option.bind_some,decide_eq_true h1.1,decide_eq_true h1.2,decide_eq_true h2.1,decide_eq_true h2.2,decide_eq_true h3.1,decide_eq_true h3.2,Bool.and_self,cond_true,decide_eq_true (show (f.Data.length : Int) ≤ 20 by omega)]
theorem zC0 (n : Nat) (xs : List Int) (h : xs.length ≤ 1000) (hn : 1001 < n) : ZP n xs xs = some true := by
 have r1 := YW (L := fun m k => qk n m xs xs k) xs.length (fun m k hk => by
  simp only [qk]
  rw [qd hk,cond_true,zg hk,zm (by omega : k ≤ 1099511627776)]
  simp only [Option.bind_some,bne_self_eq_false,cond_false]) (fun m => by simp only [qk]; rw [qR]; rfl) n 0 (by omega) (by omega)
 unfold ZP
 rw [bne_self_eq_false,cond_false,show qk n n xs xs 0 = _ from r1]; rfl
theorem zDW (n : Nat) (xs : List zB) (h : xs.length ≤ 1000) (hn : 1001 < n) : Ym n xs xs = some true := by
 have r1 := YW (L := fun m k => qz n m xs xs k) xs.length (fun m k hk => by
  simp only [qz]
  rw [qd hk,cond_true,zg hk,zm (by omega : k ≤ 1099511627776)]
  simp only [Option.bind_some,beq_self_eq_true,Bool.and_self,Bool.not_true,cond_false]) (fun m => by simp only [qz]; rw [qR]; rfl) n 0 (by omega) (by omega)
 unfold Ym
 rw [bne_self_eq_false,cond_false,show qz n n xs xs 0 = _ from r1]; rfl
theorem zCu (n : Nat) (f : Frame) : Q4 n f f = some true := by
 unfold Q4
 simp only [beq_self_eq_true,cond_true]
theorem zDI (n : Nat) (zs : List Out) (h : zs.length ≤ 1000) (hn : 1001 < n) : YQ n zs zs = some true := by
 have r1 := YW (L := fun m k => qu n m zs zs k) zs.length (fun m k hk => by
  simp only [qu]
  rw [qd hk,cond_true,zg hk,zm (by omega : k ≤ 1099511627776)]
  simp only [Option.bind_some,bne_self_eq_false,cond_false,zCu n zs[k].F,Bool.not_true]) (fun m => by simp only [qu]; rw [qR]; rfl) n 0 (by omega) (by omega)
 unfold YQ
 rw [bne_self_eq_false,cond_false,show qu n n zs zs 0 = _ from r1]; rfl
theorem zAj (L : Nat) (g : Nat → Bool) : ((List.range L).filter g).Pairwise (· < ·) := List.pairwise_lt_range.filter g
theorem zBL (x : zA) (p : Nat) (f : Frame) (c : Int) (ok : Bool) (s e : Nat) (y : Int) (z : zA) (s0 : s < 64) (e0 : e < 64) (hL : x.Ps.length ≤ 6) (hfd : f.Data.length ≤ 20) (hE : qU 1048580 x.V c = some (e : Int)) (hR : x.V.Rows.length ≤ 1048575) (hr : ∀ v ∈ x.V.Rows,∃ m b : Nat,v.Members = m ∧ v.Bare = b ∧ m < 64 ∧ b < 64) :
  ∀ (m k : Nat),k ≤ ((List.range x.Ps.length).filter (goes s e p y)).length → ((List.range x.Ps.length).filter (goes s e p y)).length < m + k → ZI 1048580 m (x,(p : Int),f) (z,((List.range x.Ps.length).filter (goes s e p y)).map (QH 1048580 x c f)) (c,ok) s k = some (.inl ())
 | 0,k,h1,h2 => by omega
 | m + 1,k,h1,h2 => by
  rw [ZI]
  have hlen : (((List.range x.Ps.length).filter (goes s e p y)).map (QH 1048580 x c f)).length = ((List.range x.Ps.length).filter (goes s e p y)).length := List.length_map _
  by_cases hk : k < ((List.range x.Ps.length).filter (goes s e p y)).length
  ·have hl6 := List.length_filter_le (goes s e p y) (List.range x.Ps.length)
   rw [List.length_range] at hl6
   have ih := zBL x p f c ok s e y z s0 e0 hL hfd hE hR hr m (k + 1) (by omega) (by omega)
   have hk' : k < (((List.range x.Ps.length).filter (goes s e p y)).map (QH 1048580 x c f)).length := by omega
   obtain ⟨j,hj⟩ : ∃ j,j = ((List.range x.Ps.length).filter (goes s e p y))[k] := ⟨_,rfl⟩
   obtain ⟨j1,j2⟩ := List.mem_filter.1 (show j ∈ (List.range x.Ps.length).filter (goes s e p y) by rw [hj]; exact List.getElem_mem hk)
   have j1 := List.mem_range.1 j1
   have j2' := j2
   unfold goes at j2'
   simp only [Bool.and_eq_true,Bool.not_eq_true',beq_eq_false_iff_ne] at j2'
   obtain ⟨⟨⟨g1,g2⟩,g3⟩,_⟩ := j2'
   obtain ⟨t,t1,t2⟩ := Yg 1048580 x.V c j (by omega) (by omega) hr
   have ho : (((List.range x.Ps.length).filter (goes s e p y)).map (QH 1048580 x c f))[k] = ⟨(j : Int),⟨f.Dst,f.Src,t,f.Data⟩⟩ := by
    rw [List.getElem_map,← hj]
    unfold QH
    rw [t1]
    rfl
   simp only
   rw [decide_eq_true (show (k : Int) < ((((List.range x.Ps.length).filter (goes s e p y)).map (QH 1048580 x c f)).length : Int) by omega),cond_true,zg hk',Option.bind_some,ho]
   simp only [YF,hE,Option.bind_some,Je 1048580 (s : Int) j (by omega),Je 1048580 (e : Int) j (by omega),zAI s s0 j (by omega),zAI e e0 j (by omega),g1,g2,t2,Bool.not_true,cond_false,bne_self_eq_false,zC0 1048580 f.Data (by omega) (by omega),zm (by omega : k ≤ 1099511627776)]
   rw [show ((j : Int) == (p : Int)) = false from by rw [beq_eq_false_iff_ne]; omega,cond_false]
   by_cases hk0 : (k : Int) > 0
   ·obtain ⟨i,rfl⟩ : ∃ i,k = i + 1 := ⟨k - 1,by omega⟩
    have hi : i < (((List.range x.Ps.length).filter (goes s e p y)).map (QH 1048580 x c f)).length := by omega
    have hlt := List.pairwise_iff_getElem.1 (zAj x.Ps.length (goes s e p y)) i (i + 1) (by omega) hk (by omega)
    have hoi : ((((List.range x.Ps.length).filter (goes s e p y)).map (QH 1048580 x c f))[i]).Port = (((List.range x.Ps.length).filter (goes s e p y))[i] : Int) := by
     rw [List.getElem_map]; rfl
    rw [decide_eq_true hk0,cond_true,show IntKind.wrap .i64 (((i + 1 : Nat) : Int) - 1) = (i : Int) from by rw [wrap64 (by omega) (by omega)]; omega,zg hi,Option.bind_some,hoi,decide_eq_false (by omega),cond_false]
    exact ih
   ·rw [decide_eq_false hk0,cond_false]
    exact ih
  ·simp only
   rw [decide_eq_false (show ¬ (k : Int) < ((((List.range x.Ps.length).filter (goes s e p y)).map (QH 1048580 x c f)).length : Int) by omega)]
   rfl
theorem zI3 {s e p L : Nat} {y : Int} (hy : 0 ≤ y) : ((List.range L).filter (goes s e p y)).length ≤ 1 ∧ ∀ j ∈ (List.range L).filter (goes s e p y),(j : Int) = y := by
 have h2 : ∀ j ∈ (List.range L).filter (goes s e p y),(j : Int) = y := fun j hj => by
  have := (List.mem_filter.1 hj).2
  unfold goes at this
  rw [decide_eq_false (show ¬ y < 0 by omega),Bool.false_or,Bool.and_eq_true,decide_eq_true_eq] at this
  exact this.2.symm
 refine ⟨?_,h2⟩
 cases hl : (List.range L).filter (goes s e p y) with
 | nil => simp
 | cons a l =>
  cases l with
  | nil => simp
  | cons b l =>
   have hs := zAj L (goes s e p y)
   rw [hl] at hs h2
   rw [List.pairwise_cons] at hs
   have h3 := hs.1 b (by simp)
   have h4 := h2 a (by simp)
   have h5 := h2 b (by simp)
   omega
theorem zD6 (x0 : List Int) (w0 : QD zDL x0) : ∃ n,zAT n x0 = some true := by
 refine ⟨1048580,?_⟩
 simp only [zAT,zCC,Option.bind_some]
 by_cases hbig : (x0.length : Int) > 1048576
 ·rw [decide_eq_true hbig]; rfl
 obtain ⟨x,p,f,e1,⟨hb,wx,hsz,hdr,hF,hV,hp4⟩,hp,fd,fs,ft,fl⟩ := zD7 x0 (by omega)
 rw [decide_eq_false hbig,cond_false,e1,Option.bind_some]
 have hs : x.Name.size + x.Ps.length + x.F.length + x.V.sz = x.sz := rfl
 have hs2 : x.V.Rows.length + x.V.Pv.length = x.V.sz := rfl
 obtain ⟨p1,p2,p3,p4,p5,p6,p7,p8,p9,p10,p11,p12,p13⟩ := Qd 1048580 x (by omega) hb
 have hfo : ZD 1048580 f = some true := zEk 1048580 f ⟨fd.1,by omega⟩ ⟨by omega,by omega⟩ ⟨ft.1,by omega⟩ (by omega)
 obtain ⟨s,c,ok,s0,s1,c1,hno,hyes⟩ := zD8 1048580 x p f (by omega) (by omega) hb hp hfo
 obtain ⟨y0,zs0,k1,k2,ky,kz,kd⟩ := zDj 1048580 x p f wx (by omega) (by omega)
 obtain ⟨rows,pv⟩ := zHd 1048580 x.V _ (by omega) (by omega) (by omega) (by omega) (by omega) (by omega) p7
 obtain ⟨ca,cb,ce1,ce2,_⟩ := JR 1048580 x.V (by omega) (by omega) (by omega) (p : Int) f.Tag ⟨by omega,by omega⟩
 rw [c1] at ce1
 cases ce1
 have hsend : Qh 1048580 x.Id x.Ps = some (s : Int) := by
  rw [(zBw 1048580 x.Id x.Ps (by omega) (by omega)).1,s1]
 simp only
 rw [k2,Option.bind_some,k1,Option.bind_some]
 have one_b : ∀ z : Int,0 ≤ z → z ≤ 1000000 → 0 ≤ YD z ∧ YD z ≤ 1000000 := fun z h0 h1 => by unfold YD; split <;> omega
 simp only [zCY 1048580 y0 (by omega) (by omega),zDI 1048580 zs0 (by omega) (by omega),Bool.not_true,cond_false,Option.bind_some]
 have okI : ∀ z : zA,z.wf → z.sz ≤ 1048576 → qT 1048580 z = some true → Zj 1048580 z = some true := fun z wz hz h => by
  obtain ⟨b,h1,h2⟩ := zAl 1048580 z wz (by omega) (by omega)
  rw [h] at h1
  rw [h2,← Option.some.inj h1]
 obtain ⟨w1,w2,w3,w4,w5,w6,w7,w8,w9,w10,w11,w12⟩ := wx
 have hm : maxLen = 9223372036854775807 := by decide
 cases hd : s.testBit p && ok with
 | false =>
  have k3 := hno hd
  rw [k1] at k3
  cases k3
  have o1 := one_b x.Dr p11.1 p11.2
  have hone : YD x.Dr = x.Dr + 1 := by unfold YD; rw [if_neg (by omega)]
  rw [okI (⟨x.Id,x.Name,x.Ps,x.F,x.V,x.Tk,x.Pa,x.Wo,YD x.Dr,x.Ve⟩ : zA) ⟨w1,w2,w3,w4,w5,w6,w7,w8,w9,zr (z := YD x.Dr) (by omega) (by omega),w11,trivial⟩ (by show x.Name.size + x.Ps.length + x.F.length + x.V.sz ≤ 1048576; omega) (Jm 1048580 (⟨x.Id,x.Name,x.Ps,x.F,x.V,x.Tk,x.Pa,x.Wo,YD x.Dr,x.Ve⟩ : zA) (by simp only; omega) p1 p2 p3 p4 p5 p6 p7 p8 p9 p10 o1 p12 p13),Option.bind_some,ce2,Option.bind_some,hsend,Option.bind_some]
  have hJ : Zo 1048580 (x,(p : Int),f) (⟨x.Id,x.Name,x.Ps,x.F,x.V,x.Tk,x.Pa,x.Wo,YD x.Dr,x.Ve⟩,[]) (c,ok) s true = some true := by
   unfold Zo
   simp only [cond_true,List.length_nil,hone,wrap64 (show -9223372036854775808 ≤ x.Dr + 1 by omega) (by omega),beq_self_eq_true,zDW 1048580 x.F (by omega) (by omega),Option.bind_some]
   rfl
  cases ok with
  | false => exact hJ
  | true =>
   rw [Bool.and_true] at hd
   simp only [Bool.not_true,cond_false,Je 1048580 (s : Int) p (by omega),zAI s s0 p (by omega),hd,Option.bind_some,Bool.not_false]
   exact hJ
 | true =>
  obtain ⟨e,ys,y,e0,hE,heb,l1,l2,l3,d0,d1,k3⟩ := hyes hd
  rw [Bool.and_eq_true] at hd
  obtain ⟨hsb,rfl⟩ := hd
  rw [k1] at k3
  cases k3
  have o1 := one_b x.Ve p12.1 p12.2
  have hl12 := l2.1
  have hr := fun v hv => (rows v hv).1
  rw [okI (⟨x.Id,x.Name,x.Ps,ys,x.V,x.Tk,x.Pa,x.Wo,x.Dr,YD x.Ve⟩ : zA) ⟨w1,w2,w3,⟨by simp only; omega,fun v hv => zE7 (l2.2.1 v hv)⟩,w5,w6,w7,w8,w9,w10,zr (z := YD x.Ve) (by omega) (by omega),trivial⟩ (by show x.Name.size + x.Ps.length + ys.length + x.V.sz ≤ 1048576; omega) (Jm 1048580 (⟨x.Id,x.Name,x.Ps,ys,x.V,x.Tk,x.Pa,x.Wo,x.Dr,YD x.Ve⟩ : zA) (by simp only; omega) p1 p2 p3 p4 p5 (Jg 1048580 ys (by omega) l2) p7 p8 p9 p10 p11 o1 p13),Option.bind_some,ce2,Option.bind_some,hsend,Option.bind_some]
  simp only [Bool.not_true,cond_false,Je 1048580 (s : Int) p (by omega),zAI s s0 p (by omega),hsb,Option.bind_some]
  unfold Zo
  rw [cond_false,show ZI 1048580 1048580 (x,(p : Int),f) _ (c,true) s 0 = _ from zBL x p f c true s e y ⟨x.Id,x.Name,x.Ps,ys,x.V,x.Tk,x.Pa,x.Wo,x.Dr,YD x.Ve⟩ s0 e0 p2 (by omega) hE (by omega) hr 1048580 0 (by omega) (by
   have := List.length_filter_le (goes s e p y) (List.range x.Ps.length)
   rw [List.length_range] at this
   omega)]
  simp only [Option.bind_some]
  obtain ⟨_,cl1,cl9⟩ := zHe 1048580 x.V c e p (by omega) (by omega) (by omega) rows e0 hE (by omega) (by omega) heb
  have ent : zDO ⟨c,f.Src,p,0,false⟩ := ⟨⟨cl1,cl9⟩,⟨by simp only; omega,by simp only; omega⟩,⟨by simp only; omega,by simp only; omega⟩,⟨by simp only; omega,by simp only; omega⟩,fun h => by cases h⟩
  have h3 : ZH 1048580 (x,(p : Int),f) (⟨x.Id,x.Name,x.Ps,ys,x.V,x.Tk,x.Pa,x.Wo,x.Dr,YD x.Ve⟩,((List.range x.Ps.length).filter (goes s e p y)).map (QH 1048580 x c f)) (c,true) = some true := by
   unfold ZH
   obtain ⟨r,r1,r2,r3,r4,r5⟩ := zC2 1048580 l2 (by omega) c f.Src
   simp only
   rw [zAQ,r1,Option.bind_some]
   by_cases hr0 : r ≥ 0
   ·rw [decide_eq_true hr0]; rfl
   ·rw [decide_eq_false hr0,cond_false]
    rcases l3 ent with h | ⟨h,h' | h'⟩
    ·exact absurd ⟨rfl,rfl⟩ (r5 (by omega) ⟨c,f.Src,p,0,false⟩ (by rw [h]; exact zGR _ _))
    ·obtain ⟨k,hk,k1,k2⟩ := h'
     rw [h] at r5
     exact absurd ⟨k1,k2⟩ (r5 (by omega) _ (List.getElem_mem hk))
    ·rw [h']; rfl
  unfold YP
  obtain ⟨r,r1,r2,r3,r4,r5⟩ := zC2 1048580 l2 (by omega) c f.Dst
  simp only
  rw [zAQ,r1,Option.bind_some]
  cases hdz : f.Dst != 0 with
  | false => exact h3
  | true =>
   have hdz' : f.Dst ≠ 0 := by simpa using hdz
   have hy : y = r := Option.some.inj ((d1 hdz').symm.trans r1)
   subst hy
   rw [cond_true]
   by_cases hr0 : y ≥ 0
   ·rw [decide_eq_true hr0,cond_true]
    obtain ⟨g1,g2⟩ := zI3 (s := s) (e := e) (p := p) (L := x.Ps.length) hr0
    rw [decide_eq_false (by rw [List.length_map]; omega),cond_false]
    cases hl : (List.range x.Ps.length).filter (goes s e p y) with
    | nil =>
     rw [hl] at h3
     exact h3
    | cons a l =>
     rw [hl] at h3 g1 g2
     have hn : l = [] := by
      cases l with
      | nil => rfl
      | cons b l => simp at g1
     subst hn
     have ha := g2 a (by simp)
     have hi : idx ([a].map (QH 1048580 x c f)) 0 = some (QH 1048580 x c f a) := rfl
     rw [show ((([a].map (QH 1048580 x c f)).length : Int) == 1) = true from rfl,cond_true,hi,Option.bind_some,show ((QH 1048580 x c f a).Port != y) = false from by
      show ((a : Int) != y) = false
      rw [ha]; simp,cond_false]
     exact h3
   ·rw [decide_eq_false hr0,cond_false]
    exact h3
end Go.Proofs.YtcegokjpmppdbaaGreat.Tw
