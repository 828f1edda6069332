import Derived.Test.YtajadnlejdpceaaGreatTwNT
import Derived.Test.YtajadnlejdpceaaGreatTlPlain
set_option linter.unusedVariables false
set_option linter.unusedSimpArgs false
set_option maxRecDepth 100000
set_option maxHeartbeats 1000000
namespace Go.Proofs.YtajadnlejdpceaaGreat.Tw
open Go Go.TL Go.Proofs
def zD.sz (x : zD) : Nat := x.Rows.length + x.Pv.length
theorem zIZ (n : Nat) : Yv n = QH n := by
 funext m
 induction m with
 | zero => rfl
 | succ m ih => funext x i y; simp only [Yv,QH,ih]
theorem zJ7 (n : Nat) : zB8 n = Y2 n := by
 funext x i; simp only [zB8,Y2,zIZ]; rfl
theorem zDY (n : Nat) (x : zD) (id : Int) (h : x.Rows.length ≤ 1048580) (hn : x.Rows.length < n) : ∃ r,Y2 n x id = some r ∧ (r = -1 ∧ (∀ v ∈ x.Rows,v.Id ≠ id) ∨ ∃ v,0 ≤ r ∧ idx x.Rows r = some v ∧ v.Id = id) := by
 unfold Y2
 have hf := zKr (L := fun m xs i => QH n m ⟨xs,x.Pv⟩ id i) (p := fun i v => bif v.Id == id then some i else none) (fun m xs i => by
  show (bif _ then _ else _) = _
  congr 1
  congr 1
  funext v
  cases (v.Id == id) <;> rfl) x.Rows (by omega) n 0 (by omega) (by omega)
 rcases hf with ⟨e1,e2⟩ | ⟨j,hj,r,e1,e2,e3,e4⟩
 ·rw [show QH n n x id 0 = _ from e1]
  refine ⟨-1,rfl,.inl ⟨rfl,fun v hv => ?_⟩⟩
  obtain ⟨j,hj,rfl⟩ := List.getElem_of_mem hv
  have := e2 j hj (by omega)
  intro hid
  simp [hid] at this
 ·rw [show QH n n x id 0 = _ from e4]
  have hid : (x.Rows[j].Id == id) = true := by
   cases hc : (x.Rows[j].Id == id) with
   | true => rfl
   | false => rw [hc] at e2; cases e2
  rw [hid] at e2
  cases e2
  exact ⟨_,rfl,.inr ⟨_,by omega,zI hj,by simpa using hid⟩⟩
theorem zAJ (n : Nat) (a b c : Int) : Tot (zT n a b c) := Tot.bif (fun _ => .of) (fun _ => .of)
theorem zDS (n : Nat) : Y1 n = zp n := rfl
theorem zC2 (n : Nat) (v : Vec) : Tot (zp n v) := by
 unfold zp
 repeat' first | exact Tot.of | refine Tot.bind (zAJ _ _ _ _) fun _ _ => ?_ | refine Tot.bif (fun _ => ?_) (fun _ => ?_)
theorem zIa (n : Nat) : zCN n = YL n := rfl
theorem zH3 (n : Nat) (v : Vec) (c : Int) : Tot (YL n v c) := by
 unfold YL
 repeat' first | exact Tot.of | refine Tot.bind (zAJ _ _ _ _) fun _ _ => ?_ | refine Tot.bind (zC2 _ _) fun _ _ => ?_ | refine Tot.bif (fun _ => ?_) (fun _ => ?_)
theorem zE6 (n : Nat) : zAe n = Yw n := rfl
theorem zER (n : Nat) (v u : Vec) : Tot (Yw n v u) := by
 unfold Yw
 repeat' first | exact Tot.of | refine Tot.bif (fun _ => ?_) (fun _ => ?_)
theorem zDC (n : Nat) (x0 : Int) (x1 : List Pt) (h : x1.length ≤ 1048576) : ∀ (m k : Nat) (y2 y3 y4 y5 y6 y7 y8 y9 y10 : Int),k ≤ x1.length → x1.length < m + k → Tot (qF n m x0 x1 k y2 y3 y4 y5 y6 y7 y8 y9 y10)
 | 0,k,y2,y3,y4,y5,y6,y7,y8,y9,y10,h1,h2 => by omega
 | m + 1,k,y2,y3,y4,y5,y6,y7,y8,y9,y10,h1,h2 => by
  rw [qF]
  refine Tot.step (fun hk => ?_) .of
  have ih := fun y2 y3 y4 y5 y6 y7 y8 y9 y10 => zDC n x0 x1 h m (k + 1) y2 y3 y4 y5 y6 y7 y8 y9 y10 (by omega) (by omega)
  simp only [Z6,zP (by omega : k ≤ 1099511627776)]
  repeat' first | exact ih _ _ _ _ _ _ _ _ _ | exact Tot.of | refine Tot.bind (zJ3 hk) fun _ _ => ?_ | refine Tot.bind (zH3 _ _ _) fun _ _ => ?_ | refine Tot.bind (zER _ _ _) fun _ _ => ?_ | refine Tot.bif (fun _ => ?_) (fun _ => ?_)
theorem zB0 (n : Nat) (x0 : Int) (x1 : List Pt) (h : x1.length ≤ 1048576) (hn : x1.length < n) : Tot (Qc n x0 x1) := by
 unfold Qc
 refine Tot.bind (zDC n x0 x1 h n 0 _ _ _ _ _ _ _ _ _ (by omega) (by omega)) fun o _ => ?_
 cases o <;> exact Tot.of
theorem zHG (n : Nat) : qg n = qF n := by
 funext m
 induction m with
 | zero => rfl
 | succ m ih =>
  funext x0 x1 y1 y2 y3 y4 y5 y6 y7 y8 y9 y10
  simp only [qg,qF,ih,QS,Z6,zIa,zE6]
  cases idx x1 y1 <;> rfl
theorem zE5 (n : Nat) : JV n = Qc n := by
 funext x i; simp only [JV,Qc,zHG]; rfl
theorem zFV (n : Nat) : J7 n = qj n := by
 funext x i y; simp only [J7,qj,zE5]
theorem zIn (n : Nat) (x0 : Int) (x1 : List Pt) (x2 : Int) (h : x1.length ≤ 1048576) (hn : x1.length < n) : Tot (qj n x0 x1 x2) := Tot.bind (zB0 n x0 x1 h hn) fun _ _ => .of
theorem zJF (n : Nat) : zBK n = JI n := by
 funext x i y; simp only [zBK,JI,zE5,zFV,zE6]; rfl
theorem zJf (n : Nat) (x0 : Int) (x1 : List Pt) (x2 : Int) (h : x1.length ≤ 1048576) (hn : x1.length < n) : ∃ r,JI n x0 x1 x2 = some r ∧ 1 ≤ r ∧ r ≤ 4 := by
 unfold JI zT
 rw [wrap64 (by omega) (by omega)]
 obtain ⟨b,hb⟩ := zB0 n x0 x1 h hn
 obtain ⟨s,hs⟩ := zIn n x0 x1 x2 h hn
 by_cases h1 : x2 ≥ 0
 ·by_cases h2 : x2 ≤ (x1.length : Int) - 1
  ·obtain ⟨v,hv,_⟩ := zCm (xs := x1) h1 (by omega)
   obtain ⟨l,hl⟩ := zER n s v.Hd
   simp only [decide_eq_true h1,decide_eq_true h2,cond_true,Option.bind_some,Bool.not_true,cond_false,hb,hs,hv,hl]
   cases v.Up <;> cases (b.2 == x2) <;> cases v.Has <;> cases l <;> exact ⟨_,rfl,by decide,by decide⟩
  ·simp only [decide_eq_true h1,decide_eq_false h2,cond_true,Option.bind_some,Bool.not_false]
   exact ⟨_,rfl,by decide,by decide⟩
 ·simp only [decide_eq_false h1,cond_false,Option.bind_some,Bool.not_false,cond_true]
  exact ⟨_,rfl,by decide,by decide⟩
theorem zOh {k : Nat} (h : k ≤ 1099511627776) : IntKind.wrap .u64 (k : Int) = k := by
 show ((k : Int) % 18446744073709551616) = k
 omega
theorem zD7 (n : Nat) (x0 : Int) (x1 : List Pt) (h : x1.length ≤ 1048576) (hn : x1.length < n) : ∀ (m k : Nat) (y2 : Int),k ≤ x1.length → x1.length < m + k → QG n m x0 x1 k y2 = QJ n m x0 x1 k y2 ∧ Tot (QJ n m x0 x1 k y2)
 | 0,k,y2,h1,h2 => by omega
 | m + 1,k,y2,h1,h2 => by
  rw [QJ,QG]
  by_cases hk : k < x1.length
  ·have ih := fun y2 => zD7 n x0 x1 h hn m (k + 1) y2 (by omega) (by omega)
   obtain ⟨r,hr,r1,r2⟩ := zJf n x0 x1 k h hn
   have hk' : decide ((k : Int) < (x1.length : Int)) = true := decide_eq_true (by omega)
   have h0 : decide ((0 : Int) ≤ (k : Int)) = true := decide_eq_true (by omega)
   simp only [hk',zP (by omega : k ≤ 1099511627776),zOh (by omega : k ≤ 1099511627776),zJF,hr,Option.bind_some,h0,cond_true,(ih _).1,true_and]
   have hc : r = 1 ∨ r = 2 ∨ r = 3 ∨ r = 4 := by omega
   rcases hc with rfl | rfl | rfl | rfl <;> cases (decide ((k : Int) < 6)) <;> first | exact ⟨rfl,(ih _).2⟩ | exact ⟨by trivial,Tot.of⟩
  ·have hk' : decide ((k : Int) < (x1.length : Int)) = false := decide_eq_false (by omega)
   rw [hk']
   exact ⟨by trivial,Tot.of⟩
theorem zIo (n : Nat) (x0 : Int) (x1 : List Pt) (h : x1.length ≤ 1048576) (hn : x1.length < n) : zB9 n x0 x1 = QI n x0 x1 ∧ Tot (QI n x0 x1) := by
 obtain ⟨h1,o,h2⟩ := zD7 n x0 x1 h hn n 0 0 (by omega) (by omega)
 unfold zB9 QI
 have e1 : QG n n x0 x1 0 0 = some o := h1.trans h2
 have e2 : QJ n n x0 x1 0 0 = some o := h2
 rw [e1,e2]
 cases o <;> exact ⟨by trivial,Tot.of⟩
theorem qy (n : Nat) : qE n = zT n := rfl
theorem zQ (n : Nat) (a b c : Int) : zT n a b c = some (decide (b ≤ a) && decide (a ≤ c)) := by
 unfold zT
 by_cases h : a ≥ b
 ·rw [decide_eq_true h]; rfl
 ·rw [decide_eq_false h]; rfl
theorem zFG {p : Int} (h0 : 1 ≤ p) (h1 : p ≤ 6) : ∃ a : Int,0 ≤ a ∧ a < 9223372036854775808 ∧ (IntKind.wrap .i64 ((IntKind.wrap .i64 (1 * 2 ^ min ((IntKind.wrap .u64 p)).toNat (IntKind.bits .i64))) - 1)) = a ∧ (IntKind.wrap .i64 ((IntKind.wrap .i64 (1 * 2 ^ min (p).toNat (IntKind.bits .i64))) - 1)) = a ∧ decide (0 ≤ (IntKind.wrap .u64 p)) = true ∧ decide (0 ≤ p) = true := by
 have hc : p = 1 ∨ p = 2 ∨ p = 3 ∨ p = 4 ∨ p = 5 ∨ p = 6 := by omega
 rcases hc with rfl | rfl | rfl | rfl | rfl | rfl
 ·exact ⟨1,by decide,by decide,by decide,by decide,by decide,by decide⟩
 ·exact ⟨3,by decide,by decide,by decide,by decide,by decide,by decide⟩
 ·exact ⟨7,by decide,by decide,by decide,by decide,by decide,by decide⟩
 ·exact ⟨15,by decide,by decide,by decide,by decide,by decide,by decide⟩
 ·exact ⟨31,by decide,by decide,by decide,by decide,by decide,by decide⟩
 ·exact ⟨63,by decide,by decide,by decide,by decide,by decide,by decide⟩
theorem zDG (n : Nat) (x0 : zD) (w0 : x0.wf) (x1 : Int) (hp0 : 1 ≤ x1) (hp1 : x1 ≤ 6) (h : x0.Rows.length ≤ 1048580) : ∀ (m k : Nat),k ≤ x0.Rows.length → x0.Rows.length < m + k → QL n m x0 x1 k = ZL n m x0 x1 k ∧ Tot (ZL n m x0 x1 k)
 | 0,k,h1,h2 => by omega
 | m + 1,k,h1,h2 => by
  rw [ZL,QL]
  by_cases hk : k < x0.Rows.length
  ·obtain ⟨ih1,o,ih2⟩ := zDG n x0 w0 x1 hp0 hp1 h m (k + 1) (by omega) (by omega)
   obtain ⟨a,ha0,ha1,ha2,ha3,ha4,ha5⟩ := zFG hp0 hp1
   have hk' : decide ((k : Int) < (x0.Rows.length : Int)) = true := decide_eq_true (by omega)
   have hv : x0.Rows[k] ∈ x0.Rows := List.getElem_mem hk
   have hi := zI hk
   generalize x0.Rows[k] = v at hv hi
   have hw := w0.1.2 v hv
   have hin : Zs n x1 = some a := by unfold Zs; rw [ha5,ha3]; rfl
   simp only [hk',zP (by omega : k ≤ 1099511627776),hi,Option.bind_some,cond_true,ih1,ih2,hin,qy,zQ,ha2]
   have hbits := fun hm0 hm1 => zOn (B := v.Bare) (M := v.Members) hw.2.2.1 hm0 hm1
   by_cases hm : 0 ≤ v.Members ∧ v.Members ≤ a
   ·have hb := hbits hm.1 (by omega)
    simp only [decide_eq_true hm.1,decide_eq_true hm.2,Bool.and_self,Bool.not_true,cond_false]
    by_cases hz : IntKind.wrap .i64 (BitVec.ofInt (IntKind.bits .i64) v.Bare &&& ~~~BitVec.ofInt (IntKind.bits .i64) v.Members).toNat = 0
    ·have h3 := hb.1 hz
     have hz' : ((IntKind.wrap .i64 (BitVec.ofInt (IntKind.bits .i64) v.Bare &&& ~~~BitVec.ofInt (IntKind.bits .i64) v.Members).toNat) != 0) = false := by rw [hz]; rfl
     have hy' : ((IntKind.wrap .i64 (BitVec.ofInt (IntKind.bits .i64) v.Bare &&& BitVec.ofInt (IntKind.bits .i64) v.Members).toNat) != v.Bare) = false := by rw [h3.2.2]; simp
     simp only [hz',hy',decide_eq_true h3.1,decide_eq_true (show v.Bare ≤ a by omega),Bool.and_self,Bool.not_true,cond_false]
     cases k with
     | zero => cases (decide (1 ≤ v.Id) && decide (v.Id ≤ 99)) <;> exact ⟨by trivial,Tot.of⟩
     | succ k =>
      have hw2 : IntKind.wrap .i64 (((k + 1 : Nat) : Int) - 1) = (k : Int) := by rw [wrap64 (by omega) (by omega)]; omega
      have hpos : decide (((k + 1 : Nat) : Int) > 0) = true := decide_eq_true (by omega)
      simp only [hw2,hpos,cond_true,zI (show k < x0.Rows.length by omega),Option.bind_some]
      cases (decide (1 ≤ v.Id) && decide (v.Id ≤ 99)) <;> cases (decide ((x0.Rows[k]'(by omega)).Id ≥ v.Id)) <;> exact ⟨by trivial,Tot.of⟩
    ·have hz' : ((IntKind.wrap .i64 (BitVec.ofInt (IntKind.bits .i64) v.Bare &&& ~~~BitVec.ofInt (IntKind.bits .i64) v.Members).toNat) != 0) = true := by simpa using hz
     have h3 : (decide (0 ≤ v.Bare) && decide (v.Bare ≤ a)) = false ∨ ((IntKind.wrap .i64 (BitVec.ofInt (IntKind.bits .i64) v.Bare &&& BitVec.ofInt (IntKind.bits .i64) v.Members).toNat) != v.Bare) = true := by
      by_cases hq : ((IntKind.wrap .i64 (BitVec.ofInt (IntKind.bits .i64) v.Bare &&& BitVec.ofInt (IntKind.bits .i64) v.Members).toNat) != v.Bare) = true
      ·exact .inr hq
      ·left
       simp at hq
       by_cases hr : 0 ≤ v.Bare ∧ v.Bare ≤ a
       ·have hle := zOo hw.2.2.1 hm.1 (by omega) hq
        exact absurd (hb.2 ⟨hle.1,hle.2,hq⟩) hz
       ·simp only [Bool.and_eq_false_iff,decide_eq_false_iff_not]; omega
     simp only [hz',cond_true]
     have hspec : (bif !(decide (0 ≤ v.Bare) && decide (v.Bare ≤ a)) then some (Sum.inr false) else bif ((IntKind.wrap .i64 (BitVec.ofInt (IntKind.bits .i64) v.Bare &&& BitVec.ofInt (IntKind.bits .i64) v.Members).toNat) != v.Bare) then some (Sum.inr false) else (bif decide ((k : Int) > 0) then (idx x0.Rows (IntKind.wrap .i64 ((k : Int) - 1))).bind fun v13 => bif decide (v13.Id ≥ v.Id) then some (Sum.inr false) else some o else some o)) = (some (Sum.inr false) : Option (Unit ⊕ Bool)) := by
      rcases h3 with h3 | h3
      ·rw [h3]; rfl
      ·rw [h3]; cases (decide (0 ≤ v.Bare) && decide (v.Bare ≤ a)) <;> rfl
     rw [hspec]
     cases k with
     | zero => cases (decide (1 ≤ v.Id) && decide (v.Id ≤ 99)) <;> exact ⟨by trivial,Tot.of⟩
     | succ k =>
      have hw2 : IntKind.wrap .i64 (((k + 1 : Nat) : Int) - 1) = (k : Int) := by rw [wrap64 (by omega) (by omega)]; omega
      have hpos : decide (((k + 1 : Nat) : Int) > 0) = true := decide_eq_true (by omega)
      simp only [hw2,hpos,cond_true,zI (show k < x0.Rows.length by omega),Option.bind_some]
      cases (decide (1 ≤ v.Id) && decide (v.Id ≤ 99)) <;> cases (decide ((x0.Rows[k]'(by omega)).Id ≥ v.Id)) <;> exact ⟨by trivial,Tot.of⟩
   ·have hm' : (decide (0 ≤ v.Members) && decide (v.Members ≤ a)) = false := by
     simp only [Bool.and_eq_false_iff,decide_eq_false_iff_not]; omega
    simp only [hm',Bool.not_false,cond_true]
    cases k with
    | zero => cases (decide (1 ≤ v.Id) && decide (v.Id ≤ 99)) <;> exact ⟨by trivial,Tot.of⟩
    | succ k =>
     have hw2 : IntKind.wrap .i64 (((k + 1 : Nat) : Int) - 1) = (k : Int) := by rw [wrap64 (by omega) (by omega)]; omega
     have hpos : decide (((k + 1 : Nat) : Int) > 0) = true := decide_eq_true (by omega)
     simp only [hw2,hpos,cond_true,zI (show k < x0.Rows.length by omega),Option.bind_some]
     cases (decide (1 ≤ v.Id) && decide (v.Id ≤ 99)) <;> cases (decide ((x0.Rows[k]'(by omega)).Id ≥ v.Id)) <;> exact ⟨by trivial,Tot.of⟩
  ·have hk' : decide ((k : Int) < (x0.Rows.length : Int)) = false := decide_eq_false (by omega)
   rw [hk']
   exact ⟨by trivial,Tot.of⟩
theorem zDF (n : Nat) (x0 : zD) (h : x0.Rows.length ≤ 1048580) (hn : x0.Rows.length < n) (hq : x0.Pv.length ≤ 1048580) : ∀ (m k : Nat),k ≤ x0.Pv.length → x0.Pv.length < m + k → Qx n m x0 k = Zb n m x0 k ∧ Tot (Zb n m x0 k)
 | 0,k,h1,h2 => by omega
 | m + 1,k,h1,h2 => by
  rw [Zb,Qx]
  by_cases hk : k < x0.Pv.length
  ·obtain ⟨ih1,o,ih2⟩ := zDF n x0 h hn hq m (k + 1) (by omega) (by omega)
   have hk' : decide ((k : Int) < (x0.Pv.length : Int)) = true := decide_eq_true (by omega)
   obtain ⟨r,hr,_⟩ := zDY n x0 x0.Pv[k] h hn
   simp only [hk',zP (by omega : k ≤ 1099511627776),zI hk,Option.bind_some,cond_true,ih1,ih2,zJ7,hr]
   cases decide (r < 0) <;> exact ⟨by trivial,Tot.of⟩
  ·have hk' : decide ((k : Int) < (x0.Pv.length : Int)) = false := decide_eq_false (by omega)
   rw [hk']
   exact ⟨by trivial,Tot.of⟩
theorem zH4 (n : Nat) (x0 : zD) (w0 : x0.wf) (x1 : Int) (h : x0.sz ≤ 1048580) (hn : x0.sz < n) : zBM n x0 x1 = zl n x0 x1 ∧ Tot (zl n x0 x1) := by
 have hs : x0.Rows.length + x0.Pv.length = x0.sz := rfl
 unfold zBM zl
 simp only [qy,zQ,Option.bind_some]
 by_cases hp : 1 ≤ x1 ∧ x1 ≤ 6
 ·obtain ⟨a,ha0,ha1,ha2,ha3,ha4,ha5⟩ := zFG hp.1 hp.2
  obtain ⟨e1,o,e2⟩ := zDG n x0 w0 x1 hp.1 hp.2 (by omega) n 0 (by omega) (by omega)
  obtain ⟨f1,q,f2⟩ := zDF n x0 (by omega) (by omega) (by omega) n 0 (by omega) (by omega)
  have e1' : QL n n x0 x1 0 = some o := e1.trans e2
  have e2' : ZL n n x0 x1 0 = some o := e2
  have f1' : Qx n n x0 0 = some q := f1.trans f2
  have f2' : Zb n n x0 0 = some q := f2
  simp only [decide_eq_true hp.1,decide_eq_true hp.2,Bool.and_self,Bool.not_true,cond_false,ha4,cond_true,e1',e2',Option.bind_some]
  cases o with
  | inl u =>
   simp only [J8,YY,f1',f2',Option.bind_some]
   cases q <;> exact ⟨rfl,Tot.bif (fun _ => .of) fun _ => Tot.bif (fun _ => .of) fun _ => .of⟩
  | inr r => exact ⟨rfl,Tot.bif (fun _ => .of) fun _ => Tot.bif (fun _ => .of) fun _ => .of⟩
 ·have hp' : (decide (1 ≤ x1) && decide (x1 ≤ 6)) = false := by
   simp only [Bool.and_eq_false_iff,decide_eq_false_iff_not]; omega
  rw [hp']
  exact ⟨by trivial,Tot.of⟩
theorem Jt (n : Nat) (x : zD) (h : x.sz ≤ 268435456) : Zd n x = some x := by
 have hs : x.Rows.length + x.Pv.length = x.sz := rfl
 unfold Zd
 simp only [List.length_nil,Nat.zero_add,decide_eq_true (show x.Rows.length ≤ 268435456 by omega),decide_eq_true (show x.Pv.length ≤ 268435456 by omega),cond_true,List.nil_append]
theorem zHw (n : Nat) (x : zD) (h : x.sz ≤ 268435456) : J9 n x = some x := by
 have hs : x.Rows.length + x.Pv.length = x.sz := rfl
 unfold J9 zBi
 simp only [List.length_nil,Nat.zero_add,decide_eq_true (show x.Rows.length ≤ 268435456 by omega),decide_eq_true (show x.Pv.length ≤ 268435456 by omega),cond_true,List.nil_append,Option.bind_some]
theorem zM9 {α : Type} {wf : α → Prop} {xs ys : List α} (h : QO wf xs) (hs : ∀ y ∈ ys,y ∈ xs) (hl : ys.length ≤ xs.length) : QO wf ys := ⟨Nat.le_trans hl h.1,fun y hy => h.2 y (hs y hy)⟩
theorem zCv {α : Type} {wf : α → Prop} {xs : List α} {i : Nat} {v : α} (h : QO wf xs) (hv : wf v) : QO wf (xs.set i v) := ⟨by rw [List.length_set]; exact h.1,fun y hy => by
 rcases List.mem_or_eq_of_mem_set hy with h1 | h1
 ·exact h.2 y h1
 ·rw [h1]; exact hv⟩
def zA.sz (x : zA) : Nat := x.Name.size + x.Ps.length + x.F.length + x.V.sz
theorem zK7 (n : Nat) : zCq n = qD n := by
 funext v
 unfold zCq qD
 rw [qy,zDS]
 obtain ⟨b,hb⟩ := zAJ n v.Co 1 1000
 rw [hb]
 cases b <;> cases v.Up <;> cases v.Has <;> rfl
theorem zGF (n : Nat) (v : Pt) : Tot (qD n v) := by
 unfold qD
 repeat' first | exact Tot.of | refine Tot.bind (zAJ _ _ _ _) fun _ _ => ?_ | refine Tot.bind (zC2 _ _) fun _ _ => ?_ | refine Tot.bif (fun _ => ?_) (fun _ => ?_)
theorem zC7 (n : Nat) (v : zB) : Tot (ZW n v) := by
 unfold ZW
 repeat' first | exact Tot.of | refine Tot.bind (zAJ _ _ _ _) fun _ _ => ?_ | refine Tot.bif (fun _ => ?_) (fun _ => ?_)
theorem zJL (n : Nat) : zCt n = ZW n := rfl
theorem zJI (n : Nat) (v u : zB) : zBN n u v.Tag v.Mac = Zp n v u.Tag u.Mac := by
 unfold zBN Zp
 by_cases h1 : v.Tag = u.Tag
 ·simp [h1]
 ·have e1 : (v.Tag != u.Tag) = true := by simpa using h1
  have e2 : (u.Tag == v.Tag) = false := by simpa using fun e : u.Tag = v.Tag => h1 e.symm
  rw [e1,e2]
  by_cases h2 : v.Tag < u.Tag
  ·rw [decide_eq_true h2]; rfl
  ·rw [decide_eq_false h2]; rfl
theorem zEZ (n : Nat) (v : zB) (a b : Int) : Tot (Zp n v a b) := Tot.bif (fun _ => .of) (fun _ => .of)
theorem zD6 (n : Nat) (xs : List zB) (h : xs.length ≤ 1048580) : ∀ (m k : Nat),k ≤ xs.length → xs.length < m + k → Qb n m xs k = qd n m xs k ∧ Tot (qd n m xs k)
 | 0,k,h1,h2 => by omega
 | m + 1,k,h1,h2 => by
  rw [qd,Qb]
  by_cases hk : k < xs.length
  ·obtain ⟨ih1,o,ih2⟩ := zD6 n xs h m (k + 1) (by omega) (by omega)
   rw [zt hk]
   obtain ⟨a,ha⟩ := zC7 n xs[k]
   simp only [zP (by omega : k ≤ 1099511627776),zI hk,Option.bind_some,cond_true,ih1,ih2,zJL,ha]
   cases k with
   | zero => cases a <;> exact ⟨by trivial,Tot.of⟩
   | succ k =>
    have hw2 : IntKind.wrap .i64 (((k + 1 : Nat) : Int) - 1) = (k : Int) := by rw [wrap64 (by omega) (by omega)]; omega
    have hpos : decide (((k + 1 : Nat) : Int) > 0) = true := decide_eq_true (by omega)
    obtain ⟨b,hb⟩ := zEZ n (xs[k]'(by omega)) xs[k + 1].Tag xs[k + 1].Mac
    simp only [hw2,hpos,cond_true,zI (show k < xs.length by omega),Option.bind_some,zJI,hb]
    cases a <;> cases b <;> exact ⟨by trivial,Tot.of⟩
  ·have he : k = xs.length := by omega
   rw [he,zh]
   exact ⟨rfl,Tot.of⟩
theorem zIk (n : Nat) (xs : List zB) (h : xs.length ≤ 1048580) (hn : xs.length < n) : ∃ b,ZU n xs = some b ∧ zB7 n xs = some b := by
 obtain ⟨e1,o,e2⟩ := zD6 n xs h n 0 (by omega) (by omega)
 have e1' : Qb n n xs 0 = some o := e1.trans e2
 have e2' : qd n n xs 0 = some o := e2
 unfold ZU zB7
 rw [e1',e2']
 cases o <;> exact ⟨_,rfl,rfl⟩
theorem zGz (n : Nat) : Qk n = z7 n := by
 funext m
 induction m with
 | zero => rfl
 | succ m ih => funext x i; simp only [Qk,z7,ih,zK7]
theorem zC0 (n : Nat) (x : zA) (h : x.Ps.length ≤ 1048580) : ∀ (m k : Nat),k ≤ x.Ps.length → x.Ps.length < m + k → Tot (z7 n m x k)
 | 0,k,h1,h2 => by omega
 | m + 1,k,h1,h2 => by
  rw [z7]
  refine Tot.step (fun hk => ?_) .of
  have ih := zC0 n x h m (k + 1) (by omega) (by omega)
  rw [zP (by omega : k ≤ 1099511627776)]
  exact Tot.bind (zJ3 hk) fun _ _ => Tot.bind (zGF _ _) fun _ _ => Tot.bif (fun _ => .of) fun _ => ih
theorem QY (n : Nat) (x : zA) (wx : x.wf) (h : x.sz ≤ 1048580) (hn : x.sz < n) : ∃ b,zV n x = some b ∧ Qv n x = some b := by
 have hs : x.Name.size + x.Ps.length + x.F.length + x.V.sz = x.sz := rfl
 obtain ⟨o,ho⟩ := zC0 n x (by omega) n 0 (by omega) (by omega)
 have ho' : z7 n n x 0 = some o := ho
 obtain ⟨f,hf1,hf2⟩ := zIk n x.F (by omega) (by omega)
 obtain ⟨g,v,hv⟩ := zH4 n x.V ⟨wx.2.2.2.2.1,wx.2.2.2.2.2.1,trivial⟩ (x.Ps.length : Int) (by omega) (by omega)
 unfold zV Qv
 rw [zGz,ho',Option.bind_some,Option.bind_some]
 cases o with
 | inr r => exact ⟨_,rfl,rfl⟩
 | inl u =>
  simp only [Qm,JD,qy,YK,Yt,zQ,hf1,hf2,g,hv,Option.bind_some]
  have hname : decide ((x.Name.size : Int) > 10) = !decide ((x.Name.size : Int) ≤ 10) := by
   by_cases h : (x.Name.size : Int) ≤ 10
   ·rw [decide_eq_true h,decide_eq_false (by omega)]; rfl
   ·rw [decide_eq_false h,decide_eq_true (by omega)]; rfl
  rw [hname]
  generalize decide ((x.Name.size : Int) ≤ 10) = b1
  generalize (decide (1 ≤ x.Id) && decide (x.Id ≤ 99)) = b2
  generalize (decide (1 ≤ (x.Ps.length : Int)) && decide ((x.Ps.length : Int) ≤ 6)) = b3
  generalize (decide (0 ≤ x.Tk) && decide (x.Tk ≤ 1000000)) = b4
  generalize (decide (0 ≤ x.Pa) && decide (x.Pa ≤ 1000000)) = b5
  generalize (decide (0 ≤ x.Wo) && decide (x.Wo ≤ 1000000)) = b6
  generalize (decide (0 ≤ x.Dr) && decide (x.Dr ≤ 1000000)) = b7
  generalize (decide (0 ≤ x.Ve) && decide (x.Ve ≤ 1000000)) = b8
  clear hf1 hf2 g hv hname
  revert f v b1 b2 b3 b4 b5 b6 b7 b8
  decide +kernel
def Net.sz (x : Net) : Nat := (x.Bs.length + Ju zA.sz x.Bs) + x.Ls.length + x.Said.length
theorem zHu (n : Nat) : qn n = q9 n := by
 funext m
 induction m with
 | zero => rfl
 | succ m ih =>
  funext x a b i
  simp only [qn,q9,ih,Qu,YW]
theorem zD5 (n : Nat) (x : Net) (a b : Int) (h : x.Ls.length ≤ 1048580) : ∀ (m k : Nat),k ≤ x.Ls.length → x.Ls.length < m + k → Tot (q9 n m x a b k)
 | 0,k,h1,h2 => by omega
 | m + 1,k,h1,h2 => by
  rw [q9]
  refine Tot.step (fun hk => ?_) .of
  have ih := zD5 n x a b h m (k + 1) (by omega) (by omega)
  simp only [YW,zP (by omega : k ≤ 1099511627776)]
  repeat' first | exact ih | exact Tot.of | refine Tot.bind (zJ3 hk) fun _ _ => ?_ | refine Tot.bif (fun _ => ?_) (fun _ => ?_)
theorem zH1 (n : Nat) (x : Net) (a b : Int) (h : x.sz ≤ 1048580) (hn : x.sz < n) : ∃ r,zBV n x a b = some r ∧ Q8 n x a b = some r := by
 unfold Net.sz at h hn
 obtain ⟨o,ho⟩ := zD5 n x a b (by omega) n 0 (by omega) (by omega)
 have ho' : q9 n n x a b 0 = some o := ho
 unfold zBV Q8
 rw [zHu,ho']
 cases o <;> exact ⟨_,rfl,rfl⟩
theorem zFX (n : Nat) (x : Net) (i j : Int) (wx : x.wf) (h : x.Bs.length ≤ 1048580) : ∃ p b,QZ n x i j = some (p,b) ∧ Q4 n x i j = some (b && p.Up) := by
 have hw : IntKind.wrap .i64 ((x.Bs.length : Int) - 1) = (x.Bs.length : Int) - 1 := wrap64 (by omega) (by omega)
 unfold QZ Q4
 simp only [qy,zQ,hw,Option.bind_some]
 by_cases hi : 0 ≤ i ∧ i ≤ (x.Bs.length : Int) - 1
 ·obtain ⟨v,hv,hm⟩ := zCm (xs := x.Bs) hi.1 (by omega)
  have hl := (wx.1.2 v hm).2.2.1.1
  have hmx : maxLen = 9223372036854775807 := by decide
  have hw2 : IntKind.wrap .i64 ((v.Ps.length : Int) - 1) = (v.Ps.length : Int) - 1 := wrap64 (by omega) (by omega)
  simp only [decide_eq_true hi.1,decide_eq_true hi.2,Bool.and_self,Bool.not_true,cond_false,cond_true,hv,Option.bind_some,hw2]
  by_cases hj : 0 ≤ j ∧ j ≤ (v.Ps.length : Int) - 1
  ·obtain ⟨p,hp,_⟩ := zCm (xs := v.Ps) hj.1 (by omega)
   simp only [decide_eq_true hj.1,decide_eq_true hj.2,Bool.and_self,Bool.not_true,cond_false,cond_true,hp,Option.bind_some]
   exact ⟨p,true,rfl,by simp⟩
  ·have hj' : (decide (0 ≤ j) && decide (j ≤ (v.Ps.length : Int) - 1)) = false := by
    simp only [Bool.and_eq_false_iff,decide_eq_false_iff_not]; omega
   simp only [hj',Bool.not_false,cond_true,cond_false]
   exact ⟨_,false,rfl,rfl⟩
 ·have hi' : (decide (0 ≤ i) && decide (i ≤ (x.Bs.length : Int) - 1)) = false := by
   simp only [Bool.and_eq_false_iff,decide_eq_false_iff_not]; omega
  simp only [hi',Bool.not_false,cond_true,cond_false]
  exact ⟨_,false,rfl,rfl⟩
theorem zES (n : Nat) (x : Net) (i : Int) (wx : x.wf) (h : x.sz ≤ 1048580) : ∃ b,qf n x i = some b ∧ ZF n x i = some b := by
 unfold Net.sz at h
 have hw : IntKind.wrap .i64 ((x.Ls.length : Int) - 1) = (x.Ls.length : Int) - 1 := wrap64 (by omega) (by omega)
 unfold qf ZF
 simp only [qy,zQ,hw,Option.bind_some]
 by_cases hi : 0 ≤ i ∧ i ≤ (x.Ls.length : Int) - 1
 ·obtain ⟨v,hv,hm⟩ := zCm (xs := x.Ls) hi.1 (by omega)
  obtain ⟨p,b,h1,h2⟩ := zFX n x v.A v.P wx (by omega)
  obtain ⟨p',b',h1',h2'⟩ := zFX n x v.B v.Q wx (by omega)
  simp only [decide_eq_true hi.1,decide_eq_true hi.2,Bool.and_self,Bool.not_true,cond_false,hv,Option.bind_some,h1,h2,h1',h2']
  cases b <;> cases b' <;> cases p.Up <;> cases p'.Up <;> exact ⟨_,rfl,rfl⟩
 ·have hi' : (decide (0 ≤ i) && decide (i ≤ (x.Ls.length : Int) - 1)) = false := by
   simp only [Bool.and_eq_false_iff,decide_eq_false_iff_not]; omega
  simp only [hi',Bool.not_false,cond_true]
  exact ⟨_,rfl,rfl⟩
def Src.ok (c : Src) : Prop := 0 ≤ c.i ∧ c.b.length ≤ 1099511627776
theorem zNR (z : Int) : ∃ v : Int,(IntKind.wrap .i64 (BitVec.ofInt (IntKind.bits .i64) z &&& BitVec.ofInt (IntKind.bits .i64) 255).toNat) = v ∧ 0 ≤ v ∧ v ≤ 255 := by
 have h : (BitVec.ofInt 64 z &&& BitVec.ofInt 64 255).toNat ≤ 255 := by
  rw [BitVec.toNat_and]
  exact Nat.le_trans Nat.and_le_right (by decide)
 refine ⟨((BitVec.ofInt 64 z &&& BitVec.ofInt 64 255).toNat : Int),?_,by omega,by omega⟩
 exact wrap64 (z := ((BitVec.ofInt 64 z &&& BitVec.ofInt 64 255).toNat : Int)) (by omega) (by omega)
theorem zBF (n : Nat) (c : Src) (h : c.ok) : ∃ v c',Ym n c = some (v,c') ∧ 0 ≤ v ∧ v ≤ 255 ∧ c'.ok := by
 unfold Ym
 rw [show decide ((0 : Int) ≤ 33) = true from rfl,show decide ((0 : Int) ≤ 47) = true from rfl]
 simp only [cond_true]
 by_cases hi : c.i < (c.b.length : Int)
 ·obtain ⟨v,hv,_⟩ := zCm (xs := c.b) h.1 hi
  rw [decide_eq_true hi,hv,wrap64 (z := c.i + 1) (by have := h.1; omega) (by have := h.2; omega)]
  obtain ⟨w,e,e1,e2⟩ := zNR (IntKind.wrap .i64 ((IntKind.wrap .i64 (BitVec.ofInt (IntKind.bits .i64) (IntKind.wrap .i64 (BitVec.ofInt (IntKind.bits .i64) (Int.fdiv (IntKind.wrap .i64 ((IntKind.wrap .i64 (c.h * 6364136223846793005)) + 1442695040888963407)) (2 ^ min ((33 : Int)).toNat (IntKind.bits .i64))) ^^^ BitVec.ofInt (IntKind.bits .i64) (Int.fdiv (IntKind.wrap .i64 ((IntKind.wrap .i64 (c.h * 6364136223846793005)) + 1442695040888963407)) (2 ^ min ((47 : Int)).toNat (IntKind.bits .i64)))).toNat) &&& BitVec.ofInt (IntKind.bits .i64) 255).toNat) + (IntKind.wrap .i64 v)))
  simp only [cond_true,Option.bind_some]
  exact ⟨_,_,rfl,by rw [e]; exact e1,by rw [e]; exact e2,by have := h.1; show 0 ≤ c.i + 1; omega,h.2⟩
 ·rw [decide_eq_false hi]
  obtain ⟨w,e,e1,e2⟩ := zNR (IntKind.wrap .i64 (BitVec.ofInt (IntKind.bits .i64) (Int.fdiv (IntKind.wrap .i64 ((IntKind.wrap .i64 (c.h * 6364136223846793005)) + 1442695040888963407)) (2 ^ min ((33 : Int)).toNat (IntKind.bits .i64))) ^^^ BitVec.ofInt (IntKind.bits .i64) (Int.fdiv (IntKind.wrap .i64 ((IntKind.wrap .i64 (c.h * 6364136223846793005)) + 1442695040888963407)) (2 ^ min ((47 : Int)).toNat (IntKind.bits .i64)))).toNat)
  simp only [cond_false]
  exact ⟨_,_,rfl,by rw [e]; exact e1,by rw [e]; exact e2,h.1,h.2⟩
theorem zMs {v k : Int} (h0 : 0 ≤ v) (hk : 0 < k) : 0 ≤ Int.tmod v k ∧ Int.tmod v k < k := by
 rw [Int.tmod_eq_emod_of_nonneg h0]
 exact ⟨Int.emod_nonneg _ (by omega),Int.emod_lt_of_pos _ hk⟩
theorem zG (n : Nat) (c : Src) (k : Int) (h : c.ok) : ∃ v c',zF n c k = some (v,c') ∧ 0 ≤ v ∧ (0 < k → v < k) ∧ c'.ok := by
 unfold zF
 by_cases h1 : k ≤ 0
 ·rw [decide_eq_true h1]
  exact ⟨0,c,rfl,by omega,fun h => by omega,h⟩
 ·rw [decide_eq_false h1]
  have hne : decide ((k : Int) ≠ 0) = true := decide_eq_true (by omega)
  by_cases h2 : k ≤ 256
  ·rw [decide_eq_true h2]
   obtain ⟨v,c',e,e1,e2,e3⟩ := zBF n c h
   simp only [cond_true,cond_false,e,Option.bind_some,hne]
   obtain ⟨t1,t2⟩ := zMs e1 (show 0 < k by omega)
   exact ⟨_,_,rfl,t1,fun _ => t2,e3⟩
  ·rw [decide_eq_false h2]
   obtain ⟨v1,c1,e,e1,e2,e3⟩ := zBF n c h
   obtain ⟨v2,c2,f,f1,f2,f3⟩ := zBF n c1 e3
   obtain ⟨v3,c3,g,g1,g2,g3⟩ := zBF n c2 f3
   simp only [cond_false,e,f,g,Option.bind_some,hne,cond_true]
   simp (disch := omega) only [wrap64]
   obtain ⟨t1,t2⟩ := zMs (show 0 ≤ v1 * 65536 + v2 * 256 + v3 by omega) (show 0 < k by omega)
   exact ⟨_,_,rfl,t1,fun _ => t2,g3⟩
theorem Js (n : Nat) (c : Src) (k : Int) (h : c.ok) : ∃ v c',QC n c k = some (v,c') ∧ c'.ok := by
 obtain ⟨v,c',e,_,_,e3⟩ := zG n c k h
 unfold QC
 rw [e]
 exact ⟨_,_,rfl,e3⟩
theorem za (n : Nat) (c : Src) (xs : List Int) (h : c.ok) (hx : 0 < xs.length) : ∃ v c',zY n c xs = some (v,c') ∧ v ∈ xs ∧ c'.ok := by
 obtain ⟨v,c',e,e1,e2,e3⟩ := zG n c (xs.length : Int) h
 obtain ⟨u,hu,hm⟩ := zCm (xs := xs) e1 (e2 (by omega))
 unfold zY
 simp only [e,hu,Option.bind_some]
 exact ⟨_,_,rfl,hm,e3⟩
theorem zEX (n : Nat) (x0 : List Int) (h : x0.length ≤ 1048580) : ∀ (m k : Nat) (y : Int),k ≤ x0.length → x0.length < m + k → ∃ v,YN n m x0 k y = some (.inl v)
 | 0,k,y,h1,h2 => by omega
 | m + 1,k,y,h1,h2 => by
  rw [YN]
  by_cases hk : k < x0.length
  ·rw [zt hk,zI hk,zP (by omega)]
   by_cases h4 : (k : Int) < 4000
   ·rw [decide_eq_true h4]
    simp only [cond_true,Option.bind_some]
    exact zEX n x0 h m (k + 1) _ (by omega) (by omega)
   ·rw [decide_eq_false h4]
    exact ⟨_,rfl⟩
  ·have he : k = x0.length := by omega
   rw [he,zh]
   exact ⟨_,rfl⟩
theorem zGI (n : Nat) (x0 : List Int) (h : x0.length ≤ 1048580) (hn : x0.length < n) : ∃ c,Y3 n x0 = some c ∧ c.ok := by
 obtain ⟨v,e⟩ := zEX n x0 h n 0 (IntKind.wrap .i64 (762762 + (x0.length : Int))) (by omega) (by omega)
 unfold Y3
 rw [show YN n n x0 0 (IntKind.wrap .i64 (762762 + (x0.length : Int))) = _ from e]
 exact ⟨_,rfl,by show (0 : Int) ≤ 0; omega,by show x0.length ≤ _; omega⟩
theorem zEB (n : Nat) (x0 : zD) (x1 : Int) (h : x0.Rows.length ≤ 1048580) : ∀ (m k : Nat),k ≤ x0.Rows.length → x0.Rows.length < m + k → Tot (ZL n m x0 x1 k)
 | 0,k,h1,h2 => by omega
 | m + 1,k,h1,h2 => by
  rw [ZL]
  refine Tot.step (fun hk => ?_) .of
  have ih := zEB n x0 x1 h m (k + 1) (by omega) (by omega)
  simp only [zI hk,Option.bind_some,zQ,zP (by omega : k ≤ 1099511627776)]
  refine Tot.bif (fun _ => .of) fun _ => Tot.bif (fun _ => .of) fun _ => Tot.bif (fun _ => .of) fun _ => Tot.bif (fun _ => .of) fun _ => Tot.bif (fun hp => ?_) fun _ => ih
  have hp := of_decide_eq_true hp
  obtain ⟨v,hv,_⟩ := zCm (xs := x0.Rows) (i := (k : Int) - 1) (by omega) (by omega)
  rw [wrap64 (by omega) (by omega),hv,Option.bind_some]
  exact Tot.bif (fun _ => .of) fun _ => ih
theorem zEA (n : Nat) (x0 : zD) (h : x0.Rows.length ≤ 1048580) (hn : x0.Rows.length < n) (hq : x0.Pv.length ≤ 1048580) : ∀ (m k : Nat),k ≤ x0.Pv.length → x0.Pv.length < m + k → Tot (Zb n m x0 k)
 | 0,k,h1,h2 => by omega
 | m + 1,k,h1,h2 => by
  rw [Zb]
  refine Tot.step (fun hk => ?_) .of
  have ih := zEA n x0 h hn hq m (k + 1) (by omega) (by omega)
  obtain ⟨r,hr,_⟩ := zDY n x0 x0.Pv[k] h hn
  simp only [zI hk,Option.bind_some,hr,zP (by omega : k ≤ 1099511627776)]
  exact Tot.bif (fun _ => .of) fun _ => ih
theorem zIs (n : Nat) (x0 : zD) (p : Nat) (hp : p ≤ 1000000) (h : x0.sz ≤ 1048580) (hn : x0.sz < n) : Tot (zl n x0 p) := by
 have hs : x0.Rows.length + x0.Pv.length = x0.sz := rfl
 unfold zl
 simp only [zQ,Option.bind_some]
 have hu : decide ((0 : Int) ≤ IntKind.wrap .u64 (p : Int)) = true := by rw [show IntKind.wrap .u64 (p : Int) = p from by show ((p : Int) % 18446744073709551616) = p; omega]; exact decide_eq_true (by omega)
 refine Tot.bif (fun _ => .of) fun _ => Tot.bif (fun _ => .of) fun _ => Tot.bif (fun _ => .of) fun _ => ?_
 rw [hu,cond_true]
 refine Tot.bind (zEB n x0 p (by omega) n 0 (by omega) (by omega)) fun o _ => ?_
 cases o with
 | inr b => exact Tot.of
 | inl u =>
  show Tot (YY n x0)
  unfold YY
  refine Tot.bind (zEA n x0 (by omega) (by omega) (by omega) n 0 (by omega) (by omega)) fun o _ => ?_
  cases o <;> exact Tot.of
theorem zFF (n : Nat) (x : zD) (p : Int) (hok : zl n x p = some true) : x.Rows.length ≤ 6 ∧ (x.Pv.length : Int) = p := by
 unfold zl at hok
 simp only [zQ,Option.bind_some] at hok
 revert hok
 cases (decide (1 ≤ p) && decide (p ≤ 6)) with
 | false => intro h; cases h
 | true =>
  simp only [Bool.not_true,cond_false]
  by_cases hp : (x.Pv.length : Int) = p
  ·have : ((x.Pv.length : Int) != p) = false := by simp [hp]
   rw [this,cond_false]
   by_cases hr : (x.Rows.length : Int) > 6
   ·rw [decide_eq_true hr]; intro h; cases h
   ·exact fun _ => ⟨by omega,hp⟩
  ·have : ((x.Pv.length : Int) != p) = true := by simp [hp]
   rw [this]; intro h; cases h
def VtG (n p : Nat) (x : zD) : Prop := x.wf ∧ x.Pv.length = p ∧ x.Rows.length ≤ 6 ∧ zl n x p = some true ∧ ∀ r ∈ x.Rows,0 ≤ r.Bare ∧ r.Bare ≤ 63
theorem VtG.sz {n p : Nat} {x : zD} (h : VtG n p x) : x.sz ≤ 6 + p := by
 have hs : x.Rows.length + x.Pv.length = x.sz := rfl
 have := h.2.1; have := h.2.2.1; omega
theorem zEO (n p : Nat) (hp : p ≤ 1000) (x y : zD) (hx : VtG n p x) (wy : y.wf) (hy : y.Pv.length = p) (hl : y.Rows.length ≤ 1000) (hb : ∀ r ∈ y.Rows,0 ≤ r.Bare ∧ r.Bare ≤ 63) (hn : 1048577 < n) : ∃ r b,zAb n y x = some (r,b) ∧ VtG n p r := by
 have hs : y.Rows.length + y.Pv.length = y.sz := rfl
 have hxs := hx.sz
 obtain ⟨b,e⟩ := zIs n y p (by omega) (by omega) (by omega)
 unfold zAb
 rw [hx.2.1,e,Option.bind_some,Jt n x (by omega)]
 cases b
 ·exact ⟨x,false,rfl,hx⟩
 ·exact ⟨y,true,rfl,wy,hy,(zFF n y p e).1,e,hb⟩
theorem zIp (n p : Nat) (hp : p ≤ 1000) (x : zD) (hx : VtG n p x) (i id : Int) (wi : zj id) (hn : 1048577 < n) : ∃ r b,zAm n x i id = some (r,b) ∧ VtG n p r := by
 have hxs := hx.sz
 have hpl := hx.2.1
 have hw : IntKind.wrap .i64 ((p : Int) - 1) = (p : Int) - 1 := wrap64 (by omega) (by omega)
 unfold zAm
 simp only [hpl,hx.2.2.2.1,Option.bind_some,Bool.not_true,cond_false,zQ,hw,Jt n x (by omega)]
 by_cases hi : 0 ≤ i ∧ i ≤ (p : Int) - 1
 ·obtain ⟨v,hv,_⟩ := zCm (xs := x.Pv) hi.1 (by omega)
  obtain ⟨r,b,e,g⟩ := zEO n p hp x ⟨x.Rows,x.Pv.set i.toNat id⟩ hx ⟨hx.1.1,zCv hx.1.2.1 wi,trivial⟩ (by simp [hpl]) (by have := hx.2.2.1; show x.Rows.length ≤ 1000; omega) hx.2.2.2.2 hn
  rw [decide_eq_true hi.1,decide_eq_true hi.2]
  simp only [Bool.and_self,Bool.not_true,cond_false,hv,Option.bind_some,e]
  exact ⟨r,b,rfl,g⟩
 ·have hp' : (decide (0 ≤ i) && decide (i ≤ (p : Int) - 1)) = false := by
   simp only [Bool.and_eq_false_iff,decide_eq_false_iff_not]; omega
  rw [hp']
  exact ⟨x,false,rfl,hx⟩
theorem zIj (n p : Nat) (hp : p ≤ 1000) (x : zD) (hx : VtG n p x) (id : Int) (hn : 1048577 < n) : ∃ r b,JZ n x id = some (r,b) ∧ VtG n p r := by
 have hxs := hx.sz
 have hpl := hx.2.1
 have h6 := hx.2.2.1
 obtain ⟨r,hr,hk⟩ := zDY n x id (by omega) (by omega)
 rcases hk with ⟨rfl,_⟩ | ⟨v,h0,hv,_⟩
 ·refine ⟨x,false,?_,hx⟩
  simp only [JZ,hr,hpl,hx.2.2.2.1,Option.bind_some,Jt n x (by omega)]
  rfl
 ·obtain ⟨g1,g2⟩ := zN hv
  have hlt : r.toNat < x.Rows.length := (List.getElem?_eq_some_iff.1 g2).1
  obtain ⟨k,rfl⟩ : ∃ k : Nat,r = k := ⟨r.toNat,by omega⟩
  simp only [Int.toNat_natCast] at hlt
  have hw : IntKind.wrap .i64 ((k : Int) + 1) = ((k + 1 : Nat) : Int) := zP (by omega)
  have hlist : (([] : List zC) ++ ((x.Rows.drop ((0 : Int)).toNat).take (((k : Int)).toNat - ((0 : Int)).toNat))) ++ ((x.Rows.drop ((((k + 1 : Nat) : Int))).toNat).take ((((x.Rows.length : Int) : Int)).toNat - ((((k + 1 : Nat) : Int))).toNat)) = x.Rows.take k ++ x.Rows.drop (k + 1) := by
   simp only [Int.toNat_natCast,List.nil_append,show ((0 : Int)).toNat = 0 from rfl,List.drop_zero,Nat.sub_zero]
   congr 1
   exact List.take_of_length_le (by simp)
  have hmem : ∀ y ∈ x.Rows.take k ++ x.Rows.drop (k + 1),y ∈ x.Rows := fun y hy => by
   rcases List.mem_append.1 hy with h | h
   ·exact List.mem_of_mem_take h
   ·exact List.mem_of_mem_drop h
  obtain ⟨y,b,e,g⟩ := zEO n p hp x ⟨x.Rows.take k ++ x.Rows.drop (k + 1),x.Pv⟩ hx ⟨zM9 hx.1.1 hmem (by simp; omega),hx.1.2⟩ hpl (by show (x.Rows.take k ++ x.Rows.drop (k + 1)).length ≤ 1000; simp; omega) (fun r hr => hx.2.2.2.2 r (hmem r hr)) hn
  have hg1 : (decide ((0 : Int) ≤ 0) && (decide ((0 : Int) ≤ (k : Int)) && decide ((k : Int) ≤ (x.Rows.length : Int)))) = true := by
   rw [decide_eq_true (by omega : (0 : Int) ≤ (k : Int)),decide_eq_true (by omega : (k : Int) ≤ (x.Rows.length : Int))]; rfl
  have hg2 : (decide ((0 : Int) ≤ ((k + 1 : Nat) : Int)) && (decide ((((k + 1 : Nat) : Int) : Int) ≤ (x.Rows.length : Int)) && decide (((x.Rows.length : Int) : Int) ≤ (x.Rows.length : Int)))) = true := by
   rw [decide_eq_true (by omega : (0 : Int) ≤ ((k + 1 : Nat) : Int)),decide_eq_true (by omega : ((k + 1 : Nat) : Int) ≤ (x.Rows.length : Int)),decide_eq_true (Int.le_refl _)]; rfl
  have hg3 : decide (([] : List zC).length + ((x.Rows.drop ((0 : Int)).toNat).take (((k : Int)).toNat - ((0 : Int)).toNat)).length ≤ 268435456) = true := decide_eq_true (by simp; omega)
  have hg4 : decide ((([] : List zC) ++ ((x.Rows.drop ((0 : Int)).toNat).take (((k : Int)).toNat - ((0 : Int)).toNat))).length + ((x.Rows.drop ((((k + 1 : Nat) : Int))).toNat).take ((((x.Rows.length : Int) : Int)).toNat - ((((k + 1 : Nat) : Int))).toNat)).length ≤ 268435456) = true := decide_eq_true (by simp; omega)
  have hn0 : decide ((k : Int) < 0) = false := decide_eq_false (by omega)
  refine ⟨y,b,?_,g⟩
  simp only [JZ,hr,hpl,hx.2.2.2.1,Option.bind_some,Bool.not_true,Jt n x (by omega),hn0,cond_false,hw,hg1,hg2,hg3,hg4,cond_true,hlist,e]
theorem zEc (n : Nat) (x0 : zD) (r : zC) (h : x0.Rows.length ≤ 1000) : ∀ (m k : Nat) (d : Bool) (acc : List zC),k ≤ x0.Rows.length → x0.Rows.length < m + k → acc.length ≤ 2 * k → (∀ v ∈ acc,v = r ∨ v ∈ x0.Rows) → ∃ d' acc',ZM n m x0 r k d acc = some (.inl (d',acc')) ∧ acc'.length ≤ 2 * x0.Rows.length ∧ (∀ v ∈ acc',v = r ∨ v ∈ x0.Rows)
 | 0,k,d,acc,h1,h2,_,_ => by omega
 | m + 1,k,d,acc,h1,h2,h3,h4 => by
  rw [ZM]
  by_cases hk : k < x0.Rows.length
  ·have ih := fun d acc h3 h4 => zEc n x0 r h m (k + 1) d acc (by omega) (by omega) h3 h4
   have hmem : x0.Rows[k] ∈ x0.Rows := List.getElem_mem hk
   have hj : ∀ b1 b2 b3 (d : Bool) (acc : List zC),acc.length ≤ 2 * k + 1 → (∀ v ∈ acc,v = r ∨ v ∈ x0.Rows) → ∃ d' acc',YQ n (fun v => ZM n m x0 r v.1 v.2.1 v.2.2) x0 r k b1 b2 b3 d acc = some (.inl (d',acc')) ∧ acc'.length ≤ 2 * x0.Rows.length ∧ (∀ v ∈ acc',v = r ∨ v ∈ x0.Rows) := fun b1 b2 b3 d acc hl ha => by
    have hlen : decide (acc.length + [x0.Rows[k]].length ≤ 268435456) = true := decide_eq_true (by rw [List.length_singleton]; omega)
    simp only [YQ,zI hk,Option.bind_some,hlen,cond_true,zP (by omega : k ≤ 1099511627776)]
    cases (x0.Rows[k].Id != r.Id)
    ·exact ih d acc (by omega) ha
    ·refine ih d _ (by simp; omega) fun v hv => ?_
     rcases List.mem_append.1 hv with a | a
     ·exact ha v a
     ·rw [List.mem_singleton.1 a]; exact .inr hmem
   have hlen : decide (acc.length + [r].length ≤ 268435456) = true := decide_eq_true (by rw [List.length_singleton]; omega)
   simp only [zt hk,cond_true,zI hk,Option.bind_some,hlen]
   cases d
   ·simp only [Bool.not_false,cond_true]
    cases (decide (x0.Rows[k].Id ≥ r.Id))
    ·simp only [cond_false]; exact hj _ _ _ _ _ (by omega) h4
    ·simp only [cond_true]
     refine hj _ _ _ _ _ (by simp; omega) fun v hv => ?_
     rcases List.mem_append.1 hv with a | a
     ·exact h4 v a
     ·exact .inl (List.mem_singleton.1 a)
   ·simp only [Bool.not_true,cond_false]; exact hj _ _ _ _ _ (by omega) h4
  ·have he : k = x0.Rows.length := by omega
   subst he
   rw [zh,cond_false]
   exact ⟨d,acc,rfl,h3,h4⟩
theorem zFm (n : Nat) (x : zD) (r : zC) (h : x.Rows.length ≤ 1000) (hq : x.Pv.length ≤ 1000) (hn : 1000 < n) : ∃ y,zAz n x r = some y ∧ y.Pv = x.Pv ∧ y.Rows.length ≤ 2 * x.Rows.length + 1 ∧ (∀ v ∈ y.Rows,v = r ∨ v ∈ x.Rows) := by
 obtain ⟨d,acc,e,h1,h2⟩ := zEc n x r h n 0 false [] (by omega) (by omega) (by simp) (by simp)
 have e : ZM n n x r 0 false ([] : List zC) = some (.inl (d,acc)) := e
 unfold zAz
 rw [decide_eq_true (by simp; omega),cond_true,e,Option.bind_some]
 simp only [zAt,List.nil_append]
 have hlen : decide (acc.length + [r].length ≤ 268435456) = true := decide_eq_true (by rw [List.length_singleton]; omega)
 rw [hlen]
 cases d
 ·refine ⟨_,rfl,rfl,by simp; omega,fun v hv => ?_⟩
  rcases List.mem_append.1 hv with a | a
  ·exact h2 v a
  ·exact .inl (List.mem_singleton.1 a)
 ·exact ⟨_,rfl,rfl,by simp; omega,h2⟩
theorem zKQ {xs ys : List zC} {r : zC} (hx : QO zC.wf xs) (wr : r.wf) (hl : ys.length ≤ 4000) (h : ∀ v ∈ ys,v = r ∨ v ∈ xs) : QO zC.wf ys := ⟨Nat.le_trans hl (by decide),fun v hv => by
 rcases h v hv with a | a
 ·rw [a]; exact wr
 ·exact hx.2 v a⟩
theorem zJe (n p : Nat) (hp : p ≤ 1000) (x : zD) (hx : VtG n p x) (r : zC) (wr : r.wf) (hr : 0 ≤ r.Bare ∧ r.Bare ≤ 63) (hn : 1048577 < n) : ∃ y b,zBW n x r = some (y,b) ∧ VtG n p y := by
 have hxs := hx.sz
 have hpl := hx.2.1
 have h6 := hx.2.2.1
 obtain ⟨z,e,e1,e2,e3⟩ := zFm n x r (by omega) (by omega) (by omega)
 have wz : z.wf := ⟨zKQ hx.1.1 wr (by omega) e3,by rw [e1]; exact hx.1.2.1,trivial⟩
 obtain ⟨y,b,f,g⟩ := zEO n p hp x z hx wz (by rw [e1]; exact hpl) (by omega) (fun v hv => by
  rcases e3 v hv with a | a
  ·rw [a]; exact hr
  ·exact hx.2.2.2.2 v a) hn
 refine ⟨y,b,?_,g⟩
 simp only [zBW,hpl,hx.2.2.2.1,Option.bind_some,Bool.not_true,cond_false,e,f]
theorem zH {z : Int} (h0 : -1000000 ≤ z) (h1 : z ≤ 1000000) : zj z := by
 show (Lit.int .i64 z).wf = true
 simp [Lit.wf,show IntKind.wrap .i64 z = z from wrap64 (by omega) (by omega)]
 exact ⟨by show (-9223372036854775808 : Int) ≤ z; omega,by omega⟩
theorem zNw : ∀ a < 64,∀ b < 64,IntKind.wrap .i64 (BitVec.ofInt (IntKind.bits .i64) ((a : Nat) : Int) &&& BitVec.ofInt (IntKind.bits .i64) ((b : Nat) : Int)).toNat = ((a &&& b : Nat) : Int) := by decide +kernel
theorem zHW : ∀ p < 7,IntKind.wrap .u64 ((p : Nat) : Int) = p ∧ IntKind.wrap .i64 ((IntKind.wrap .i64 ((IntKind.wrap .i64 (1 * 2 ^ min (((IntKind.wrap .u64 ((p : Nat) : Int)) : Int)).toNat (IntKind.bits .i64))) - 1)) + 1) = ((2 ^ p : Nat) : Int) ∧ (IntKind.wrap .i64 ((IntKind.wrap .i64 (1 * 2 ^ min (((IntKind.wrap .u64 ((p : Nat) : Int)) : Int)).toNat (IntKind.bits .i64))) - 1)) = ((2 ^ p - 1 : Nat) : Int) ∧ 1 ≤ 2 ^ p ∧ 2 ^ p ≤ 64 := by decide +kernel
theorem zJs (n p : Nat) (hp : p < 7) (c : Src) (h : c.ok) : ∃ v c',zBc n c p = some (v,c') ∧ v.wf ∧ 0 ≤ v.Bare ∧ v.Bare ≤ 63 ∧ c'.ok := by
 obtain ⟨s1,s2,s3,s4,s5⟩ := zHW p hp
 obtain ⟨v1,c1,e1,a1,b1,g1⟩ := zG n c ((2 ^ p : Nat) : Int) h
 obtain ⟨v2,c2,e2,a2,g2⟩ := za n c1 [1,2,3,2] g1 (by decide)
 obtain ⟨v3,c3,e3,a3,b3,g3⟩ := zG n c2 ((2 ^ p : Nat) : Int) g2
 have b1 := b1 (by omega)
 have b3 := b3 (by omega)
 obtain ⟨x,rfl⟩ : ∃ x : Nat,v1 = x := ⟨v1.toNat,by omega⟩
 obtain ⟨y,rfl⟩ : ∃ y : Nat,v3 = y := ⟨v3.toNat,by omega⟩
 have hand := zNw x (by omega) y (by omega)
 have hle : x &&& y ≤ x := Nat.and_le_left
 have hu : decide ((0 : Int) ≤ IntKind.wrap .u64 ((p : Nat) : Int)) = true := decide_eq_true (by rw [s1]; omega)
 unfold zBc
 simp only [s2,hu,cond_true,e1,e2,e3,Option.bind_some,hand]
 have w1 : zj v2 := by
  simp only [List.mem_cons,List.not_mem_nil,or_false] at a2
  refine zH ?_ ?_ <;> rcases a2 with a | a | a | a <;> omega
 have w2 : zj ((x : Nat) : Int) := zH (by omega) (by omega)
 have w3 : zj ((x &&& y : Nat) : Int) := zH (by omega) (by omega)
 refine ⟨_,_,rfl,⟨w1,w2,w3,trivial⟩,?_,?_,g3⟩
 ·show (0 : Int) ≤ ((x &&& y : Nat) : Int); omega
 ·show ((x &&& y : Nat) : Int) ≤ 63; omega
theorem zD9 (n p : Nat) (hp : p ≤ 1000) : ∀ (m k : Nat) (acc : List Int),k ≤ p → p < m + k → acc = List.replicate k 1 → QT n m p k acc = some (.inl (List.replicate p 1))
 | 0,k,acc,h1,h2,h3 => by omega
 | m + 1,k,acc,h1,h2,h3 => by
  rw [QT]
  by_cases hk : k < p
  ·have hlen : decide (acc.length + [(1 : Int)].length ≤ 268435456) = true := decide_eq_true (by rw [List.length_singleton,h3]; simp; omega)
   simp only [zt hk,cond_true,zP (by omega : k ≤ 1099511627776)]
   refine Eq.trans (congrArg (fun b => cond b _ none) hlen) ?_
   exact zD9 n p hp m (k + 1) (acc ++ [1]) (by omega) (by omega) (by rw [h3,← List.replicate_succ'])
  ·have he : k = p := by omega
   subst he
   rw [zh,cond_false,h3]
theorem zIr (n p : Nat) (h0 : 1 ≤ p) (h1 : p < 7) (hn : 1000 < n) : Qf n p = some ⟨[⟨1,((2 ^ p - 1 : Nat) : Int),((2 ^ p - 1 : Nat) : Int)⟩],List.replicate p 1⟩ := by
 obtain ⟨s1,s2,s3,s4,s5⟩ := zHW p h1
 have e := zD9 n p (by omega) n 0 [] (by omega) (by omega) rfl
 have e : QT n n p 0 ([] : List Int) = some (.inl (List.replicate p 1)) := e
 unfold Qf
 have hu : decide ((0 : Int) ≤ IntKind.wrap .u64 ((p : Nat) : Int)) = true := decide_eq_true (by rw [s1]; omega)
 simp only [zQ,Option.bind_some,decide_eq_true (show (1 : Int) ≤ (p : Int) by omega),decide_eq_true (show (p : Int) ≤ 6 by omega),Bool.and_self,Bool.not_true,cond_false,hu,cond_true,e,Jo,s3]
theorem zPr : ∀ p < 7,1 ≤ p → zl 1048800 ⟨[⟨1,((2 ^ p - 1 : Nat) : Int),((2 ^ p - 1 : Nat) : Int)⟩],List.replicate p 1⟩ ((p : Nat) : Int) = some true := by decide +kernel
theorem zPq (p : Nat) (h0 : 1 ≤ p) (h1 : p < 7) : ∃ v,Qf 1048800 p = some v ∧ VtG 1048800 p v := by
 obtain ⟨s1,s2,s3,s4,s5⟩ := zHW p h1
 have w : zj ((2 ^ p - 1 : Nat) : Int) := zH (by omega) (by omega)
 refine ⟨_,zIr 1048800 p h0 h1 (by omega),⟨⟨by show 1 ≤ maxLen; decide,fun v hv => ?_⟩,⟨by rw [List.length_replicate]; exact Nat.le_trans (Nat.le_of_lt h1) (by decide),fun v hv => ?_⟩,trivial⟩,List.length_replicate,by show 1 ≤ 6; decide,zPr p h1 h0,fun v hv => ?_⟩
 ·rw [List.mem_singleton.1 hv]; have w1 : zj 1 := zH (by decide) (by decide)
  exact ⟨w1,w,w,trivial⟩
 ·rw [(List.mem_replicate.1 hv).2]; exact zH (by decide) (by decide)
 ·rw [List.mem_singleton.1 hv]
  have h : (0 : Int) ≤ ((2 ^ p - 1 : Nat) : Int) ∧ ((2 ^ p - 1 : Nat) : Int) ≤ 63 := by omega
  exact h
theorem zEb (p : Nat) (h0 : 1 ≤ p) (h7 : p < 7) : ∀ (m k : Nat) (c : Src) (v : zD),k < m → k ≤ 1000 → c.ok → VtG 1048800 p v → ∃ (c' : Src) (v' : zD),QM 1048800 m p k c.b c.i c.h v.Rows v.Pv = some (.inl (c'.b,c'.i,c'.h,v'.Rows,v'.Pv)) ∧ c'.ok ∧ VtG 1048800 p v'
 | 0,k,c,v,h1,h2,h3,h4 => by omega
 | m + 1,k,c,v,h1,h2,h3,h4 => by
  rw [QM]
  by_cases hk : 0 < k
  ·obtain ⟨j,rfl⟩ : ∃ j,k = j + 1 := ⟨k - 1,by omega⟩
   have hw : IntKind.wrap .i64 (((j + 1 : Nat) : Int) - 1) = (j : Nat) := by rw [wrap64 (by omega) (by omega)]; omega
   have ih := fun c v h3 h4 => zEb p h0 h7 m j c v (by omega) (by omega) h3 h4
   obtain ⟨v1,c1,e1,a1,b1,g1⟩ := zG 1048800 c 4 h3
   obtain ⟨v2,c2,e2,a2,b2,g2⟩ := zG 1048800 c1 (p : Int) g1
   obtain ⟨v3,c3,e3,a3,b3,g3⟩ := zG 1048800 c2 3 g2
   obtain ⟨v4,c4,e4,a4,b4,g4⟩ := zG 1048800 c1 2 g1
   obtain ⟨v5,c5,e5,w5,p5,q5,g5⟩ := zJs 1048800 p h7 c1 g1
   have b3 := b3 (by decide)
   have b4 := b4 (by decide)
   obtain ⟨y2,d2,f2,k2⟩ := zIp 1048800 p (by omega) v h4 v2 (1 + v3) (zH (by omega) (by omega)) (by omega)
   obtain ⟨y4,d4,f4,k4⟩ := zIj 1048800 p (by omega) v h4 (2 + v4) (by omega)
   obtain ⟨y5,d5,f5,k5⟩ := zJe 1048800 p (by omega) v h4 v5 w5 ⟨p5,q5⟩ (by omega)
   have hpos : decide (((j + 1 : Nat) : Int) > 0) = true := decide_eq_true (by omega)
   simp only [hpos,cond_true,e1,Option.bind_some,e2,e3,e4,e5,hw,wrap64 (show -9223372036854775808 ≤ 1 + v3 by omega) (by omega),wrap64 (show -9223372036854775808 ≤ 2 + v4 by omega) (by omega),f2,f4,f5]
   cases (v1 == 0)
   ·cases (v1 == 1)
    ·exact ih c5 y5 g5 k5
    ·exact ih c4 y4 g4 k4
   ·exact ih c3 y2 g3 k2
  ·have : k = 0 := by omega
   subst this
   exact ⟨c,v,rfl,h3,h4⟩
theorem zFl (p : Nat) (h0 : 1 ≤ p) (h7 : p < 7) (c : Src) (h : c.ok) : ∃ v c',zAM 1048800 c p = some (v,c') ∧ VtG 1048800 p v ∧ c'.ok := by
 obtain ⟨v0,e0,g0⟩ := zPq p h0 h7
 obtain ⟨v1,c1,e1,a1,b1,g1⟩ := zG 1048800 c 6 h
 have b1 := b1 (by decide)
 obtain ⟨k,rfl⟩ : ∃ k : Nat,v1 = k := ⟨v1.toNat,by omega⟩
 obtain ⟨c',v',e,g,g'⟩ := zEb p h0 h7 1048800 k c1 v0 (by omega) (by omega) g1 g0
 unfold zAM
 rw [e0,Option.bind_some,e1,Option.bind_some,e]
 exact ⟨v',c',rfl,g',g⟩
def VtB (x : zD) : Prop := x.wf ∧ 1 ≤ x.Pv.length ∧ x.Pv.length ≤ 6 ∧ x.Rows.length ≤ 1000 ∧ ∀ r ∈ x.Rows,0 ≤ r.Bare ∧ r.Bare ≤ 63
theorem zFN : ∀ (m k : Nat) (v : zD),k ≤ 6 → 6 < m + k → VtB v → v.Rows.length * 2 ^ (6 - k) + 2 ^ (6 - k) ≤ 1000 → ∃ (v' : zD),YP 1048800 m k v.Rows v.Pv = some (.inl (v'.Rows,v'.Pv)) ∧ VtB v'
 | 0,k,v,h1,h2,h3,h4 => by omega
 | m + 1,k,v,h1,h2,h3,h4 => by
  rw [YP]
  by_cases hk : k < 6
  ·have hp : 2 ^ (6 - k) = 2 * 2 ^ (6 - (k + 1)) := by rw [← Nat.pow_succ']; congr 1; omega
   have hpos : 1 ≤ 2 ^ (6 - (k + 1)) := Nat.pos_of_ne_zero (by simp)
   obtain ⟨y,e,e1,e2,e3⟩ := zFm 1048800 (⟨v.Rows,v.Pv⟩ : zD) (⟨IntKind.wrap .i64 (10 + (k : Int)),0,0⟩ : zC) h3.2.2.2.1 (Nat.le_trans h3.2.2.1 (by decide)) (by omega)
   have e2 : y.Rows.length ≤ 2 * v.Rows.length + 1 := e2
   have e1 : y.Pv = v.Pv := e1
   have hle : y.Rows.length * 2 ^ (6 - (k + 1)) + 2 ^ (6 - (k + 1)) ≤ 1000 := by
    refine Nat.le_trans ?_ h4
    rw [hp]
    have := Nat.mul_le_mul_right (2 ^ (6 - (k + 1))) e2
    have h5 : (2 * v.Rows.length + 1) * 2 ^ (6 - (k + 1)) = v.Rows.length * (2 * 2 ^ (6 - (k + 1))) + 2 ^ (6 - (k + 1)) := by
     rw [Nat.add_mul,Nat.one_mul,Nat.mul_comm 2 v.Rows.length,Nat.mul_assoc]
    omega
   have hl : y.Rows.length ≤ 1000 := by
    have := Nat.mul_le_mul_left y.Rows.length hpos
    omega
   have wr : zC.wf (⟨IntKind.wrap .i64 (10 + (k : Int)),0,0⟩ : zC) := by
    rw [wrap64 (by omega) (by omega)]
    have w0 : zj 0 := zH (by decide) (by decide)
    exact ⟨zH (by show (-1000000 : Int) ≤ 10 + (k : Int); omega) (by show 10 + (k : Int) ≤ 1000000; omega),w0,w0,trivial⟩
   have gy : VtB y := ⟨⟨zKQ h3.1.1 wr (by omega) e3,by rw [e1]; exact h3.1.2.1,trivial⟩,by rw [e1]; exact h3.2.1,by rw [e1]; exact h3.2.2.1,hl,fun r hr => by
    rcases e3 r hr with a | a
    ·rw [a]; exact (show (0 : Int) ≤ 0 ∧ (0 : Int) ≤ 63 by decide)
    ·exact h3.2.2.2.2 r a⟩
   simp only [decide_eq_true (show (k : Int) < 6 by omega),cond_true,e,Option.bind_some,zP (by omega : k ≤ 1099511627776)]
   exact zFN m (k + 1) y (by omega) (by omega) gy hle
  ·have : k = 6 := by omega
   subst this
   exact ⟨v,rfl,h3⟩
theorem zKe (c : Src) (h : c.ok) : ∃ v p c',zCF 1048800 c = some (v,p,c') ∧ VtB v ∧ zj p ∧ c'.ok := by
 obtain ⟨v1,c1,e1,a1,b1,g1⟩ := zG 1048800 c 4 h
 have b1 := b1 (by decide)
 obtain ⟨k,rfl⟩ : ∃ k : Nat,v1 = k := ⟨v1.toNat,by omega⟩
 have hw : IntKind.wrap .i64 (1 + (k : Int)) = ((k + 1 : Nat) : Int) := by rw [wrap64 (by omega) (by omega)]; omega
 obtain ⟨v,c2,e2,gv,g2⟩ := zFl (k + 1) (by omega) (by omega) c1 g1
 have hl := gv.2.1
 have h6 := gv.2.2.1
 have bv : VtB v := ⟨gv.1,by omega,by omega,by omega,gv.2.2.2.2⟩
 have wk : zj ((k + 1 : Nat) : Int) := zH (by omega) (by omega)
 obtain ⟨v3,c3,e3,a3,b3,g3⟩ := zG 1048800 c2 12 g2
 obtain ⟨v4,c4,e4,a4,g4⟩ := za 1048800 c3 [0,1,9,100] g3 (by decide)
 obtain ⟨v5,c5,e5,a5,g5⟩ := za 1048800 c4 [(-1),0,1,64] g4 (by decide)
 obtain ⟨v6,c6,e6,a6,b6,g6⟩ := zG 1048800 c5 3 g5
 have b6 := b6 (by decide)
 obtain ⟨v7,c7,e7,a7,g7⟩ := za 1048800 c3 [0,7] g3 (by decide)
 obtain ⟨v8,c8,e8,a8,g8⟩ := za 1048800 c3 [0,6,7] g3 (by decide)
 obtain ⟨u,hu,_⟩ := zCm (xs := v.Pv) (i := 0) (by omega) (by omega)
 obtain ⟨z,ez,bz⟩ := zFN 1048800 0 v (by omega) (by omega) bv (by show v.Rows.length * 64 + 64 ≤ 1000; omega)
 have ez : YP 1048800 1048800 0 v.Rows v.Pv = some (.inl (z.Rows,z.Pv)) := ez
 simp only [List.mem_cons,List.not_mem_nil,or_false] at a4 a5 a7 a8
 have w4 : zj v4 := by refine zH ?_ ?_ <;> rcases a4 with a | a | a | a <;> omega
 have w5 : zj v5 := by refine zH ?_ ?_ <;> rcases a5 with a | a | a | a <;> omega
 have w6 : zj v6 := zH (by omega) (by omega)
 have w7 : zj v7 := by refine zH ?_ ?_ <;> rcases a7 with a | a <;> omega
 have w8 : zj v8 := by refine zH ?_ ?_ <;> rcases a8 with a | a | a <;> omega
 have hlen : decide (v.Rows.length + [(⟨v4,v5,v6⟩ : zC)].length ≤ 268435456) = true := decide_eq_true (by rw [List.length_singleton]; omega)
 unfold zCF
 simp only [e1,Option.bind_some,hw,e2,e3,e4,e5,e6,e7,e8,hu,hlen,cond_true,ez,zAs]
 cases (v3 == 0)
 ·cases (v3 == 1)
  ·cases (v3 == 2)
   ·cases (v3 == 3)
    ·exact ⟨_,_,_,rfl,bv,wk,g3⟩
    ·exact ⟨_,_,_,rfl,bz,wk,g3⟩
   ·exact ⟨_,_,_,rfl,bv,w8,g8⟩
  ·exact ⟨_,_,_,rfl,⟨⟨bv.1.1,zCv bv.1.2.1 w7,trivial⟩,by show 1 ≤ (v.Pv.set ((0 : Int)).toNat v7).length; rw [List.length_set]; omega,by show (v.Pv.set ((0 : Int)).toNat v7).length ≤ 6; rw [List.length_set]; omega,bv.2.2.2⟩,wk,g7⟩
 ·refine ⟨_,_,_,rfl,⟨⟨zKQ bv.1.1 (r := ⟨v4,v5,v6⟩) ⟨w4,w5,w6,trivial⟩ (by show (v.Rows ++ [_]).length ≤ 4000; simp; omega) fun r hr => ?_,bv.1.2⟩,bv.2.1,bv.2.2.1,by show (v.Rows ++ [_]).length ≤ 1000; simp; omega,fun r hr => ?_⟩,wk,g6⟩
  ·rcases List.mem_append.1 hr with a | a
   ·exact .inr a
   ·exact .inl (List.mem_singleton.1 a)
  ·rcases List.mem_append.1 hr with a | a
   ·exact bv.2.2.2.2 r a
   ·rw [List.mem_singleton.1 a]; exact ⟨a6,by show v6 ≤ 63; omega⟩
def zEJ (a : Int) (i : Nat) : Bool := (IntKind.wrap .i64 (BitVec.ofInt (IntKind.bits .i64) (Int.fdiv a (2 ^ min ((i : Int)).toNat (IntKind.bits .i64))) &&& BitVec.ofInt (IntKind.bits .i64) 1).toNat == 1)
theorem zHx (n : Nat) (a : Int) (i : Nat) (h : i ≤ 62) : zAj n a i = some (zEJ a i) := by
 unfold zAj
 simp only [qy,zQ,Option.bind_some,decide_eq_true (show (0 : Int) ≤ (i : Int) by omega),decide_eq_true (show (i : Int) ≤ 62 by omega),Bool.and_self,cond_true]
 rfl
theorem zC8 (n : Nat) (a : Int) (i : Nat) (h : i ≤ 7) : zCG n a i = some (zEJ a i) := by
 unfold zCG
 have hu : IntKind.wrap .u64 (i : Int) = i := zOh (by omega)
 simp only [zQ,Option.bind_some,decide_eq_true (show (0 : Int) ≤ (i : Int) by omega),decide_eq_true (show (i : Int) ≤ 7 by omega),Bool.and_self,cond_true,hu]
 rfl
theorem zFI (n : Nat) (x : Net) (i j : Int) (h : Q4 n x i j = some true) : ∃ v p,idx x.Bs i = some v ∧ idx v.Ps j = some p ∧ p.Up = true ∧ i ≤ (IntKind.wrap .i64 ((x.Bs.length : Int) - 1)) ∧ j ≤ (IntKind.wrap .i64 ((v.Ps.length : Int) - 1)) ∧ 0 ≤ i ∧ 0 ≤ j := by
 unfold Q4 at h
 simp only [zQ,Option.bind_some] at h
 cases hc : (decide (0 ≤ i) && decide (i ≤ IntKind.wrap .i64 ((x.Bs.length : Int) - 1))) with
 | false => rw [hc] at h; cases h
 | true =>
  simp only [hc,cond_true] at h
  obtain ⟨v,hv,h⟩ := bind_some h
  cases hd : (decide (0 ≤ j) && decide (j ≤ IntKind.wrap .i64 ((v.Ps.length : Int) - 1))) with
  | false => rw [hd] at h; cases h
  | true =>
   simp only [hd,cond_true,hv,Option.bind_some] at h
   obtain ⟨p,hp,h⟩ := bind_some h
   simp only [Bool.and_eq_true,decide_eq_true_eq] at hc hd
   exact ⟨v,p,hv,hp,Option.some.inj h,hc.2,hd.2,hc.1,hd.1⟩
theorem zH2 (n : Nat) (x : Net) (k : Int) (h : qf n x k = some true) : ∃ l a b p q,idx x.Ls k = some l ∧ idx x.Bs l.A = some a ∧ idx a.Ps l.P = some p ∧ p.Up = true ∧ idx x.Bs l.B = some b ∧ idx b.Ps l.Q = some q ∧ q.Up = true := by
 unfold qf at h
 simp only [zQ,Option.bind_some] at h
 cases hc : (decide (0 ≤ k) && decide (k ≤ IntKind.wrap .i64 ((x.Ls.length : Int) - 1))) with
 | false => rw [hc] at h; cases h
 | true =>
  simp only [hc,Bool.not_true,cond_false] at h
  obtain ⟨l,hl,h⟩ := bind_some h
  obtain ⟨u,hu,h⟩ := bind_some h
  cases u with
  | false => cases h
  | true =>
   simp only [cond_true] at h
   obtain ⟨u',hu',h⟩ := bind_some h
   have : u' = true := Option.some.inj h
   subst this
   obtain ⟨a,p,a1,a2,a3,_⟩ := zFI n x _ _ hu
   obtain ⟨b,q,b1,b2,b3,_⟩ := zFI n x _ _ hu'
   exact ⟨l,a,b,p,q,hl,a1,a2,a3,b1,b2,b3⟩
theorem J4 {α : Type} {xs : List α} {i : Int} {v : α} (h : idx xs i = some v) : 0 ≤ i ∧ i < xs.length := by
 obtain ⟨g1,g2⟩ := zN h
 have := (List.getElem?_eq_some_iff.1 g2).1
 omega
theorem zBG {c : Bool} {x : Option Bool} (h : (bif c then x else some false) = some true) : c = true ∧ x = some true := by
 cases c with
 | true => exact ⟨rfl,h⟩
 | false => cases h
theorem zIi {L : Nat → Int → Option (Unit ⊕ Bool)} {N : Nat} {P : Nat → Prop} (h0 : ∀ k,L 0 k = none) (hs : ∀ m (k : Nat) o,k < N → L (m + 1) (k : Int) = some o → o = .inr false ∨ (P k ∧ L m ((k + 1 : Nat) : Int) = some o)) (he : ∀ m o,L (m + 1) (N : Int) = some o → o = .inl ()) :
  ∀ (m k : Nat) o,k ≤ N → L m (k : Int) = some o → o = .inr false ∨ (o = .inl () ∧ ∀ j,k ≤ j → j < N → P j)
 | 0,k,o,_,h => by rw [h0] at h; cases h
 | m + 1,k,o,hk,h => by
  by_cases hlt : k < N
  ·rcases hs m k o hlt h with e | ⟨hp,h⟩
   ·exact .inl e
   ·rcases zIi h0 hs he m (k + 1) o (by omega) h with e | ⟨e,h2⟩
    ·exact .inl e
    ·refine .inr ⟨e,fun j hj hj2 => ?_⟩
     by_cases hjk : j = k
     ·subst hjk; exact hp
     ·exact h2 j (by omega) hj2
  ·have : k = N := by omega
   subst this
   exact .inr ⟨he m o h,fun j hj hj2 => by omega⟩
theorem zGl (n : Nat) (x : zA) (hl : x.Ps.length ≤ 1048580) {o : Unit ⊕ Bool} (h : z7 n n x 0 = some o) : o = .inr false ∨ (o = .inl () ∧ ∀ j (hj : j < x.Ps.length),qD n x.Ps[j] = some true) := by
 rcases zIi (L := fun m k => z7 n m x k) (N := x.Ps.length) (P := fun j => ∀ hj : j < x.Ps.length,qD n x.Ps[j] = some true) (fun k => rfl) (fun m k o hk h => by
  simp only [z7] at h
  rw [zt hk,cond_true,zI hk,Option.bind_some,zP (by omega : k ≤ 1099511627776)] at h
  obtain ⟨b,hb⟩ := zGF n x.Ps[k]
  rw [hb,Option.bind_some] at h
  cases b with
  | true => exact .inr ⟨fun _ => hb,h⟩
  | false => cases h; exact .inl rfl) (fun m o h => by
  simp only [z7] at h
  rw [zh] at h; cases h; rfl) n 0 o (by omega) h with e | ⟨e,h2⟩
 ·exact .inl e
 ·exact .inr ⟨e,fun j hj => h2 j (by omega) hj hj⟩
theorem qS (n : Nat) (x : zA) (hl : x.Ps.length ≤ 1048580) (h : zV n x = some true) : 1 ≤ x.Ps.length ∧ x.Ps.length ≤ 6 ∧ 1 ≤ x.Id ∧ x.Id ≤ 99 ∧ x.Name.size ≤ 10 ∧ ZU n x.F = some true ∧ zl n x.V (x.Ps.length : Int) = some true ∧
  (0 ≤ x.Tk ∧ x.Tk ≤ 1000000) ∧ (0 ≤ x.Pa ∧ x.Pa ≤ 1000000) ∧ (0 ≤ x.Wo ∧ x.Wo ≤ 1000000) ∧ (0 ≤ x.Dr ∧ x.Dr ≤ 1000000) ∧ (0 ≤ x.Ve ∧ x.Ve ≤ 1000000) ∧ ∀ j (hj : j < x.Ps.length),qD n x.Ps[j] = some true := by
 unfold zV at h
 obtain ⟨o,ho,h⟩ := bind_some h
 rcases zGl n x hl ho with rfl | ⟨rfl,hp⟩
 ·cases h
 ·simp only [Qm,Yt,zQ,Option.bind_some] at h
  obtain ⟨h1,h⟩ := zBG h
  obtain ⟨h2,h⟩ := zBG h
  obtain ⟨h3,h⟩ := zBG h
  obtain ⟨b4,h4,h⟩ := bind_some h
  obtain ⟨rfl,h⟩ := zBG h
  obtain ⟨b5,h5,h⟩ := bind_some h
  obtain ⟨rfl,h⟩ := zBG h
  obtain ⟨b6,h6,h⟩ := bind_some h
  cases h
  obtain ⟨h7,h6⟩ := zBG h6
  obtain ⟨h8,h6⟩ := zBG h6
  obtain ⟨h9,h6⟩ := zBG h6
  obtain ⟨h10,h6⟩ := zBG h6
  have h11 := Option.some.inj h6
  simp only [Bool.and_eq_true,decide_eq_true_eq] at h1 h2 h3 h7 h8 h9 h10 h11
  exact ⟨by omega,by omega,h1.1,h1.2,by omega,h4,h5,h7,h8,h9,h10,h11,hp⟩
theorem zGs (n : Nat) (z : Int) (h0 : 0 ≤ z) (h1 : z ≤ 1000000) : ∃ y,JK n z = some y ∧ zBj n z = some y ∧ 0 ≤ y ∧ y ≤ 1000000 := by
 unfold JK zBj
 rw [wrap64 (by omega) (by omega)]
 by_cases h : z ≥ 1000000
 ·rw [decide_eq_true h,if_pos (by omega)]; exact ⟨z,rfl,by rw [show z = 1000000 by omega],h0,h1⟩
 ·rw [decide_eq_false h,if_neg (by omega)]; exact ⟨_,rfl,rfl,by omega,by omega⟩
theorem zHB {α β : Type} {p : α → Bool} {L : Nat → Int → List α → Option (List α ⊕ β)} (xs : List α) (hx : xs.length ≤ 134217728)
  (h : ∀ m (k : Nat) (acc : List α) (hk : k < xs.length),acc.length ≤ k → L (m + 1) k acc = L m ((k + 1 : Nat) : Int) (acc ++ if p xs[k] then [xs[k]] else [])) (he : ∀ m (acc : List α),L (m + 1) (xs.length : Int) acc = some (.inl acc)) :
  ∀ (m k : Nat) (acc : List α),k ≤ xs.length → xs.length < m + k → acc.length ≤ k → L m k acc = some (.inl (acc ++ (xs.drop k).filter p))
 | 0,k,acc,h1,h2,h3 => by omega
 | m + 1,k,acc,h1,h2,h3 => by
  by_cases hk : k < xs.length
  ·rw [h m k acc hk h3,zHB xs hx h he m (k + 1) _ (by omega) (by omega) (by split <;> simp <;> omega),List.drop_eq_getElem_cons hk,List.filter_cons,List.append_assoc]
   split <;> simp
  ·have : k = xs.length := by omega
   subst this
   rw [he m acc]
   simp
theorem zA2 (n : Nat) (xs : List zB) (p : Int) (h : xs.length ≤ 134217728) (hn : xs.length < n) : Jm n xs p = some (xs.filter fun v => v.Sc || v.Port != p) := by
 have := zHB (p := fun v : zB => v.Sc || v.Port != p) (L := fun m k acc => qu n m xs p k acc) xs h (fun m k acc hk ha => by
  simp only [qu]
  rw [zt hk,cond_true,zI hk,Option.bind_some,zP (by omega : k ≤ 1099511627776)]
  have hg : ∀ v : zB,decide (acc.length + [v].length ≤ 268435456) = true := fun v => decide_eq_true (by simp; omega)
  simp only [Option.bind_some,hg,cond_true]
  cases hs : xs[k].Sc <;> cases hq : (xs[k].Port != p) <;> simp [hs,hq]) (fun m acc => by simp only [qu]; rw [zh]; rfl) n 0 [] (by omega) (by omega) (by simp)
 unfold Jm
 rw [show qu n n xs p 0 [] = _ from this]
 simp [Yy]
theorem zG0 (n : Nat) (xs : List zB) (p : Int) (h : xs.length ≤ 134217728) (hn : xs.length < n) : Je n xs p = some (xs.filter fun v => v.Sc || v.Port != p) := by
 have := zHB (p := fun v : zB => v.Sc || v.Port != p) (L := fun m k acc => qt n m xs p k acc) xs h (fun m k acc hk ha => by
  simp only [qt]
  rw [zt hk,cond_true,zI hk,Option.bind_some,zP (by omega : k ≤ 1099511627776)]
  have hg : ∀ v : zB,decide (acc.length + [v].length ≤ 268435456) = true := fun v => decide_eq_true (by simp; omega)
  simp only [Option.bind_some,hg,cond_true]
  cases hs : xs[k].Sc <;> cases hq : (xs[k].Port != p) <;> simp [hs,hq]) (fun m acc => by simp only [qt]; rw [zh]; rfl) n 0 [] (by omega) (by omega) (by simp)
 unfold Je
 rw [show qt n n xs p 0 [] = _ from this]
 simp [Yx]
theorem zAY (n : Nat) (bits : Int) (x : zA) (h : x.Ps.length ≤ 6) : ∀ (m k : Nat) (ys : List zB),k ≤ x.Ps.length → x.Ps.length < m + k → ys.length ≤ 134217728 → ys.length < n → ∃ zs : List zB,qY n m bits x k ys = some (.inl zs) ∧ ZG n m bits x k ys = some (.inl zs) ∧ zs.length ≤ ys.length ∧ (∀ v ∈ zs,v ∈ ys) ∧ ∀ v ∈ zs,v.Sc = true ∨ ∀ j : Nat,k ≤ j → j < x.Ps.length → zEJ bits j = false → v.Port ≠ j
 | 0,k,ys,h1,h2,h3,h4 => by omega
 | m + 1,k,ys,h1,h2,h3,h4 => by
  rw [qY,ZG]
  by_cases hk : k < x.Ps.length
  ·rw [zt hk,cond_true,cond_true,zC8 n bits k (by omega),zHx n bits k (by omega),Option.bind_some,Option.bind_some,zP (by omega : k ≤ 1099511627776),zA2 n ys _ h3 h4,zG0 n ys _ h3 h4]
   cases hb : zEJ bits k with
   | true =>
    simp only [Bool.not_true,cond_false]
    obtain ⟨zs,e1,e2,e3,e4,e5⟩ := zAY n bits x h m (k + 1) ys (by omega) (by omega) h3 h4
    refine ⟨zs,e1,e2,e3,e4,fun v hv => (e5 v hv).imp id fun h5 j hj hj2 hj3 => ?_⟩
    by_cases hjk : j = k
    ·subst hjk; rw [hb] at hj3; cases hj3
    ·exact h5 j (by omega) hj2 hj3
   | false =>
    simp only [Bool.not_false,cond_true,Option.bind_some]
    have hle := List.length_filter_le (fun v : zB => v.Sc || v.Port != (k : Int)) ys
    obtain ⟨zs,e1,e2,e3,e4,e5⟩ := zAY n bits x h m (k + 1) (ys.filter fun v => v.Sc || v.Port != (k : Int)) (by omega) (by omega) (by omega) (by omega)
    refine ⟨zs,e1,e2,by omega,fun v hv => (List.mem_filter.1 (e4 v hv)).1,fun v hv => ?_⟩
    have hf := (List.mem_filter.1 (e4 v hv)).2
    rcases e5 v hv with h5 | h5
    ·exact .inl h5
    ·cases hs : v.Sc with
     | true => exact .inl rfl
     | false =>
      refine .inr fun j hj hj2 hj3 => ?_
      by_cases hjk : j = k
      ·subst hjk; rw [hs] at hf; simpa using hf
      ·exact h5 j (by omega) hj2 hj3
  ·have he : k = x.Ps.length := by omega
   subst he
   rw [zh]
   exact ⟨ys,rfl,rfl,Nat.le_refl _,fun v hv => hv,fun v hv => .inr fun j hj hj2 => by omega⟩
theorem zGo (n : Nat) (x : zA) (h : x.Ps.length ≤ 6) (hf : x.F.length ≤ 134217728) (hn : x.F.length < n) (hn6 : 6 < n) (hv0 : 0 ≤ x.Ve) (hv1 : x.Ve ≤ 1000000) : ∃ (zs : List zB) (v b : Int),ZA n x = some ⟨x.Id,x.Name,x.Ps,zs,x.V,x.Tk,x.Pa,x.Wo,x.Dr,v⟩ ∧ ZH n x = some ⟨x.Id,x.Name,x.Ps,zs,x.V,x.Tk,x.Pa,x.Wo,x.Dr,v⟩ ∧
  zs.length ≤ x.F.length ∧ (∀ u ∈ zs,u ∈ x.F) ∧ 0 ≤ v ∧ v ≤ 1000000 ∧ QI n x.Id x.Ps = some b ∧ ∀ u ∈ zs,u.Sc = true ∨ ∀ j : Nat,j < x.Ps.length → zEJ b j = false → u.Port ≠ j := by
 obtain ⟨v,h1,h2,h3,h4⟩ := zGs n x.Ve hv0 hv1
 obtain ⟨e,b,hb⟩ := zIo n x.Id x.Ps (by omega) (by omega)
 obtain ⟨zs,k1,k2,k3,k4,k5⟩ := zAY n b x h n 0 x.F (by omega) (by omega) hf hn
 refine ⟨zs,v,b,?_,?_,k3,k4,h3,h4,hb,fun u hu => (k5 u hu).imp id fun h5 j hj => h5 j (by omega) hj⟩
 ·unfold ZA
  rw [h1,Option.bind_some,hb,Option.bind_some,show qY n n b x 0 x.F = _ from k1]
  rfl
 ·unfold ZH
  rw [h2,Option.bind_some,e,hb,Option.bind_some,show ZG n n b x 0 x.F = _ from k2]
  rfl
theorem JJ (n : Nat) (x : zA) (h : x.sz ≤ 268435456) : Qg n x = some x := by
 have hs : x.Name.size + x.Ps.length + x.F.length + x.V.sz = x.sz := rfl
 unfold Qg qv
 rw [Jt n x.V (by omega),decide_eq_true (by simp; omega),decide_eq_true (by simp; omega)]
 rfl
theorem YS (n : Nat) (x : zA) (h : x.sz ≤ 268435456) : Zi n x = some x := by
 have hs : x.Name.size + x.Ps.length + x.F.length + x.V.sz = x.sz := rfl
 unfold Zi zCP
 rw [zHw n x.V (by omega),decide_eq_true (by simp; omega),decide_eq_true (by simp; omega)]
 rfl
theorem zBa (n : Nat) (x : zA) (p : Int) (b : Bool) (hb : zV n x = some b) (hl : x.Ps.length ≤ 1048580) : Y6 n x p = some (b && (decide (0 ≤ p) && decide (p < x.Ps.length))) := by
 unfold Y6
 rw [hb,Option.bind_some,zQ,wrap64 (by omega) (by omega)]
 have : decide (p ≤ (x.Ps.length : Int) - 1) = decide (p < x.Ps.length) := by
  by_cases h : p < x.Ps.length
  ·rw [decide_eq_true h,decide_eq_true (by omega)]
  ·rw [decide_eq_false h,decide_eq_false (by omega)]
 rw [this]
 cases b <;> rfl
theorem zCX (n : Nat) (x : zA) (p : Int) (b : Bool) (hb : Qv n x = some b) (hl : x.Ps.length ≤ 1048580) : zAA n x p = some (b && (decide (0 ≤ p) && decide (p < x.Ps.length))) := by
 unfold zAA
 rw [hb,Option.bind_some,qy,zQ,wrap64 (by omega) (by omega)]
 have : decide (p ≤ (x.Ps.length : Int) - 1) = decide (p < x.Ps.length) := by
  by_cases h : p < x.Ps.length
  ·rw [decide_eq_true h,decide_eq_true (by omega)]
  ·rw [decide_eq_false h,decide_eq_false (by omega)]
 rw [this]
 cases b <;> rfl
theorem zGy (n : Nat) (x : zA) (hn : 1048577 < n) (hx : x.sz ≤ 1048576) (hb : zV n x = some true) (ps : List Pt) (hp : ps.length = x.Ps.length) (fs : List zB) (hf : fs.length ≤ x.F.length) (t : Int) : ∃ (zs : List zB) (v b : Int),ZA n ⟨x.Id,x.Name,ps,fs,x.V,t,x.Pa,x.Wo,x.Dr,x.Ve⟩ = some ⟨x.Id,x.Name,ps,zs,x.V,t,x.Pa,x.Wo,x.Dr,v⟩ ∧
  ZH n ⟨x.Id,x.Name,ps,fs,x.V,t,x.Pa,x.Wo,x.Dr,x.Ve⟩ = some ⟨x.Id,x.Name,ps,zs,x.V,t,x.Pa,x.Wo,x.Dr,v⟩ ∧ zs.length ≤ fs.length ∧ (∀ u ∈ zs,u ∈ fs) ∧ 0 ≤ v ∧ v ≤ 1000000 ∧ QI n x.Id ps = some b ∧ ∀ u ∈ zs,u.Sc = true ∨ ∀ j : Nat,j < ps.length → zEJ b j = false → u.Port ≠ j := by
 have hs : x.Name.size + x.Ps.length + x.F.length + x.V.sz = x.sz := rfl
 obtain ⟨p1,p2,p3,p4,p5,p6,p7,p8,p9,p10,p11,p12,p13⟩ := qS n x (by omega) hb
 exact zGo n ⟨x.Id,x.Name,ps,fs,x.V,t,x.Pa,x.Wo,x.Dr,x.Ve⟩ (by simp only; omega) (by simp only; omega) (by simp only; omega) (by omega) p12.1 p12.2
theorem zDA (n : Nat) (xs : List zB) (h : xs.length ≤ 134217728) (ha : ∀ v ∈ xs,0 ≤ v.Age ∧ v.Age ≤ 1000) : ∀ (m k : Nat) (acc : List zB),k ≤ xs.length → xs.length < m + k → acc.length ≤ k → ∃ zs,q8 n m xs k acc = some (.inl zs) ∧ YU n m xs k acc = some (.inl zs) ∧ zs.length ≤ xs.length
 | 0,k,acc,h1,h2,h3 => by omega
 | m + 1,k,acc,h1,h2,h3 => by
  rw [q8,YU]
  by_cases hk : k < xs.length
  ·rw [zt hk,cond_true,cond_true,zI hk,Option.bind_some,Option.bind_some,zP (by omega : k ≤ 1099511627776)]
   have hg : ∀ v : zB,decide (acc.length + [v].length ≤ 268435456) = true := fun v => decide_eq_true (by simp; omega)
   simp only [hg,cond_true]
   have ih := fun acc' h3' => zDA n xs h ha m (k + 1) acc' (by omega) (by omega) h3'
   cases hs : xs[k].Sc with
   | true =>
    simp only [Bool.not_true,cond_true,cond_false]
    exact ih (acc ++ [xs[k]]) (by simp; omega)
   | false =>
    simp only [Bool.not_false,cond_true,cond_false]
    by_cases hl : xs[k].Age < 4
    ·rw [decide_eq_true hl,decide_eq_false (by omega : ¬ xs[k].Age ≥ 4)]
     exact ih _ (by simp; omega)
    ·rw [decide_eq_false hl,decide_eq_true (by omega : xs[k].Age ≥ 4)]
     exact ih _ (by omega)
  ·have he : k = xs.length := by omega
   subst he
   rw [zh]
   exact ⟨acc,rfl,rfl,by omega⟩
theorem zH0 (n : Nat) (xs : List zB) (h : xs.length ≤ 134217728) (hn : xs.length < n) (ha : ∀ v ∈ xs,0 ≤ v.Age ∧ v.Age ≤ 1000) : ∃ zs,Yg n xs = some zs ∧ zE4 n xs = some zs ∧ zs.length ≤ xs.length := by
 obtain ⟨zs,h1,h2,h3⟩ := zDA n xs h ha n 0 [] (by omega) (by omega) (by simp)
 refine ⟨zs,?_,?_,h3⟩
 ·unfold Yg; rw [show q8 n n xs 0 [] = _ from h1]; rfl
 ·unfold zE4; rw [show YU n n xs 0 [] = _ from h2]; rfl
theorem zFd (n : Nat) (xs : List zB) (h : xs.length ≤ 1048580) (hok : ZU n xs = some true) : xs.length ≤ 12 ∧ (∀ j (hj : j < xs.length),ZW n xs[j] = some true) ∧ ∀ j (hj : j + 1 < xs.length),Zp n xs[j] xs[j + 1].Tag xs[j + 1].Mac = some true := by
 unfold ZU at hok
 obtain ⟨o,ho,hok⟩ := bind_some hok
 rcases zIi (L := fun m k => qd n m xs k) (N := xs.length) (P := fun k => ∀ hk : k < xs.length,ZW n xs[k] = some true ∧ ∀ j (e : k = j + 1),Zp n (xs[j]'(by omega)) xs[k].Tag xs[k].Mac = some true) (fun k => rfl) (fun m k o hk h => by
  simp only [qd] at h
  rw [zt hk,cond_true,zI hk,Option.bind_some,zP (by omega : k ≤ 1099511627776)] at h
  obtain ⟨b,hb⟩ := zC7 n xs[k]
  rw [hb,Option.bind_some] at h
  cases b with
  | false => cases h; exact .inl rfl
  | true =>
   simp only [Bool.not_true,cond_false] at h
   cases k with
   | zero => exact .inr ⟨fun _ => ⟨hb,fun j e => by omega⟩,h⟩
   | succ k =>
    have hw2 : IntKind.wrap .i64 (((k + 1 : Nat) : Int) - 1) = (k : Int) := by rw [wrap64 (by omega) (by omega)]; omega
    have hpos : decide (((k + 1 : Nat) : Int) > 0) = true := decide_eq_true (by omega)
    rw [hpos,hw2,cond_true,zI (show k < xs.length by omega),Option.bind_some,Option.bind_some,Option.bind_some] at h
    obtain ⟨c,hc⟩ := zEZ n (xs[k]'(by omega)) xs[k + 1].Tag xs[k + 1].Mac
    rw [hc,Option.bind_some] at h
    cases c with
    | false => cases h; exact .inl rfl
    | true => exact .inr ⟨fun _ => ⟨hb,fun j e => (show k = j by omega) ▸ hc⟩,h⟩) (fun m o h => by
  simp only [qd] at h
  rw [zh] at h; cases h; rfl) n 0 o (by omega) ho with rfl | ⟨rfl,hp⟩
 ·cases hok
 ·have h12 := of_decide_eq_true (Option.some.inj hok)
  exact ⟨by omega,fun j hj => (hp j (by omega) hj hj).1,fun j hj => (hp (j + 1) (by omega) hj hj).2 j rfl⟩
theorem zFj (n : Nat) (v : zB) (h : ZW n v = some true) : (1 ≤ v.Tag ∧ v.Tag ≤ 99) ∧ (1 ≤ v.Mac ∧ v.Mac ≤ 9999) ∧ (0 ≤ v.Port ∧ v.Port ≤ 7) ∧ (0 ≤ v.Age ∧ v.Age ≤ 4) ∧ (v.Sc = true → v.Age = 0) := by
 unfold ZW at h
 simp only [zQ,Option.bind_some] at h
 obtain ⟨h1,h⟩ := zBG h
 obtain ⟨h2,h⟩ := zBG h
 obtain ⟨h3,h⟩ := zBG h
 obtain ⟨h4,h⟩ := zBG h
 simp only [Bool.and_eq_true,decide_eq_true_eq] at h1 h2 h3 h4
 refine ⟨h1,h2,h3,h4,fun hs => ?_⟩
 rw [hs] at h
 simpa using h
theorem zBP (n : Nat) (z : Int) (N : Nat) (h : N ≤ 1048600) : zT n z 0 (IntKind.wrap .i64 ((N : Int) - 1)) = some (decide (0 ≤ z ∧ z < N)) := by
 rw [zQ,wrap64 (by omega) (by omega)]
 by_cases h : 0 ≤ z ∧ z < N
 ·rw [decide_eq_true h,decide_eq_true h.1,decide_eq_true (by omega)]; rfl
 ·rw [decide_eq_false h]
  congr 1
  simp only [Bool.and_eq_false_iff,decide_eq_false_iff_not]; omega
def qO (b p : Int) (l : Link) : Bool := (l.A == b && l.P == p) || (l.B == b && l.Q == p)
def qe (b p : Int) (l : Link) : Nat := (bif l.A == b && l.P == p then 1 else 0) + (bif l.B == b && l.Q == p then 1 else 0)
theorem YG {b p : Int} {l : Link} : qO b p l = true ↔ (l.A = b ∧ l.P = p) ∨ (l.B = b ∧ l.Q = p) := by simp [qO]
theorem zDO {b p : Int} {l : Link} : qO b p l = true ↔ 0 < qe b p l := by
 unfold qO qe
 cases l.A == b <;> cases l.P == p <;> cases l.B == b <;> cases l.Q == p <;> simp
def qW {α : Type} (f : α → Nat) : List α → Nat
 | [] => 0
 | x :: xs => f x + qW f xs
theorem zDk {α : Type} (f : α → Nat) : ∀ (xs ys : List α),qW f (xs ++ ys) = qW f xs + qW f ys
 | [],ys => by simp [qW]
 | x :: xs,ys => by simp only [List.cons_append,qW,zDk f xs ys]; omega
theorem zHg {α : Type} (f : α → Nat) : ∀ (xs : List α),(∀ x ∈ xs,f x = 0) → qW f xs = 0
 | [],_ => rfl
 | x :: xs,h => by rw [qW,h x (by simp),zHg f xs (fun y hy => h y (by simp [hy]))]
theorem zGp {α : Type} (f : α → Nat) : ∀ (xs : List α) (x : α),x ∈ xs → f x ≤ qW f xs
 | y :: xs,x,h => by
  rcases List.mem_cons.1 h with e | h
  ·subst e; rw [qW]; omega
  ·have := zGp f xs x h; rw [qW]; omega
theorem zIx {α : Type} (f : α → Nat) (xs : List α) (i j : Nat) (hij : i < j) (hj : j < xs.length) : f (xs[i]'(by omega)) + f xs[j] ≤ qW f xs := by
 have e : xs = xs.take j ++ xs.drop j := (List.take_append_drop j xs).symm
 have h1 : f (xs[i]'(by omega)) ≤ qW f (xs.take j) := zGp f _ _ (by
  have : (xs.take j)[i]? = some (xs[i]'(by omega)) := by rw [List.getElem?_take,if_pos hij]; exact List.getElem?_eq_getElem _
  exact List.mem_of_getElem? this)
 have h2 : f xs[j] ≤ qW f (xs.drop j) := zGp f _ _ (List.drop_eq_getElem_cons hj ▸ List.mem_cons_self)
 have h3 := zDk f (xs.take j) (xs.drop j)
 rw [← e] at h3
 omega
theorem zOW {α : Type} (f : α → Nat) (xs : List α) (k : Nat) (hk : k < xs.length) (h : ∀ j (hj : j < xs.length),j ≠ k → f xs[j] = 0) : qW f xs = f xs[k] := by
 have e : xs = xs.take k ++ xs[k] :: xs.drop (k + 1) := by rw [← List.drop_eq_getElem_cons hk]; exact (List.take_append_drop k xs).symm
 have h1 : qW f (xs.take k) = 0 := zHg f _ fun x hx => by
  obtain ⟨i,hi,rfl⟩ := List.getElem_of_mem hx
  simp only [List.length_take] at hi
  rw [List.getElem_take]
  exact h i (by omega) (by omega)
 have h2 : qW f (xs.drop (k + 1)) = 0 := zHg f _ fun x hx => by
  obtain ⟨i,hi,rfl⟩ := List.getElem_of_mem hx
  simp only [List.length_drop] at hi
  rw [List.getElem_drop]
  exact h _ (by omega) (by omega)
 have h3 := zDk f (xs.take k) (xs[k] :: xs.drop (k + 1))
 rw [← e] at h3
 rw [qW,h1,h2] at h3
 omega
theorem zJB (xs : List Link) (hne : ∀ l ∈ xs,l.A ≠ l.B) : (∀ k (hk : k < xs.length),qW (qe xs[k].A xs[k].P) xs = 1 ∧ qW (qe xs[k].B xs[k].Q) xs = 1) ↔ (∀ k (hk : k < xs.length),(xs.take k).any (qO xs[k].A xs[k].P) = false ∧ (xs.take k).any (qO xs[k].B xs[k].Q) = false) := by
 have own1 : ∀ k (hk : k < xs.length),qe xs[k].A xs[k].P xs[k] = 1 := fun k hk => by
  have := hne xs[k] (List.getElem_mem hk)
  have h2 : (xs[k].B == xs[k].A) = false := by simpa using fun e => this e.symm
  simp [qe,h2]
 have own2 : ∀ k (hk : k < xs.length),qe xs[k].B xs[k].Q xs[k] = 1 := fun k hk => by
  have := hne xs[k] (List.getElem_mem hk)
  have h2 : (xs[k].A == xs[k].B) = false := by simpa using this
  simp [qe,h2]
 constructor
 ·intro h k hk
  have key : ∀ b p,qe b p xs[k] = 1 → qW (qe b p) xs = 1 → (xs.take k).any (qO b p) = false := fun b p h1 h2 => by
   rw [List.any_eq_false]
   intro l hl hu
   obtain ⟨i,hi,rfl⟩ := List.getElem_of_mem hl
   simp only [List.length_take] at hi
   rw [List.getElem_take] at hu
   have := zIx (qe b p) xs i k (by omega) hk
   have := zDO.1 hu
   omega
  exact ⟨key _ _ (own1 k hk) (h k hk).1,key _ _ (own2 k hk) (h k hk).2⟩
 ·intro h k hk
  have key : ∀ b p,qe b p xs[k] = 1 → qO b p xs[k] = true → (xs.take k).any (qO b p) = false → qW (qe b p) xs = 1 := fun b p h1 hu h2 => by
   rw [zOW (qe b p) xs k hk (fun j hj hjk => ?_),h1]
   rw [List.any_eq_false] at h2
   refine Classical.byContradiction fun hc => ?_
   have hpos := zDO.2 (show 0 < qe b p xs[j] by omega)
   by_cases hlt : j < k
   ·refine h2 xs[j] ?_ hpos
    have : (xs.take k)[j]? = some xs[j] := by rw [List.getElem?_take,if_pos hlt]; exact List.getElem?_eq_getElem _
    exact List.mem_of_getElem? this
   ·have hkj : k < j := by omega
    have hmem : xs[k] ∈ xs.take j := by
     have : (xs.take j)[k]? = some xs[k] := by rw [List.getElem?_take,if_pos hkj]; exact List.getElem?_eq_getElem _
     exact List.mem_of_getElem? this
    have hh := h j hj
    rw [List.any_eq_false,List.any_eq_false] at hh
    rcases YG.1 hpos with ⟨e1,e2⟩ | ⟨e1,e2⟩
    ·exact hh.1 _ hmem (by rw [e1,e2]; exact hu)
    ·exact hh.2 _ hmem (by rw [e1,e2]; exact hu)
  exact ⟨key _ _ (own1 k hk) (YG.2 (.inl ⟨rfl,rfl⟩)) (h k hk).1,key _ _ (own2 k hk) (YG.2 (.inr ⟨rfl,rfl⟩)) (h k hk).2⟩
theorem zE7 (n : Nat) (xs : List Link) (b p : Int) (h : xs.length ≤ 1048600) : ∀ (m k : Nat),k ≤ xs.length → xs.length < m + k → Z9 n m xs b p k = some (if (xs.drop k).any (qO b p) then .inr true else .inl ())
 | 0,k,h1,h2 => by omega
 | m + 1,k,h1,h2 => by
  rw [Z9]
  by_cases hk : k < xs.length
  ·have ih := zE7 n xs b p h m (k + 1) (by omega) (by omega)
   rw [zt hk,cond_true,zI hk,Option.bind_some,zP (by omega : k ≤ 1099511627776),ih,List.drop_eq_getElem_cons hk,List.any_cons]
   unfold qO
   cases xs[k].A == b <;> cases xs[k].P == p <;> cases xs[k].B == b <;> cases xs[k].Q == p <;> rfl
  ·have he : k = xs.length := by omega
   subst he
   rw [zh]; simp
theorem zF7 (n : Nat) (xs : List Link) (b p : Int) (h : xs.length ≤ 1048600) (hn : xs.length < n) : zAV n xs b p = some (xs.any (qO b p)) := by
 unfold zAV
 rw [show Z9 n n xs b p 0 = _ from zE7 n xs b p h n 0 (by omega) (by omega),List.drop_zero]
 cases xs.any (qO b p) <;> rfl
theorem zDK (n : Nat) (x : Net) (b p : Int) (h : x.Ls.length ≤ 1048600) : ∀ (m k c : Nat),k ≤ x.Ls.length → x.Ls.length < m + k → c ≤ 2 * k → ZB n m x b p k c = some (.inl ((c + qW (qe b p) (x.Ls.drop k) : Nat) : Int))
 | 0,k,c,h1,h2,h3 => by omega
 | m + 1,k,c,h1,h2,h3 => by
  rw [ZB]
  by_cases hk : k < x.Ls.length
  ·have ih := fun c' h3' => zDK n x b p h m (k + 1) c' (by omega) (by omega) h3'
   have hw : ∀ z : Nat,z ≤ 4194304 → IntKind.wrap .i64 ((z : Int) + 1) = ((z + 1 : Nat) : Int) := fun z hz => zP (by omega)
   rw [zt hk,cond_true,zI hk,Option.bind_some,List.drop_eq_getElem_cons hk,qW]
   simp only [YE,hw k (by omega),hw c (by omega)]
   have hw2 := hw (c + 1) (by omega)
   simp only [hw2]
   unfold qe
   generalize (x.Ls[k].A == b) = qA
   generalize (x.Ls[k].P == p) = qP
   generalize (x.Ls[k].B == b) = qB
   generalize (x.Ls[k].Q == p) = qQ
   have z0 := ih c (by omega)
   have z1 := ih (c + 1) (by omega)
   have z2 := ih (c + 1 + 1) (by omega)
   unfold qe at z0 z1 z2
   cases qA <;> cases qP <;> cases qB <;> cases qQ <;> simp only [cond_true,cond_false,Bool.and_true,Bool.and_false,Bool.true_and,Bool.false_and,Nat.zero_add,Nat.add_zero,z0,z1,z2] <;> simp only [Nat.add_assoc,Nat.reduceAdd]
  ·have he : k = x.Ls.length := by omega
   subst he
   rw [zh]; simp [qW]
theorem Yz (n : Nat) (x : Net) (b p : Int) (h : x.Ls.length ≤ 1048600) (hn : x.Ls.length < n) : QK n x b p = some ((qW (qe b p) x.Ls : Nat) : Int) := by
 unfold QK
 rw [show ZB n n x b p 0 0 = _ from zDK n x b p h n 0 0 (by omega) (by omega) (by omega),List.drop_zero,Nat.zero_add]
 rfl
theorem zIz {b p : Int} : ∀ {xs : List Link},(qW (qe b p) xs = 0 ↔ xs.any (qO b p) = false)
 | [] => by simp [qW]
 | l :: xs => by
  have ih := zIz (b := b) (p := p) (xs := xs)
  have h := zDO (b := b) (p := p) (l := l)
  rw [qW,List.any_cons,Bool.or_eq_false_iff,← ih]
  cases hu : qO b p l with
  | true => have := h.1 hu; constructor <;> intro h' <;> first | omega | (exact absurd h'.1 (by simp))
  | false =>
   have : qe b p l = 0 := by
    refine Classical.byContradiction fun hc => ?_
    have := h.2 (by omega)
    rw [hu] at this; cases this
   constructor
   ·intro h'; exact ⟨rfl,by omega⟩
   ·intro h'; omega
theorem Q7 {α : Type} {L : Nat → Int → Option (α ⊕ Bool)} {N : Nat} {P : Nat → Prop} (hs : ∀ m (k : Nat),k < N → (P k ∧ L (m + 1) (k : Int) = L m ((k + 1 : Nat) : Int)) ∨ (¬ P k ∧ L (m + 1) (k : Int) = some (.inr false))) (he : ∀ m,∃ a,L (m + 1) (N : Int) = some (.inl a)) :
  ∀ (m k : Nat),k ≤ N → N < m + k → (∃ a,L m (k : Int) = some (.inl a) ∧ ∀ j,k ≤ j → j < N → P j) ∨ (L m (k : Int) = some (.inr false) ∧ ¬ ∀ j,k ≤ j → j < N → P j)
 | 0,k,h1,h2 => by omega
 | m + 1,k,h1,h2 => by
  by_cases hk : k < N
  ·rcases hs m k hk with ⟨hp,e⟩ | ⟨hp,e⟩
   ·rcases Q7 hs he m (k + 1) (by omega) (by omega) with ⟨a,h3,h4⟩ | ⟨h3,h4⟩
    ·refine .inl ⟨a,e.trans h3,fun j hj hj2 => ?_⟩
     by_cases hjk : j = k
     ·subst hjk; exact hp
     ·exact h4 j (by omega) hj2
    ·exact .inr ⟨e.trans h3,fun h => h4 fun j hj hj2 => h j (by omega) hj2⟩
   ·exact .inr ⟨e,fun h => hp (h k (Nat.le_refl _) hk)⟩
  ·have : k = N := by omega
   subst this
   obtain ⟨a,ha⟩ := he m
   exact .inl ⟨a,ha,fun j hj hj2 => by omega⟩
def BOk (n : Nat) (x : Net) (k : Nat) : Prop := ∀ hk : k < x.Bs.length,zV n x.Bs[k] = some true ∧ (∀ j (hj : j < k),(x.Bs[j]'(by omega)).Id ≠ x.Bs[k].Id) ∧ ∀ p (hp : p < x.Bs[k].Ps.length),x.Bs[k].Ps[p].Has = true → x.Ls.any (qO k p) = true
theorem zKk {x : Net} (wx : x.wf) {k : Nat} (hk : k < x.Bs.length) : x.Bs[k].wf := wx.1.2 _ (List.getElem_mem hk)
def qi (x : Net) (b p : Int) : Option Pt := (idx x.Bs b).bind fun v => idx v.Ps p
theorem zCo {α : Type} {xs : List α} {i : Int} : (∃ v,idx xs i = some v) ↔ 0 ≤ i ∧ i < xs.length := by
 constructor
 ·rintro ⟨v,hv⟩; exact J4 hv
 ·intro h
  obtain ⟨j,rfl⟩ := Int.eq_ofNat_of_zero_le h.1
  exact ⟨_,zI (by omega)⟩
theorem zDf {α : Type} {xs : List α} {i : Int} (h : ¬ (0 ≤ i ∧ i < xs.length)) : idx xs i = none := by
 cases hc : idx xs i with
 | none => rfl
 | some v => exact absurd (J4 hc) h
def LOk (x : Net) (l : Link) : Prop := l.A ≠ l.B ∧ ∃ p q,qi x l.A l.P = some p ∧ qi x l.B l.Q = some q ∧ p.Up = q.Up
theorem Q3 {x : Net} {b p : Int} {q : Pt} (h : qi x b p = some q) : ∃ v,idx x.Bs b = some v ∧ idx v.Ps p = some q := by
 unfold qi at h
 exact bind_some h
theorem VtB.sz {v : zD} (h : VtB v) : v.sz ≤ 1006 := by
 have h1 := h.2.2.1
 have h2 := h.2.2.2.1
 show v.Rows.length + v.Pv.length ≤ 1006
 omega
theorem zIX {α β : Type} {L : Nat → Int → List α → Option (List α ⊕ β)} {f : α → Option α} (xs : List α) (hx : xs.length ≤ 268435455) (hf : ∀ v ∈ xs,f v = some v)
  (h : ∀ m k acc,L (m + 1) k acc = bif decide (k < (xs.length : Int)) then (idx xs k).bind fun v => (f v).bind fun r => bif decide (acc.length + [r].length ≤ 268435456) then L m (IntKind.wrap .i64 (k + 1)) (acc ++ [r]) else none else some (.inl acc)) : ∀ (m k : Nat),k ≤ xs.length → xs.length < m + k → L m k (xs.take k) = some (.inl xs)
 | 0,k,h1,h2 => by omega
 | m + 1,k,h1,h2 => by
  rw [h]
  by_cases hk : k < xs.length
  ·rw [zt hk,cond_true,zI hk,Option.bind_some,hf _ (List.getElem_mem hk),Option.bind_some,decide_eq_true (by simp; omega),cond_true,zP (by omega),show xs.take k ++ [xs[k]] = xs.take (k + 1) by rw [List.take_add_one,List.getElem?_eq_getElem hk]; rfl]
   exact zIX xs hx hf h m (k + 1) (by omega) (by omega)
  ·have he : k = xs.length := by omega
   subst he
   rw [zh,cond_false,List.take_length]
theorem zIu (n : Nat) (x : Net) (h : x.sz ≤ 268435455) (hn : x.sz < n) : zAo n x = some x := by
 have hs : (x.Bs.length + Ju zA.sz x.Bs) + x.Ls.length + x.Said.length = x.sz := rfl
 have := zIX (L := fun m k acc => QV n m x k acc) (f := Qg n) x.Bs (by omega) (fun v hv => by have := zEG (sz := zA.sz) hv; exact JJ n v (by omega)) (fun m k acc => by rw [QV]) n 0 (by omega) (by omega)
 unfold zAo
 rw [decide_eq_true (by simp; omega),decide_eq_true (by simp; omega),cond_true,cond_true,show QV n n x 0 [] = _ from this]
 rfl
theorem zIb (n : Nat) (x : Net) (h : x.sz ≤ 268435455) (hn : x.sz < n) : zEK n x = some x := by
 have hs : (x.Bs.length + Ju zA.sz x.Bs) + x.Ls.length + x.Said.length = x.sz := rfl
 have := zIX (L := fun m k acc => Jg n m x k acc) (f := Zi n) x.Bs (by omega) (fun v hv => by have := zEG (sz := zA.sz) hv; exact YS n v (by omega)) (fun m k acc => by rw [Jg]) n 0 (by omega) (by omega)
 unfold zEK
 rw [decide_eq_true (by simp; omega),decide_eq_true (by simp; omega),cond_true,cond_true,show Jg n n x 0 [] = _ from this]
 rfl
theorem zDZ (n : Nat) (v : Vec) (h : zp n v = some true) : v.wf := by
 unfold zp at h
 simp only [zQ,Option.bind_some] at h
 cases h1 : (decide (1 ≤ v.Root) && decide (v.Root ≤ 99)) with
 | false => rw [h1] at h; cases h
 | true =>
  cases h2 : (decide (0 ≤ v.Co) && decide (v.Co ≤ 100000)) with
  | false => rw [h1,h2] at h; cases h
  | true =>
   cases h3 : (decide (0 ≤ v.Hops) && decide (v.Hops ≤ 10)) with
   | false => rw [h1,h2,h3] at h; cases h
   | true =>
    cases h4 : (decide (1 ≤ v.Bridge) && decide (v.Bridge ≤ 99)) with
    | false => rw [h1,h2,h3,h4] at h; cases h
    | true =>
     rw [h1,h2,h3,h4] at h
     simp only [cond_true,Option.some.injEq,Bool.and_eq_true,decide_eq_true_eq] at h h1 h2 h3 h4
     exact ⟨zH (by omega) (by omega),zH (by omega) (by omega),zH (by omega) (by omega),zH (by omega) (by omega),zH (by omega) (by omega),trivial⟩
def HB (x : Net) (ys : List zA) : Prop := ys.length = x.Bs.length ∧ (∀ v ∈ ys,v.wf) ∧ Ju zA.sz ys ≤ Ju zA.sz x.Bs
theorem HB.self {x : Net} (wx : x.wf) : HB x x.Bs := ⟨rfl,wx.1.2,Nat.le_refl _⟩
def Big (x : Net) : Prop := x.Bs.length ≤ 1048576 ∧ (∀ a ∈ x.Bs,a.sz ≤ 1048576) ∧ x.Ls.length ≤ 1048576 ∧ x.Said.length ≤ 1048576
theorem zFH (n : Nat) (x : Net) (wx : x.wf) (h : Big x) (hn : 1048700 < n) (m k : Nat) (hk : k < x.Bs.length) : (BOk n x k ∧ zr n (m + 1) x k = zr n m x ((k + 1 : Nat) : Int)) ∨ (¬ BOk n x k ∧ zr n (m + 1) x k = some (.inr false)) := by
 have ⟨hl1,hl2,hl3,hl4⟩ := h
 have hps := hl2 _ (List.getElem_mem hk)
 have hs2 : x.Bs[k].Name.size + x.Bs[k].Ps.length + x.Bs[k].F.length + x.Bs[k].V.sz = x.Bs[k].sz := rfl
 obtain ⟨b,hb,_⟩ := QY n x.Bs[k] (zKk wx hk) (by omega) (by omega)
 rw [zr,zt hk,cond_true,zI hk,Option.bind_some,hb,Option.bind_some]
 cases b with
 | false => exact .inr ⟨fun hc => absurd ((hc hk).1.symm.trans hb) (by simp),rfl⟩
 | true =>
  simp only [Bool.not_true,cond_false]
  have h6 := Q7 (L := fun m j => qz n m x k j) (N := k) (P := fun j => ∀ hj : j < k,(x.Bs[j]'(by omega)).Id ≠ x.Bs[k].Id) (fun m j hj => by
   simp only [qz]
   rw [zt hj,cond_true,zI (show j < x.Bs.length by omega),Option.bind_some,zI hk,Option.bind_some,zP (by omega : j ≤ 1099511627776)]
   by_cases he : (x.Bs[j]'(by omega)).Id = x.Bs[k].Id
   ·exact .inr ⟨fun hc => hc hj he,by rw [show ((x.Bs[j]'(by omega)).Id == x.Bs[k].Id) = true from by simpa using he]; rfl⟩
   ·exact .inl ⟨fun _ => he,by rw [show ((x.Bs[j]'(by omega)).Id == x.Bs[k].Id) = false from by simpa using he]; rfl⟩) (fun m => ⟨_,by simp only [qz]; rw [zh]; rfl⟩) n 0 (by omega) (by omega)
  rcases h6 with ⟨_,e6,p6⟩ | ⟨e6,p6⟩
  ·rw [show qz n n x k 0 = _ from e6,Option.bind_some]
   simp only [Yk]
   have h5 := Q7 (L := fun m j => qk n m x k j) (N := x.Bs[k].Ps.length) (P := fun j => ∀ hp : j < x.Bs[k].Ps.length,x.Bs[k].Ps[j].Has = true → x.Ls.any (qO k j) = true) (fun m j hj => by
    simp only [qk]
    rw [zI hk,Option.bind_some,zt hj,cond_true,Option.bind_some,zI hj,Option.bind_some,zP (by omega : j ≤ 1099511627776)]
    cases hh : x.Bs[k].Ps[j].Has with
    | false => exact .inl ⟨fun _ hc => absurd (hh.symm.trans hc) (by simp),rfl⟩
    | true =>
     rw [cond_true,Yz n x k j (by omega) (by omega),Option.bind_some]
     cases hu : x.Ls.any (qO k j) with
     | false => exact .inr ⟨fun hc => absurd (hc hj hh) (by simp),by rw [zIz.2 hu]; rfl⟩
     | true =>
      have : qW (qe k j) x.Ls ≠ 0 := fun e => by rw [zIz.1 e] at hu; cases hu
      exact .inl ⟨fun _ _ => rfl,by rw [show (((qW (qe k j) x.Ls : Nat) : Int) == 0) = false from by simpa using this]; rfl⟩) (fun m => ⟨_,by simp only [qk]; rw [zI hk,Option.bind_some,zh]; rfl⟩) n 0 (by omega) (by omega)
   rcases h5 with ⟨a,e5,p5⟩ | ⟨e5,p5⟩
   ·rw [show qk n n x k 0 = _ from e5,Option.bind_some]
    refine .inl ⟨fun _ => ⟨hb,fun j hj => p6 j (by omega) hj hj,fun p hp => p5 p (by omega) hp hp⟩,?_⟩
    simp only [Yl,zP (by omega : k ≤ 1099511627776)]
   ·rw [show qk n n x k 0 = _ from e5,Option.bind_some]
    exact .inr ⟨fun hc => p5 fun j _ hj2 _ => (hc hk).2.2 j hj2,rfl⟩
  ·rw [show qz n n x k 0 = _ from e6,Option.bind_some]
   exact .inr ⟨fun hc => p6 fun j _ hj2 _ => (hc hk).2.1 j hj2,rfl⟩
theorem zG1 (n : Nat) (x : Net) (wx : x.wf) (h : Big x) (hn : 1048700 < n) (m k : Nat) (hk : k < x.Bs.length) : (BOk n x k ∧ qb n (m + 1) x k = qb n m x ((k + 1 : Nat) : Int)) ∨ (¬ BOk n x k ∧ qb n (m + 1) x k = some (.inr false)) := by
 have ⟨hl1,hl2,hl3,hl4⟩ := h
 have hps := hl2 _ (List.getElem_mem hk)
 have hs2 : x.Bs[k].Name.size + x.Bs[k].Ps.length + x.Bs[k].F.length + x.Bs[k].V.sz = x.Bs[k].sz := rfl
 obtain ⟨b,hb,hb2⟩ := QY n x.Bs[k] (zKk wx hk) (by omega) (by omega)
 have hg : (decide ((0 : Int) ≤ 0) && (decide ((0 : Int) ≤ (k : Int)) && decide ((k : Int) ≤ (x.Bs.length : Int)))) = true := by
  rw [decide_eq_true (by omega),decide_eq_true (by omega),decide_eq_true (by omega)]; rfl
 rw [qb,zt hk,cond_true,zI hk,Option.bind_some,hb2,Option.bind_some]
 cases b with
 | false => exact .inr ⟨fun hc => absurd ((hc hk).1.symm.trans hb) (by simp),rfl⟩
 | true =>
  simp only [Bool.not_true,cond_false,hg,cond_true]
  have ht : (x.Bs.drop ((0 : Int)).toNat).take (((k : Int)).toNat - ((0 : Int)).toNat) = x.Bs.take k := by simp
  have hl : (x.Bs.take k).length = k := by simp; omega
  have h8 := Q7 (L := fun m j => QF n m x.Bs[k] x k j) (N := k) (P := fun j => ∀ hj : j < k,(x.Bs[j]'(by omega)).Id ≠ x.Bs[k].Id) (fun m j hj => by
   simp only [QF,ht]
   rw [hl,zt hj,cond_true,zI (show j < (x.Bs.take k).length by omega),Option.bind_some,List.getElem_take,zP (by omega : j ≤ 1099511627776)]
   by_cases he : (x.Bs[j]'(by omega)).Id = x.Bs[k].Id
   ·exact .inr ⟨fun hc => hc hj he,by rw [show ((x.Bs[j]'(by omega)).Id == x.Bs[k].Id) = true from by simpa using he]; rfl⟩
   ·exact .inl ⟨fun _ => he,by rw [show ((x.Bs[j]'(by omega)).Id == x.Bs[k].Id) = false from by simpa using he]; rfl⟩) (fun m => ⟨_,by simp only [QF,ht]; rw [hl,zh]; rfl⟩) n 0 (by omega) (by omega)
  rcases h8 with ⟨a1,e8,p8⟩ | ⟨e8,p8⟩
  ·rw [show QF n n x.Bs[k] x k 0 = _ from e8,Option.bind_some]
   simp only [zAg]
   have h7 := Q7 (L := fun m j => Zl n m x.Bs[k] x k j) (N := x.Bs[k].Ps.length) (P := fun j => ∀ hp : j < x.Bs[k].Ps.length,x.Bs[k].Ps[j].Has = true → x.Ls.any (qO k j) = true) (fun m j hj => by
    simp only [Zl]
    rw [zt hj,cond_true,zI hj,Option.bind_some,zP (by omega : j ≤ 1099511627776)]
    cases hh : x.Bs[k].Ps[j].Has with
    | false => exact .inl ⟨fun _ hc => absurd (hh.symm.trans hc) (by simp),rfl⟩
    | true =>
     rw [cond_true,zF7 n x.Ls k j (by omega) (by omega),Option.bind_some]
     cases hu : x.Ls.any (qO k j) with
     | false => exact .inr ⟨fun hc => absurd (hc hj hh) (by simp),rfl⟩
     | true => exact .inl ⟨fun _ _ => rfl,rfl⟩) (fun m => ⟨_,by simp only [Zl]; rw [zh]; rfl⟩) n 0 (by omega) (by omega)
   rcases h7 with ⟨a,e7,p7⟩ | ⟨e7,p7⟩
   ·rw [show Zl n n x.Bs[k] x k 0 = _ from e7,Option.bind_some]
    refine .inl ⟨fun _ => ⟨hb,fun j hj => p8 j (by omega) hj hj,fun p hp => p7 p (by omega) hp hp⟩,?_⟩
    simp only [zAh,zP (by omega : k ≤ 1099511627776)]
   ·rw [show Zl n n x.Bs[k] x k 0 = _ from e7,Option.bind_some]
    exact .inr ⟨fun hc => p7 fun j _ hj2 _ => (hc hk).2.2 j hj2,rfl⟩
  ·rw [show QF n n x.Bs[k] x k 0 = _ from e8,Option.bind_some]
   exact .inr ⟨fun hc => p8 fun j _ hj2 _ => (hc hk).2.1 j hj2,rfl⟩
theorem zGH (n : Nat) (x : Net) (wx : x.wf) (h : Big x) (hn : 1048700 < n) : ∃ b,JM n x = some b ∧ (b = true ↔ (∀ k,k < x.Bs.length → BOk n x k) ∧ 1 ≤ x.Bs.length ∧ x.Bs.length ≤ 6) := by
 have ⟨hl1,hl2,hl3,hl4⟩ := h
 unfold JM
 rcases Q7 (L := fun m k => zr n m x k) (N := x.Bs.length) (P := BOk n x) (fun m k hk => zFH n x wx h hn m k hk) (fun m => ⟨(),by simp only [zr]; rw [zh]; rfl⟩) n 0 (by omega) (by omega) with ⟨a,e,p⟩ | ⟨e,p⟩
 ·rw [show zr n n x 0 = _ from e,Option.bind_some]
  simp only [Yj,zQ,Option.bind_some]
  refine ⟨_,rfl,?_⟩
  rw [Bool.and_eq_true,decide_eq_true_eq,decide_eq_true_eq]
  exact ⟨fun hc => ⟨fun k hk => p k (by omega) hk,by omega,by omega⟩,fun hc => ⟨by omega,by omega⟩⟩
 ·rw [show zr n n x 0 = _ from e,Option.bind_some]
  exact ⟨false,rfl,⟨fun hc => (by cases hc),fun hc => absurd (fun k _ hk => hc.1 k hk) p⟩⟩
theorem zEQ (n : Nat) (x : Net) (h : Big x) (b p : Int) : QZ n x b p = some (match qi x b p with | some q => (q,true) | none => (⟨false,0,false,⟨0,0,0,0,0⟩⟩,false)) := by
 have ⟨hl1,hl2,hl3,hl4⟩ := h
 unfold QZ qi
 rw [qy,zBP n b _ (show x.Bs.length ≤ 1048600 by omega),Option.bind_some]
 by_cases hb : 0 ≤ b ∧ b < x.Bs.length
 ·obtain ⟨v,hv⟩ := zCo.2 hb
  have := hl2 _ (List.mem_of_getElem? (zN hv).2)
  have hs2 : v.Name.size + v.Ps.length + v.F.length + v.V.sz = v.sz := rfl
  rw [decide_eq_true hb,hv]
  simp only [Bool.not_true,cond_false,cond_true,Option.bind_some,zBP n p _ (show v.Ps.length ≤ 1048600 by omega)]
  by_cases hp : 0 ≤ p ∧ p < v.Ps.length
  ·obtain ⟨q,hq⟩ := zCo.2 hp
   simp [hp,hq,hv]
  ·simp [hp,zDf hp]
 ·simp [hb,zDf hb]
theorem zEU (n : Nat) (x : Net) (h : Big x) (hn : 1048700 < n) (b p : Int) : zAF n x b p = some (match qi x b p with | some q => decide (qW (qe b p) x.Ls = 1) | none => false) := by
 have ⟨hl1,hl2,hl3,hl4⟩ := h
 unfold zAF qi
 rw [zBP n b _ (show x.Bs.length ≤ 1048600 by omega),Option.bind_some]
 by_cases hb : 0 ≤ b ∧ b < x.Bs.length
 ·obtain ⟨v,hv⟩ := zCo.2 hb
  have := hl2 _ (List.mem_of_getElem? (zN hv).2)
  have hs2 : v.Name.size + v.Ps.length + v.F.length + v.V.sz = v.sz := rfl
  rw [decide_eq_true hb,hv]
  simp only [cond_true,Option.bind_some,zBP n p _ (show v.Ps.length ≤ 1048600 by omega)]
  by_cases hp : 0 ≤ p ∧ p < v.Ps.length
  ·obtain ⟨q,hq⟩ := zCo.2 hp
   rw [decide_eq_true hp,hq,cond_true,Yz n x b p (by omega) (by omega),Option.bind_some]
   by_cases h1 : qW (qe b p) x.Ls = 1
   ·simp [h1]
   ·have : ((qW (qe b p) x.Ls : Nat) : Int) ≠ 1 := by omega
    simp [h1,this]
  ·simp [hp,zDf hp]
 ·simp [hb,zDf hb]
theorem zG3 (n : Nat) (x : Net) (h : Big x) (hn : 1048700 < n) (m k : Nat) (hk : k < x.Ls.length) :
  ((∀ hk : k < x.Ls.length,LOk x x.Ls[k] ∧ qW (qe x.Ls[k].A x.Ls[k].P) x.Ls = 1 ∧ qW (qe x.Ls[k].B x.Ls[k].Q) x.Ls = 1) ∧ ZK n (m + 1) x k = ZK n m x ((k + 1 : Nat) : Int)) ∨
  (¬ (∀ hk : k < x.Ls.length,LOk x x.Ls[k] ∧ qW (qe x.Ls[k].A x.Ls[k].P) x.Ls = 1 ∧ qW (qe x.Ls[k].B x.Ls[k].Q) x.Ls = 1) ∧ ZK n (m + 1) x k = some (.inr false)) := by
 have ⟨hl1,hl2,hl3,hl4⟩ := h
 rw [ZK,zt hk,cond_true,zI hk,Option.bind_some,zEU n x h hn,zEU n x h hn,zP (by omega : k ≤ 1099511627776)]
 by_cases hab : x.Ls[k].A = x.Ls[k].B
 ·exact .inr ⟨fun hc => (hc hk).1.1 (hab),by rw [show (x.Ls[k].A == x.Ls[k].B) = true from by simpa using hab]; rfl⟩
 ·rw [show (x.Ls[k].A == x.Ls[k].B) = false from by simpa using hab]
  simp only [cond_false,Option.bind_some]
  cases hp : qi x x.Ls[k].A x.Ls[k].P with
  | none => exact .inr ⟨fun hc => (by obtain ⟨p,q,e,_⟩ := (hc hk).1.2; rw [hp] at e; cases e),rfl⟩
  | some p =>
   by_cases h1 : qW (qe x.Ls[k].A x.Ls[k].P) x.Ls = 1
   ·simp only [decide_eq_true h1,Bool.not_true,cond_false]
    cases hq : qi x x.Ls[k].B x.Ls[k].Q with
    | none => exact .inr ⟨fun hc => (by obtain ⟨p,q,_,e,_⟩ := (hc hk).1.2; rw [hq] at e; cases e),rfl⟩
    | some q =>
     by_cases h2 : qW (qe x.Ls[k].B x.Ls[k].Q) x.Ls = 1
     ·obtain ⟨v,v1,v2⟩ := Q3 hp
      obtain ⟨u,u1,u2⟩ := Q3 hq
      simp only [decide_eq_true h2,Bool.not_true,cond_false,v1,v2,u1,u2,Option.bind_some]
      by_cases h3 : p.Up = q.Up
      ·exact .inl ⟨fun _ => ⟨⟨hab,p,q,hp,hq,h3⟩,h1,h2⟩,by rw [h3]; simp⟩
      ·refine .inr ⟨fun hc => ?_,by rw [show (p.Up == q.Up) = false from by simpa using h3]; rfl⟩
       obtain ⟨p',q',e1,e2,e3⟩ := (hc hk).1.2
       rw [hp] at e1; rw [hq] at e2
       cases e1; cases e2; exact h3 e3
     ·exact .inr ⟨fun hc => h2 (hc hk).2.2,by simp only [decide_eq_false h2]; rfl⟩
   ·exact .inr ⟨fun hc => h1 (hc hk).2.1,by simp only [decide_eq_false h1]; rfl⟩
theorem zF8 (n : Nat) (x : Net) (h : Big x) (hn : 1048700 < n) (m k : Nat) (hk : k < x.Ls.length) :
  ((∀ hk : k < x.Ls.length,k < 9 ∧ LOk x x.Ls[k] ∧ (x.Ls.take k).any (qO x.Ls[k].A x.Ls[k].P) = false ∧ (x.Ls.take k).any (qO x.Ls[k].B x.Ls[k].Q) = false) ∧ qo n (m + 1) x k = qo n m x ((k + 1 : Nat) : Int)) ∨
  (¬ (∀ hk : k < x.Ls.length,k < 9 ∧ LOk x x.Ls[k] ∧ (x.Ls.take k).any (qO x.Ls[k].A x.Ls[k].P) = false ∧ (x.Ls.take k).any (qO x.Ls[k].B x.Ls[k].Q) = false) ∧ qo n (m + 1) x k = some (.inr false)) := by
 have ⟨hl1,hl2,hl3,hl4⟩ := h
 have hg : (decide ((0 : Int) ≤ 0) && (decide ((0 : Int) ≤ (k : Int)) && decide ((k : Int) ≤ (x.Ls.length : Int)))) = true := by
  rw [decide_eq_true (by omega),decide_eq_true (by omega),decide_eq_true (by omega)]; rfl
 have ht : (x.Ls.drop ((0 : Int)).toNat).take (((k : Int)).toNat - ((0 : Int)).toNat) = x.Ls.take k := by simp
 have hlen : (x.Ls.take k).length ≤ 1048600 := by simp; omega
 rw [qo,zt hk,cond_true,zI hk,Option.bind_some,zEQ n x h,Option.bind_some,zEQ n x h,Option.bind_some]
 simp only [hg,cond_true,ht,zF7 n (x.Ls.take k) _ _ hlen (by omega),Option.bind_some,zP (by omega : k ≤ 1099511627776)]
 by_cases h9 : k < 9
 ·rw [decide_eq_false (show ¬ ((k : Nat) : Int) ≥ 9 by omega),cond_false]
  cases hp : qi x x.Ls[k].A x.Ls[k].P with
  | none => exact .inr ⟨fun hc => (by obtain ⟨p,q,e,_⟩ := (hc hk).2.1.2; rw [hp] at e; cases e),rfl⟩
  | some p =>
   cases hq : qi x x.Ls[k].B x.Ls[k].Q with
   | none => exact .inr ⟨fun hc => (by obtain ⟨p,q,_,e,_⟩ := (hc hk).2.1.2; rw [hq] at e; cases e),rfl⟩
   | some q =>
    simp only [Bool.not_true,cond_false]
    by_cases hab : x.Ls[k].A = x.Ls[k].B
    ·exact .inr ⟨fun hc => (hc hk).2.1.1 (hab),by rw [show (x.Ls[k].A == x.Ls[k].B) = true from by simpa using hab]; rfl⟩
    ·rw [show (x.Ls[k].A == x.Ls[k].B) = false from by simpa using hab,cond_false]
     by_cases h3 : p.Up = q.Up
     ·rw [show (!(p.Up == q.Up)) = false from by simp [h3],cond_false]
      cases h1 : (x.Ls.take k).any (qO x.Ls[k].A x.Ls[k].P) with
      | true => exact .inr ⟨fun hc => (by have := (hc hk).2.2.1; rw [h1] at this; cases this),rfl⟩
      | false =>
       cases h2 : (x.Ls.take k).any (qO x.Ls[k].B x.Ls[k].Q) with
       | true => exact .inr ⟨fun hc => (by have := (hc hk).2.2.2; rw [h2] at this; cases this),rfl⟩
       | false => exact .inl ⟨fun _ => ⟨h9,⟨hab,p,q,hp,hq,h3⟩,h1,h2⟩,rfl⟩
     ·refine .inr ⟨fun hc => ?_,by rw [show (p.Up == q.Up) = false from by simpa using h3]; rfl⟩
      obtain ⟨p',q',e1,e2,e3⟩ := (hc hk).2.1.2
      rw [hp] at e1; rw [hq] at e2
      cases e1; cases e2; exact h3 e3
 ·exact .inr ⟨fun hc => h9 (hc hk).1,by rw [decide_eq_true (show ((k : Nat) : Int) ≥ 9 by omega)]; rfl⟩
def zG7 (n : Nat) (x : Net) : Prop := (∀ k,k < x.Bs.length → BOk n x k) ∧ (1 ≤ x.Bs.length ∧ x.Bs.length ≤ 6) ∧ x.Ls.length ≤ 9 ∧ x.Said.length ≤ 40 ∧ ∀ k (hk : k < x.Ls.length),LOk x x.Ls[k] ∧ qW (qe x.Ls[k].A x.Ls[k].P) x.Ls = 1 ∧ qW (qe x.Ls[k].B x.Ls[k].Q) x.Ls = 1
theorem Jz (n : Nat) (x : zA) (hn : x.Ps.length < n) (h1 : 1 ≤ x.Ps.length) (h2 : x.Ps.length ≤ 6) (h3 : 1 ≤ x.Id) (h4 : x.Id ≤ 99) (h5 : x.Name.size ≤ 10) (h6 : ZU n x.F = some true) (h7 : zl n x.V (x.Ps.length : Int) = some true) (h8 : 0 ≤ x.Tk ∧ x.Tk ≤ 1000000) (h9 : 0 ≤ x.Pa ∧ x.Pa ≤ 1000000) (h10 : 0 ≤ x.Wo ∧ x.Wo ≤ 1000000) (h11 : 0 ≤ x.Dr ∧ x.Dr ≤ 1000000) (h12 : 0 ≤ x.Ve ∧ x.Ve ≤ 1000000) (h13 : ∀ j (hj : j < x.Ps.length),qD n x.Ps[j] = some true) : zV n x = some true := by
 have two : ∀ {a b c : Int},a ≤ b → b ≤ c → (decide (a ≤ b) && decide (b ≤ c)) = true := fun h h' => by rw [decide_eq_true h,decide_eq_true h']; rfl
 unfold zV
 rcases Q7 (L := fun m k => z7 n m x k) (N := x.Ps.length) (P := fun k => ∀ hk : k < x.Ps.length,qD n x.Ps[k] = some true) (fun m k hk => by
  simp only [z7]
  rw [zt hk,cond_true,zI hk,Option.bind_some,h13 k hk,Option.bind_some,zP (by omega : k ≤ 1099511627776)]
  exact .inl ⟨fun _ => h13 k hk,rfl⟩) (fun m => ⟨(),by simp only [z7]; rw [zh]; rfl⟩) n 0 (by omega) (by omega) with ⟨a,e,_⟩ | ⟨_,p⟩
 ·rw [show z7 n n x 0 = _ from e]
  simp only [Option.bind_some,Qm,Yt,zQ,two h3 h4,two h8.1 h8.2,two h9.1 h9.2,two h10.1 h10.2,two h11.1 h11.2,two h12.1 h12.2,two (show (1 : Int) ≤ (x.Ps.length : Int) by omega) (show (x.Ps.length : Int) ≤ 6 by omega),decide_eq_true (show (x.Name.size : Int) ≤ 10 by omega),h6,h7,cond_true]
 ·exact absurd (fun j _ _ hj => h13 j hj) p
def dnP : Pt := ⟨false,1,false,⟨0,0,0,0,0⟩⟩
def upP : Pt := ⟨true,1,false,⟨0,0,0,0,0⟩⟩
def psK (p k : Nat) : List Pt := List.replicate k upP ++ List.replicate (p - k) dnP
theorem Yr {p k : Nat} (h : k ≤ p) : (psK p k).length = p := by simp [psK]; omega
theorem zDU {p k j : Nat} (hj : j < (psK p k).length) : (psK p k)[j] = if j < k then upP else dnP := by
 unfold psK at hj ⊢
 by_cases h : j < k
 ·rw [List.getElem_append_left (by simpa using h),if_pos h]; simp
 ·rw [List.getElem_append_right (by simpa using h),if_neg h]; simp
theorem zO2 {p k : Nat} (h : k < p) : (psK p k).set k upP = psK p (k + 1) := by
 refine List.ext_getElem (by rw [List.length_set,Yr (by omega),Yr (by omega)]) fun j h1 h2 => ?_
 rw [List.length_set] at h1
 rw [List.getElem_set,zDU,zDU]
 by_cases hj : k = j
 ·subst hj; rw [if_pos rfl,if_pos (by omega)]
 ·rw [if_neg hj]
  by_cases hk : j < k
  ·rw [if_pos hk,if_pos (by omega)]
  ·rw [if_neg hk,if_neg (by omega)]
def nbB (z : Int) (vt : zD) (ps : List Pt) (v : Int) : zA := ⟨z,⟨#[]⟩,ps,[],vt,0,0,0,0,v⟩
def noB : zA := ⟨0,⟨#[]⟩,[],[],⟨[],[]⟩,0,0,0,0,0⟩
theorem zQD (p : Nat) (h1 : 1 ≤ p) (h6 : p ≤ 6) : ∃ vt : zD,Qf 1048800 p = some vt ∧ zCO 1048800 p = some vt ∧ zl 1048800 vt p = some true ∧ vt.sz ≤ 10 ∧ vt.wf := by
 have wf : ∀ (m : Int) (k : Nat),0 ≤ m → m ≤ 63 → k ≤ 6 → (⟨[⟨1,m,m⟩],List.replicate k 1⟩ : zD).wf := fun m k h0 h1 hk => by
  refine ⟨⟨by simp only [List.length_singleton]; decide,fun r hr => ?_⟩,⟨?_,fun r hr => ?_⟩,trivial⟩
  ·rw [List.mem_singleton] at hr; subst hr
   exact ⟨zH (by simp only; omega) (by simp only; omega),zH (by simp only; omega) (by simp only; omega),zH (by simp only; omega) (by simp only; omega),trivial⟩
  ·have : maxLen = 9223372036854775807 := by decide
   simp only [List.length_replicate]; omega
  ·obtain ⟨_,rfl⟩ := List.mem_replicate.1 hr
   exact zH (by omega) (by omega)
 have hc : p = 1 ∨ p = 2 ∨ p = 3 ∨ p = 4 ∨ p = 5 ∨ p = 6 := by omega
 rcases hc with rfl | rfl | rfl | rfl | rfl | rfl
 ·exact ⟨⟨[⟨1,1,1⟩],List.replicate 1 1⟩,by kernel_rfl,by kernel_rfl,by kernel_rfl,by decide,wf _ _ (by decide) (by decide) (by decide)⟩
 ·exact ⟨⟨[⟨1,3,3⟩],List.replicate 2 1⟩,by kernel_rfl,by kernel_rfl,by kernel_rfl,by decide,wf _ _ (by decide) (by decide) (by decide)⟩
 ·exact ⟨⟨[⟨1,7,7⟩],List.replicate 3 1⟩,by kernel_rfl,by kernel_rfl,by kernel_rfl,by decide,wf _ _ (by decide) (by decide) (by decide)⟩
 ·exact ⟨⟨[⟨1,15,15⟩],List.replicate 4 1⟩,by kernel_rfl,by kernel_rfl,by kernel_rfl,by decide,wf _ _ (by decide) (by decide) (by decide)⟩
 ·exact ⟨⟨[⟨1,31,31⟩],List.replicate 5 1⟩,by kernel_rfl,by kernel_rfl,by kernel_rfl,by decide,wf _ _ (by decide) (by decide) (by decide)⟩
 ·exact ⟨⟨[⟨1,63,63⟩],List.replicate 6 1⟩,by kernel_rfl,by kernel_rfl,by kernel_rfl,by decide,wf _ _ (by decide) (by decide) (by decide)⟩
theorem zOJ (p : Nat) (h1 : 1 ≤ p) (h6 : p ≤ 6) : QQ 1048800 1048800 p 0 [] = some (.inl (psK p 0)) ∧ YI 1048800 1048800 p 0 [] = some (.inl (psK p 0)) := by
 have hc : p = 1 ∨ p = 2 ∨ p = 3 ∨ p = 4 ∨ p = 5 ∨ p = 6 := by omega
 rcases hc with rfl | rfl | rfl | rfl | rfl | rfl <;> exact ⟨by kernel_rfl,by kernel_rfl⟩
theorem zNn (z : Int) (q : Int) : (¬ ((1 ≤ z ∧ z ≤ 99) ∧ 1 ≤ q ∧ q ≤ 6) ∧ qN 1048800 z q = some noB ∧ Q9 1048800 z q = some noB) ∨ ∃ (p : Nat) (vt : zD),q = p ∧ (1 ≤ z ∧ z ≤ 99) ∧ 1 ≤ p ∧ p ≤ 6 ∧ vt.sz ≤ 10 ∧ vt.wf ∧ zl 1048800 vt p = some true ∧ qN 1048800 z q = some (nbB z vt (psK p 0) 0) ∧ Q9 1048800 z q = some (nbB z vt (psK p 0) 0) := by
 unfold qN Q9
 simp only [qy,zQ,Option.bind_some]
 by_cases hz : 1 ≤ z ∧ z ≤ 99
 ·rw [decide_eq_true hz.1,decide_eq_true hz.2]
  by_cases hq : 1 ≤ q ∧ q ≤ 6
  ·obtain ⟨p,rfl⟩ := Int.eq_ofNat_of_zero_le (show 0 ≤ q by omega)
   obtain ⟨vt,e1,e2,e3,e4,e5⟩ := zQD p (by omega) (by omega)
   obtain ⟨f1,f2⟩ := zOJ p (by omega) (by omega)
   refine .inr ⟨p,vt,rfl,hz,by omega,by omega,e4,e5,e3,?_,?_⟩
   ·rw [decide_eq_true hq.1,decide_eq_true hq.2]
    simp only [Bool.and_self,Bool.not_true,cond_false,e1,Option.bind_some,f1]
    rfl
   ·rw [decide_eq_true hq.1,decide_eq_true hq.2]
    simp only [Bool.and_self,Bool.not_true,cond_false,e2,Option.bind_some,f2]
    rfl
  ·refine .inl ⟨fun h => hq h.2,?_⟩
   have : (decide (1 ≤ q) && decide (q ≤ 6)) = false := by
    simp only [Bool.and_eq_false_iff,decide_eq_false_iff_not]; omega
   rw [this]
   exact ⟨rfl,rfl⟩
 ·refine .inl ⟨fun h => hz h.1,?_⟩
  have : (decide (1 ≤ z) && decide (z ≤ 99)) = false := by
   simp only [Bool.and_eq_false_iff,decide_eq_false_iff_not]; omega
  rw [this]
  exact ⟨rfl,rfl⟩
theorem zLn {z : Int} {vt : zD} {ps : List Pt} {v : Int} : (nbB z vt ps v).sz = ps.length + vt.sz := by
 show 0 + ps.length + 0 + vt.sz = _
 omega
theorem zJR {z : Int} {vt : zD} {p k : Nat} {v : Int} (hz : 1 ≤ z ∧ z ≤ 99) (h1 : 1 ≤ p) (h6 : p ≤ 6) (hk : k ≤ p) (hv : zl 1048800 vt p = some true) (v0 : 0 ≤ v) (v1 : v ≤ 1000000) : zV 1048800 (nbB z vt (psK p k) v) = some true := by
 have hl := Yr hk
 have d0 : (0 : Int) ≤ 0 ∧ (0 : Int) ≤ 1000000 := by decide
 refine Jz 1048800 (nbB z vt (psK p k) v) (by show (psK p k).length < _; omega) (by show 1 ≤ (psK p k).length; omega) (by show (psK p k).length ≤ 6; omega) hz.1 hz.2 (Nat.zero_le 10) (by kernel_rfl) (by show zl 1048800 vt ((psK p k).length : Int) = _; rw [hl]; exact hv) d0 d0 d0 d0 ⟨v0,v1⟩ (fun j hj => ?_)
 have e : (nbB z vt (psK p k) v).Ps[j] = if j < k then upP else dnP := zDU hj
 rw [e]
 split <;> rfl
theorem zLo {z : Int} {vt : zD} {p k : Nat} {v : Int} (hz : 1 ≤ z ∧ z ≤ 99) (h6 : p ≤ 6) (hk : k ≤ p) (wv : vt.wf) (v0 : 0 ≤ v) (v1 : v ≤ 1000000) : (nbB z vt (psK p k) v).wf := by
 have hm : maxLen = 9223372036854775807 := by decide
 have z0 : zj 0 := zH (by omega) (by omega)
 have o1 : zj 1 := zH (by omega) (by omega)
 have wz : zj z := zH (by omega) (by omega)
 have wv' : zj v := zH (by omega) (by omega)
 refine ⟨wz,Nat.zero_le _,⟨by show (psK p k).length ≤ maxLen; rw [Yr hk]; omega,fun q hq => ?_⟩,⟨Nat.zero_le _,fun q hq => by cases hq⟩,wv.1,wv.2.1,z0,z0,z0,z0,wv',trivial⟩
 obtain ⟨j,hj,rfl⟩ := List.getElem_of_mem hq
 have e : (nbB z vt (psK p k) v).Ps[j] = if j < k then upP else dnP := zDU hj
 rw [e]
 split <;> exact ⟨o1,z0,z0,z0,z0,z0,trivial⟩
theorem zNo : noB.wf := by
 have z0 : zj 0 := zH (by omega) (by omega)
 exact ⟨z0,Nat.zero_le _,⟨Nat.zero_le _,fun q hq => by cases hq⟩,⟨Nat.zero_le _,fun q hq => by cases hq⟩,⟨Nat.zero_le _,fun q hq => by cases hq⟩,⟨Nat.zero_le _,fun q hq => by cases hq⟩,z0,z0,z0,z0,z0,trivial⟩
theorem zNm {z : Int} {vt : zD} {p k : Nat} {v : Int} (hz : 1 ≤ z ∧ z ≤ 99) (h1 : 1 ≤ p) (h6 : p ≤ 6) (hk : k < p) (hv : zl 1048800 vt p = some true) (hs : vt.sz ≤ 10) (wv : vt.wf) (v0 : 0 ≤ v) (v1 : v ≤ 1000000) : ∃ v',0 ≤ v' ∧ v' ≤ 1000000 ∧ Qe 1048800 (nbB z vt (psK p k) v) k true = some (nbB z vt (psK p (k + 1)) v') ∧ QE 1048800 (nbB z vt (psK p k) v) k true = some (nbB z vt (psK p (k + 1)) v') := by
 have hl : (nbB z vt (psK p k) v).Ps.length = p := Yr (by omega)
 have hsz : (nbB z vt (psK p k) v).sz ≤ 16 := by rw [zLn,Yr (by omega)]; omega
 have ok := zJR (k := k) hz h1 h6 (by omega) hv v0 v1
 have wx := zLo (v := v) hz h6 (show k ≤ p by omega) wv v0 v1
 obtain ⟨b,e1,e2⟩ := QY 1048800 _ wx (by omega) (by omega)
 rw [ok] at e1
 cases e1
 have hk' : k < (nbB z vt (psK p k) v).Ps.length := by omega
 have hg : (nbB z vt (psK p k) v).Ps[k].Co = 1 := by
  have e : (nbB z vt (psK p k) v).Ps[k] = if k < k then upP else dnP := zDU hk'
  rw [e]; split <;> rfl
 obtain ⟨zs,v',bb,f1,f2,f3,f4,f5,f6,_⟩ := zGy 1048800 (nbB z vt (psK p k) v) (by omega) (by omega) ok ((nbB z vt (psK p k) v).Ps.set k upP) (by simp) [] (Nat.zero_le _) 0
 have hzs : zs = [] := List.eq_nil_of_length_eq_zero (Nat.le_zero.1 f3)
 subst hzs
 have hset : (nbB z vt (psK p k) v).Ps.set k upP = psK p (k + 1) := zO2 hk
 rw [hset] at f1 f2
 have there : (true && (decide ((0 : Int) ≤ k) && decide ((k : Int) < (nbB z vt (psK p k) v).Ps.length))) = true := by
  rw [decide_eq_true (by omega),decide_eq_true (by omega)]; rfl
 refine ⟨v',f5,f6,?_,?_⟩
 ·unfold Qe
  rw [JJ 1048800 _ (by omega),Option.bind_some,zBa 1048800 _ k true ok (by omega),Option.bind_some,there]
  simp only [Bool.not_true,cond_false,zI hk',Option.bind_some,hg,Int.toNat_natCast]
  rw [show (⟨true,1,false,(⟨0,0,0,0,0⟩ : Vec)⟩ : Pt) = upP from rfl,hset]
  have : ZA 1048800 ⟨(nbB z vt (psK p k) v).Id,(nbB z vt (psK p k) v).Name,psK p (k + 1),(nbB z vt (psK p k) v).F,(nbB z vt (psK p k) v).V,(nbB z vt (psK p k) v).Tk,(nbB z vt (psK p k) v).Pa,(nbB z vt (psK p k) v).Wo,(nbB z vt (psK p k) v).Dr,(nbB z vt (psK p k) v).Ve⟩ = some (nbB z vt (psK p (k + 1)) v') := f1
  rw [this]
  rfl
 ·unfold QE
  rw [YS 1048800 _ (by omega),Option.bind_some,zCX 1048800 _ k true e2 (by omega),Option.bind_some,there]
  simp only [cond_true,zI hk',Option.bind_some,hg,Int.toNat_natCast]
  rw [show (⟨true,1,false,(⟨0,0,0,0,0⟩ : Vec)⟩ : Pt) = upP from rfl,hset]
  have : ZH 1048800 ⟨(nbB z vt (psK p k) v).Id,(nbB z vt (psK p k) v).Name,psK p (k + 1),(nbB z vt (psK p k) v).F,(nbB z vt (psK p k) v).V,(nbB z vt (psK p k) v).Tk,(nbB z vt (psK p k) v).Pa,(nbB z vt (psK p k) v).Wo,(nbB z vt (psK p k) v).Dr,(nbB z vt (psK p k) v).Ve⟩ = some (nbB z vt (psK p (k + 1)) v') := f2
  rw [this]
  rfl
theorem zMC {z : Int} {vt : zD} {p : Nat} (hz : 1 ≤ z ∧ z ≤ 99) (h1 : 1 ≤ p) (h6 : p ≤ 6) (hv : zl 1048800 vt p = some true) (hs : vt.sz ≤ 10) (wv : vt.wf) (r8 : zA) (hr : r8.Ps.length = p) : ∀ (m k : Nat) (v : Int),k ≤ p → p < m + k → 0 ≤ v → v ≤ 1000000 → ∃ w,0 ≤ w ∧ w ≤ 1000000 ∧
  Qw 1048800 m r8 k z ⟨#[]⟩ (psK p k) [] vt.Rows vt.Pv 0 0 0 0 v = some (.inl (z,⟨#[]⟩,psK p p,[],vt.Rows,vt.Pv,0,0,0,0,w)) ∧
  ∀ (i : Nat) (zs : List zA) (hi : i < zs.length),zs[i] = nbB z vt (psK p k) v → ZJ 1048800 m p i k zs = some (.inl (zs.set i (nbB z vt (psK p p) w)))
 | 0,k,v,hk,hm,v0,v1 => by omega
 | m + 1,k,v,hk,hm,v0,v1 => by
  rw [Qw,hr]
  by_cases hkp : k < p
  ·obtain ⟨v',a0,a1,e1,e2⟩ := zNm hz h1 h6 hkp hv hs wv v0 v1
   obtain ⟨w,b0,b1,f1,f2⟩ := zMC hz h1 h6 hv hs wv r8 hr m (k + 1) v' hkp (by omega) a0 a1
   refine ⟨w,b0,b1,?_,fun i zs hi hzi => ?_⟩
   ·have e2' : QE 1048800 ⟨z,⟨#[]⟩,psK p k,[],⟨vt.Rows,vt.Pv⟩,0,0,0,0,v⟩ k true = some (nbB z vt (psK p (k + 1)) v') := e2
    rw [decide_eq_true (show (k : Int) < (p : Int) by omega),cond_true,e2',Option.bind_some,zP (by omega : k ≤ 1099511627776)]
    exact f1
   ·rw [ZJ,decide_eq_true (show (k : Int) < (p : Int) by omega),cond_true,zI hi,Option.bind_some,hzi,e1,Option.bind_some,zP (by omega : k ≤ 1099511627776),Int.toNat_natCast,f2 i (zs.set i (nbB z vt (psK p (k + 1)) v')) (by simpa using hi) (by simp),List.set_set]
  ·obtain rfl : k = p := by omega
   refine ⟨v,v0,v1,?_,fun i zs hi hzi => ?_⟩
   ·rw [decide_eq_false (show ¬ (k : Int) < (k : Int) by omega)]; rfl
   ·rw [ZJ,decide_eq_false (show ¬ (k : Int) < (k : Int) by omega),cond_false,← hzi,List.set_getElem_self]
def NU (q : Int) (y y' : zA) : Prop := (y = noB ∧ y' = noB) ∨ ∃ (z : Int) (p : Nat) (vt : zD) (w : Int),q = p ∧ (1 ≤ z ∧ z ≤ 99) ∧ 1 ≤ p ∧ p ≤ 6 ∧ vt.sz ≤ 10 ∧ vt.wf ∧ zl 1048800 vt p = some true ∧ 0 ≤ w ∧ w ≤ 1000000 ∧ y = nbB z vt (psK p 0) 0 ∧ y' = nbB z vt (psK p p) w ∧ ∀ (i : Nat) (zs : List zA) (hi : i < zs.length),zs[i] = y → ZJ 1048800 1048800 q i 0 zs = some (.inl (zs.set i y'))
theorem NU.facts {q : Int} {y y' : zA} (h : NU q y y') : y.wf ∧ y'.wf ∧ y.sz ≤ 16 ∧ y'.sz ≤ 16 ∧ y.Id = y'.Id ∧ y.Ps.length = y'.Ps.length ∧ (zV 1048800 y = some true ↔ zV 1048800 y' = some true) ∧ (∀ j (hj : j < y.Ps.length),y.Ps[j].Up = false ∧ y.Ps[j].Has = false) ∧ (∀ j (hj : j < y'.Ps.length),y'.Ps[j].Up = true ∧ y'.Ps[j].Has = false) := by
 rcases h with ⟨rfl,rfl⟩ | ⟨z,p,vt,w,rfl,hz,h1,h6,hs,wv,hv,w0,w1,rfl,rfl,_⟩
 ·exact ⟨zNo,zNo,by decide,by decide,rfl,rfl,Iff.rfl,fun j hj => absurd hj (Nat.not_lt_zero j),fun j hj => absurd hj (Nat.not_lt_zero j)⟩
 ·refine ⟨zLo hz h6 (by omega) wv (by omega) (by omega),zLo hz h6 (by omega) wv w0 w1,?_,?_,rfl,?_,?_,fun j hj => ?_,fun j hj => ?_⟩
  ·rw [zLn,Yr (by omega)]; omega
  ·rw [zLn,Yr (by omega)]; omega
  ·show (psK p 0).length = (psK p p).length
   rw [Yr (by omega),Yr (by omega)]
  ·exact ⟨fun _ => zJR hz h1 h6 (by omega) hv w0 w1,fun _ => zJR hz h1 h6 (by omega) hv (by omega) (by omega)⟩
  ·have e : (nbB z vt (psK p 0) 0).Ps[j] = if j < 0 then upP else dnP := zDU hj
   rw [e,if_neg (by omega)]; exact ⟨rfl,rfl⟩
  ·have e : (nbB z vt (psK p p) w).Ps[j] = if j < p then upP else dnP := zDU hj
   have hl : (nbB z vt (psK p p) w).Ps.length = p := Yr (by omega)
   rw [e,if_pos (by omega)]; exact ⟨rfl,rfl⟩
theorem NU.make (z q : Int) : ∃ y y',NU q y y' ∧ qN 1048800 z q = some y ∧ Q9 1048800 z q = some y ∧ Qw 1048800 1048800 y 0 y.Id y.Name y.Ps y.F y.V.Rows y.V.Pv y.Tk y.Pa y.Wo y.Dr y.Ve = some (.inl (y'.Id,y'.Name,y'.Ps,y'.F,y'.V.Rows,y'.V.Pv,y'.Tk,y'.Pa,y'.Wo,y'.Dr,y'.Ve)) := by
 rcases zNn z q with ⟨_,e1,e2⟩ | ⟨p,vt,rfl,hz,h1,h6,hs,wv,hv,e1,e2⟩
 ·exact ⟨noB,noB,.inl ⟨rfl,rfl⟩,e1,e2,by kernel_rfl⟩
 ·obtain ⟨w,b0,b1,f1,f2⟩ := zMC hz h1 h6 hv hs wv (nbB z vt (psK p 0) 0) (Yr (by omega)) 1048800 0 0 (by omega) (by omega) (by omega) (by omega)
  exact ⟨_,_,.inr ⟨z,p,vt,w,rfl,hz,h1,h6,hs,wv,hv,b0,b1,rfl,rfl,fun i zs hi hzi => f2 i zs hi hzi⟩,e1,e2,f1⟩
theorem zET (xs : List Int) (q : Int) (h : xs.length ≤ 1048576) : ∀ (m k : Nat) (acc : List zA),k ≤ xs.length → xs.length < m + k → acc.length = k → (∀ y ∈ acc,∃ y',NU q y y') → ∃ ys,qX 1048800 m xs q k acc = some (.inl ys) ∧ ys.length = xs.length ∧ ∀ y ∈ ys,∃ y',NU q y y'
 | 0,k,acc,h1,h2,h3,h4 => by omega
 | m + 1,k,acc,h1,h2,h3,h4 => by
  rw [qX]
  by_cases hk : k < xs.length
  ·obtain ⟨y,y',u,e1,e2,e3⟩ := NU.make xs[k] q
   rw [zt hk,cond_true,zI hk,Option.bind_some,e1,Option.bind_some,decide_eq_true (by simp; omega),cond_true,zP (by omega : k ≤ 1099511627776)]
   exact zET xs q h m (k + 1) (acc ++ [y]) (by omega) (by omega) (by simp; omega) (fun v hv => by
    rcases List.mem_append.1 hv with hv | hv
    ·exact h4 v hv
    ·rw [List.mem_singleton] at hv; subst hv; exact ⟨y',u⟩)
  ·obtain rfl : k = xs.length := by omega
   rw [zh]
   exact ⟨acc,rfl,h3,h4⟩
theorem zDD (xs : List Int) (q : Int) (h : xs.length ≤ 1048576) : ∀ (m k : Nat) (acc acc' : List zA),k ≤ xs.length → xs.length < m + k → acc.length = k → acc'.length = k → (∀ j (hj : j < acc.length) (hj' : j < acc'.length),NU q acc[j] acc'[j]) → ∃ ys ys',qX 1048800 m xs q k acc = some (.inl ys) ∧ Zr 1048800 m xs q k acc' = some (.inl ys') ∧ ys.length = xs.length ∧ ys'.length = xs.length ∧ ∀ j (hj : j < ys.length) (hj' : j < ys'.length),NU q ys[j] ys'[j]
 | 0,k,acc,acc',h1,h2,h3,h3',h4 => by omega
 | m + 1,k,acc,acc',h1,h2,h3,h3',h4 => by
  rw [qX,Zr]
  by_cases hk : k < xs.length
  ·obtain ⟨y,y',u,e1,e2,e3⟩ := NU.make xs[k] q
   rw [zt hk,cond_true,cond_true,zI hk,Option.bind_some,Option.bind_some,e1,Option.bind_some,decide_eq_true (by simp; omega),cond_true,zP (by omega : k ≤ 1099511627776),e2,Option.bind_some,e3]
   obtain ⟨ys,ys',f1,f2,f3⟩ := zDD xs q h m (k + 1) (acc ++ [y]) (acc' ++ [y']) (by omega) (by omega) (by simp; omega) (by simp; omega) (fun j hj hj' => by
    by_cases hjk : j < k
    ·rw [List.getElem_append_left (by omega),List.getElem_append_left (by omega)]; exact h4 j (by omega) (by omega)
    ·have : j = k := by simp at hj; omega
     subst this
     rw [List.getElem_append_right (by omega),List.getElem_append_right (by omega)]
     simp only [h3,h3',Nat.sub_self,List.getElem_cons_zero]
     exact u)
   refine ⟨ys,ys',f1,?_,f3⟩
   simp only [Option.bind_some,J6]
   rw [decide_eq_true (by simp; omega),cond_true,zP (by omega : k ≤ 1099511627776)]
   exact f2
  ·obtain rfl : k = xs.length := by omega
   rw [zh]
   exact ⟨acc,acc',rfl,rfl,h3,h3',h4⟩
theorem zB1 (q : Int) (ys ys' : List zA) (hl : ys'.length = ys.length) (h6 : ys.length ≤ 6) (hu : ∀ j (hj : j < ys.length) (hj' : j < ys'.length),NU q ys[j] ys'[j]) (hok : ∀ j (hj : j < ys.length),ys[j] ≠ noB) : ∀ (m k : Nat) (zs : List zA),k ≤ ys.length → ys.length < m + k → (hz : zs.length = ys.length) → (∀ j (hj : j < zs.length),zs[j] = if j < k then ys'[j]'(by omega) else ys[j]'(by omega)) → Za 1048800 m q k zs = some (.inl ys')
 | 0,k,zs,h1,h2,hz,h3 => by omega
 | m + 1,k,zs,h1,h2,hz,h3 => by
  rw [Za]
  by_cases hk : k < ys.length
  ·rcases hu k hk (by omega) with ⟨e,_⟩ | ⟨z,p,vt,w,rfl,_,_,_,_,_,_,_,_,_,_,f⟩
   ·exact absurd e (hok k hk)
   ·rw [decide_eq_true (show (k : Int) < (zs.length : Int) by omega),cond_true,f k zs (by omega) (by rw [h3 k (by omega),if_neg (by omega)])]
    simp only [Option.bind_some,zAD]
    rw [zP (by omega : k ≤ 1099511627776)]
    refine zB1 _ ys ys' hl h6 hu hok m (k + 1) _ (by omega) (by omega) (by simpa using hz) (fun j hj => ?_)
    rw [List.length_set] at hj
    rw [List.getElem_set]
    by_cases hjk : k = j
    ·subst hjk; rw [if_pos rfl,if_pos (by omega)]
    ·rw [if_neg hjk,h3 j hj]
     by_cases hlt : j < k
     ·rw [if_pos hlt,if_pos (by omega)]
     ·rw [if_neg hlt,if_neg (by omega)]
  ·obtain rfl : k = ys.length := by omega
   rw [decide_eq_false (show ¬ ((ys.length : Nat) : Int) < (zs.length : Int) by omega),cond_false]
   congr 2
   refine List.ext_getElem (by omega) fun j a b => ?_
   rw [h3 j a,if_pos (by omega)]
theorem zLp (q : Int) (ls : List Link) (ys ys' : List zA) (hl : ys'.length = ys.length) (hu : ∀ j (hj : j < ys.length) (hj' : j < ys'.length),NU q ys[j] ys'[j]) : zG7 1048800 ⟨ys,ls,[]⟩ ↔ zG7 1048800 ⟨ys',ls,[]⟩ := by
 have bok : ∀ k,BOk 1048800 ⟨ys,ls,[]⟩ k ↔ BOk 1048800 ⟨ys',ls,[]⟩ k := fun k => by
  constructor
  ·intro h hk'
   have hk : k < ys.length := by simp only at hk'; omega
   have f := (hu k hk (by simp only at hk'; exact hk')).facts
   obtain ⟨a,b,_⟩ := h hk
   refine ⟨f.2.2.2.2.2.2.1.1 a,fun j hj => ?_,fun p hp hh => ?_⟩
   ·have g := (hu j (by omega) (by omega)).facts
    have := b j hj
    simp only at this ⊢
    rw [← g.2.2.2.2.1,← f.2.2.2.2.1]; exact this
   ·exact absurd (hh.symm.trans (f.2.2.2.2.2.2.2.2 p hp).2) (by simp)
  ·intro h hk
   have hk' : k < ys'.length := by simp only at hk; omega
   have f := (hu k (by simp only at hk; exact hk) hk').facts
   obtain ⟨a,b,_⟩ := h hk'
   refine ⟨f.2.2.2.2.2.2.1.2 a,fun j hj => ?_,fun p hp hh => ?_⟩
   ·have g := (hu j (by omega) (by omega)).facts
    have := b j hj
    simp only at this ⊢
    rw [g.2.2.2.2.1,f.2.2.2.2.1]; exact this
   ·exact absurd (hh.symm.trans (f.2.2.2.2.2.2.2.1 p hp).2) (by simp)
 have port : ∀ b p,(∃ v,qi ⟨ys,ls,[]⟩ b p = some v) ↔ ∃ v,qi ⟨ys',ls,[]⟩ b p = some v := fun b p => by
  constructor
  ·rintro ⟨v,hv⟩
   obtain ⟨a,h1,h2⟩ := Q3 hv
   obtain ⟨i0,i1⟩ := J4 h1
   obtain ⟨j0,j1⟩ := J4 h2
   obtain ⟨i,rfl⟩ := Int.eq_ofNat_of_zero_le i0
   obtain ⟨j,rfl⟩ := Int.eq_ofNat_of_zero_le j0
   have hi : i < ys.length := by simp only at i1; omega
   rw [zI hi] at h1
   obtain rfl := Option.some.inj h1
   have f := (hu i hi (by omega)).facts.2.2.2.2.2.1
   exact ⟨_,by unfold qi; rw [zI (show i < ys'.length by omega),Option.bind_some,zI (show j < ys'[i].Ps.length by omega)]⟩
  ·rintro ⟨v,hv⟩
   obtain ⟨a,h1,h2⟩ := Q3 hv
   obtain ⟨i0,i1⟩ := J4 h1
   obtain ⟨j0,j1⟩ := J4 h2
   obtain ⟨i,rfl⟩ := Int.eq_ofNat_of_zero_le i0
   obtain ⟨j,rfl⟩ := Int.eq_ofNat_of_zero_le j0
   have hi : i < ys'.length := by simp only at i1; omega
   rw [zI hi] at h1
   obtain rfl := Option.some.inj h1
   have f := (hu i (by omega) hi).facts.2.2.2.2.2.1
   exact ⟨_,by unfold qi; rw [zI (show i < ys.length by omega),Option.bind_some,zI (show j < ys[i].Ps.length by omega)]⟩
 have down : ∀ b p v,qi ⟨ys,ls,[]⟩ b p = some v → v.Up = false := fun b p v hv => by
  obtain ⟨a,h1,h2⟩ := Q3 hv
  obtain ⟨i0,i1⟩ := J4 h1
  obtain ⟨j0,j1⟩ := J4 h2
  obtain ⟨i,rfl⟩ := Int.eq_ofNat_of_zero_le i0
  obtain ⟨j,rfl⟩ := Int.eq_ofNat_of_zero_le j0
  have hi : i < ys.length := by simp only at i1; omega
  rw [zI hi] at h1
  obtain rfl := Option.some.inj h1
  have hj : j < ys[i].Ps.length := by omega
  rw [zI hj] at h2
  obtain rfl := Option.some.inj h2
  exact ((hu i hi (by omega)).facts.2.2.2.2.2.2.2.1 j hj).1
 have up : ∀ b p v,qi ⟨ys',ls,[]⟩ b p = some v → v.Up = true := fun b p v hv => by
  obtain ⟨a,h1,h2⟩ := Q3 hv
  obtain ⟨i0,i1⟩ := J4 h1
  obtain ⟨j0,j1⟩ := J4 h2
  obtain ⟨i,rfl⟩ := Int.eq_ofNat_of_zero_le i0
  obtain ⟨j,rfl⟩ := Int.eq_ofNat_of_zero_le j0
  have hi : i < ys'.length := by simp only at i1; omega
  rw [zI hi] at h1
  obtain rfl := Option.some.inj h1
  have hj : j < ys'[i].Ps.length := by omega
  rw [zI hj] at h2
  obtain rfl := Option.some.inj h2
  exact ((hu i (by omega) hi).facts.2.2.2.2.2.2.2.2 j hj).1
 have lok : ∀ l,LOk ⟨ys,ls,[]⟩ l ↔ LOk ⟨ys',ls,[]⟩ l := fun l => by
  constructor
  ·rintro ⟨hab,p,q,e1,e2,_⟩
   obtain ⟨p',e1'⟩ := (port _ _).1 ⟨p,e1⟩
   obtain ⟨q',e2'⟩ := (port _ _).1 ⟨q,e2⟩
   exact ⟨hab,p',q',e1',e2',(up _ _ _ e1').trans (up _ _ _ e2').symm⟩
  ·rintro ⟨hab,p,q,e1,e2,_⟩
   obtain ⟨p',e1'⟩ := (port _ _).2 ⟨p,e1⟩
   obtain ⟨q',e2'⟩ := (port _ _).2 ⟨q,e2⟩
   exact ⟨hab,p',q',e1',e2',(down _ _ _ e1').trans (down _ _ _ e2').symm⟩
 unfold zG7
 constructor
 ·rintro ⟨h1,h2,h3,h4,h5⟩
  exact ⟨fun k hk => (bok k).1 (h1 k (by simp only at hk ⊢; omega)),⟨by simp only at h2 ⊢; omega,by simp only at h2 ⊢; omega⟩,h3,h4,fun k hk => ⟨(lok _).1 (h5 k hk).1,(h5 k hk).2⟩⟩
 ·rintro ⟨h1,h2,h3,h4,h5⟩
  exact ⟨fun k hk => (bok k).2 (h1 k (by simp only at hk ⊢; omega)),⟨by simp only at h2 ⊢; omega,by simp only at h2 ⊢; omega⟩,h3,h4,fun k hk => ⟨(lok _).2 (h5 k hk).1,(h5 k hk).2⟩⟩
theorem zGc (n : Nat) (xs : List zB) (t a : Int) (h : xs.length ≤ 1048580) : ∀ (m k : Nat),k ≤ xs.length → xs.length < m + k → (QD n m xs t a k = some (.inl ()) ∧ ∀ j,k ≤ j → ∀ hj : j < xs.length,¬ (xs[j].Tag = t ∧ xs[j].Mac = a)) ∨ ∃ j,k ≤ j ∧ ∃ hj : j < xs.length,QD n m xs t a k = some (.inr (j : Int)) ∧ xs[j].Tag = t ∧ xs[j].Mac = a
 | 0,k,h1,h2 => by omega
 | m + 1,k,h1,h2 => by
  rw [QD]
  by_cases hk : k < xs.length
  ·rw [zt hk,cond_true,zI hk,Option.bind_some,Option.bind_some,zP (by omega : k ≤ 1099511627776)]
   by_cases ht : xs[k].Tag = t
   ·rw [show (xs[k].Tag == t) = true from by simpa using ht,cond_true]
    by_cases ha : xs[k].Mac = a
    ·rw [show (xs[k].Mac == a) = true from by simpa using ha,cond_true]
     exact .inr ⟨k,Nat.le_refl _,hk,rfl,ht,ha⟩
    ·rw [show (xs[k].Mac == a) = false from by simpa using ha,cond_false]
     rcases zGc n xs t a h m (k + 1) (by omega) (by omega) with ⟨e,p⟩ | ⟨j,hj,hj2,e,p⟩
     ·refine .inl ⟨e,fun j hj hj2 => ?_⟩
      by_cases hjk : j = k
      ·subst hjk; exact fun hc => ha hc.2
      ·exact p j (by omega) hj2
     ·exact .inr ⟨j,by omega,hj2,e,p⟩
   ·rw [show (xs[k].Tag == t) = false from by simpa using ht,cond_false]
    rcases zGc n xs t a h m (k + 1) (by omega) (by omega) with ⟨e,p⟩ | ⟨j,hj,hj2,e,p⟩
    ·refine .inl ⟨e,fun j hj hj2 => ?_⟩
     by_cases hjk : j = k
     ·subst hjk; exact fun hc => ht hc.1
     ·exact p j (by omega) hj2
    ·exact .inr ⟨j,by omega,hj2,e,p⟩
  ·obtain rfl : k = xs.length := by omega
   rw [zh]
   exact .inl ⟨rfl,fun j hj hj2 => by omega⟩
theorem zGx (n : Nat) (xs : List zB) (t a : Int) (h : xs.length ≤ 1048580) (hn : xs.length < n) : (zAa n xs t a = some (-1) ∧ ∀ j (hj : j < xs.length),¬ (xs[j].Tag = t ∧ xs[j].Mac = a)) ∨ ∃ j,∃ hj : j < xs.length,zAa n xs t a = some (j : Int) ∧ xs[j].Tag = t ∧ xs[j].Mac = a := by
 unfold zAa
 rcases zGc n xs t a h n 0 (by omega) (by omega) with ⟨e,p⟩ | ⟨j,_,hj,e,p⟩
 ·rw [show QD n n xs t a 0 = _ from e]
  exact .inl ⟨rfl,fun j hj => p j (by omega) hj⟩
 ·rw [show QD n n xs t a 0 = _ from e]
  exact .inr ⟨j,hj,rfl,p⟩
def Zx (v : zB) (t a : Int) : Prop := v.Tag < t ∨ v.Tag = t ∧ v.Mac < a
instance (v : zB) (t a : Int) : Decidable (Zx v t a) := inferInstanceAs (Decidable (_ ∨ _))
def zA1 (e : zB) : List zB → List zB
 | [] => [e]
 | v :: vs => if Zx v e.Tag e.Mac then v :: zA1 e vs else if v.Tag = e.Tag ∧ v.Mac = e.Mac then e :: vs else e :: v :: vs
theorem zLg (e : zB) : ∀ xs : List zB,(zA1 e xs).length ≤ xs.length + 1
 | [] => Nat.le_refl _
 | v :: vs => by
  unfold zA1
  have := zLg e vs
  split
  ·simp only [List.length_cons]; omega
  ·split <;> simp only [List.length_cons] <;> omega
theorem zDT (e : zB) : ∀ (xs : List zB) (v : zB),v ∈ zA1 e xs → v = e ∨ v ∈ xs
 | [],v,h => by simp [zA1] at h; exact .inl h
 | u :: us,v,h => by
  unfold zA1 at h
  split at h
  ·rcases List.mem_cons.1 h with rfl | h
   ·exact .inr (by simp)
   ·rcases zDT e us v h with h | h
    ·exact .inl h
    ·exact .inr (by simp [h])
  ·split at h
   ·rcases List.mem_cons.1 h with rfl | h
    ·exact .inl rfl
    ·exact .inr (by simp [h])
   ·rcases List.mem_cons.1 h with rfl | h
    ·exact .inl rfl
    ·exact .inr h
theorem zB2 (n : Nat) (v : zB) (t a : Int) : Zp n v t a = some (decide (Zx v t a)) := by
 unfold Zp
 by_cases h : v.Tag = t
 ·rw [show (v.Tag != t) = false from by simpa using h,cond_false]
  congr 1
  rw [decide_eq_decide]
  unfold Zx
  constructor
  ·intro h2; exact .inr ⟨h,h2⟩
  ·rintro (h2 | h2)
   ·omega
   ·exact h2.2
 ·rw [show (v.Tag != t) = true from by simpa using h,cond_true]
  congr 1
  rw [decide_eq_decide]
  unfold Zx
  constructor
  ·intro h2; exact .inl h2
  ·rintro (h2 | h2)
   ·exact h2
   ·exact absurd h2.1 h
theorem zHY (n : Nat) (xs : List zB) (h : xs.length ≤ 1048580) (hok : ZU n xs = some true) : ∀ (j i : Nat) (hij : i < j) (hj : j < xs.length),Zx (xs[i]'(by omega)) xs[j].Tag xs[j].Mac := by
 have hs := (zFd n xs h hok).2.2
 intro j
 induction j with
 | zero => intro i hij; omega
 | succ j ih =>
  intro i hij hj
  have h1 := hs j hj
  rw [zB2] at h1
  have h1 := of_decide_eq_true (Option.some.inj h1)
  by_cases e : i = j
  ·subst e; exact h1
  ·have := ih i (by omega) (by omega)
   unfold Zx at this h1 ⊢
   omega
theorem zCa (n : Nat) (xs : List zB) (e : zB) (h : xs.length ≤ 1048580) : ∀ (m k : Nat) (acc : List zB),k ≤ xs.length → xs.length < m + k → acc.length ≤ k + 1 → (∀ j,k ≤ j → ∀ hj : j < xs.length,¬ (xs[j].Tag = e.Tag ∧ xs[j].Mac = e.Mac)) → ZC n m xs e k true acc = some (.inl (true,acc ++ xs.drop k))
 | 0,k,acc,h1,h2,h3,hne => by omega
 | m + 1,k,acc,h1,h2,h3,hne => by
  rw [ZC]
  by_cases hk : k < xs.length
  ·have hg : ∀ v : zB,decide (acc.length + [v].length ≤ 268435456) = true := fun v => decide_eq_true (by simp; omega)
   have ih := zCa n xs e h m (k + 1) (acc ++ [xs[k]]) (by omega) (by omega) (by simp; omega) (fun j hj => hne j (by omega))
   rw [zt hk,cond_true,Bool.not_true,cond_false]
   simp only [Qh,zI hk,Option.bind_some,hg,cond_true,zP (by omega : k ≤ 1099511627776)]
   have hd : acc ++ [xs[k]] ++ xs.drop (k + 1) = acc ++ xs.drop k := by rw [List.append_assoc,List.drop_eq_getElem_cons hk]; rfl
   rw [hd] at ih
   by_cases ht : xs[k].Tag = e.Tag
   ·have hm : xs[k].Mac ≠ e.Mac := fun hm => hne k (Nat.le_refl _) hk ⟨ht,hm⟩
    rw [show (xs[k].Tag != e.Tag) = false from by simpa using ht,cond_false,show (xs[k].Mac != e.Mac) = true from by simpa using hm,cond_true]
    exact ih
   ·rw [show (xs[k].Tag != e.Tag) = true from by simpa using ht,cond_true]
    exact ih
  ·obtain rfl : k = xs.length := by omega
   rw [zh,cond_false,List.drop_length,List.append_nil]
theorem zFM (n : Nat) (xs : List zB) (e : zB) (h : xs.length ≤ 1048580) (hs : ∀ (j i : Nat) (hij : i < j) (hj : j < xs.length),Zx (xs[i]'(by omega)) xs[j].Tag xs[j].Mac) : ∀ (m k : Nat) (acc : List zB),k ≤ xs.length → xs.length < m + k → acc.length ≤ k → ∃ b zs,ZC n m xs e k false acc = some (.inl (b,zs)) ∧ zs.length ≤ xs.length + 1 ∧ (bif !b then zs ++ [e] else zs) = acc ++ zA1 e (xs.drop k)
 | 0,k,acc,h1,h2,h3 => by omega
 | m + 1,k,acc,h1,h2,h3 => by
  rw [ZC]
  by_cases hk : k < xs.length
  ·have hg : ∀ (zs : List zB) (v : zB),zs.length ≤ k + 1 → decide (zs.length + [v].length ≤ 268435456) = true := fun zs v hz => decide_eq_true (by simp; omega)
   rw [zt hk,cond_true,Bool.not_false,cond_true,zI hk,Option.bind_some,zB2,Option.bind_some]
   rw [List.drop_eq_getElem_cons hk]
   by_cases ha : Zx xs[k] e.Tag e.Mac
   ·obtain ⟨b,zs,e1,e2,e3⟩ := zFM n xs e h hs m (k + 1) (acc ++ [xs[k]]) (by omega) (by omega) (by simp; omega)
    refine ⟨b,zs,?_,e2,?_⟩
    ·rw [decide_eq_true ha]
     simp only [Bool.not_true,cond_false,Qh,zI hk,Option.bind_some,hg acc _ (by omega),cond_true,zP (by omega : k ≤ 1099511627776)]
     by_cases ht : xs[k].Tag = e.Tag
     ·have hm : xs[k].Mac ≠ e.Mac := fun hm => by unfold Zx at ha; omega
      rw [show (xs[k].Tag != e.Tag) = false from by simpa using ht,cond_false,show (xs[k].Mac != e.Mac) = true from by simpa using hm,cond_true]
      exact e1
     ·rw [show (xs[k].Tag != e.Tag) = true from by simpa using ht,cond_true]
      exact e1
    ·rw [e3,zA1,if_pos ha,List.append_assoc]; rfl
   ·rw [decide_eq_false ha,zA1,if_neg ha]
    have rest : ∀ j,k + 1 ≤ j → ∀ hj : j < xs.length,¬ (xs[j].Tag = e.Tag ∧ xs[j].Mac = e.Mac) := fun j hj hj2 hc => by
     have := hs j k (by omega) hj2
     rw [hc.1,hc.2] at this
     exact ha this
    simp only [Bool.not_false,cond_true,hg acc _ (by omega),Qh,zI hk,Option.bind_some,hg (acc ++ [e]) _ (by simp; omega),zP (by omega : k ≤ 1099511627776)]
    by_cases hkey : xs[k].Tag = e.Tag ∧ xs[k].Mac = e.Mac
    ·rw [show (xs[k].Tag != e.Tag) = false from by simpa using hkey.1,cond_false,show (xs[k].Mac != e.Mac) = false from by simpa using hkey.2,cond_false]
     refine ⟨true,_,zCa n xs e h m (k + 1) (acc ++ [e]) (by omega) (by omega) (by simp; omega) rest,by simp; omega,?_⟩
     rw [if_pos hkey,Bool.not_true,cond_false,List.append_assoc]; rfl
    ·have e1 := zCa n xs e h m (k + 1) (acc ++ [e] ++ [xs[k]]) (by omega) (by omega) (by simp; omega) rest
     refine ⟨true,acc ++ [e] ++ [xs[k]] ++ xs.drop (k + 1),?_,by simp; omega,?_⟩
     ·by_cases ht : xs[k].Tag = e.Tag
      ·have hm : xs[k].Mac ≠ e.Mac := fun hm => hkey ⟨ht,hm⟩
       rw [show (xs[k].Tag != e.Tag) = false from by simpa using ht,cond_false,show (xs[k].Mac != e.Mac) = true from by simpa using hm,cond_true]
       exact e1
      ·rw [show (xs[k].Tag != e.Tag) = true from by simpa using ht,cond_true]
       exact e1
     ·rw [if_neg hkey,Bool.not_true,cond_false]
      simp
  ·obtain rfl : k = xs.length := by omega
   rw [zh]
   refine ⟨false,acc,rfl,by omega,?_⟩
   rw [List.drop_length]
   rfl
theorem zFk (n : Nat) (xs : List zB) (e : zB) (h : xs.length ≤ 1048580) (hn : xs.length < n) (hs : ∀ (j i : Nat) (hij : i < j) (hj : j < xs.length),Zx (xs[i]'(by omega)) xs[j].Tag xs[j].Mac) : Q5 n xs e = some (zA1 e xs) := by
 obtain ⟨b,zs,e1,e2,e3⟩ := zFM n xs e h hs n 0 [] (by omega) (by omega) (by simp)
 unfold Q5
 rw [show ZC n n xs e 0 false [] = _ from e1]
 simp only [Option.bind_some,zAr]
 rw [decide_eq_true (by simp; omega)]
 rw [List.drop_zero,List.nil_append] at e3
 rw [← e3]
 cases b <;> rfl
theorem zLh (e : zB) : ∀ (xs : List zB) (k : Nat) (hk : k < xs.length) (hs : ∀ (j i : Nat) (hij : i < j) (hj : j < xs.length),Zx (xs[i]'(by omega)) xs[j].Tag xs[j].Mac),xs[k].Tag = e.Tag → xs[k].Mac = e.Mac → zA1 e xs = xs.set k e
 | [],k,hk,hs,h1,h2 => by simp at hk
 | v :: vs,0,hk,hs,h1,h2 => by
  have h1 : v.Tag = e.Tag := h1
  have h2 : v.Mac = e.Mac := h2
  unfold zA1
  rw [if_neg (by unfold Zx; omega),if_pos ⟨h1,h2⟩]
  rfl
 | v :: vs,k + 1,hk,hs,h1,h2 => by
  have ha : Zx v e.Tag e.Mac := by
   have := hs (k + 1) 0 (by omega) hk
   rw [h1,h2] at this
   exact this
  unfold zA1
  rw [if_pos ha,zLh e vs k (by simpa using hk) (fun j i hij hj => hs (j + 1) (i + 1) (by omega) (by simpa using hj)) h1 h2]
  rfl
def zGV (v : zB) : Prop := (1 ≤ v.Tag ∧ v.Tag ≤ 99) ∧ (1 ≤ v.Mac ∧ v.Mac ≤ 9999) ∧ (0 ≤ v.Port ∧ v.Port ≤ 7) ∧ (0 ≤ v.Age ∧ v.Age ≤ 4) ∧ (v.Sc = true → v.Age = 0)
def YT (xs : List zB) : Prop := xs.length ≤ 12 ∧ (∀ v ∈ xs,zGV v) ∧ xs.Pairwise fun a b => Zx a b.Tag b.Mac
theorem zGJ (n : Nat) (v : zB) (h : zGV v) : ZW n v = some true := by
 obtain ⟨h1,h2,h3,h4,h5⟩ := h
 have two : ∀ {a b c : Int},a ≤ b → b ≤ c → (decide (a ≤ b) && decide (b ≤ c)) = true := fun h h' => by rw [decide_eq_true h,decide_eq_true h']; rfl
 unfold ZW
 simp only [zQ,Option.bind_some,two h1.1 h1.2,two h2.1 h2.2,two h3.1 h3.2,two h4.1 h4.2,cond_true]
 cases hs : v.Sc with
 | false => rfl
 | true => rw [h5 hs]; rfl
theorem zBp (n : Nat) (xs : List zB) (hn : xs.length < n) (h : YT xs) : ZU n xs = some true := by
 obtain ⟨h1,h2,h3⟩ := h
 rw [List.pairwise_iff_getElem] at h3
 unfold ZU
 rcases Q7 (L := fun m k => qd n m xs k) (N := xs.length) (P := fun _ => True) (fun m k hk => by
  refine .inl ⟨trivial,?_⟩
  simp only [qd]
  rw [zt hk,cond_true,zI hk,Option.bind_some,zGJ n _ (h2 _ (List.getElem_mem hk)),Option.bind_some,zP (by omega : k ≤ 1099511627776),Bool.not_true,cond_false]
  cases k with
  | zero => rfl
  | succ k =>
   have hw2 : IntKind.wrap .i64 (((k + 1 : Nat) : Int) - 1) = (k : Int) := by rw [wrap64 (by omega) (by omega)]; omega
   rw [decide_eq_true (show ((k + 1 : Nat) : Int) > 0 by omega),hw2,cond_true,zI (show k < xs.length by omega),Option.bind_some,Option.bind_some,Option.bind_some,zB2,decide_eq_true (h3 k (k + 1) (by omega) hk (by omega))]
   rfl) (fun m => ⟨(),by simp only [qd]; rw [zh]; rfl⟩) n 0 (by omega) (by omega) with ⟨a,e,_⟩ | ⟨_,p⟩
 ·rw [show qd n n xs 0 = _ from e,Option.bind_some]
  simp only [zAl]
  rw [decide_eq_true (by omega)]
 ·exact absurd (fun _ _ _ => trivial) p
theorem zCQ (n : Nat) (xs : List zB) (h : xs.length ≤ 1048580) (hok : ZU n xs = some true) : YT xs := by
 obtain ⟨h1,h2,_⟩ := zFd n xs h hok
 refine ⟨h1,fun v hv => ?_,?_⟩
 ·obtain ⟨j,hj,rfl⟩ := List.getElem_of_mem hv
  exact zFj n _ (h2 j hj)
 ·rw [List.pairwise_iff_getElem]
  intro i j hi hj hij
  exact zHY n xs h hok j i hij hj
theorem YT.sub {xs ys : List zB} (h : YT xs) (hs : ys.Sublist xs) : YT ys := ⟨Nat.le_trans hs.length_le h.1,fun v hv => h.2.1 v (hs.subset hv),h.2.2.sublist hs⟩
theorem zAE (n : Nat) (bits : Int) (x : zA) (h : x.Ps.length ≤ 6) : ∀ (m k : Nat) (ys zs : List zB),k ≤ x.Ps.length → ys.length ≤ 134217728 → ys.length < n → qY n m bits x k ys = some (.inl zs) → zs.Sublist ys
 | 0,k,ys,zs,h1,h3,h4,e => by cases e
 | m + 1,k,ys,zs,h1,h3,h4,e => by
  rw [qY] at e
  by_cases hk : k < x.Ps.length
  ·rw [zt hk,cond_true,zC8 n bits k (by omega),Option.bind_some,zP (by omega : k ≤ 1099511627776),zA2 n ys _ h3 h4] at e
   cases hb : zEJ bits k with
   | true =>
    rw [hb] at e
    exact zAE n bits x h m (k + 1) ys zs (by omega) h3 h4 e
   | false =>
    rw [hb] at e
    have hle := List.length_filter_le (fun v : zB => v.Sc || v.Port != (k : Int)) ys
    exact (zAE n bits x h m (k + 1) (ys.filter fun v => v.Sc || v.Port != (k : Int)) zs (by omega) (by omega) (by omega) e).trans List.filter_sublist
  ·have he : k = x.Ps.length := by omega
   subst he
   rw [zh] at e
   cases e
   exact List.Sublist.refl _
theorem zG4 (n : Nat) (x y : zA) (h : x.Ps.length ≤ 6) (h3 : x.F.length ≤ 134217728) (h4 : x.F.length < n) (e : ZA n x = some y) : y.F.Sublist x.F := by
 unfold ZA at e
 obtain ⟨v,_,e⟩ := bind_some e
 obtain ⟨b,_,e⟩ := bind_some e
 obtain ⟨o,ho,e⟩ := bind_some e
 cases o with
 | inl zs =>
  have hz := zAE n b x h n 0 x.F zs (by omega) h3 h4 ho
  cases e
  exact hz
 | inr r =>
  exfalso
  have key : ∀ (m k : Nat) (ys : List zB),k ≤ x.Ps.length → ys.length ≤ 134217728 → ys.length < n → ∀ r,qY n m b x k ys ≠ some (.inr r) := by
   intro m
   induction m with
   | zero => intro k ys h1 h3 h4 r e; cases e
   | succ m ih =>
    intro k ys h1 h3 h4 r e
    rw [qY] at e
    by_cases hk : k < x.Ps.length
    ·rw [zt hk,cond_true,zC8 n b k (by omega),Option.bind_some,zP (by omega : k ≤ 1099511627776),zA2 n ys _ h3 h4] at e
     have hle := List.length_filter_le (fun v : zB => v.Sc || v.Port != (k : Int)) ys
     cases hb : zEJ b k with
     | true => rw [hb] at e; exact ih (k + 1) ys (by omega) h3 h4 r e
     | false => rw [hb] at e; exact ih (k + 1) _ (by omega) (by omega) (by omega) r e
    ·have he : k = x.Ps.length := by omega
     subst he
     rw [zh] at e
     cases e
  exact key n 0 x.F (by omega) h3 h4 r ho
def zDN (v : zB) : Option zB := if v.Sc then some v else if v.Age < 4 then some ⟨v.Tag,v.Mac,v.Port,v.Age + 1,false⟩ else none
theorem zD4 (n : Nat) (xs : List zB) (h : xs.length ≤ 134217728) (ha : ∀ v ∈ xs,0 ≤ v.Age ∧ v.Age ≤ 1000) : ∀ (m k : Nat) (acc : List zB),k ≤ xs.length → xs.length < m + k → acc.length ≤ k → q8 n m xs k acc = some (.inl (acc ++ (xs.drop k).filterMap zDN))
 | 0,k,acc,h1,h2,h3 => by omega
 | m + 1,k,acc,h1,h2,h3 => by
  rw [q8]
  by_cases hk : k < xs.length
  ·rw [zt hk,cond_true,zI hk,Option.bind_some,zP (by omega : k ≤ 1099511627776)]
   have hg : ∀ v : zB,decide (acc.length + [v].length ≤ 268435456) = true := fun v => decide_eq_true (by simp; omega)
   simp only [hg,cond_true]
   have ih := fun acc' h3' => zD4 n xs h ha m (k + 1) acc' (by omega) (by omega) h3'
   rw [List.drop_eq_getElem_cons hk,List.filterMap_cons]
   cases hs : xs[k].Sc with
   | true =>
    have e : zDN xs[k] = some xs[k] := by unfold zDN; rw [if_pos hs]
    rw [cond_true,ih (acc ++ [xs[k]]) (by simp; omega),e]
    simp
   | false =>
    have hw : IntKind.wrap .i64 (xs[k].Age + 1) = xs[k].Age + 1 := by
     have := ha _ (List.getElem_mem hk)
     exact wrap64 (by omega) (by omega)
    by_cases hl : xs[k].Age < 4
    ·have e : zDN xs[k] = some ⟨xs[k].Tag,xs[k].Mac,xs[k].Port,xs[k].Age + 1,false⟩ := by unfold zDN; rw [if_neg (by simp [hs]),if_pos hl]
     rw [cond_false,decide_eq_true hl,cond_true,ih _ (by simp; omega),e,hw]
     simp
    ·have e : zDN xs[k] = none := by unfold zDN; rw [if_neg (by simp [hs]),if_neg hl]
     rw [cond_false,decide_eq_false hl,cond_false,ih _ (by omega),e]
  ·have he : k = xs.length := by omega
   subst he
   rw [zh]
   simp
theorem zG9 {v w : zB} (h : zDN v = some w) : w.Tag = v.Tag ∧ w.Mac = v.Mac ∧ (zGV v → zGV w) := by
 unfold zDN at h
 split at h
 ·cases h; exact ⟨rfl,rfl,id⟩
 ·split at h
  ·rename_i h1 h2
   cases h
   refine ⟨rfl,rfl,fun ⟨a,b,c,d,e⟩ => ⟨a,b,c,⟨by simp only; omega,by simp only; omega⟩,fun hs => by cases hs⟩⟩
  ·cases h
theorem YT.age {xs : List zB} (h : YT xs) : YT (xs.filterMap zDN) := by
 obtain ⟨h1,h2,h3⟩ := h
 refine ⟨Nat.le_trans (List.length_filterMap_le _ _) h1,fun v hv => ?_,?_⟩
 ·obtain ⟨u,hu,e⟩ := List.mem_filterMap.1 hv
  exact (zG9 e).2.2 (h2 u hu)
 ·rw [List.pairwise_filterMap]
  refine h3.imp fun {a b} hab a' ha b' hb => ?_
  obtain ⟨p1,p2,_⟩ := zG9 ha
  obtain ⟨q1,q2,_⟩ := zG9 hb
  unfold Zx at hab ⊢
  rw [p1,p2,q1,q2]
  exact hab
theorem zCY (n : Nat) (xs : List zB) (h : YT xs) (hn : 12 < n) : Yg n xs = some (xs.filterMap zDN) := by
 have h1 := h.1
 unfold Yg
 rw [show q8 n n xs 0 [] = _ from zD4 n xs (by omega) (fun v hv => by have := (h.2.1 v hv).2.2.2.1; omega) n 0 [] (by omega) (by omega) (by simp)]
 rfl
theorem zJC {v : zB} (h : zGV v) : v.wf := by
 obtain ⟨h1,h2,h3,h4,_⟩ := h
 exact ⟨zH (by omega) (by omega),zH (by omega) (by omega),zH (by omega) (by omega),zH (by omega) (by omega),trivial⟩
theorem zKh (n : Nat) (x : zA) (hn : 1048577 < n) (wx : x.wf) (hx : x.sz ≤ 1048576) (hb : zV n x = some true) (ps : List Pt) (hp : ps.length = x.Ps.length) (hps : ∀ j (hj : j < ps.length),qD n ps[j] = some true) (wps : QO Pt.wf ps) (fs : List zB) (hf : fs.length ≤ x.F.length) (hfs : YT fs) (t : Int) (t0 : 0 ≤ t) (t1 : t ≤ 1000000) :
  ∃ (zs : List zB) (v b : Int),ZA n ⟨x.Id,x.Name,ps,fs,x.V,t,x.Pa,x.Wo,x.Dr,x.Ve⟩ = some ⟨x.Id,x.Name,ps,zs,x.V,t,x.Pa,x.Wo,x.Dr,v⟩ ∧ ZH n ⟨x.Id,x.Name,ps,fs,x.V,t,x.Pa,x.Wo,x.Dr,x.Ve⟩ = some ⟨x.Id,x.Name,ps,zs,x.V,t,x.Pa,x.Wo,x.Dr,v⟩ ∧
   zV n ⟨x.Id,x.Name,ps,zs,x.V,t,x.Pa,x.Wo,x.Dr,v⟩ = some true ∧ (⟨x.Id,x.Name,ps,zs,x.V,t,x.Pa,x.Wo,x.Dr,v⟩ : zA).wf ∧ (⟨x.Id,x.Name,ps,zs,x.V,t,x.Pa,x.Wo,x.Dr,v⟩ : zA).sz ≤ x.sz ∧ QI n x.Id ps = some b ∧ (∀ u ∈ zs,u.Sc = true ∨ ∀ j : Nat,j < ps.length → zEJ b j = false → u.Port ≠ j) ∧ zs.Sublist fs := by
 have hs : x.Name.size + x.Ps.length + x.F.length + x.V.sz = x.sz := rfl
 obtain ⟨p1,p2,p3,p4,p5,p6,p7,p8,p9,p10,p11,p12,p13⟩ := qS n x (by omega) hb
 obtain ⟨zs,v,b,e1,e2,e3,e4,e5,e6,e7,e8⟩ := zGy n x hn hx hb ps hp fs hf t
 have hsub := zG4 n _ _ (by simp only; omega) (by simp only; omega) (by simp only; omega) e1
 have hz : YT zs := hfs.sub hsub
 have hz1 := hz.1
 obtain ⟨w1,w2,w3,w4,w5,w6,w7,w8,w9,w10,w11,w12⟩ := wx
 refine ⟨zs,v,b,e1,e2,?_,⟨w1,w2,wps,⟨Nat.le_trans hz1 (by decide),fun u hu => zJC (hz.2.1 u hu)⟩,w5,w6,zH (z := t) (by omega) (by omega),w8,w9,w10,zH (z := v) (by omega) (by omega),trivial⟩,?_,e7,e8,hsub⟩
 ·exact Jz n ⟨x.Id,x.Name,ps,zs,x.V,t,x.Pa,x.Wo,x.Dr,v⟩ (by simp only; omega) (by simp only; omega) (by simp only; omega) p3 p4 p5 (zBp n zs (by omega) hz) (by simp only [hp]; exact p7) ⟨t0,t1⟩ p9 p10 p11 ⟨e5,e6⟩ hps
 ·show x.Name.size + ps.length + zs.length + x.V.sz ≤ x.sz
  omega
theorem zEu : (⟨0,0,0,0,0⟩ : Vec).wf := by
 have z0 : zj 0 := zH (by omega) (by omega)
 exact ⟨z0,z0,z0,z0,z0,trivial⟩
theorem Jn (n : Nat) (p : Pt) (h : qD n p = some true) : (1 ≤ p.Co ∧ p.Co ≤ 1000) ∧ (p.Has = true → p.Up = true ∧ zp n p.Hd = some true) ∧ (p.Has = false → p.Hd = ⟨0,0,0,0,0⟩) := by
 unfold qD at h
 rw [zQ,Option.bind_some] at h
 cases hc : (decide (1 ≤ p.Co) && decide (p.Co ≤ 1000)) with
 | false => rw [hc] at h; cases h
 | true =>
  have h0 : ∀ {v : Vec},some ((v.Root == 0) && ((v.Co == 0) && ((v.Hops == 0) && ((v.Bridge == 0) && ((v.Port == 0) && true))))) = some true → v = ⟨0,0,0,0,0⟩ := fun {v} e => by
   have e := Option.some.inj e
   simp only [Bool.and_eq_true,beq_iff_eq] at e
   obtain ⟨a,b,c,d,f,_⟩ := e
   cases v
   simp_all
  simp only [Bool.and_eq_true,decide_eq_true_eq] at hc
  rw [decide_eq_true hc.1,decide_eq_true hc.2] at h
  simp only [Bool.and_self,Bool.not_true,cond_false] at h
  cases hu : p.Up with
  | false =>
   rw [hu] at h
   simp only [Bool.not_false,cond_true] at h
   cases hh : p.Has with
   | true => rw [hh] at h; cases h
   | false => rw [hh] at h; exact ⟨hc,fun e => (by cases e),fun _ => h0 h⟩
  | true =>
   rw [hu] at h
   simp only [Bool.not_true,cond_false] at h
   cases hh : p.Has with
   | false => rw [hh] at h; exact ⟨hc,fun e => (by cases e),fun _ => h0 h⟩
   | true =>
    rw [hh] at h
    simp only [Bool.not_true,cond_false] at h
    obtain ⟨b,hb,h⟩ := bind_some h
    cases h
    exact ⟨hc,fun _ => ⟨rfl,hb⟩,fun e => (by cases e)⟩
end Go.Proofs.YtajadnlejdpceaaGreat.Tw
