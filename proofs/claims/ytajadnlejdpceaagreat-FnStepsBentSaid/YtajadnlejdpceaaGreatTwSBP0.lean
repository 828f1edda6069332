import Derived.Test.YtajadnlejdpceaaGreatTwSB
import Derived.Test.YtajadnlejdpceaaGreatTlPlain
set_option linter.unusedVariables false
set_option linter.unusedSimpArgs false
set_option maxRecDepth 100000
set_option maxHeartbeats 1000000
namespace Go.Proofs.YtajadnlejdpceaaGreat.Tw
open Go Go.TL Go.Proofs
def zD.sz (x : zD) : Nat := x.Rows.length + x.Pv.length
theorem zI0 (n : Nat) : Y4 n = QI n := by
 funext m
 induction m with
 | zero => rfl
 | succ m ih => funext x i y; simp only [Y4,QI,ih]
theorem zKU (n : Nat) : zCV n = JG n := by
 funext x i; simp only [zCV,JG,zI0]; rfl
theorem zDw (n : Nat) (x : zD) (id : Int) (h : x.Rows.length ≤ 1048580) (hn : x.Rows.length < n) : ∃ r,JG n x id = some r ∧ (r = -1 ∧ (∀ v ∈ x.Rows,v.Id ≠ id) ∨ ∃ v,0 ≤ r ∧ idx x.Rows r = some v ∧ v.Id = id) := by
 unfold JG
 have hf := zK7 (L := fun m xs i => QI n m ⟨xs,x.Pv⟩ id i) (p := fun i v => bif v.Id == id then some i else none) (fun m xs i => by
  show (bif _ then _ else _) = _
  congr 1
  congr 1
  funext v
  cases (v.Id == id) <;> rfl) x.Rows (by omega) n 0 (by omega) (by omega)
 rcases hf with ⟨e1,e2⟩ | ⟨j,hj,r,e1,e2,e3,e4⟩
 ·rw [show QI n n x id 0 = _ from e1]
  refine ⟨-1,rfl,.inl ⟨rfl,fun v hv => ?_⟩⟩
  obtain ⟨j,hj,rfl⟩ := List.getElem_of_mem hv
  have := e2 j hj (by omega)
  intro hid
  simp [hid] at this
 ·rw [show QI n n x id 0 = _ from e4]
  have hid : (x.Rows[j].Id == id) = true := by
   cases hc : (x.Rows[j].Id == id) with
   | true => rfl
   | false => rw [hc] at e2; cases e2
  rw [hid] at e2
  cases e2
  exact ⟨_,rfl,.inr ⟨_,by omega,zI hj,by simpa using hid⟩⟩
theorem zAX (n : Nat) (a b c : Int) : Tot (zR n a b c) := Tot.bif (fun _ => .of) (fun _ => .of)
theorem zB2 (n : Nat) : JE n = zo n := rfl
theorem zBQ (n : Nat) (v : Vec) : Tot (zo n v) := by
 unfold zo
 repeat' first | exact Tot.of | refine Tot.bind (zAX _ _ _ _) fun _ _ => ?_ | refine Tot.bif (fun _ => ?_) (fun _ => ?_)
theorem zI1 (n : Nat) : zCm n = YQ n := rfl
theorem zIW (n : Nat) (v : Vec) (c : Int) : Tot (YQ n v c) := by
 unfold YQ
 repeat' first | exact Tot.of | refine Tot.bind (zAX _ _ _ _) fun _ _ => ?_ | refine Tot.bind (zBQ _ _) fun _ _ => ?_ | refine Tot.bif (fun _ => ?_) (fun _ => ?_)
theorem zFY (n : Nat) : zAr n = Y5 n := rfl
theorem zEy (n : Nat) (v u : Vec) : Tot (Y5 n v u) := by
 unfold Y5
 repeat' first | exact Tot.of | refine Tot.bif (fun _ => ?_) (fun _ => ?_)
theorem zDd (n : Nat) (x0 : Int) (x1 : List Pt) (h : x1.length ≤ 1048576) : ∀ (m k : Nat) (y2 y3 y4 y5 y6 y7 y8 y9 y10 : Int),k ≤ x1.length → x1.length < m + k → Tot (qE n m x0 x1 k y2 y3 y4 y5 y6 y7 y8 y9 y10)
 | 0,k,y2,y3,y4,y5,y6,y7,y8,y9,y10,h1,h2 => by omega
 | m + 1,k,y2,y3,y4,y5,y6,y7,y8,y9,y10,h1,h2 => by
  rw [qE]
  refine Tot.step (fun hk => ?_) .of
  have ih := fun y2 y3 y4 y5 y6 y7 y8 y9 y10 => zDd n x0 x1 h m (k + 1) y2 y3 y4 y5 y6 y7 y8 y9 y10 (by omega) (by omega)
  simp only [Z6,vQ k]
  repeat' first | exact ih _ _ _ _ _ _ _ _ _ | exact Tot.of | refine Tot.bind (zM2 hk) fun _ _ => ?_ | refine Tot.bind (zIW _ _ _) fun _ _ => ?_ | refine Tot.bind (zEy _ _ _) fun _ _ => ?_ | refine Tot.bif (fun _ => ?_) (fun _ => ?_)
theorem zCM (n : Nat) (x0 : Int) (x1 : List Pt) (h : x1.length ≤ 1048576) (hn : x1.length < n) : Tot (Qi n x0 x1) := by
 unfold Qi
 refine Tot.bind (zDd n x0 x1 h n 0 _ _ _ _ _ _ _ _ _ (by omega) (by omega)) fun o _ => ?_
 cases o <;> exact Tot.of
theorem zHo (n : Nat) : qd n = qE n := by
 funext m
 induction m with
 | zero => rfl
 | succ m ih =>
  funext x0 x1 y1 y2 y3 y4 y5 y6 y7 y8 y9 y10
  simp only [qd,qE,ih,QT,Z6,zI1,zFY]
  cases idx x1 y1 <;> rfl
theorem zFX (n : Nat) : Jj n = Qi n := by
 funext x i; simp only [Jj,Qi,zHo]; rfl
theorem zDI (n : Nat) : zAK n = qi n := by
 funext x i y; simp only [zAK,qi,zFX]
theorem zC1 (n : Nat) (x0 : Int) (x1 : List Pt) (x2 : Int) (h : x1.length ≤ 1048576) (hn : x1.length < n) : Tot (qi n x0 x1 x2) := Tot.bind (zCM n x0 x1 h hn) fun _ _ => .of
theorem zJj (n : Nat) : zBb n = JY n := by
 funext x i y; simp only [zBb,JY,zFX,zDI,zFY]; rfl
theorem zJ3 (n : Nat) (x0 : Int) (x1 : List Pt) (x2 : Int) (h : x1.length ≤ 1048576) (hn : x1.length < n) : ∃ r,JY n x0 x1 x2 = some r ∧ 1 ≤ r ∧ r ≤ 4 := by
 unfold JY zR
 rw [wQ]
 obtain ⟨b,hb⟩ := zCM n x0 x1 h hn
 obtain ⟨s,hs⟩ := zC1 n x0 x1 x2 h hn
 by_cases h1 : x2 ≥ 0
 ·by_cases h2 : x2 ≤ (x1.length : Int) - 1
  ·obtain ⟨v,hv,_⟩ := zDE (xs := x1) h1 (by omega)
   obtain ⟨l,hl⟩ := zEy n s v.Hd
   simp only [tQ h1,tQ h2,cQ,bQ,nQ,fQ,hb,hs,hv,hl]
   cases v.Up <;> cases (b.2 == x2) <;> cases v.Has <;> cases l <;> exact ⟨_,rfl,by decide,by decide⟩
  ·simp only [tQ h1,dQ h2,cQ,bQ,Bool.not_false]
   exact ⟨_,rfl,by decide,by decide⟩
 ·simp only [dQ h1,fQ,bQ,Bool.not_false,cQ]
  exact ⟨_,rfl,by decide,by decide⟩
theorem zOz {k : Nat} (h : k ≤ 1099511627776) : IntKind.wrap .u64 (k : Int) = k := by
 show ((k : Int) % 18446744073709551616) = k
 omega
theorem zEe (n : Nat) (x0 : Int) (x1 : List Pt) (h : x1.length ≤ 1048576) (hn : x1.length < n) : ∀ (m k : Nat) (y2 : Int),k ≤ x1.length → x1.length < m + k → QF n m x0 x1 k y2 = QK n m x0 x1 k y2 ∧ Tot (QK n m x0 x1 k y2)
 | 0,k,y2,h1,h2 => by omega
 | m + 1,k,y2,h1,h2 => by
  rw [QK,QF]
  by_cases hk : k < x1.length
  ·have ih := fun y2 => zEe n x0 x1 h hn m (k + 1) y2 (by omega) (by omega)
   obtain ⟨r,hr,r1,r2⟩ := zJ3 n x0 x1 k h hn
   have hk' : decide ((k : Int) < (x1.length : Int)) = true := tQ (by omega)
   have h0 : decide ((0 : Int) ≤ (k : Int)) = true := tQ (by omega)
   simp only [hk',vQ k,zOz (by omega : k ≤ 1099511627776),zJj,hr,bQ,h0,cQ,(ih _).1,true_and]
   have hc : r = 1 ∨ r = 2 ∨ r = 3 ∨ r = 4 := by omega
   rcases hc with rfl | rfl | rfl | rfl <;> cases (decide ((k : Int) < 6)) <;> first | exact ⟨rfl,(ih _).2⟩ | exact ⟨by trivial,Tot.of⟩
  ·have hk' : decide ((k : Int) < (x1.length : Int)) = false := dQ (by omega)
   rw [hk']
   exact ⟨by trivial,Tot.of⟩
theorem zJF (n : Nat) (x0 : Int) (x1 : List Pt) (h : x1.length ≤ 1048576) (hn : x1.length < n) : zCW n x0 x1 = QJ n x0 x1 ∧ Tot (QJ n x0 x1) := by
 obtain ⟨h1,o,h2⟩ := zEe n x0 x1 h hn n 0 0 (by omega) (by omega)
 unfold zCW QJ
 have e1 : QF n n x0 x1 0 0 = some o := h1.trans h2
 have e2 : QK n n x0 x1 0 0 = some o := h2
 rw [e1,e2]
 cases o <;> exact ⟨by trivial,Tot.of⟩
theorem ZD (n : Nat) : qK n = zR n := rfl
theorem zP (n : Nat) (a b c : Int) : zR n a b c = some (decide (b ≤ a) && decide (a ≤ c)) := by
 unfold zR
 by_cases h : a ≥ b
 ·rw [tQ h]; rfl
 ·rw [dQ h]; rfl
theorem zFh {p : Int} (h0 : 1 ≤ p) (h1 : p ≤ 6) : ∃ a : Int,0 ≤ a ∧ a < 9223372036854775808 ∧ (IntKind.wrap .i64 ((IntKind.wrap .i64 (1 * 2 ^ min ((IntKind.wrap .u64 p)).toNat (IntKind.bits .i64))) - 1)) = a ∧ (IntKind.wrap .i64 ((IntKind.wrap .i64 (1 * 2 ^ min (p).toNat (IntKind.bits .i64))) - 1)) = a ∧ decide (0 ≤ (IntKind.wrap .u64 p)) = true ∧ decide (0 ≤ p) = true := by
 have hc : p = 1 ∨ p = 2 ∨ p = 3 ∨ p = 4 ∨ p = 5 ∨ p = 6 := by omega
 rcases hc with rfl | rfl | rfl | rfl | rfl | rfl
 ·exact ⟨1,by decide,by decide,by decide,by decide,by decide,by decide⟩
 ·exact ⟨3,by decide,by decide,by decide,by decide,by decide,by decide⟩
 ·exact ⟨7,by decide,by decide,by decide,by decide,by decide,by decide⟩
 ·exact ⟨15,by decide,by decide,by decide,by decide,by decide,by decide⟩
 ·exact ⟨31,by decide,by decide,by decide,by decide,by decide,by decide⟩
 ·exact ⟨63,by decide,by decide,by decide,by decide,by decide,by decide⟩
theorem zDh (n : Nat) (x0 : zD) (w0 : x0.wf) (x1 : Int) (hp0 : 1 ≤ x1) (hp1 : x1 ≤ 6) (h : x0.Rows.length ≤ 1048580) : ∀ (m k : Nat),k ≤ x0.Rows.length → x0.Rows.length < m + k → QM n m x0 x1 k = ZH n m x0 x1 k ∧ Tot (ZH n m x0 x1 k)
 | 0,k,h1,h2 => by omega
 | m + 1,k,h1,h2 => by
  rw [ZH,QM]
  by_cases hk : k < x0.Rows.length
  ·obtain ⟨ih1,o,ih2⟩ := zDh n x0 w0 x1 hp0 hp1 h m (k + 1) (by omega) (by omega)
   obtain ⟨a,ha0,ha1,ha2,ha3,ha4,ha5⟩ := zFh hp0 hp1
   have hk' : decide ((k : Int) < (x0.Rows.length : Int)) = true := tQ (by omega)
   have hv : x0.Rows[k] ∈ x0.Rows := List.getElem_mem hk
   have hi := zI hk
   generalize x0.Rows[k] = v at hv hi
   have hw := w0.1.2 v hv
   have hin : Q4 n x1 = some a := by unfold Q4; rw [ha5,ha3]; rfl
   simp only [hk',vQ k,hi,bQ,cQ,ih1,ih2,hin,ZD,zP,ha2]
   have hbits := fun hm0 hm1 => zO4 (B := v.Bare) (M := v.Members) hw.2.2.1 hm0 hm1
   by_cases hm : 0 ≤ v.Members ∧ v.Members ≤ a
   ·have hb := hbits hm.1 (by omega)
    simp only [tQ hm.1,tQ hm.2,Bool.and_self,nQ,fQ]
    by_cases hz : IntKind.wrap .i64 (BitVec.ofInt (IntKind.bits .i64) v.Bare &&& ~~~BitVec.ofInt (IntKind.bits .i64) v.Members).toNat = 0
    ·have h3 := hb.1 hz
     have hz' : ((IntKind.wrap .i64 (BitVec.ofInt (IntKind.bits .i64) v.Bare &&& ~~~BitVec.ofInt (IntKind.bits .i64) v.Members).toNat) != 0) = false := by rw [hz]; rfl
     have hy' : ((IntKind.wrap .i64 (BitVec.ofInt (IntKind.bits .i64) v.Bare &&& BitVec.ofInt (IntKind.bits .i64) v.Members).toNat) != v.Bare) = false := by rw [h3.2.2]; simp
     simp only [hz',hy',tQ h3.1,tQ (show v.Bare ≤ a by omega),Bool.and_self,nQ,fQ]
     cases k with
     | zero => cases (decide (1 ≤ v.Id) && decide (v.Id ≤ 99)) <;> exact ⟨by trivial,Tot.of⟩
     | succ k =>
      have hw2 : IntKind.wrap .i64 (((k + 1 : Nat) : Int) - 1) = (k : Int) := by rw [wQ]; omega
      have hpos : decide (((k + 1 : Nat) : Int) > 0) = true := tQ (by omega)
      simp only [hw2,hpos,cQ,zI (show k < x0.Rows.length by omega),bQ]
      cases (decide (1 ≤ v.Id) && decide (v.Id ≤ 99)) <;> cases (decide ((x0.Rows[k]'(by omega)).Id ≥ v.Id)) <;> exact ⟨by trivial,Tot.of⟩
    ·have hz' : ((IntKind.wrap .i64 (BitVec.ofInt (IntKind.bits .i64) v.Bare &&& ~~~BitVec.ofInt (IntKind.bits .i64) v.Members).toNat) != 0) = true := by simpa using hz
     have h3 : (decide (0 ≤ v.Bare) && decide (v.Bare ≤ a)) = false ∨ ((IntKind.wrap .i64 (BitVec.ofInt (IntKind.bits .i64) v.Bare &&& BitVec.ofInt (IntKind.bits .i64) v.Members).toNat) != v.Bare) = true := by
      by_cases hq : ((IntKind.wrap .i64 (BitVec.ofInt (IntKind.bits .i64) v.Bare &&& BitVec.ofInt (IntKind.bits .i64) v.Members).toNat) != v.Bare) = true
      ·exact .inr hq
      ·left
       simp at hq
       by_cases hr : 0 ≤ v.Bare ∧ v.Bare ≤ a
       ·have hle := zO5 hw.2.2.1 hm.1 (by omega) hq
        exact absurd (hb.2 ⟨hle.1,hle.2,hq⟩) hz
       ·simp only [Bool.and_eq_false_iff,decide_eq_false_iff_not]; omega
     simp only [hz',cQ]
     have hspec : (bif !(decide (0 ≤ v.Bare) && decide (v.Bare ≤ a)) then some (Sum.inr false) else bif ((IntKind.wrap .i64 (BitVec.ofInt (IntKind.bits .i64) v.Bare &&& BitVec.ofInt (IntKind.bits .i64) v.Members).toNat) != v.Bare) then some (Sum.inr false) else (bif decide ((k : Int) > 0) then (idx x0.Rows (IntKind.wrap .i64 ((k : Int) - 1))).bind fun v13 => bif decide (v13.Id ≥ v.Id) then some (Sum.inr false) else some o else some o)) = (some (Sum.inr false) : Option (Unit ⊕ Bool)) := by
      rcases h3 with h3 | h3
      ·rw [h3]; rfl
      ·rw [h3]; cases (decide (0 ≤ v.Bare) && decide (v.Bare ≤ a)) <;> rfl
     rw [hspec]
     cases k with
     | zero => cases (decide (1 ≤ v.Id) && decide (v.Id ≤ 99)) <;> exact ⟨by trivial,Tot.of⟩
     | succ k =>
      have hw2 : IntKind.wrap .i64 (((k + 1 : Nat) : Int) - 1) = (k : Int) := by rw [wQ]; omega
      have hpos : decide (((k + 1 : Nat) : Int) > 0) = true := tQ (by omega)
      simp only [hw2,hpos,cQ,zI (show k < x0.Rows.length by omega),bQ]
      cases (decide (1 ≤ v.Id) && decide (v.Id ≤ 99)) <;> cases (decide ((x0.Rows[k]'(by omega)).Id ≥ v.Id)) <;> exact ⟨by trivial,Tot.of⟩
   ·have hm' : (decide (0 ≤ v.Members) && decide (v.Members ≤ a)) = false := by
     simp only [Bool.and_eq_false_iff,decide_eq_false_iff_not]; omega
    simp only [hm',Bool.not_false,cQ]
    cases k with
    | zero => cases (decide (1 ≤ v.Id) && decide (v.Id ≤ 99)) <;> exact ⟨by trivial,Tot.of⟩
    | succ k =>
     have hw2 : IntKind.wrap .i64 (((k + 1 : Nat) : Int) - 1) = (k : Int) := by rw [wQ]; omega
     have hpos : decide (((k + 1 : Nat) : Int) > 0) = true := tQ (by omega)
     simp only [hw2,hpos,cQ,zI (show k < x0.Rows.length by omega),bQ]
     cases (decide (1 ≤ v.Id) && decide (v.Id ≤ 99)) <;> cases (decide ((x0.Rows[k]'(by omega)).Id ≥ v.Id)) <;> exact ⟨by trivial,Tot.of⟩
  ·have hk' : decide ((k : Int) < (x0.Rows.length : Int)) = false := dQ (by omega)
   rw [hk']
   exact ⟨by trivial,Tot.of⟩
theorem zDg (n : Nat) (x0 : zD) (h : x0.Rows.length ≤ 1048580) (hn : x0.Rows.length < n) (hq : x0.Pv.length ≤ 1048580) : ∀ (m k : Nat),k ≤ x0.Pv.length → x0.Pv.length < m + k → Q3 n m x0 k = ZX n m x0 k ∧ Tot (ZX n m x0 k)
 | 0,k,h1,h2 => by omega
 | m + 1,k,h1,h2 => by
  rw [ZX,Q3]
  by_cases hk : k < x0.Pv.length
  ·obtain ⟨ih1,o,ih2⟩ := zDg n x0 h hn hq m (k + 1) (by omega) (by omega)
   have hk' : decide ((k : Int) < (x0.Pv.length : Int)) = true := tQ (by omega)
   obtain ⟨r,hr,_⟩ := zDw n x0 x0.Pv[k] h hn
   simp only [hk',vQ k,zI hk,bQ,cQ,ih1,ih2,zKU,hr]
   cases decide (r < 0) <;> exact ⟨by trivial,Tot.of⟩
  ·have hk' : decide ((k : Int) < (x0.Pv.length : Int)) = false := dQ (by omega)
   rw [hk']
   exact ⟨by trivial,Tot.of⟩
theorem zIX (n : Nat) (x0 : zD) (w0 : x0.wf) (x1 : Int) (h : x0.sz ≤ 1048580) (hn : x0.sz < n) : zBc n x0 x1 = zy n x0 x1 ∧ Tot (zy n x0 x1) := by
 have hs : x0.Rows.length + x0.Pv.length = x0.sz := rfl
 unfold zBc zy
 simp only [ZD,zP,bQ]
 by_cases hp : 1 ≤ x1 ∧ x1 ≤ 6
 ·obtain ⟨a,ha0,ha1,ha2,ha3,ha4,ha5⟩ := zFh hp.1 hp.2
  obtain ⟨e1,o,e2⟩ := zDh n x0 w0 x1 hp.1 hp.2 (by omega) n 0 (by omega) (by omega)
  obtain ⟨f1,q,f2⟩ := zDg n x0 (by omega) (by omega) (by omega) n 0 (by omega) (by omega)
  have e1' : QM n n x0 x1 0 = some o := e1.trans e2
  have e2' : ZH n n x0 x1 0 = some o := e2
  have f1' : Q3 n n x0 0 = some q := f1.trans f2
  have f2' : ZX n n x0 0 = some q := f2
  simp only [tQ hp.1,tQ hp.2,Bool.and_self,nQ,fQ,ha4,cQ,e1',e2',bQ]
  cases o with
  | inl u =>
   simp only [zAL,Yc,f1',f2',bQ]
   cases q <;> exact ⟨rfl,Tot.bif (fun _ => .of) fun _ => Tot.bif (fun _ => .of) fun _ => .of⟩
  | inr r => exact ⟨rfl,Tot.bif (fun _ => .of) fun _ => Tot.bif (fun _ => .of) fun _ => .of⟩
 ·have hp' : (decide (1 ≤ x1) && decide (x1 ≤ 6)) = false := by
   simp only [Bool.and_eq_false_iff,decide_eq_false_iff_not]; omega
  rw [hp']
  exact ⟨by trivial,Tot.of⟩
theorem J7 (n : Nat) (x : zD) (h : x.sz ≤ 268435456) : ZY n x = some x := by
 have hs : x.Rows.length + x.Pv.length = x.sz := rfl
 unfold ZY
 simp only [List.length_nil,Nat.zero_add,tQ (show x.Rows.length ≤ 268435456 by omega),tQ (show x.Pv.length ≤ 268435456 by omega),cQ,List.nil_append]
theorem zIS (n : Nat) (x : zD) (h : x.sz ≤ 268435456) : zAM n x = some x := by
 have hs : x.Rows.length + x.Pv.length = x.sz := rfl
 unfold zAM zB4
 simp only [List.length_nil,Nat.zero_add,tQ (show x.Rows.length ≤ 268435456 by omega),tQ (show x.Pv.length ≤ 268435456 by omega),cQ,List.nil_append,bQ]
theorem zJp {α : Type} {wf : α → Prop} {xs ys : List α} (h : Q5 wf xs) (hs : ∀ y ∈ ys,y ∈ xs) (hl : ys.length ≤ xs.length) : Q5 wf ys := ⟨Nat.le_trans hl h.1,fun y hy => h.2 y (hs y hy)⟩
theorem zB7 {α : Type} {wf : α → Prop} {xs : List α} {i : Nat} {v : α} (h : Q5 wf xs) (hv : wf v) : Q5 wf (xs.set i v) := ⟨by rw [List.length_set]; exact h.1,fun y hy => by
 rcases List.mem_or_eq_of_mem_set hy with h1 | h1
 ·exact h.2 y h1
 ·rw [h1]; exact hv⟩
def zA.sz (x : zA) : Nat := x.Name.size + x.Ps.length + x.F.length + x.V.sz
theorem zLR (n : Nat) : zDH n = qC n := by
 funext v
 unfold zDH qC
 rw [ZD,zB2]
 obtain ⟨b,hb⟩ := zAX n v.Co 1 1000
 rw [hb]
 cases b <;> cases v.Up <;> cases v.Has <;> rfl
theorem zGe (n : Nat) (v : Pt) : Tot (qC n v) := by
 unfold qC
 repeat' first | exact Tot.of | refine Tot.bind (zAX _ _ _ _) fun _ _ => ?_ | refine Tot.bind (zBQ _ _) fun _ _ => ?_ | refine Tot.bif (fun _ => ?_) (fun _ => ?_)
theorem zDY (n : Nat) (v : zB) : Tot (ZR n v) := by
 unfold ZR
 repeat' first | exact Tot.of | refine Tot.bind (zAX _ _ _ _) fun _ _ => ?_ | refine Tot.bif (fun _ => ?_) (fun _ => ?_)
theorem zJm (n : Nat) : zDM n = ZR n := rfl
theorem zJl (n : Nat) (v u : zB) : zBd n u v.Tag v.Mac = Zm n v u.Tag u.Mac := by
 unfold zBd Zm
 by_cases h1 : v.Tag = u.Tag
 ·simp [h1]
 ·have e1 : (v.Tag != u.Tag) = true := by simpa using h1
  have e2 : (u.Tag == v.Tag) = false := by simpa using fun e : u.Tag = v.Tag => h1 e.symm
  rw [e1,e2]
  by_cases h2 : v.Tag < u.Tag
  ·rw [tQ h2]; rfl
  ·rw [dQ h2]; rfl
theorem zE6 (n : Nat) (v : zB) (a b : Int) : Tot (Zm n v a b) := Tot.bif (fun _ => .of) (fun _ => .of)
theorem zEd (n : Nat) (xs : List zB) (h : xs.length ≤ 1048580) : ∀ (m k : Nat),k ≤ xs.length → xs.length < m + k → Qg n m xs k = qY n m xs k ∧ Tot (qY n m xs k)
 | 0,k,h1,h2 => by omega
 | m + 1,k,h1,h2 => by
  rw [qY,Qg]
  by_cases hk : k < xs.length
  ·obtain ⟨ih1,o,ih2⟩ := zEd n xs h m (k + 1) (by omega) (by omega)
   rw [zp hk]
   obtain ⟨a,ha⟩ := zDY n xs[k]
   simp only [vQ k,zI hk,bQ,cQ,ih1,ih2,zJm,ha]
   cases k with
   | zero => cases a <;> exact ⟨by trivial,Tot.of⟩
   | succ k =>
    have hw2 : IntKind.wrap .i64 (((k + 1 : Nat) : Int) - 1) = (k : Int) := by rw [wQ]; omega
    have hpos : decide (((k + 1 : Nat) : Int) > 0) = true := tQ (by omega)
    obtain ⟨b,hb⟩ := zE6 n (xs[k]'(by omega)) xs[k + 1].Tag xs[k + 1].Mac
    simp only [hw2,hpos,cQ,zI (show k < xs.length by omega),bQ,zJl,hb]
    cases a <;> cases b <;> exact ⟨by trivial,Tot.of⟩
  ·have he : k = xs.length := by omega
   rw [he,zf]
   exact ⟨rfl,Tot.of⟩
theorem zJB (n : Nat) (xs : List zB) (h : xs.length ≤ 1048580) (hn : xs.length < n) : ∃ b,ZQ n xs = some b ∧ zCU n xs = some b := by
 obtain ⟨e1,o,e2⟩ := zEd n xs h n 0 (by omega) (by omega)
 have e1' : Qg n n xs 0 = some o := e1.trans e2
 have e2' : qY n n xs 0 = some o := e2
 unfold ZQ zCU
 rw [e1',e2']
 cases o <;> exact ⟨_,rfl,rfl⟩
theorem zHU (n : Nat) : Qq n = z6 n := by
 funext m
 induction m with
 | zero => rfl
 | succ m ih => funext x i; simp only [Qq,z6,ih,zLR]
theorem zDR (n : Nat) (x : zA) (h : x.Ps.length ≤ 1048580) : ∀ (m k : Nat),k ≤ x.Ps.length → x.Ps.length < m + k → Tot (z6 n m x k)
 | 0,k,h1,h2 => by omega
 | m + 1,k,h1,h2 => by
  rw [z6]
  refine Tot.step (fun hk => ?_) .of
  have ih := zDR n x h m (k + 1) (by omega) (by omega)
  rw [vQ k]
  exact Tot.bind (zM2 hk) fun _ _ => Tot.bind (zGe _ _) fun _ _ => Tot.bif (fun _ => .of) fun _ => ih
theorem Zw (n : Nat) (x : zA) (wx : x.wf) (h : x.sz ≤ 1048580) (hn : x.sz < n) : ∃ b,zU n x = some b ∧ Q0 n x = some b := by
 have hs : x.Name.size + x.Ps.length + x.F.length + x.V.sz = x.sz := rfl
 obtain ⟨o,ho⟩ := zDR n x (by omega) n 0 (by omega) (by omega)
 have ho' : z6 n n x 0 = some o := ho
 obtain ⟨f,hf1,hf2⟩ := zJB n x.F (by omega) (by omega)
 obtain ⟨g,v,hv⟩ := zIX n x.V ⟨wx.2.2.2.2.1,wx.2.2.2.2.2.1,trivial⟩ (x.Ps.length : Int) (by omega) (by omega)
 unfold zU Q0
 rw [zHU,ho',bQ,bQ]
 cases o with
 | inr r => exact ⟨_,rfl,rfl⟩
 | inl u =>
  simp only [Qs,JS,ZD,YP,Y2,zP,hf1,hf2,g,hv,bQ]
  have hname : decide ((x.Name.size : Int) > 10) = !decide ((x.Name.size : Int) ≤ 10) := by
   by_cases h : (x.Name.size : Int) ≤ 10
   ·rw [tQ h,dQ (by omega)]; rfl
   ·rw [dQ h,tQ (by omega)]; rfl
  rw [hname]
  generalize decide ((x.Name.size : Int) ≤ 10) = b1
  generalize (decide (1 ≤ x.Id) && decide (x.Id ≤ 99)) = b2
  generalize (decide (1 ≤ (x.Ps.length : Int)) && decide ((x.Ps.length : Int) ≤ 6)) = b3
  generalize (decide (0 ≤ x.Tk) && decide (x.Tk ≤ 1000000)) = b4
  generalize (decide (0 ≤ x.Pa) && decide (x.Pa ≤ 1000000)) = b5
  generalize (decide (0 ≤ x.Wo) && decide (x.Wo ≤ 1000000)) = b6
  generalize (decide (0 ≤ x.Dr) && decide (x.Dr ≤ 1000000)) = b7
  generalize (decide (0 ≤ x.Ve) && decide (x.Ve ≤ 1000000)) = b8
  clear hf1 hf2 g hv hname
  revert f v b1 b2 b3 b4 b5 b6 b7 b8
  decide +kernel
def Net.sz (x : Net) : Nat := (x.Bs.length + Qo zA.sz x.Bs) + x.Ls.length + x.Said.length
theorem zF0 (n : Nat) (x : Net) (i j : Int) (wx : x.wf) (h : x.Bs.length ≤ 1048580) : ∃ p b,Qd n x i j = some (p,b) ∧ JI n x i j = some (b && p.Up) := by
 have hw : IntKind.wrap .i64 ((x.Bs.length : Int) - 1) = (x.Bs.length : Int) - 1 := wQ
 unfold Qd JI
 simp only [ZD,zP,hw,bQ]
 by_cases hi : 0 ≤ i ∧ i ≤ (x.Bs.length : Int) - 1
 ·obtain ⟨v,hv,hm⟩ := zDE (xs := x.Bs) hi.1 (by omega)
  have hl := (wx.1.2 v hm).2.2.1.1
  have hmx : maxLen = 9223372036854775807 := by decide
  have hw2 : IntKind.wrap .i64 ((v.Ps.length : Int) - 1) = (v.Ps.length : Int) - 1 := wQ
  simp only [tQ hi.1,tQ hi.2,Bool.and_self,nQ,fQ,cQ,hv,bQ,hw2]
  by_cases hj : 0 ≤ j ∧ j ≤ (v.Ps.length : Int) - 1
  ·obtain ⟨p,hp,_⟩ := zDE (xs := v.Ps) hj.1 (by omega)
   simp only [tQ hj.1,tQ hj.2,Bool.and_self,nQ,fQ,cQ,hp,bQ]
   exact ⟨p,true,rfl,by simp⟩
  ·have hj' : (decide (0 ≤ j) && decide (j ≤ (v.Ps.length : Int) - 1)) = false := by
    simp only [Bool.and_eq_false_iff,decide_eq_false_iff_not]; omega
   simp only [hj',Bool.not_false,cQ,fQ]
   exact ⟨_,false,rfl,rfl⟩
 ·have hi' : (decide (0 ≤ i) && decide (i ≤ (x.Bs.length : Int) - 1)) = false := by
   simp only [Bool.and_eq_false_iff,decide_eq_false_iff_not]; omega
  simp only [hi',Bool.not_false,cQ,fQ]
  exact ⟨_,false,rfl,rfl⟩
theorem zEz (n : Nat) (x : Net) (i : Int) (wx : x.wf) (h : x.sz ≤ 1048580) : ∃ b,ZW n x i = some b ∧ Z9 n x i = some b := by
 unfold Net.sz at h
 have hw : IntKind.wrap .i64 ((x.Ls.length : Int) - 1) = (x.Ls.length : Int) - 1 := wQ
 unfold ZW Z9
 simp only [ZD,zP,hw,bQ]
 by_cases hi : 0 ≤ i ∧ i ≤ (x.Ls.length : Int) - 1
 ·obtain ⟨v,hv,hm⟩ := zDE (xs := x.Ls) hi.1 (by omega)
  obtain ⟨p,b,h1,h2⟩ := zF0 n x v.A v.P wx (by omega)
  obtain ⟨p',b',h1',h2'⟩ := zF0 n x v.B v.Q wx (by omega)
  simp only [tQ hi.1,tQ hi.2,Bool.and_self,nQ,fQ,hv,bQ,h1,h2,h1',h2']
  cases b <;> cases b' <;> cases p.Up <;> cases p'.Up <;> exact ⟨_,rfl,rfl⟩
 ·have hi' : (decide (0 ≤ i) && decide (i ≤ (x.Ls.length : Int) - 1)) = false := by
   simp only [Bool.and_eq_false_iff,decide_eq_false_iff_not]; omega
  simp only [hi',Bool.not_false,cQ]
  exact ⟨_,rfl,rfl⟩
def Src.ok (c : Src) : Prop := 0 ≤ c.i ∧ c.b.length ≤ 1099511627776
theorem zNk (z : Int) : ∃ v : Int,(IntKind.wrap .i64 (BitVec.ofInt (IntKind.bits .i64) z &&& BitVec.ofInt (IntKind.bits .i64) 255).toNat) = v ∧ 0 ≤ v ∧ v ≤ 255 := by
 have h : (BitVec.ofInt 64 z &&& BitVec.ofInt 64 255).toNat ≤ 255 := by
  rw [BitVec.toNat_and]
  exact Nat.le_trans Nat.and_le_right (by decide)
 refine ⟨((BitVec.ofInt 64 z &&& BitVec.ofInt 64 255).toNat : Int),?_,by omega,by omega⟩
 exact wrap64 (z := ((BitVec.ofInt 64 z &&& BitVec.ofInt 64 255).toNat : Int)) (by omega) (by omega)
theorem zBW (n : Nat) (c : Src) (h : c.ok) : ∃ v c',Yv n c = some (v,c') ∧ 0 ≤ v ∧ v ≤ 255 ∧ c'.ok := by
 unfold Yv
 rw [show decide ((0 : Int) ≤ 33) = true from rfl,show decide ((0 : Int) ≤ 47) = true from rfl]
 simp only [cQ]
 by_cases hi : c.i < (c.b.length : Int)
 ·obtain ⟨v,hv,_⟩ := zDE (xs := c.b) h.1 hi
  rw [tQ hi,hv,wrap64 (z := c.i + 1) (by have := h.1; omega) (by have := h.2; omega)]
  obtain ⟨w,e,e1,e2⟩ := zNk (IntKind.wrap .i64 ((IntKind.wrap .i64 (BitVec.ofInt (IntKind.bits .i64) (IntKind.wrap .i64 (BitVec.ofInt (IntKind.bits .i64) (Int.fdiv (IntKind.wrap .i64 ((IntKind.wrap .i64 (c.h * 6364136223846793005)) + 1442695040888963407)) (2 ^ min ((33 : Int)).toNat (IntKind.bits .i64))) ^^^ BitVec.ofInt (IntKind.bits .i64) (Int.fdiv (IntKind.wrap .i64 ((IntKind.wrap .i64 (c.h * 6364136223846793005)) + 1442695040888963407)) (2 ^ min ((47 : Int)).toNat (IntKind.bits .i64)))).toNat) &&& BitVec.ofInt (IntKind.bits .i64) 255).toNat) + (IntKind.wrap .i64 v)))
  simp only [cQ,bQ]
  exact ⟨_,_,rfl,by rw [e]; exact e1,by rw [e]; exact e2,by have := h.1; show 0 ≤ c.i + 1; omega,h.2⟩
 ·rw [dQ hi]
  obtain ⟨w,e,e1,e2⟩ := zNk (IntKind.wrap .i64 (BitVec.ofInt (IntKind.bits .i64) (Int.fdiv (IntKind.wrap .i64 ((IntKind.wrap .i64 (c.h * 6364136223846793005)) + 1442695040888963407)) (2 ^ min ((33 : Int)).toNat (IntKind.bits .i64))) ^^^ BitVec.ofInt (IntKind.bits .i64) (Int.fdiv (IntKind.wrap .i64 ((IntKind.wrap .i64 (c.h * 6364136223846793005)) + 1442695040888963407)) (2 ^ min ((47 : Int)).toNat (IntKind.bits .i64)))).toNat)
  simp only [fQ]
  exact ⟨_,_,rfl,by rw [e]; exact e1,by rw [e]; exact e2,h.1,h.2⟩
theorem zNC {v k : Int} (h0 : 0 ≤ v) (hk : 0 < k) : 0 ≤ Int.tmod v k ∧ Int.tmod v k < k := by
 rw [Int.tmod_eq_emod_of_nonneg h0]
 exact ⟨Int.emod_nonneg _ (by omega),Int.emod_lt_of_pos _ hk⟩
theorem zF (n : Nat) (c : Src) (k : Int) (h : c.ok) : ∃ v c',zG n c k = some (v,c') ∧ 0 ≤ v ∧ (0 < k → v < k) ∧ c'.ok := by
 unfold zG
 by_cases h1 : k ≤ 0
 ·rw [tQ h1]
  exact ⟨0,c,rfl,by omega,fun h => by omega,h⟩
 ·rw [dQ h1]
  have hne : decide ((k : Int) ≠ 0) = true := tQ (by omega)
  by_cases h2 : k ≤ 256
  ·rw [tQ h2]
   obtain ⟨v,c',e,e1,e2,e3⟩ := zBW n c h
   simp only [cQ,fQ,e,bQ,hne]
   obtain ⟨t1,t2⟩ := zNC e1 (show 0 < k by omega)
   exact ⟨_,_,rfl,t1,fun _ => t2,e3⟩
  ·rw [dQ h2]
   obtain ⟨v1,c1,e,e1,e2,e3⟩ := zBW n c h
   obtain ⟨v2,c2,f,f1,f2,f3⟩ := zBW n c1 e3
   obtain ⟨v3,c3,g,g1,g2,g3⟩ := zBW n c2 f3
   simp only [fQ,e,f,g,bQ,hne,cQ]
   simp (disch := omega) only [wrap64]
   obtain ⟨t1,t2⟩ := zNC (show 0 ≤ v1 * 65536 + v2 * 256 + v3 by omega) (show 0 < k by omega)
   exact ⟨_,_,rfl,t1,fun _ => t2,g3⟩
theorem J6 (n : Nat) (c : Src) (k : Int) (h : c.ok) : ∃ v c',QC n c k = some (v,c') ∧ c'.ok := by
 obtain ⟨v,c',e,_,_,e3⟩ := zF n c k h
 unfold QC
 rw [e]
 exact ⟨_,_,rfl,e3⟩
theorem za (n : Nat) (c : Src) (xs : List Int) (h : c.ok) (hx : 0 < xs.length) : ∃ v c',zX n c xs = some (v,c') ∧ v ∈ xs ∧ c'.ok := by
 obtain ⟨v,c',e,e1,e2,e3⟩ := zF n c (xs.length : Int) h
 obtain ⟨u,hu,hm⟩ := zDE (xs := xs) e1 (e2 (by omega))
 unfold zX
 simp only [e,hu,bQ]
 exact ⟨_,_,rfl,hm,e3⟩
theorem zE4 (n : Nat) (x0 : List Int) (h : x0.length ≤ 1048580) : ∀ (m k : Nat) (y : Int),k ≤ x0.length → x0.length < m + k → ∃ v,YV n m x0 k y = some (.inl v)
 | 0,k,y,h1,h2 => by omega
 | m + 1,k,y,h1,h2 => by
  rw [YV]
  by_cases hk : k < x0.length
  ·rw [zp hk,zI hk,zFr (by omega)]
   by_cases h4 : (k : Int) < 4000
   ·rw [tQ h4]
    simp only [cQ,bQ]
    exact zE4 n x0 h m (k + 1) _ (by omega) (by omega)
   ·rw [dQ h4]
    exact ⟨_,rfl⟩
  ·have he : k = x0.length := by omega
   rw [he,zf]
   exact ⟨_,rfl⟩
theorem zKs (n : Nat) (x0 : List Int) (h : x0.length ≤ 1048580) (hn : x0.length < n) : ∃ c,JJ n x0 = some c ∧ c.ok := by
 obtain ⟨v,e⟩ := zE4 n x0 h n 0 (IntKind.wrap .i64 (762762 + (x0.length : Int))) (by omega) (by omega)
 unfold JJ
 rw [show YV n n x0 0 (IntKind.wrap .i64 (762762 + (x0.length : Int))) = _ from e]
 exact ⟨_,rfl,by show (0 : Int) ≤ 0; omega,by show x0.length ≤ _; omega⟩
theorem zEj (n : Nat) (x0 : zD) (x1 : Int) (h : x0.Rows.length ≤ 1048580) : ∀ (m k : Nat),k ≤ x0.Rows.length → x0.Rows.length < m + k → Tot (ZH n m x0 x1 k)
 | 0,k,h1,h2 => by omega
 | m + 1,k,h1,h2 => by
  rw [ZH]
  refine Tot.step (fun hk => ?_) .of
  have ih := zEj n x0 x1 h m (k + 1) (by omega) (by omega)
  simp only [zI hk,bQ,zP,vQ k]
  refine Tot.bif (fun _ => .of) fun _ => Tot.bif (fun _ => .of) fun _ => Tot.bif (fun _ => .of) fun _ => Tot.bif (fun _ => .of) fun _ => Tot.bif (fun hp => ?_) fun _ => ih
  have hp := of_decide_eq_true hp
  obtain ⟨v,hv,_⟩ := zDE (xs := x0.Rows) (i := (k : Int) - 1) (by omega) (by omega)
  rw [wQ,hv,bQ]
  exact Tot.bif (fun _ => .of) fun _ => ih
theorem zEi (n : Nat) (x0 : zD) (h : x0.Rows.length ≤ 1048580) (hn : x0.Rows.length < n) (hq : x0.Pv.length ≤ 1048580) : ∀ (m k : Nat),k ≤ x0.Pv.length → x0.Pv.length < m + k → Tot (ZX n m x0 k)
 | 0,k,h1,h2 => by omega
 | m + 1,k,h1,h2 => by
  rw [ZX]
  refine Tot.step (fun hk => ?_) .of
  have ih := zEi n x0 h hn hq m (k + 1) (by omega) (by omega)
  obtain ⟨r,hr,_⟩ := zDw n x0 x0.Pv[k] h hn
  simp only [zI hk,bQ,hr,vQ k]
  exact Tot.bif (fun _ => .of) fun _ => ih
theorem zJK (n : Nat) (x0 : zD) (p : Nat) (hp : p ≤ 1000000) (h : x0.sz ≤ 1048580) (hn : x0.sz < n) : Tot (zy n x0 p) := by
 have hs : x0.Rows.length + x0.Pv.length = x0.sz := rfl
 unfold zy
 simp only [zP,bQ]
 have hu : decide ((0 : Int) ≤ IntKind.wrap .u64 (p : Int)) = true := by rw [show IntKind.wrap .u64 (p : Int) = p from by show ((p : Int) % 18446744073709551616) = p; omega]; exact tQ (by omega)
 refine Tot.bif (fun _ => .of) fun _ => Tot.bif (fun _ => .of) fun _ => Tot.bif (fun _ => .of) fun _ => ?_
 rw [hu,cQ]
 refine Tot.bind (zEj n x0 p (by omega) n 0 (by omega) (by omega)) fun o _ => ?_
 cases o with
 | inr b => exact Tot.of
 | inl u =>
  show Tot (Yc n x0)
  unfold Yc
  refine Tot.bind (zEi n x0 (by omega) (by omega) (by omega) n 0 (by omega) (by omega)) fun o _ => ?_
  cases o <;> exact Tot.of
theorem zFg (n : Nat) (x : zD) (p : Int) (hok : zy n x p = some true) : x.Rows.length ≤ 6 ∧ (x.Pv.length : Int) = p := by
 unfold zy at hok
 simp only [zP,bQ] at hok
 revert hok
 cases (decide (1 ≤ p) && decide (p ≤ 6)) with
 | false => intro h; cases h
 | true =>
  simp only [nQ,fQ]
  by_cases hp : (x.Pv.length : Int) = p
  ·have : ((x.Pv.length : Int) != p) = false := by simp [hp]
   rw [this,fQ]
   by_cases hr : (x.Rows.length : Int) > 6
   ·rw [tQ hr]; intro h; cases h
   ·exact fun _ => ⟨by omega,hp⟩
  ·have : ((x.Pv.length : Int) != p) = true := by simp [hp]
   rw [this]; intro h; cases h
def VtG (n p : Nat) (x : zD) : Prop := x.wf ∧ x.Pv.length = p ∧ x.Rows.length ≤ 6 ∧ zy n x p = some true ∧ ∀ r ∈ x.Rows,0 ≤ r.Bare ∧ r.Bare ≤ 63
theorem VtG.sz {n p : Nat} {x : zD} (h : VtG n p x) : x.sz ≤ 6 + p := by
 have hs : x.Rows.length + x.Pv.length = x.sz := rfl
 have := h.2.1; have := h.2.2.1; omega
theorem zEu (n p : Nat) (hp : p ≤ 1000) (x y : zD) (hx : VtG n p x) (wy : y.wf) (hy : y.Pv.length = p) (hl : y.Rows.length ≤ 1000) (hb : ∀ r ∈ y.Rows,0 ≤ r.Bare ∧ r.Bare ≤ 63) (hn : 1048577 < n) : ∃ r b,zAo n y x = some (r,b) ∧ VtG n p r := by
 have hs : y.Rows.length + y.Pv.length = y.sz := rfl
 have hxs := hx.sz
 obtain ⟨b,e⟩ := zJK n y p (by omega) (by omega) (by omega)
 unfold zAo
 rw [hx.2.1,e,bQ,J7 n x (by omega)]
 cases b
 ·exact ⟨x,false,rfl,hx⟩
 ·exact ⟨y,true,rfl,wy,hy,(zFg n y p e).1,e,hb⟩
theorem zJG (n p : Nat) (hp : p ≤ 1000) (x : zD) (hx : VtG n p x) (i id : Int) (wi : zh id) (hn : 1048577 < n) : ∃ r b,zAz n x i id = some (r,b) ∧ VtG n p r := by
 have hxs := hx.sz
 have hpl := hx.2.1
 have hw : IntKind.wrap .i64 ((p : Int) - 1) = (p : Int) - 1 := wQ
 unfold zAz
 simp only [hpl,hx.2.2.2.1,bQ,nQ,fQ,zP,hw,J7 n x (by omega)]
 by_cases hi : 0 ≤ i ∧ i ≤ (p : Int) - 1
 ·obtain ⟨v,hv,_⟩ := zDE (xs := x.Pv) hi.1 (by omega)
  obtain ⟨r,b,e,g⟩ := zEu n p hp x ⟨x.Rows,x.Pv.set i.toNat id⟩ hx ⟨hx.1.1,zB7 hx.1.2.1 wi,trivial⟩ (by simp [hpl]) (by have := hx.2.2.1; show x.Rows.length ≤ 1000; omega) hx.2.2.2.2 hn
  rw [tQ hi.1,tQ hi.2]
  simp only [Bool.and_self,nQ,fQ,hv,bQ,e]
  exact ⟨r,b,rfl,g⟩
 ·have hp' : (decide (0 ≤ i) && decide (i ≤ (p : Int) - 1)) = false := by
   simp only [Bool.and_eq_false_iff,decide_eq_false_iff_not]; omega
  rw [hp']
  exact ⟨x,false,rfl,hx⟩
theorem zJA (n p : Nat) (hp : p ≤ 1000) (x : zD) (hx : VtG n p x) (id : Int) (hn : 1048577 < n) : ∃ r b,Jl n x id = some (r,b) ∧ VtG n p r := by
 have hxs := hx.sz
 have hpl := hx.2.1
 have h6 := hx.2.2.1
 obtain ⟨r,hr,hk⟩ := zDw n x id (by omega) (by omega)
 rcases hk with ⟨rfl,_⟩ | ⟨v,h0,hv,_⟩
 ·refine ⟨x,false,?_,hx⟩
  simp only [Jl,hr,hpl,hx.2.2.2.1,bQ,J7 n x (by omega)]
  rfl
 ·obtain ⟨g1,g2⟩ := zK hv
  have hlt : r.toNat < x.Rows.length := (List.getElem?_eq_some_iff.1 g2).1
  obtain ⟨k,rfl⟩ : ∃ k : Nat,r = k := ⟨r.toNat,by omega⟩
  simp only [Int.toNat_natCast] at hlt
  have hw : IntKind.wrap .i64 ((k : Int) + 1) = ((k + 1 : Nat) : Int) := zFr (by omega)
  have hlist : (([] : List zC) ++ ((x.Rows.drop ((0 : Int)).toNat).take (((k : Int)).toNat - ((0 : Int)).toNat))) ++ ((x.Rows.drop ((((k + 1 : Nat) : Int))).toNat).take ((((x.Rows.length : Int) : Int)).toNat - ((((k + 1 : Nat) : Int))).toNat)) = x.Rows.take k ++ x.Rows.drop (k + 1) := by
   simp only [Int.toNat_natCast,List.nil_append,show ((0 : Int)).toNat = 0 from rfl,List.drop_zero,Nat.sub_zero]
   congr 1
   exact List.take_of_length_le (by simp)
  have hmem : ∀ y ∈ x.Rows.take k ++ x.Rows.drop (k + 1),y ∈ x.Rows := fun y hy => by
   rcases List.mem_append.1 hy with h | h
   ·exact List.mem_of_mem_take h
   ·exact List.mem_of_mem_drop h
  obtain ⟨y,b,e,g⟩ := zEu n p hp x ⟨x.Rows.take k ++ x.Rows.drop (k + 1),x.Pv⟩ hx ⟨zJp hx.1.1 hmem (by simp; omega),hx.1.2⟩ hpl (by show (x.Rows.take k ++ x.Rows.drop (k + 1)).length ≤ 1000; simp; omega) (fun r hr => hx.2.2.2.2 r (hmem r hr)) hn
  have hg1 : (decide ((0 : Int) ≤ 0) && (decide ((0 : Int) ≤ (k : Int)) && decide ((k : Int) ≤ (x.Rows.length : Int)))) = true := by
   rw [tQ (by omega : (0 : Int) ≤ (k : Int)),tQ (by omega : (k : Int) ≤ (x.Rows.length : Int))]; rfl
  have hg2 : (decide ((0 : Int) ≤ ((k + 1 : Nat) : Int)) && (decide ((((k + 1 : Nat) : Int) : Int) ≤ (x.Rows.length : Int)) && decide (((x.Rows.length : Int) : Int) ≤ (x.Rows.length : Int)))) = true := by
   rw [tQ (by omega : (0 : Int) ≤ ((k + 1 : Nat) : Int)),tQ (by omega : ((k + 1 : Nat) : Int) ≤ (x.Rows.length : Int)),tQ (Int.le_refl _)]; rfl
  have hg3 : decide (([] : List zC).length + ((x.Rows.drop ((0 : Int)).toNat).take (((k : Int)).toNat - ((0 : Int)).toNat)).length ≤ 268435456) = true := tQ (by simp; omega)
  have hg4 : decide ((([] : List zC) ++ ((x.Rows.drop ((0 : Int)).toNat).take (((k : Int)).toNat - ((0 : Int)).toNat))).length + ((x.Rows.drop ((((k + 1 : Nat) : Int))).toNat).take ((((x.Rows.length : Int) : Int)).toNat - ((((k + 1 : Nat) : Int))).toNat)).length ≤ 268435456) = true := tQ (by simp; omega)
  have hn0 : decide ((k : Int) < 0) = false := dQ (by omega)
  refine ⟨y,b,?_,g⟩
  simp only [Jl,hr,hpl,hx.2.2.2.1,bQ,nQ,J7 n x (by omega),hn0,fQ,hw,hg1,hg2,hg3,hg4,cQ,hlist,e]
theorem zE9 (n : Nat) (x0 : zD) (r : zC) (h : x0.Rows.length ≤ 1000) : ∀ (m k : Nat) (d : Bool) (acc : List zC),k ≤ x0.Rows.length → x0.Rows.length < m + k → acc.length ≤ 2 * k → (∀ v ∈ acc,v = r ∨ v ∈ x0.Rows) → ∃ d' acc',ZI n m x0 r k d acc = some (.inl (d',acc')) ∧ acc'.length ≤ 2 * x0.Rows.length ∧ (∀ v ∈ acc',v = r ∨ v ∈ x0.Rows)
 | 0,k,d,acc,h1,h2,_,_ => by omega
 | m + 1,k,d,acc,h1,h2,h3,h4 => by
  rw [ZI]
  by_cases hk : k < x0.Rows.length
  ·have ih := fun d acc h3 h4 => zE9 n x0 r h m (k + 1) d acc (by omega) (by omega) h3 h4
   have hmem : x0.Rows[k] ∈ x0.Rows := List.getElem_mem hk
   have hj : ∀ b1 b2 b3 (d : Bool) (acc : List zC),acc.length ≤ 2 * k + 1 → (∀ v ∈ acc,v = r ∨ v ∈ x0.Rows) → ∃ d' acc',YY n (fun v => ZI n m x0 r v.1 v.2.1 v.2.2) x0 r k b1 b2 b3 d acc = some (.inl (d',acc')) ∧ acc'.length ≤ 2 * x0.Rows.length ∧ (∀ v ∈ acc',v = r ∨ v ∈ x0.Rows) := fun b1 b2 b3 d acc hl ha => by
    have hlen : decide (acc.length + [x0.Rows[k]].length ≤ 268435456) = true := tQ (by rw [List.length_singleton]; omega)
    simp only [YY,zI hk,bQ,hlen,cQ,vQ k]
    cases (x0.Rows[k].Id != r.Id)
    ·exact ih d acc (by omega) ha
    ·refine ih d _ (by simp; omega) fun v hv => ?_
     rcases List.mem_append.1 hv with a | a
     ·exact ha v a
     ·rw [List.mem_singleton.1 a]; exact .inr hmem
   have hlen : decide (acc.length + [r].length ≤ 268435456) = true := tQ (by rw [List.length_singleton]; omega)
   simp only [zp hk,cQ,zI hk,bQ,hlen]
   cases d
   ·simp only [Bool.not_false,cQ]
    cases (decide (x0.Rows[k].Id ≥ r.Id))
    ·simp only [fQ]; exact hj _ _ _ _ _ (by omega) h4
    ·simp only [cQ]
     refine hj _ _ _ _ _ (by simp; omega) fun v hv => ?_
     rcases List.mem_append.1 hv with a | a
     ·exact h4 v a
     ·exact .inl (List.mem_singleton.1 a)
   ·simp only [nQ,fQ]; exact hj _ _ _ _ _ (by omega) h4
  ·have he : k = x0.Rows.length := by omega
   subst he
   rw [zf,fQ]
   exact ⟨d,acc,rfl,h3,h4⟩
theorem zGF (n : Nat) (x : zD) (r : zC) (h : x.Rows.length ≤ 1000) (hq : x.Pv.length ≤ 1000) (hn : 1000 < n) : ∃ y,zBC n x r = some y ∧ y.Pv = x.Pv ∧ y.Rows.length ≤ 2 * x.Rows.length + 1 ∧ (∀ v ∈ y.Rows,v = r ∨ v ∈ x.Rows) := by
 obtain ⟨d,acc,e,h1,h2⟩ := zE9 n x r h n 0 false [] (by omega) (by omega) (by simp) (by simp)
 have e : ZI n n x r 0 false ([] : List zC) = some (.inl (d,acc)) := e
 unfold zBC
 rw [tQ (by simp; omega),cQ,e,bQ]
 simp only [zA5,List.nil_append]
 have hlen : decide (acc.length + [r].length ≤ 268435456) = true := tQ (by rw [List.length_singleton]; omega)
 rw [hlen]
 cases d
 ·refine ⟨_,rfl,rfl,by simp; omega,fun v hv => ?_⟩
  rcases List.mem_append.1 hv with a | a
  ·exact h2 v a
  ·exact .inl (List.mem_singleton.1 a)
 ·exact ⟨_,rfl,rfl,by simp; omega,h2⟩
theorem zKd {xs ys : List zC} {r : zC} (hx : Q5 zC.wf xs) (wr : r.wf) (hl : ys.length ≤ 4000) (h : ∀ v ∈ ys,v = r ∨ v ∈ xs) : Q5 zC.wf ys := ⟨Nat.le_trans hl (by decide),fun v hv => by
 rcases h v hv with a | a
 ·rw [a]; exact wr
 ·exact hx.2 v a⟩
theorem zJ2 (n p : Nat) (hp : p ≤ 1000) (x : zD) (hx : VtG n p x) (r : zC) (wr : r.wf) (hr : 0 ≤ r.Bare ∧ r.Bare ≤ 63) (hn : 1048577 < n) : ∃ y b,zBo n x r = some (y,b) ∧ VtG n p y := by
 have hxs := hx.sz
 have hpl := hx.2.1
 have h6 := hx.2.2.1
 obtain ⟨z,e,e1,e2,e3⟩ := zGF n x r (by omega) (by omega) (by omega)
 have wz : z.wf := ⟨zKd hx.1.1 wr (by omega) e3,by rw [e1]; exact hx.1.2.1,trivial⟩
 obtain ⟨y,b,f,g⟩ := zEu n p hp x z hx wz (by rw [e1]; exact hpl) (by omega) (fun v hv => by
  rcases e3 v hv with a | a
  ·rw [a]; exact hr
  ·exact hx.2.2.2.2 v a) hn
 refine ⟨y,b,?_,g⟩
 simp only [zBo,hpl,hx.2.2.2.1,bQ,nQ,fQ,e,f]
theorem zV {z : Int} (h0 : -1000000 ≤ z) (h1 : z ≤ 1000000) : zh z := by
 show (Lit.int .i64 z).wf = true
 simp [Lit.wf,show IntKind.wrap .i64 z = z from wQ]
 exact ⟨by show (-9223372036854775808 : Int) ≤ z; omega,by omega⟩
theorem iQ {z : Int} (h0 : -1000000 ≤ z := by omega) (h1 : z ≤ 1000000 := by omega) : zh z := zV h0 h1
theorem zOE : ∀ a < 64,∀ b < 64,IntKind.wrap .i64 (BitVec.ofInt (IntKind.bits .i64) ((a : Nat) : Int) &&& BitVec.ofInt (IntKind.bits .i64) ((b : Nat) : Int)).toNat = ((a &&& b : Nat) : Int) := by decide +kernel
theorem zH3 : ∀ p < 7,IntKind.wrap .u64 ((p : Nat) : Int) = p ∧ IntKind.wrap .i64 ((IntKind.wrap .i64 ((IntKind.wrap .i64 (1 * 2 ^ min (((IntKind.wrap .u64 ((p : Nat) : Int)) : Int)).toNat (IntKind.bits .i64))) - 1)) + 1) = ((2 ^ p : Nat) : Int) ∧ (IntKind.wrap .i64 ((IntKind.wrap .i64 (1 * 2 ^ min (((IntKind.wrap .u64 ((p : Nat) : Int)) : Int)).toNat (IntKind.bits .i64))) - 1)) = ((2 ^ p - 1 : Nat) : Int) ∧ 1 ≤ 2 ^ p ∧ 2 ^ p ≤ 64 := by decide +kernel
theorem zKH (n p : Nat) (hp : p < 7) (c : Src) (h : c.ok) : ∃ v c',zBv n c p = some (v,c') ∧ v.wf ∧ 0 ≤ v.Bare ∧ v.Bare ≤ 63 ∧ c'.ok := by
 obtain ⟨s1,s2,s3,s4,s5⟩ := zH3 p hp
 obtain ⟨v1,c1,e1,a1,b1,g1⟩ := zF n c ((2 ^ p : Nat) : Int) h
 obtain ⟨v2,c2,e2,a2,g2⟩ := za n c1 [1,2,3,2] g1 (by decide)
 obtain ⟨v3,c3,e3,a3,b3,g3⟩ := zF n c2 ((2 ^ p : Nat) : Int) g2
 have b1 := b1 (by omega)
 have b3 := b3 (by omega)
 obtain ⟨x,rfl⟩ : ∃ x : Nat,v1 = x := ⟨v1.toNat,by omega⟩
 obtain ⟨y,rfl⟩ : ∃ y : Nat,v3 = y := ⟨v3.toNat,by omega⟩
 have hand := zOE x (by omega) y (by omega)
 have hle : x &&& y ≤ x := Nat.and_le_left
 have hu : decide ((0 : Int) ≤ IntKind.wrap .u64 ((p : Nat) : Int)) = true := tQ (by rw [s1]; omega)
 unfold zBv
 simp only [s2,hu,cQ,e1,e2,e3,bQ,hand]
 have w1 : zh v2 := by
  simp only [List.mem_cons,List.not_mem_nil,or_false] at a2
  refine zV ?_ ?_ <;> rcases a2 with a | a | a | a <;> omega
 have w2 : zh ((x : Nat) : Int) := zV (by omega) (by omega)
 have w3 : zh ((x &&& y : Nat) : Int) := zV (by omega) (by omega)
 refine ⟨_,_,rfl,⟨w1,w2,w3,trivial⟩,?_,?_,g3⟩
 ·show (0 : Int) ≤ ((x &&& y : Nat) : Int); omega
 ·show ((x &&& y : Nat) : Int) ≤ 63; omega
theorem zEh (n p : Nat) (hp : p ≤ 1000) : ∀ (m k : Nat) (acc : List Int),k ≤ p → p < m + k → acc = List.replicate k 1 → QW n m p k acc = some (.inl (List.replicate p 1))
 | 0,k,acc,h1,h2,h3 => by omega
 | m + 1,k,acc,h1,h2,h3 => by
  rw [QW]
  by_cases hk : k < p
  ·have hlen : decide (acc.length + [(1 : Int)].length ≤ 268435456) = true := tQ (by rw [List.length_singleton,h3]; simp; omega)
   simp only [zp hk,cQ,vQ k]
   refine Eq.trans (congrArg (fun b => cond b _ none) hlen) ?_
   exact zEh n p hp m (k + 1) (acc ++ [1]) (by omega) (by omega) (by rw [h3,← List.replicate_succ'])
  ·have he : k = p := by omega
   subst he
   rw [zf,fQ,h3]
theorem zJJ (n p : Nat) (h0 : 1 ≤ p) (h1 : p < 7) (hn : 1000 < n) : YS n p = some ⟨[⟨1,((2 ^ p - 1 : Nat) : Int),((2 ^ p - 1 : Nat) : Int)⟩],List.replicate p 1⟩ := by
 obtain ⟨s1,s2,s3,s4,s5⟩ := zH3 p h1
 have e := zEh n p (by omega) n 0 [] (by omega) (by omega) rfl
 have e : QW n n p 0 ([] : List Int) = some (.inl (List.replicate p 1)) := e
 unfold YS
 have hu : decide ((0 : Int) ≤ IntKind.wrap .u64 ((p : Nat) : Int)) = true := tQ (by rw [s1]; omega)
 simp only [zP,bQ,tQ (show (1 : Int) ≤ (p : Int) by omega),tQ (show (p : Int) ≤ 6 by omega),Bool.and_self,nQ,fQ,hu,cQ,e,J0,s3]
theorem zQK : ∀ p < 7,1 ≤ p → zy 1048800 ⟨[⟨1,((2 ^ p - 1 : Nat) : Int),((2 ^ p - 1 : Nat) : Int)⟩],List.replicate p 1⟩ ((p : Nat) : Int) = some true := by decide +kernel
theorem zQJ (p : Nat) (h0 : 1 ≤ p) (h1 : p < 7) : ∃ v,YS 1048800 p = some v ∧ VtG 1048800 p v := by
 obtain ⟨s1,s2,s3,s4,s5⟩ := zH3 p h1
 have w : zh ((2 ^ p - 1 : Nat) : Int) := zV (by omega) (by omega)
 refine ⟨_,zJJ 1048800 p h0 h1 (by omega),⟨⟨by show 1 ≤ maxLen; decide,fun v hv => ?_⟩,⟨by rw [List.length_replicate]; exact Nat.le_trans (Nat.le_of_lt h1) (by decide),fun v hv => ?_⟩,trivial⟩,List.length_replicate,by show 1 ≤ 6; decide,zQK p h1 h0,fun v hv => ?_⟩
 ·rw [List.mem_singleton.1 hv]; have w1 : zh 1 := zV (by decide) (by decide)
  exact ⟨w1,w,w,trivial⟩
 ·rw [(List.mem_replicate.1 hv).2]; exact zV (by decide) (by decide)
 ·rw [List.mem_singleton.1 hv]
  have h : (0 : Int) ≤ ((2 ^ p - 1 : Nat) : Int) ∧ ((2 ^ p - 1 : Nat) : Int) ≤ 63 := by omega
  exact h
theorem zE8 (p : Nat) (h0 : 1 ≤ p) (h7 : p < 7) : ∀ (m k : Nat) (c : Src) (v : zD),k < m → k ≤ 1000 → c.ok → VtG 1048800 p v → ∃ (c' : Src) (v' : zD),QO 1048800 m p k c.b c.i c.h v.Rows v.Pv = some (.inl (c'.b,c'.i,c'.h,v'.Rows,v'.Pv)) ∧ c'.ok ∧ VtG 1048800 p v'
 | 0,k,c,v,h1,h2,h3,h4 => by omega
 | m + 1,k,c,v,h1,h2,h3,h4 => by
  rw [QO]
  by_cases hk : 0 < k
  ·obtain ⟨j,rfl⟩ : ∃ j,k = j + 1 := ⟨k - 1,by omega⟩
   have hw : IntKind.wrap .i64 (((j + 1 : Nat) : Int) - 1) = (j : Nat) := by rw [wQ]; omega
   have ih := fun c v h3 h4 => zE8 p h0 h7 m j c v (by omega) (by omega) h3 h4
   obtain ⟨v1,c1,e1,a1,b1,g1⟩ := zF 1048800 c 4 h3
   obtain ⟨v2,c2,e2,a2,b2,g2⟩ := zF 1048800 c1 (p : Int) g1
   obtain ⟨v3,c3,e3,a3,b3,g3⟩ := zF 1048800 c2 3 g2
   obtain ⟨v4,c4,e4,a4,b4,g4⟩ := zF 1048800 c1 2 g1
   obtain ⟨v5,c5,e5,w5,p5,q5,g5⟩ := zKH 1048800 p h7 c1 g1
   have b3 := b3 (by decide)
   have b4 := b4 (by decide)
   obtain ⟨y2,d2,f2,k2⟩ := zJG 1048800 p (by omega) v h4 v2 (1 + v3) (zV (by omega) (by omega)) (by omega)
   obtain ⟨y4,d4,f4,k4⟩ := zJA 1048800 p (by omega) v h4 (2 + v4) (by omega)
   obtain ⟨y5,d5,f5,k5⟩ := zJ2 1048800 p (by omega) v h4 v5 w5 ⟨p5,q5⟩ (by omega)
   have hpos : decide (((j + 1 : Nat) : Int) > 0) = true := tQ (by omega)
   simp only [hpos,cQ,e1,bQ,e2,e3,e4,e5,hw,wrap64 (show -9223372036854775808 ≤ 1 + v3 by omega) (by omega),wrap64 (show -9223372036854775808 ≤ 2 + v4 by omega) (by omega),f2,f4,f5]
   cases (v1 == 0)
   ·cases (v1 == 1)
    ·exact ih c5 y5 g5 k5
    ·exact ih c4 y4 g4 k4
   ·exact ih c3 y2 g3 k2
  ·have : k = 0 := by omega
   subst this
   exact ⟨c,v,rfl,h3,h4⟩
theorem zGE (p : Nat) (h0 : 1 ≤ p) (h7 : p < 7) (c : Src) (h : c.ok) : ∃ v c',zAZ 1048800 c p = some (v,c') ∧ VtG 1048800 p v ∧ c'.ok := by
 obtain ⟨v0,e0,g0⟩ := zQJ p h0 h7
 obtain ⟨v1,c1,e1,a1,b1,g1⟩ := zF 1048800 c 6 h
 have b1 := b1 (by decide)
 obtain ⟨k,rfl⟩ : ∃ k : Nat,v1 = k := ⟨v1.toNat,by omega⟩
 obtain ⟨c',v',e,g,g'⟩ := zE8 p h0 h7 1048800 k c1 v0 (by omega) (by omega) g1 g0
 unfold zAZ
 rw [e0,bQ,e1,bQ,e]
 exact ⟨v',c',rfl,g',g⟩
def VtB (x : zD) : Prop := x.wf ∧ 1 ≤ x.Pv.length ∧ x.Pv.length ≤ 6 ∧ x.Rows.length ≤ 1000 ∧ ∀ r ∈ x.Rows,0 ≤ r.Bare ∧ r.Bare ≤ 63
theorem zFp : ∀ (m k : Nat) (v : zD),k ≤ 6 → 6 < m + k → VtB v → v.Rows.length * 2 ^ (6 - k) + 2 ^ (6 - k) ≤ 1000 → ∃ (v' : zD),YX 1048800 m k v.Rows v.Pv = some (.inl (v'.Rows,v'.Pv)) ∧ VtB v'
 | 0,k,v,h1,h2,h3,h4 => by omega
 | m + 1,k,v,h1,h2,h3,h4 => by
  rw [YX]
  by_cases hk : k < 6
  ·have hp : 2 ^ (6 - k) = 2 * 2 ^ (6 - (k + 1)) := by rw [← Nat.pow_succ']; congr 1; omega
   have hpos : 1 ≤ 2 ^ (6 - (k + 1)) := Nat.pos_of_ne_zero (by simp)
   obtain ⟨y,e,e1,e2,e3⟩ := zGF 1048800 (⟨v.Rows,v.Pv⟩ : zD) (⟨IntKind.wrap .i64 (10 + (k : Int)),0,0⟩ : zC) h3.2.2.2.1 (Nat.le_trans h3.2.2.1 (by decide)) (by omega)
   have e2 : y.Rows.length ≤ 2 * v.Rows.length + 1 := e2
   have e1 : y.Pv = v.Pv := e1
   have hle : y.Rows.length * 2 ^ (6 - (k + 1)) + 2 ^ (6 - (k + 1)) ≤ 1000 := by
    refine Nat.le_trans ?_ h4
    rw [hp]
    have := Nat.mul_le_mul_right (2 ^ (6 - (k + 1))) e2
    have h5 : (2 * v.Rows.length + 1) * 2 ^ (6 - (k + 1)) = v.Rows.length * (2 * 2 ^ (6 - (k + 1))) + 2 ^ (6 - (k + 1)) := by
     rw [Nat.add_mul,Nat.one_mul,Nat.mul_comm 2 v.Rows.length,Nat.mul_assoc]
    omega
   have hl : y.Rows.length ≤ 1000 := by
    have := Nat.mul_le_mul_left y.Rows.length hpos
    omega
   have wr : zC.wf (⟨IntKind.wrap .i64 (10 + (k : Int)),0,0⟩ : zC) := by
    rw [wQ]
    have w0 : zh 0 := zV (by decide) (by decide)
    exact ⟨zV (by show (-1000000 : Int) ≤ 10 + (k : Int); omega) (by show 10 + (k : Int) ≤ 1000000; omega),w0,w0,trivial⟩
   have gy : VtB y := ⟨⟨zKd h3.1.1 wr (by omega) e3,by rw [e1]; exact h3.1.2.1,trivial⟩,by rw [e1]; exact h3.2.1,by rw [e1]; exact h3.2.2.1,hl,fun r hr => by
    rcases e3 r hr with a | a
    ·rw [a]; exact (show (0 : Int) ≤ 0 ∧ (0 : Int) ≤ 63 by decide)
    ·exact h3.2.2.2.2 r a⟩
   simp only [tQ (show (k : Int) < 6 by omega),cQ,e,bQ,vQ k]
   exact zFp m (k + 1) y (by omega) (by omega) gy hle
  ·have : k = 6 := by omega
   subst this
   exact ⟨v,rfl,h3⟩
theorem zKu (c : Src) (h : c.ok) : ∃ v p c',zCc 1048800 c = some (v,p,c') ∧ VtB v ∧ zh p ∧ c'.ok := by
 obtain ⟨v1,c1,e1,a1,b1,g1⟩ := zF 1048800 c 4 h
 have b1 := b1 (by decide)
 obtain ⟨k,rfl⟩ : ∃ k : Nat,v1 = k := ⟨v1.toNat,by omega⟩
 have hw : IntKind.wrap .i64 (1 + (k : Int)) = ((k + 1 : Nat) : Int) := by rw [wQ]; omega
 obtain ⟨v,c2,e2,gv,g2⟩ := zGE (k + 1) (by omega) (by omega) c1 g1
 have hl := gv.2.1
 have h6 := gv.2.2.1
 have bv : VtB v := ⟨gv.1,by omega,by omega,by omega,gv.2.2.2.2⟩
 have wk : zh ((k + 1 : Nat) : Int) := zV (by omega) (by omega)
 obtain ⟨v3,c3,e3,a3,b3,g3⟩ := zF 1048800 c2 12 g2
 obtain ⟨v4,c4,e4,a4,g4⟩ := za 1048800 c3 [0,1,9,100] g3 (by decide)
 obtain ⟨v5,c5,e5,a5,g5⟩ := za 1048800 c4 [(-1),0,1,64] g4 (by decide)
 obtain ⟨v6,c6,e6,a6,b6,g6⟩ := zF 1048800 c5 3 g5
 have b6 := b6 (by decide)
 obtain ⟨v7,c7,e7,a7,g7⟩ := za 1048800 c3 [0,7] g3 (by decide)
 obtain ⟨v8,c8,e8,a8,g8⟩ := za 1048800 c3 [0,6,7] g3 (by decide)
 obtain ⟨u,hu,_⟩ := zDE (xs := v.Pv) (i := 0) (by omega) (by omega)
 obtain ⟨z,ez,bz⟩ := zFp 1048800 0 v (by omega) (by omega) bv (by show v.Rows.length * 64 + 64 ≤ 1000; omega)
 have ez : YX 1048800 1048800 0 v.Rows v.Pv = some (.inl (z.Rows,z.Pv)) := ez
 simp only [List.mem_cons,List.not_mem_nil,or_false] at a4 a5 a7 a8
 have w4 : zh v4 := by refine zV ?_ ?_ <;> rcases a4 with a | a | a | a <;> omega
 have w5 : zh v5 := by refine zV ?_ ?_ <;> rcases a5 with a | a | a | a <;> omega
 have w6 : zh v6 := zV (by omega) (by omega)
 have w7 : zh v7 := by refine zV ?_ ?_ <;> rcases a7 with a | a <;> omega
 have w8 : zh v8 := by refine zV ?_ ?_ <;> rcases a8 with a | a | a <;> omega
 have hlen : decide (v.Rows.length + [(⟨v4,v5,v6⟩ : zC)].length ≤ 268435456) = true := tQ (by rw [List.length_singleton]; omega)
 unfold zCc
 simp only [e1,bQ,hw,e2,e3,e4,e5,e6,e7,e8,hu,hlen,cQ,ez,zA4]
 cases (v3 == 0)
 ·cases (v3 == 1)
  ·cases (v3 == 2)
   ·cases (v3 == 3)
    ·exact ⟨_,_,_,rfl,bv,wk,g3⟩
    ·exact ⟨_,_,_,rfl,bz,wk,g3⟩
   ·exact ⟨_,_,_,rfl,bv,w8,g8⟩
  ·exact ⟨_,_,_,rfl,⟨⟨bv.1.1,zB7 bv.1.2.1 w7,trivial⟩,by show 1 ≤ (v.Pv.set ((0 : Int)).toNat v7).length; rw [List.length_set]; omega,by show (v.Pv.set ((0 : Int)).toNat v7).length ≤ 6; rw [List.length_set]; omega,bv.2.2.2⟩,wk,g7⟩
 ·refine ⟨_,_,_,rfl,⟨⟨zKd bv.1.1 (r := ⟨v4,v5,v6⟩) ⟨w4,w5,w6,trivial⟩ (by show (v.Rows ++ [_]).length ≤ 4000; simp; omega) fun r hr => ?_,bv.1.2⟩,bv.2.1,bv.2.2.1,by show (v.Rows ++ [_]).length ≤ 1000; simp; omega,fun r hr => ?_⟩,wk,g6⟩
  ·rcases List.mem_append.1 hr with a | a
   ·exact .inr a
   ·exact .inl (List.mem_singleton.1 a)
  ·rcases List.mem_append.1 hr with a | a
   ·exact bv.2.2.2.2 r a
   ·rw [List.mem_singleton.1 a]; exact ⟨a6,by show v6 ≤ 63; omega⟩
def zEp (a : Int) (i : Nat) : Bool := (IntKind.wrap .i64 (BitVec.ofInt (IntKind.bits .i64) (Int.fdiv a (2 ^ min ((i : Int)).toNat (IntKind.bits .i64))) &&& BitVec.ofInt (IntKind.bits .i64) 1).toNat == 1)
theorem zIT (n : Nat) (a : Int) (i : Nat) (h : i ≤ 62) : zAw n a i = some (zEp a i) := by
 unfold zAw
 simp only [ZD,zP,bQ,tQ (show (0 : Int) ≤ (i : Int) by omega),tQ (show (i : Int) ≤ 62 by omega),Bool.and_self,cQ]
 rfl
theorem zDZ (n : Nat) (a : Int) (i : Nat) (h : i ≤ 7) : zCd n a i = some (zEp a i) := by
 unfold zCd
 have hu : IntKind.wrap .u64 (i : Int) = i := zOz (by omega)
 simp only [zP,bQ,tQ (show (0 : Int) ≤ (i : Int) by omega),tQ (show (i : Int) ≤ 7 by omega),Bool.and_self,cQ,hu]
 rfl
theorem zFj (n : Nat) (x : Net) (i j : Int) (h : JI n x i j = some true) : ∃ v p,idx x.Bs i = some v ∧ idx v.Ps j = some p ∧ p.Up = true ∧ i ≤ (IntKind.wrap .i64 ((x.Bs.length : Int) - 1)) ∧ j ≤ (IntKind.wrap .i64 ((v.Ps.length : Int) - 1)) ∧ 0 ≤ i ∧ 0 ≤ j := by
 unfold JI at h
 simp only [zP,bQ] at h
 cases hc : (decide (0 ≤ i) && decide (i ≤ IntKind.wrap .i64 ((x.Bs.length : Int) - 1))) with
 | false => rw [hc] at h; cases h
 | true =>
  simp only [hc,cQ] at h
  obtain ⟨v,hv,h⟩ := bind_some h
  cases hd : (decide (0 ≤ j) && decide (j ≤ IntKind.wrap .i64 ((v.Ps.length : Int) - 1))) with
  | false => rw [hd] at h; cases h
  | true =>
   simp only [hd,cQ,hv,bQ] at h
   obtain ⟨p,hp,h⟩ := bind_some h
   simp only [Bool.and_eq_true,decide_eq_true_eq] at hc hd
   exact ⟨v,p,hv,hp,Option.some.inj h,hc.2,hd.2,hc.1,hd.1⟩
theorem zE0 (n : Nat) (x : Net) (k : Int) (h : ZW n x k = some true) : ∃ l a b p q,idx x.Ls k = some l ∧ idx x.Bs l.A = some a ∧ idx a.Ps l.P = some p ∧ p.Up = true ∧ idx x.Bs l.B = some b ∧ idx b.Ps l.Q = some q ∧ q.Up = true := by
 unfold ZW at h
 simp only [zP,bQ] at h
 cases hc : (decide (0 ≤ k) && decide (k ≤ IntKind.wrap .i64 ((x.Ls.length : Int) - 1))) with
 | false => rw [hc] at h; cases h
 | true =>
  simp only [hc,nQ,fQ] at h
  obtain ⟨l,hl,h⟩ := bind_some h
  obtain ⟨u,hu,h⟩ := bind_some h
  cases u with
  | false => cases h
  | true =>
   simp only [cQ] at h
   obtain ⟨u',hu',h⟩ := bind_some h
   have : u' = true := Option.some.inj h
   subst this
   obtain ⟨a,p,a1,a2,a3,_⟩ := zFj n x _ _ hu
   obtain ⟨b,q,b1,b2,b3,_⟩ := zFj n x _ _ hu'
   exact ⟨l,a,b,p,q,hl,a1,a2,a3,b1,b2,b3⟩
theorem Jp {α : Type} {xs : List α} {i : Int} {v : α} (h : idx xs i = some v) : 0 ≤ i ∧ i < xs.length := by
 obtain ⟨g1,g2⟩ := zK h
 have := (List.getElem?_eq_some_iff.1 g2).1
 omega
theorem zMD {x : Net} {a : zA} (h : x.sz ≤ 1048576) (ha : a ∈ x.Bs) : a.sz ≤ x.sz := by
 have := zBx (sz := zA.sz) ha
 unfold Net.sz
 omega
theorem zBX {c : Bool} {x : Option Bool} (h : (bif c then x else some false) = some true) : c = true ∧ x = some true := by
 cases c with
 | true => exact ⟨rfl,h⟩
 | false => cases h
theorem zI9 {L : Nat → Int → Option (Unit ⊕ Bool)} {N : Nat} {P : Nat → Prop} (h0 : ∀ k,L 0 k = none) (hs : ∀ m (k : Nat) o,k < N → L (m + 1) (k : Int) = some o → o = .inr false ∨ (P k ∧ L m ((k + 1 : Nat) : Int) = some o)) (he : ∀ m o,L (m + 1) (N : Int) = some o → o = .inl ()) :
  ∀ (m k : Nat) o,k ≤ N → L m (k : Int) = some o → o = .inr false ∨ (o = .inl () ∧ ∀ j,k ≤ j → j < N → P j)
 | 0,k,o,_,h => by rw [h0] at h; cases h
 | m + 1,k,o,hk,h => by
  by_cases hlt : k < N
  ·rcases hs m k o hlt h with e | ⟨hp,h⟩
   ·exact .inl e
   ·rcases zI9 h0 hs he m (k + 1) o (by omega) h with e | ⟨e,h2⟩
    ·exact .inl e
    ·refine .inr ⟨e,fun j hj hj2 => ?_⟩
     by_cases hjk : j = k
     ·subst hjk; exact hp
     ·exact h2 j (by omega) hj2
  ·have : k = N := by omega
   subst this
   exact .inr ⟨he m o h,fun j hj hj2 => by omega⟩
theorem zHD (n : Nat) (x : zA) (hl : x.Ps.length ≤ 1048580) {o : Unit ⊕ Bool} (h : z6 n n x 0 = some o) : o = .inr false ∨ (o = .inl () ∧ ∀ j (hj : j < x.Ps.length),qC n x.Ps[j] = some true) := by
 rcases zI9 (L := fun m k => z6 n m x k) (N := x.Ps.length) (P := fun j => ∀ hj : j < x.Ps.length,qC n x.Ps[j] = some true) (fun k => rfl) (fun m k o hk h => by
  simp only [z6] at h
  rw [zp hk,cQ,zI hk,bQ,vQ k] at h
  obtain ⟨b,hb⟩ := zGe n x.Ps[k]
  rw [hb,bQ] at h
  cases b with
  | true => exact .inr ⟨fun _ => hb,h⟩
  | false => cases h; exact .inl rfl) (fun m o h => by
  simp only [z6] at h
  rw [zf] at h; cases h; rfl) n 0 o (by omega) h with e | ⟨e,h2⟩
 ·exact .inl e
 ·exact .inr ⟨e,fun j hj => h2 j (by omega) hj hj⟩
theorem qU (n : Nat) (x : zA) (hl : x.Ps.length ≤ 1048580) (h : zU n x = some true) : 1 ≤ x.Ps.length ∧ x.Ps.length ≤ 6 ∧ 1 ≤ x.Id ∧ x.Id ≤ 99 ∧ x.Name.size ≤ 10 ∧ ZQ n x.F = some true ∧ zy n x.V (x.Ps.length : Int) = some true ∧
  (0 ≤ x.Tk ∧ x.Tk ≤ 1000000) ∧ (0 ≤ x.Pa ∧ x.Pa ≤ 1000000) ∧ (0 ≤ x.Wo ∧ x.Wo ≤ 1000000) ∧ (0 ≤ x.Dr ∧ x.Dr ≤ 1000000) ∧ (0 ≤ x.Ve ∧ x.Ve ≤ 1000000) ∧ ∀ j (hj : j < x.Ps.length),qC n x.Ps[j] = some true := by
 unfold zU at h
 obtain ⟨o,ho,h⟩ := bind_some h
 rcases zHD n x hl ho with rfl | ⟨rfl,hp⟩
 ·cases h
 ·simp only [Qs,Y2,zP,bQ] at h
  obtain ⟨h1,h⟩ := zBX h
  obtain ⟨h2,h⟩ := zBX h
  obtain ⟨h3,h⟩ := zBX h
  obtain ⟨b4,h4,h⟩ := bind_some h
  obtain ⟨rfl,h⟩ := zBX h
  obtain ⟨b5,h5,h⟩ := bind_some h
  obtain ⟨rfl,h⟩ := zBX h
  obtain ⟨b6,h6,h⟩ := bind_some h
  cases h
  obtain ⟨h7,h6⟩ := zBX h6
  obtain ⟨h8,h6⟩ := zBX h6
  obtain ⟨h9,h6⟩ := zBX h6
  obtain ⟨h10,h6⟩ := zBX h6
  have h11 := Option.some.inj h6
  simp only [Bool.and_eq_true,decide_eq_true_eq] at h1 h2 h3 h7 h8 h9 h10 h11
  exact ⟨by omega,by omega,h1.1,h1.2,by omega,h4,h5,h7,h8,h9,h10,h11,hp⟩
theorem zHN (n : Nat) (z : Int) (h0 : 0 ≤ z) (h1 : z ≤ 1000000) : ∃ y,JZ n z = some y ∧ zB5 n z = some y ∧ 0 ≤ y ∧ y ≤ 1000000 := by
 unfold JZ zB5
 rw [wQ]
 by_cases h : z ≥ 1000000
 ·rw [tQ h,if_pos (by omega)]; exact ⟨z,rfl,by rw [show z = 1000000 by omega],h0,h1⟩
 ·rw [dQ h,if_neg (by omega)]; exact ⟨_,rfl,rfl,by omega,by omega⟩
theorem zHj {α β : Type} {p : α → Bool} {L : Nat → Int → List α → Option (List α ⊕ β)} (xs : List α) (hx : xs.length ≤ 134217728)
  (h : ∀ m (k : Nat) (acc : List α) (hk : k < xs.length),acc.length ≤ k → L (m + 1) k acc = L m ((k + 1 : Nat) : Int) (acc ++ if p xs[k] then [xs[k]] else [])) (he : ∀ m (acc : List α),L (m + 1) (xs.length : Int) acc = some (.inl acc)) :
  ∀ (m k : Nat) (acc : List α),k ≤ xs.length → xs.length < m + k → acc.length ≤ k → L m k acc = some (.inl (acc ++ (xs.drop k).filter p))
 | 0,k,acc,h1,h2,h3 => by omega
 | m + 1,k,acc,h1,h2,h3 => by
  by_cases hk : k < xs.length
  ·rw [h m k acc hk h3,zHj xs hx h he m (k + 1) _ (by omega) (by omega) (by split <;> simp <;> omega),List.drop_eq_getElem_cons hk,List.filter_cons,List.append_assoc]
   split <;> simp
  ·have : k = xs.length := by omega
   subst this
   rw [he m acc]
   simp
theorem zBF (n : Nat) (xs : List zB) (p : Int) (h : xs.length ≤ 134217728) (hn : xs.length < n) : Jz n xs p = some (xs.filter fun v => v.Sc || v.Port != p) := by
 have := zHj (p := fun v : zB => v.Sc || v.Port != p) (L := fun m k acc => qt n m xs p k acc) xs h (fun m k acc hk ha => by
  simp only [qt]
  rw [zp hk,cQ,zI hk,bQ,vQ k]
  have hg : ∀ v : zB,decide (acc.length + [v].length ≤ 268435456) = true := fun v => tQ (by simp; omega)
  simp only [bQ,hg,cQ]
  cases hs : xs[k].Sc <;> cases hq : (xs[k].Port != p) <;> simp [hs,hq]) (fun m acc => by simp only [qt]; rw [zf]; rfl) n 0 [] (by omega) (by omega) (by simp)
 unfold Jz
 rw [show qt n n xs p 0 [] = _ from this]
 simp [Y7]
theorem zHV (n : Nat) (xs : List zB) (p : Int) (h : xs.length ≤ 134217728) (hn : xs.length < n) : Jq n xs p = some (xs.filter fun v => v.Sc || v.Port != p) := by
 have := zHj (p := fun v : zB => v.Sc || v.Port != p) (L := fun m k acc => qr n m xs p k acc) xs h (fun m k acc hk ha => by
  simp only [qr]
  rw [zp hk,cQ,zI hk,bQ,vQ k]
  have hg : ∀ v : zB,decide (acc.length + [v].length ≤ 268435456) = true := fun v => tQ (by simp; omega)
  simp only [bQ,hg,cQ]
  cases hs : xs[k].Sc <;> cases hq : (xs[k].Port != p) <;> simp [hs,hq]) (fun m acc => by simp only [qr]; rw [zf]; rfl) n 0 [] (by omega) (by omega) (by simp)
 unfold Jq
 rw [show qr n n xs p 0 [] = _ from this]
 simp [Y6]
theorem zAl (n : Nat) (bits : Int) (x : zA) (h : x.Ps.length ≤ 6) : ∀ (m k : Nat) (ys : List zB),k ≤ x.Ps.length → x.Ps.length < m + k → ys.length ≤ 134217728 → ys.length < n → ∃ zs : List zB,qV n m bits x k ys = some (.inl zs) ∧ ZB n m bits x k ys = some (.inl zs) ∧ zs.length ≤ ys.length ∧ (∀ v ∈ zs,v ∈ ys) ∧ ∀ v ∈ zs,v.Sc = true ∨ ∀ j : Nat,k ≤ j → j < x.Ps.length → zEp bits j = false → v.Port ≠ j
 | 0,k,ys,h1,h2,h3,h4 => by omega
 | m + 1,k,ys,h1,h2,h3,h4 => by
  rw [qV,ZB]
  by_cases hk : k < x.Ps.length
  ·rw [zp hk,cQ,cQ,zDZ n bits k (by omega),zIT n bits k (by omega),bQ,bQ,vQ k,zBF n ys _ h3 h4,zHV n ys _ h3 h4]
   cases hb : zEp bits k with
   | true =>
    simp only [nQ,fQ]
    obtain ⟨zs,e1,e2,e3,e4,e5⟩ := zAl n bits x h m (k + 1) ys (by omega) (by omega) h3 h4
    refine ⟨zs,e1,e2,e3,e4,fun v hv => (e5 v hv).imp id fun h5 j hj hj2 hj3 => ?_⟩
    by_cases hjk : j = k
    ·subst hjk; rw [hb] at hj3; cases hj3
    ·exact h5 j (by omega) hj2 hj3
   | false =>
    simp only [Bool.not_false,cQ,bQ]
    have hle := List.length_filter_le (fun v : zB => v.Sc || v.Port != (k : Int)) ys
    obtain ⟨zs,e1,e2,e3,e4,e5⟩ := zAl n bits x h m (k + 1) (ys.filter fun v => v.Sc || v.Port != (k : Int)) (by omega) (by omega) (by omega) (by omega)
    refine ⟨zs,e1,e2,by omega,fun v hv => (List.mem_filter.1 (e4 v hv)).1,fun v hv => ?_⟩
    have hf := (List.mem_filter.1 (e4 v hv)).2
    rcases e5 v hv with h5 | h5
    ·exact .inl h5
    ·cases hs : v.Sc with
     | true => exact .inl rfl
     | false =>
      refine .inr fun j hj hj2 hj3 => ?_
      by_cases hjk : j = k
      ·subst hjk; rw [hs] at hf; simpa using hf
      ·exact h5 j (by omega) hj2 hj3
  ·have he : k = x.Ps.length := by omega
   subst he
   rw [zf]
   exact ⟨ys,rfl,rfl,Nat.le_refl _,fun v hv => hv,fun v hv => .inr fun j hj hj2 => by omega⟩
theorem zHJ (n : Nat) (x : zA) (h : x.Ps.length ≤ 6) (hf : x.F.length ≤ 134217728) (hn : x.F.length < n) (hn6 : 6 < n) (hv0 : 0 ≤ x.Ve) (hv1 : x.Ve ≤ 1000000) : ∃ (zs : List zB) (v b : Int),qz n x = some ⟨x.Id,x.Name,x.Ps,zs,x.V,x.Tk,x.Pa,x.Wo,x.Dr,v⟩ ∧ ZC n x = some ⟨x.Id,x.Name,x.Ps,zs,x.V,x.Tk,x.Pa,x.Wo,x.Dr,v⟩ ∧
  zs.length ≤ x.F.length ∧ (∀ u ∈ zs,u ∈ x.F) ∧ 0 ≤ v ∧ v ≤ 1000000 ∧ QJ n x.Id x.Ps = some b ∧ ∀ u ∈ zs,u.Sc = true ∨ ∀ j : Nat,j < x.Ps.length → zEp b j = false → u.Port ≠ j := by
 obtain ⟨v,h1,h2,h3,h4⟩ := zHN n x.Ve hv0 hv1
 obtain ⟨e,b,hb⟩ := zJF n x.Id x.Ps (by omega) (by omega)
 obtain ⟨zs,k1,k2,k3,k4,k5⟩ := zAl n b x h n 0 x.F (by omega) (by omega) hf hn
 refine ⟨zs,v,b,?_,?_,k3,k4,h3,h4,hb,fun u hu => (k5 u hu).imp id fun h5 j hj => h5 j (by omega) hj⟩
 ·unfold qz
  rw [h1,bQ,hb,bQ,show qV n n b x 0 x.F = _ from k1]
  rfl
 ·unfold ZC
  rw [h2,bQ,e,hb,bQ,show ZB n n b x 0 x.F = _ from k2]
  rfl
theorem Yd (n : Nat) (x : zA) (h : x.sz ≤ 268435456) : Ql n x = some x := by
 have hs : x.Name.size + x.Ps.length + x.F.length + x.V.sz = x.sz := rfl
 unfold Ql qu
 rw [J7 n x.V (by omega),tQ (by simp; omega),tQ (by simp; omega)]
 rfl
theorem Qc (n : Nat) (x : zA) (h : x.sz ≤ 268435456) : Zd n x = some x := by
 have hs : x.Name.size + x.Ps.length + x.F.length + x.V.sz = x.sz := rfl
 unfold Zd zCp
 rw [zIS n x.V (by omega),tQ (by simp; omega),tQ (by simp; omega)]
 rfl
theorem J1 (n : Nat) (x : zA) (p : Int) (b : Bool) (hb : zU n x = some b) (hl : x.Ps.length ≤ 1048580) : JN n x p = some (b && (decide (0 ≤ p) && decide (p < x.Ps.length))) := by
 unfold JN
 rw [hb,bQ,zP,wQ]
 have : decide (p ≤ (x.Ps.length : Int) - 1) = decide (p < x.Ps.length) := by
  by_cases h : p < x.Ps.length
  ·rw [tQ h,tQ (by omega)]
  ·rw [dQ h,dQ (by omega)]
 rw [this]
 cases b <;> rfl
theorem zAi (n : Nat) (x : zA) (p : Int) (b : Bool) (hb : Q0 n x = some b) (hl : x.Ps.length ≤ 1048580) : zAN n x p = some (b && (decide (0 ≤ p) && decide (p < x.Ps.length))) := by
 unfold zAN
 rw [hb,bQ,ZD,zP,wQ]
 have : decide (p ≤ (x.Ps.length : Int) - 1) = decide (p < x.Ps.length) := by
  by_cases h : p < x.Ps.length
  ·rw [tQ h,tQ (by omega)]
  ·rw [dQ h,dQ (by omega)]
 rw [this]
 cases b <;> rfl
theorem zEv (n : Nat) (x : zA) (hn : 1048577 < n) (hx : x.sz ≤ 1048576) (hb : zU n x = some true) (ps : List Pt) (hp : ps.length = x.Ps.length) (fs : List zB) (hf : fs.length ≤ x.F.length) (t : Int) : ∃ (zs : List zB) (v b : Int),qz n ⟨x.Id,x.Name,ps,fs,x.V,t,x.Pa,x.Wo,x.Dr,x.Ve⟩ = some ⟨x.Id,x.Name,ps,zs,x.V,t,x.Pa,x.Wo,x.Dr,v⟩ ∧
  ZC n ⟨x.Id,x.Name,ps,fs,x.V,t,x.Pa,x.Wo,x.Dr,x.Ve⟩ = some ⟨x.Id,x.Name,ps,zs,x.V,t,x.Pa,x.Wo,x.Dr,v⟩ ∧ zs.length ≤ fs.length ∧ (∀ u ∈ zs,u ∈ fs) ∧ 0 ≤ v ∧ v ≤ 1000000 ∧ QJ n x.Id ps = some b ∧ ∀ u ∈ zs,u.Sc = true ∨ ∀ j : Nat,j < ps.length → zEp b j = false → u.Port ≠ j := by
 have hs : x.Name.size + x.Ps.length + x.F.length + x.V.sz = x.sz := rfl
 obtain ⟨p1,p2,p3,p4,p5,p6,p7,p8,p9,p10,p11,p12,p13⟩ := qU n x (by omega) hb
 exact zHJ n ⟨x.Id,x.Name,ps,fs,x.V,t,x.Pa,x.Wo,x.Dr,x.Ve⟩ (by simp only; omega) (by simp only; omega) (by simp only; omega) (by omega) p12.1 p12.2
theorem zDb (n : Nat) (xs : List zB) (h : xs.length ≤ 134217728) (ha : ∀ v ∈ xs,0 ≤ v.Age ∧ v.Age ≤ 1000) : ∀ (m k : Nat) (acc : List zB),k ≤ xs.length → xs.length < m + k → acc.length ≤ k → ∃ zs,qy n m xs k acc = some (.inl zs) ∧ Zp n m xs k acc = some (.inl zs) ∧ zs.length ≤ xs.length
 | 0,k,acc,h1,h2,h3 => by omega
 | m + 1,k,acc,h1,h2,h3 => by
  rw [qy,Zp]
  by_cases hk : k < xs.length
  ·rw [zp hk,cQ,cQ,zI hk,bQ,bQ,vQ k]
   have hg : ∀ v : zB,decide (acc.length + [v].length ≤ 268435456) = true := fun v => tQ (by simp; omega)
   simp only [hg,cQ]
   have ih := fun acc' h3' => zDb n xs h ha m (k + 1) acc' (by omega) (by omega) h3'
   cases hs : xs[k].Sc with
   | true =>
    simp only [nQ,cQ,fQ]
    exact ih (acc ++ [xs[k]]) (by simp; omega)
   | false =>
    simp only [Bool.not_false,cQ,fQ]
    by_cases hl : xs[k].Age < 4
    ·rw [tQ hl,dQ (by omega : ¬ xs[k].Age ≥ 4)]
     exact ih _ (by simp; omega)
    ·rw [dQ hl,tQ (by omega : xs[k].Age ≥ 4)]
     exact ih _ (by omega)
  ·have he : k = xs.length := by omega
   subst he
   rw [zf]
   exact ⟨acc,rfl,rfl,by omega⟩
theorem zIU (n : Nat) (xs : List zB) (h : xs.length ≤ 134217728) (hn : xs.length < n) (ha : ∀ v ∈ xs,0 ≤ v.Age ∧ v.Age ≤ 1000) : ∃ zs,Yo n xs = some zs ∧ zBa n xs = some zs ∧ zs.length ≤ xs.length := by
 obtain ⟨zs,h1,h2,h3⟩ := zDb n xs h ha n 0 [] (by omega) (by omega) (by simp)
 refine ⟨zs,?_,?_,h3⟩
 ·unfold Yo; rw [show qy n n xs 0 [] = _ from h1]; rfl
 ·unfold zBa; rw [show Zp n n xs 0 [] = _ from h2]; rfl
theorem zF8 (n : Nat) (xs : List zB) (h : xs.length ≤ 1048580) (hok : ZQ n xs = some true) : xs.length ≤ 12 ∧ (∀ j (hj : j < xs.length),ZR n xs[j] = some true) ∧ ∀ j (hj : j + 1 < xs.length),Zm n xs[j] xs[j + 1].Tag xs[j + 1].Mac = some true := by
 unfold ZQ at hok
 obtain ⟨o,ho,hok⟩ := bind_some hok
 rcases zI9 (L := fun m k => qY n m xs k) (N := xs.length) (P := fun k => ∀ hk : k < xs.length,ZR n xs[k] = some true ∧ ∀ j (e : k = j + 1),Zm n (xs[j]'(by omega)) xs[k].Tag xs[k].Mac = some true) (fun k => rfl) (fun m k o hk h => by
  simp only [qY] at h
  rw [zp hk,cQ,zI hk,bQ,vQ k] at h
  obtain ⟨b,hb⟩ := zDY n xs[k]
  rw [hb,bQ] at h
  cases b with
  | false => cases h; exact .inl rfl
  | true =>
   simp only [nQ,fQ] at h
   cases k with
   | zero => exact .inr ⟨fun _ => ⟨hb,fun j e => by omega⟩,h⟩
   | succ k =>
    have hw2 : IntKind.wrap .i64 (((k + 1 : Nat) : Int) - 1) = (k : Int) := by rw [wQ]; omega
    have hpos : decide (((k + 1 : Nat) : Int) > 0) = true := tQ (by omega)
    rw [hpos,hw2,cQ,zI (show k < xs.length by omega),bQ,bQ,bQ] at h
    obtain ⟨c,hc⟩ := zE6 n (xs[k]'(by omega)) xs[k + 1].Tag xs[k + 1].Mac
    rw [hc,bQ] at h
    cases c with
    | false => cases h; exact .inl rfl
    | true => exact .inr ⟨fun _ => ⟨hb,fun j e => (show k = j by omega) ▸ hc⟩,h⟩) (fun m o h => by
  simp only [qY] at h
  rw [zf] at h; cases h; rfl) n 0 o (by omega) ho with rfl | ⟨rfl,hp⟩
 ·cases hok
 ·have h12 := of_decide_eq_true (Option.some.inj hok)
  exact ⟨by omega,fun j hj => (hp j (by omega) hj hj).1,fun j hj => (hp (j + 1) (by omega) hj hj).2 j rfl⟩
theorem zGC (n : Nat) (v : zB) (h : ZR n v = some true) : (1 ≤ v.Tag ∧ v.Tag ≤ 99) ∧ (1 ≤ v.Mac ∧ v.Mac ≤ 9999) ∧ (0 ≤ v.Port ∧ v.Port ≤ 7) ∧ (0 ≤ v.Age ∧ v.Age ≤ 4) ∧ (v.Sc = true → v.Age = 0) := by
 unfold ZR at h
 simp only [zP,bQ] at h
 obtain ⟨h1,h⟩ := zBX h
 obtain ⟨h2,h⟩ := zBX h
 obtain ⟨h3,h⟩ := zBX h
 obtain ⟨h4,h⟩ := zBX h
 simp only [Bool.and_eq_true,decide_eq_true_eq] at h1 h2 h3 h4
 refine ⟨h1,h2,h3,h4,fun hs => ?_⟩
 rw [hs] at h
 simpa using h
theorem zBf (n : Nat) (z : Int) (N : Nat) (h : N ≤ 1048600) : zR n z 0 (IntKind.wrap .i64 ((N : Int) - 1)) = some (decide (0 ≤ z ∧ z < N)) := by
 rw [zP,wQ]
 by_cases h : 0 ≤ z ∧ z < N
 ·rw [tQ h,tQ h.1,tQ (by omega)]; rfl
 ·rw [dQ h]
  congr 1
  simp only [Bool.and_eq_false_iff,decide_eq_false_iff_not]; omega
def qM (b p : Int) (l : Link) : Bool := (l.A == b && l.P == p) || (l.B == b && l.Q == p)
def qZ (b p : Int) (l : Link) : Nat := (bif l.A == b && l.P == p then 1 else 0) + (bif l.B == b && l.Q == p then 1 else 0)
theorem YK {b p : Int} {l : Link} : qM b p l = true ↔ (l.A = b ∧ l.P = p) ∨ (l.B = b ∧ l.Q = p) := by simp [qM]
theorem zDp {b p : Int} {l : Link} : qM b p l = true ↔ 0 < qZ b p l := by
 unfold qM qZ
 cases l.A == b <;> cases l.P == p <;> cases l.B == b <;> cases l.Q == p <;> simp
def qO {α : Type} (f : α → Nat) : List α → Nat
 | [] => 0
 | x :: xs => f x + qO f xs
theorem zEC {α : Type} (f : α → Nat) : ∀ (xs ys : List α),qO f (xs ++ ys) = qO f xs + qO f ys
 | [],ys => by simp [qO]
 | x :: xs,ys => by simp only [List.cons_append,qO,zEC f xs ys]; omega
theorem zIE {α : Type} (f : α → Nat) : ∀ (xs : List α),(∀ x ∈ xs,f x = 0) → qO f xs = 0
 | [],_ => rfl
 | x :: xs,h => by rw [qO,h x (by simp),zIE f xs (fun y hy => h y (by simp [hy]))]
theorem zHK {α : Type} (f : α → Nat) : ∀ (xs : List α) (x : α),x ∈ xs → f x ≤ qO f xs
 | y :: xs,x,h => by
  rcases List.mem_cons.1 h with e | h
  ·subst e; rw [qO]; omega
  ·have := zHK f xs x h; rw [qO]; omega
theorem zJO {α : Type} (f : α → Nat) (xs : List α) (i j : Nat) (hij : i < j) (hj : j < xs.length) : f (xs[i]'(by omega)) + f xs[j] ≤ qO f xs := by
 have e : xs = xs.take j ++ xs.drop j := (List.take_append_drop j xs).symm
 have h1 : f (xs[i]'(by omega)) ≤ qO f (xs.take j) := zHK f _ _ (by
  have : (xs.take j)[i]? = some (xs[i]'(by omega)) := by rw [List.getElem?_take,if_pos hij]; exact List.getElem?_eq_getElem _
  exact List.mem_of_getElem? this)
 have h2 : f xs[j] ≤ qO f (xs.drop j) := zHK f _ _ (List.drop_eq_getElem_cons hj ▸ List.mem_cons_self)
 have h3 := zEC f (xs.take j) (xs.drop j)
 rw [← e] at h3
 omega
theorem zOp {α : Type} (f : α → Nat) (xs : List α) (k : Nat) (hk : k < xs.length) (h : ∀ j (hj : j < xs.length),j ≠ k → f xs[j] = 0) : qO f xs = f xs[k] := by
 have e : xs = xs.take k ++ xs[k] :: xs.drop (k + 1) := by rw [← List.drop_eq_getElem_cons hk]; exact (List.take_append_drop k xs).symm
 have h1 : qO f (xs.take k) = 0 := zIE f _ fun x hx => by
  obtain ⟨i,hi,rfl⟩ := List.getElem_of_mem hx
  simp only [List.length_take] at hi
  rw [List.getElem_take]
  exact h i (by omega) (by omega)
 have h2 : qO f (xs.drop (k + 1)) = 0 := zIE f _ fun x hx => by
  obtain ⟨i,hi,rfl⟩ := List.getElem_of_mem hx
  simp only [List.length_drop] at hi
  rw [List.getElem_drop]
  exact h _ (by omega) (by omega)
 have h3 := zEC f (xs.take k) (xs[k] :: xs.drop (k + 1))
 rw [← e] at h3
 rw [qO,h1,h2] at h3
 omega
theorem zJd (xs : List Link) (hne : ∀ l ∈ xs,l.A ≠ l.B) : (∀ k (hk : k < xs.length),qO (qZ xs[k].A xs[k].P) xs = 1 ∧ qO (qZ xs[k].B xs[k].Q) xs = 1) ↔ (∀ k (hk : k < xs.length),(xs.take k).any (qM xs[k].A xs[k].P) = false ∧ (xs.take k).any (qM xs[k].B xs[k].Q) = false) := by
 have own1 : ∀ k (hk : k < xs.length),qZ xs[k].A xs[k].P xs[k] = 1 := fun k hk => by
  have := hne xs[k] (List.getElem_mem hk)
  have h2 : (xs[k].B == xs[k].A) = false := by simpa using fun e => this e.symm
  simp [qZ,h2]
 have own2 : ∀ k (hk : k < xs.length),qZ xs[k].B xs[k].Q xs[k] = 1 := fun k hk => by
  have := hne xs[k] (List.getElem_mem hk)
  have h2 : (xs[k].A == xs[k].B) = false := by simpa using this
  simp [qZ,h2]
 constructor
 ·intro h k hk
  have key : ∀ b p,qZ b p xs[k] = 1 → qO (qZ b p) xs = 1 → (xs.take k).any (qM b p) = false := fun b p h1 h2 => by
   rw [List.any_eq_false]
   intro l hl hu
   obtain ⟨i,hi,rfl⟩ := List.getElem_of_mem hl
   simp only [List.length_take] at hi
   rw [List.getElem_take] at hu
   have := zJO (qZ b p) xs i k (by omega) hk
   have := zDp.1 hu
   omega
  exact ⟨key _ _ (own1 k hk) (h k hk).1,key _ _ (own2 k hk) (h k hk).2⟩
 ·intro h k hk
  have key : ∀ b p,qZ b p xs[k] = 1 → qM b p xs[k] = true → (xs.take k).any (qM b p) = false → qO (qZ b p) xs = 1 := fun b p h1 hu h2 => by
   rw [zOp (qZ b p) xs k hk (fun j hj hjk => ?_),h1]
   rw [List.any_eq_false] at h2
   refine Classical.byContradiction fun hc => ?_
   have hpos := zDp.2 (show 0 < qZ b p xs[j] by omega)
   by_cases hlt : j < k
   ·refine h2 xs[j] ?_ hpos
    have : (xs.take k)[j]? = some xs[j] := by rw [List.getElem?_take,if_pos hlt]; exact List.getElem?_eq_getElem _
    exact List.mem_of_getElem? this
   ·have hkj : k < j := by omega
    have hmem : xs[k] ∈ xs.take j := by
     have : (xs.take j)[k]? = some xs[k] := by rw [List.getElem?_take,if_pos hkj]; exact List.getElem?_eq_getElem _
     exact List.mem_of_getElem? this
    have hh := h j hj
    rw [List.any_eq_false,List.any_eq_false] at hh
    rcases YK.1 hpos with ⟨e1,e2⟩ | ⟨e1,e2⟩
    ·exact hh.1 _ hmem (by rw [e1,e2]; exact hu)
    ·exact hh.2 _ hmem (by rw [e1,e2]; exact hu)
  exact ⟨key _ _ (own1 k hk) (YK.2 (.inl ⟨rfl,rfl⟩)) (h k hk).1,key _ _ (own2 k hk) (YK.2 (.inr ⟨rfl,rfl⟩)) (h k hk).2⟩
theorem zFZ (n : Nat) (xs : List Link) (b p : Int) (h : xs.length ≤ 1048600) : ∀ (m k : Nat),k ≤ xs.length → xs.length < m + k → QA n m xs b p k = some (if (xs.drop k).any (qM b p) then .inr true else .inl ())
 | 0,k,h1,h2 => by omega
 | m + 1,k,h1,h2 => by
  rw [QA]
  by_cases hk : k < xs.length
  ·have ih := zFZ n xs b p h m (k + 1) (by omega) (by omega)
   rw [zp hk,cQ,zI hk,bQ,vQ k,ih,List.drop_eq_getElem_cons hk,List.any_cons]
   unfold qM
   cases xs[k].A == b <;> cases xs[k].P == p <;> cases xs[k].B == b <;> cases xs[k].Q == p <;> rfl
  ·have he : k = xs.length := by omega
   subst he
   rw [zf]; simp
theorem zGY (n : Nat) (xs : List Link) (b p : Int) (h : xs.length ≤ 1048600) (hn : xs.length < n) : zAh n xs b p = some (xs.any (qM b p)) := by
 unfold zAh
 rw [show QA n n xs b p 0 = _ from zFZ n xs b p h n 0 (by omega) (by omega),List.drop_zero]
 cases xs.any (qM b p) <;> rfl
theorem zDl (n : Nat) (x : Net) (b p : Int) (h : x.Ls.length ≤ 1048600) : ∀ (m k c : Nat),k ≤ x.Ls.length → x.Ls.length < m + k → c ≤ 2 * k → q7 n m x b p k c = some (.inl ((c + qO (qZ b p) (x.Ls.drop k) : Nat) : Int))
 | 0,k,c,h1,h2,h3 => by omega
 | m + 1,k,c,h1,h2,h3 => by
  rw [q7]
  by_cases hk : k < x.Ls.length
  ·have ih := fun c' h3' => zDl n x b p h m (k + 1) c' (by omega) (by omega) h3'
   have hw : ∀ z : Nat,z ≤ 4194304 → IntKind.wrap .i64 ((z : Int) + 1) = ((z + 1 : Nat) : Int) := fun z hz => zFr (by omega)
   rw [zp hk,cQ,zI hk,bQ,List.drop_eq_getElem_cons hk,qO]
   simp only [YH,hw k (by omega),hw c (by omega)]
   have hw2 := hw (c + 1) (by omega)
   simp only [hw2]
   unfold qZ
   generalize (x.Ls[k].A == b) = qA
   generalize (x.Ls[k].P == p) = qP
   generalize (x.Ls[k].B == b) = qB
   generalize (x.Ls[k].Q == p) = qQ
   have z0 := ih c (by omega)
   have z1 := ih (c + 1) (by omega)
   have z2 := ih (c + 1 + 1) (by omega)
   unfold qZ at z0 z1 z2
   cases qA <;> cases qP <;> cases qB <;> cases qQ <;> simp only [cQ,fQ,Bool.and_true,Bool.and_false,Bool.true_and,Bool.false_and,Nat.zero_add,Nat.add_zero,z0,z1,z2] <;> simp only [Nat.add_assoc,Nat.reduceAdd]
  ·have he : k = x.Ls.length := by omega
   subst he
   rw [zf]; simp [qO]
theorem Y8 (n : Nat) (x : Net) (b p : Int) (h : x.Ls.length ≤ 1048600) (hn : x.Ls.length < n) : QL n x b p = some ((qO (qZ b p) x.Ls : Nat) : Int) := by
 unfold QL
 rw [show q7 n n x b p 0 0 = _ from zDl n x b p h n 0 0 (by omega) (by omega) (by omega),List.drop_zero,Nat.zero_add]
 rfl
theorem zJQ {b p : Int} : ∀ {xs : List Link},(qO (qZ b p) xs = 0 ↔ xs.any (qM b p) = false)
 | [] => by simp [qO]
 | l :: xs => by
  have ih := zJQ (b := b) (p := p) (xs := xs)
  have h := zDp (b := b) (p := p) (l := l)
  rw [qO,List.any_cons,Bool.or_eq_false_iff,← ih]
  cases hu : qM b p l with
  | true => have := h.1 hu; constructor <;> intro h' <;> first | omega | (exact absurd h'.1 (by simp))
  | false =>
   have : qZ b p l = 0 := by
    refine Classical.byContradiction fun hc => ?_
    have := h.2 (by omega)
    rw [hu] at this; cases this
   constructor
   ·intro h'; exact ⟨rfl,by omega⟩
   ·intro h'; omega
theorem YD {α : Type} {L : Nat → Int → Option (α ⊕ Bool)} {N : Nat} {P : Nat → Prop} (hs : ∀ m (k : Nat),k < N → (P k ∧ L (m + 1) (k : Int) = L m ((k + 1 : Nat) : Int)) ∨ (¬ P k ∧ L (m + 1) (k : Int) = some (.inr false))) (he : ∀ m,∃ a,L (m + 1) (N : Int) = some (.inl a)) :
  ∀ (m k : Nat),k ≤ N → N < m + k → (∃ a,L m (k : Int) = some (.inl a) ∧ ∀ j,k ≤ j → j < N → P j) ∨ (L m (k : Int) = some (.inr false) ∧ ¬ ∀ j,k ≤ j → j < N → P j)
 | 0,k,h1,h2 => by omega
 | m + 1,k,h1,h2 => by
  by_cases hk : k < N
  ·rcases hs m k hk with ⟨hp,e⟩ | ⟨hp,e⟩
   ·rcases YD hs he m (k + 1) (by omega) (by omega) with ⟨a,h3,h4⟩ | ⟨h3,h4⟩
    ·refine .inl ⟨a,e.trans h3,fun j hj hj2 => ?_⟩
     by_cases hjk : j = k
     ·subst hjk; exact hp
     ·exact h4 j (by omega) hj2
    ·exact .inr ⟨e.trans h3,fun h => h4 fun j hj hj2 => h j (by omega) hj2⟩
   ·exact .inr ⟨e,fun h => hp (h k (Nat.le_refl _) hk)⟩
  ·have : k = N := by omega
   subst this
   obtain ⟨a,ha⟩ := he m
   exact .inl ⟨a,ha,fun j hj hj2 => by omega⟩
def BOk (n : Nat) (x : Net) (k : Nat) : Prop := ∀ hk : k < x.Bs.length,zU n x.Bs[k] = some true ∧ (∀ j (hj : j < k),(x.Bs[j]'(by omega)).Id ≠ x.Bs[k].Id) ∧ ∀ p (hp : p < x.Bs[k].Ps.length),x.Bs[k].Ps[p].Has = true → x.Ls.any (qM k p) = true
theorem zK0 {x : Net} (wx : x.wf) {k : Nat} (hk : k < x.Bs.length) : x.Bs[k].wf := wx.1.2 _ (List.getElem_mem hk)
def ZN (x : Net) (b p : Int) : Option Pt := (idx x.Bs b).bind fun v => idx v.Ps p
theorem zDG {α : Type} {xs : List α} {i : Int} : (∃ v,idx xs i = some v) ↔ 0 ≤ i ∧ i < xs.length := by
 constructor
 ·rintro ⟨v,hv⟩; exact Jp hv
 ·intro h
  obtain ⟨j,rfl⟩ := Int.eq_ofNat_of_zero_le h.1
  exact ⟨_,zI (by omega)⟩
theorem zD2 {α : Type} {xs : List α} {i : Int} (h : ¬ (0 ≤ i ∧ i < xs.length)) : idx xs i = none := by
 cases hc : idx xs i with
 | none => rfl
 | some v => exact absurd (Jp hc) h
def LOk (x : Net) (l : Link) : Prop := l.A ≠ l.B ∧ ∃ p q,ZN x l.A l.P = some p ∧ ZN x l.B l.Q = some q ∧ p.Up = q.Up
theorem Yf {x : Net} {b p : Int} {q : Pt} (h : ZN x b p = some q) : ∃ v,idx x.Bs b = some v ∧ idx v.Ps p = some q := by
 unfold ZN at h
 exact bind_some h
theorem VtB.sz {v : zD} (h : VtB v) : v.sz ≤ 1006 := by
 have h1 := h.2.2.1
 have h2 := h.2.2.2.1
 show v.Rows.length + v.Pv.length ≤ 1006
 omega
theorem zIz {α β : Type} {L : Nat → Int → List α → Option (List α ⊕ β)} {f : α → Option α} (xs : List α) (hx : xs.length ≤ 268435455) (hf : ∀ v ∈ xs,f v = some v)
  (h : ∀ m k acc,L (m + 1) k acc = bif decide (k < (xs.length : Int)) then (idx xs k).bind fun v => (f v).bind fun r => bif decide (acc.length + [r].length ≤ 268435456) then L m (IntKind.wrap .i64 (k + 1)) (acc ++ [r]) else none else some (.inl acc)) : ∀ (m k : Nat),k ≤ xs.length → xs.length < m + k → L m k (xs.take k) = some (.inl xs)
 | 0,k,h1,h2 => by omega
 | m + 1,k,h1,h2 => by
  rw [h]
  by_cases hk : k < xs.length
  ·rw [zp hk,cQ,zI hk,bQ,hf _ (List.getElem_mem hk),bQ,tQ (by simp; omega),cQ,zFr (by omega),show xs.take k ++ [xs[k]] = xs.take (k + 1) by rw [List.take_add_one,List.getElem?_eq_getElem hk]; rfl]
   exact zIz xs hx hf h m (k + 1) (by omega) (by omega)
  ·have he : k = xs.length := by omega
   subst he
   rw [zf,fQ,List.take_length]
theorem Jb (n : Nat) (x : Net) (h : x.sz ≤ 268435455) (hn : x.sz < n) : YU n x = some x := by
 have hs : (x.Bs.length + Qo zA.sz x.Bs) + x.Ls.length + x.Said.length = x.sz := rfl
 have := zIz (L := fun m k acc => QY n m x k acc) (f := Ql n) x.Bs (by omega) (fun v hv => by have := zBx (sz := zA.sz) hv; exact Yd n v (by omega)) (fun m k acc => by rw [QY]) n 0 (by omega) (by omega)
 unfold YU
 rw [tQ (by simp; omega),tQ (by simp; omega),cQ,cQ,show QY n n x 0 [] = _ from this]
 rfl
theorem JV (n : Nat) (x : Net) (h : x.sz ≤ 268435455) (hn : x.sz < n) : YO n x = some x := by
 have hs : (x.Bs.length + Qo zA.sz x.Bs) + x.Ls.length + x.Said.length = x.sz := rfl
 have := zIz (L := fun m k acc => QV n m x k acc) (f := Zd n) x.Bs (by omega) (fun v hv => by have := zBx (sz := zA.sz) hv; exact Qc n v (by omega)) (fun m k acc => by rw [QV]) n 0 (by omega) (by omega)
 unfold YO
 rw [tQ (by simp; omega),tQ (by simp; omega),cQ,cQ,show QV n n x 0 [] = _ from this]
 rfl
theorem zCE (n : Nat) (v : Vec) (h : zo n v = some true) : v.wf := by
 unfold zo at h
 simp only [zP,bQ] at h
 cases h1 : (decide (1 ≤ v.Root) && decide (v.Root ≤ 99)) with
 | false => rw [h1] at h; cases h
 | true =>
  cases h2 : (decide (0 ≤ v.Co) && decide (v.Co ≤ 100000)) with
  | false => rw [h1,h2] at h; cases h
  | true =>
   cases h3 : (decide (0 ≤ v.Hops) && decide (v.Hops ≤ 10)) with
   | false => rw [h1,h2,h3] at h; cases h
   | true =>
    cases h4 : (decide (1 ≤ v.Bridge) && decide (v.Bridge ≤ 99)) with
    | false => rw [h1,h2,h3,h4] at h; cases h
    | true =>
     rw [h1,h2,h3,h4] at h
     simp only [cQ,Option.some.injEq,Bool.and_eq_true,decide_eq_true_eq] at h h1 h2 h3 h4
     exact ⟨zV (by omega) (by omega),zV (by omega) (by omega),zV (by omega) (by omega),zV (by omega) (by omega),zV (by omega) (by omega),trivial⟩
theorem zJD (n : Nat) (x : zA) (p : Int) (u : Vec) (wx : x.wf) (hx : x.sz ≤ 1048576) (hn : 1048577 < n) : ∃ y : zA,ZU n x p u = some y ∧ Zg n x p u = some y ∧ y.sz ≤ x.sz ∧ y.wf := by
 have hs : x.Name.size + x.Ps.length + x.F.length + x.V.sz = x.sz := rfl
 obtain ⟨b,h1,h2⟩ := Zw n x wx (by omega) (by omega)
 unfold ZU Zg
 rw [Yd n x (by omega),Qc n x (by omega),bQ,bQ,J1 n x p b h1 (by omega),zAi n x p b h2 (by omega),bQ,bQ]
 cases hc : (b && (decide (0 ≤ p) && decide (p < x.Ps.length))) with
 | false => exact ⟨x,rfl,rfl,Nat.le_refl _,wx⟩
 | true =>
  simp only [Bool.and_eq_true,decide_eq_true_eq] at hc
  obtain ⟨rfl,q0,q1⟩ := hc
  obtain ⟨k,rfl⟩ := Int.eq_ofNat_of_zero_le q0
  have hk : k < x.Ps.length := by omega
  simp only [nQ,fQ,cQ]
  rw [zI hk,bQ,bQ]
  obtain ⟨c,hc⟩ := zBQ n u
  rw [zB2,hc]
  simp only [bQ]
  cases hu : x.Ps[k].Up with
  | false => simp only [Bool.not_false,cQ,fQ]; exact ⟨x,rfl,rfl,Nat.le_refl _,wx⟩
  | true =>
   cases c with
   | false => simp only [Bool.not_false,nQ,cQ,fQ]; exact ⟨x,rfl,rfl,Nat.le_refl _,wx⟩
   | true =>
    have wu := zCE n u hc
    obtain ⟨zs,v,bb,e1,e2,e3,e4,e5,e6,_⟩ := zEv n x hn hx h1 (x.Ps.set k ⟨true,x.Ps[k].Co,true,u⟩) (by simp) x.F (Nat.le_refl _) x.Tk
    have hi : idx (x.Ps.set k ⟨x.Ps[k].Up,x.Ps[k].Co,true,x.Ps[k].Hd⟩) (k : Int) = some ⟨x.Ps[k].Up,x.Ps[k].Co,true,x.Ps[k].Hd⟩ := by
     rw [zI (by simpa using hk)]; simp
    simp only [QU,nQ,fQ,cQ,bQ,zI hk,Int.toNat_natCast,hi,List.set_set,hu,e1,e2]
    have hi' : idx (x.Ps.set k ⟨true,x.Ps[k].Co,true,x.Ps[k].Hd⟩) (k : Int) = some ⟨true,x.Ps[k].Co,true,x.Ps[k].Hd⟩ := by
     rw [zI (by simpa using hk)]; simp
    simp only [hi',bQ,e1,e2]
    have wv : zh v := zV (by omega) (by omega)
    obtain ⟨w1,w2,w3,w4,w5,w6,w7,w8,w9,w10,w11,w12⟩ := wx
    refine ⟨_,rfl,rfl,?_,w1,w2,zB7 w3 ⟨(w3.2 _ (List.getElem_mem hk)).1,wu.1,wu.2.1,wu.2.2.1,wu.2.2.2.1,wu.2.2.2.2.1,trivial⟩,zJp w4 e4 e3,w5,w6,w7,w8,w9,w10,wv,trivial⟩
    simp only [zA.sz,List.length_set] at hs ⊢
    omega
theorem zLP {α : Type} {sz : α → Nat} : ∀ (xs : List α) (k : Nat) (hk : k < xs.length) (v : α),sz v ≤ sz xs[k] → Qo sz (xs.set k v) ≤ Qo sz xs
 | [],k,hk,v,h => by simp at hk
 | x :: xs,0,hk,v,h => by
  simp only [List.set_cons_zero,Qo]
  have : sz v ≤ sz x := h
  omega
 | x :: xs,k + 1,hk,v,h => by
  simp only [List.set_cons_succ,Qo]
  have := zLP xs k (by simpa using hk) v (by simpa using h)
  omega
def HB (x : Net) (ys : List zA) : Prop := ys.length = x.Bs.length ∧ (∀ v ∈ ys,v.wf) ∧ Qo zA.sz ys ≤ Qo zA.sz x.Bs
theorem HB.self {x : Net} (wx : x.wf) : HB x x.Bs := ⟨rfl,wx.1.2,Nat.le_refl _⟩
theorem zLC (n : Nat) {x : Net} {ys : List zA} (hb : HB x ys) (hx : x.sz ≤ 1048576) (hn : 1048577 < n) {i : Int} {a : zA} (hi : idx x.Bs i = some a) (p : Int) (u : Vec) : ∃ v y,idx ys i = some v ∧ ZU n v p u = some y ∧ Zg n v p u = some y ∧ HB x (ys.set i.toNat y) := by
 have hs : (x.Bs.length + Qo zA.sz x.Bs) + x.Ls.length + x.Said.length = x.sz := rfl
 obtain ⟨b1,b2,b3⟩ := hb
 obtain ⟨q0,q1⟩ := Jp hi
 obtain ⟨k,rfl⟩ := Int.eq_ofNat_of_zero_le q0
 have hk : k < ys.length := by omega
 have hsz := zBx (sz := zA.sz) (List.getElem_mem hk)
 obtain ⟨y,e1,e2,e3,e4⟩ := zJD n ys[k] p u (b2 _ (List.getElem_mem hk)) (by omega) hn
 refine ⟨ys[k],y,zI hk,e1,e2,by rw [List.length_set]; exact b1,fun v hv => ?_,?_⟩
 ·rcases List.mem_or_eq_of_mem_set hv with h | rfl
  ·exact b2 v h
  ·exact e4
 ·have := zLP (sz := zA.sz) ys k hk y e3
  simp only [Int.toNat_natCast]
  omega
theorem zBp (n : Nat) (x : Net) (wx : x.wf) (hx : x.sz ≤ 1048576) (hn : 1048577 < n) : ∀ (m k : Nat) (ys : List zA),HB x ys → k ≤ x.Ls.length → x.Ls.length < m + k → ∃ zs,HB x zs ∧ Qk n m x k ys x.Ls [] = some (.inl (zs,x.Ls,[])) ∧ Qh n m x k ys x.Ls [] = some (.inl (zs,x.Ls,[]))
 | 0,k,ys,hb,h1,h2 => by omega
 | m + 1,k,ys,hb,h1,h2 => by
  have hs : (x.Bs.length + Qo zA.sz x.Bs) + x.Ls.length + x.Said.length = x.sz := rfl
  rw [Qk,Qh]
  by_cases hk : k < x.Ls.length
  ·obtain ⟨b,u1,u2⟩ := zEz n x k wx (by omega)
   rw [zp hk,cQ,cQ,u1,u2,bQ,zI hk,bQ,bQ,vQ k]
   cases b with
   | false => exact zBp n x wx hx hn m (k + 1) ys hb (by omega) (by omega)
   | true =>
    obtain ⟨l,a,c,p,q,hl,ha,_,_,hc,_,_⟩ := zE0 n x k u1
    rw [zI hk] at hl
    obtain rfl := Option.some.inj hl
    have pa := zMD hx (zM1 ha)
    have pc := zMD hx (zM1 hc)
    have qa : a.Name.size + a.Ps.length + a.F.length + a.V.sz = a.sz := rfl
    have qc : c.Name.size + c.Ps.length + c.F.length + c.V.sz = c.sz := rfl
    obtain ⟨s1,f1⟩ := zC1 n c.Id c.Ps x.Ls[k].Q (by omega) (by omega)
    obtain ⟨s2,f2⟩ := zC1 n a.Id a.Ps x.Ls[k].P (by omega) (by omega)
    obtain ⟨v1,y1,i1,g1,g1',hb1⟩ := zLC n hb hx hn ha x.Ls[k].P s1
    obtain ⟨v2,y2,i2,g2,g2',hb2⟩ := zLC n hb1 hx hn hc x.Ls[k].Q s2
    obtain ⟨zs,r1,r2,r3⟩ := zBp n x wx hx hn m (k + 1) _ hb2 (by omega) (by omega)
    refine ⟨zs,r1,?_,?_⟩
    ·simp only [cQ,fQ,YI,Qm,zI hk,bQ,ha,hc,f1,f2,i1,g1,i2,g2,r2]
    ·simp only [cQ,JA,ZF,zDI,bQ,ha,hc,f1,f2,i1,g1',i2,g2',r3]
  ·have he : k = x.Ls.length := by omega
   subst he
   rw [zf]
   exact ⟨ys,hb,rfl,rfl⟩
def Big (x : Net) : Prop := x.Bs.length ≤ 1048576 ∧ (∀ a ∈ x.Bs,a.sz ≤ 1048576) ∧ x.Ls.length ≤ 1048576 ∧ x.Said.length ≤ 1048576
theorem zFi (n : Nat) (x : Net) (wx : x.wf) (h : Big x) (hn : 1048700 < n) (m k : Nat) (hk : k < x.Bs.length) : (BOk n x k ∧ zr n (m + 1) x k = zr n m x ((k + 1 : Nat) : Int)) ∨ (¬ BOk n x k ∧ zr n (m + 1) x k = some (.inr false)) := by
 have ⟨hl1,hl2,hl3,hl4⟩ := h
 have hps := hl2 _ (List.getElem_mem hk)
 have hs2 : x.Bs[k].Name.size + x.Bs[k].Ps.length + x.Bs[k].F.length + x.Bs[k].V.sz = x.Bs[k].sz := rfl
 obtain ⟨b,hb,_⟩ := Zw n x.Bs[k] (zK0 wx hk) (by omega) (by omega)
 rw [zr,zp hk,cQ,zI hk,bQ,hb,bQ]
 cases b with
 | false => exact .inr ⟨fun hc => absurd ((hc hk).1.symm.trans hb) (by simp),rfl⟩
 | true =>
  simp only [nQ,fQ]
  have h6 := YD (L := fun m j => qx n m x k j) (N := k) (P := fun j => ∀ hj : j < k,(x.Bs[j]'(by omega)).Id ≠ x.Bs[k].Id) (fun m j hj => by
   simp only [qx]
   rw [zp hj,cQ,zI (show j < x.Bs.length by omega),bQ,zI hk,bQ,vQ j]
   by_cases he : (x.Bs[j]'(by omega)).Id = x.Bs[k].Id
   ·exact .inr ⟨fun hc => hc hj he,by rw [show ((x.Bs[j]'(by omega)).Id == x.Bs[k].Id) = true from by simpa using he]; rfl⟩
   ·exact .inl ⟨fun _ => he,by rw [show ((x.Bs[j]'(by omega)).Id == x.Bs[k].Id) = false from by simpa using he]; rfl⟩) (fun m => ⟨_,by simp only [qx]; rw [zf]; rfl⟩) n 0 (by omega) (by omega)
  rcases h6 with ⟨_,e6,p6⟩ | ⟨e6,p6⟩
  ·rw [show qx n n x k 0 = _ from e6,bQ]
   simp only [Yt]
   have h5 := YD (L := fun m j => qj n m x k j) (N := x.Bs[k].Ps.length) (P := fun j => ∀ hp : j < x.Bs[k].Ps.length,x.Bs[k].Ps[j].Has = true → x.Ls.any (qM k j) = true) (fun m j hj => by
    simp only [qj]
    rw [zI hk,bQ,zp hj,cQ,bQ,zI hj,bQ,vQ j]
    cases hh : x.Bs[k].Ps[j].Has with
    | false => exact .inl ⟨fun _ hc => absurd (hh.symm.trans hc) (by simp),rfl⟩
    | true =>
     rw [cQ,Y8 n x k j (by omega) (by omega),bQ]
     cases hu : x.Ls.any (qM k j) with
     | false => exact .inr ⟨fun hc => absurd (hc hj hh) (by simp),by rw [zJQ.2 hu]; rfl⟩
     | true =>
      have : qO (qZ k j) x.Ls ≠ 0 := fun e => by rw [zJQ.1 e] at hu; cases hu
      exact .inl ⟨fun _ _ => rfl,by rw [show (((qO (qZ k j) x.Ls : Nat) : Int) == 0) = false from by simpa using this]; rfl⟩) (fun m => ⟨_,by simp only [qj]; rw [zI hk,bQ,zf]; rfl⟩) n 0 (by omega) (by omega)
   rcases h5 with ⟨a,e5,p5⟩ | ⟨e5,p5⟩
   ·rw [show qj n n x k 0 = _ from e5,bQ]
    refine .inl ⟨fun _ => ⟨hb,fun j hj => p6 j (by omega) hj hj,fun p hp => p5 p (by omega) hp hp⟩,?_⟩
    simp only [Yu,vQ k]
   ·rw [show qj n n x k 0 = _ from e5,bQ]
    exact .inr ⟨fun hc => p5 fun j _ hj2 _ => (hc hk).2.2 j hj2,rfl⟩
  ·rw [show qx n n x k 0 = _ from e6,bQ]
   exact .inr ⟨fun hc => p6 fun j _ hj2 _ => (hc hk).2.1 j hj2,rfl⟩
theorem zHW (n : Nat) (x : Net) (wx : x.wf) (h : Big x) (hn : 1048700 < n) (m k : Nat) (hk : k < x.Bs.length) : (BOk n x k ∧ qX n (m + 1) x k = qX n m x ((k + 1 : Nat) : Int)) ∨ (¬ BOk n x k ∧ qX n (m + 1) x k = some (.inr false)) := by
 have ⟨hl1,hl2,hl3,hl4⟩ := h
 have hps := hl2 _ (List.getElem_mem hk)
 have hs2 : x.Bs[k].Name.size + x.Bs[k].Ps.length + x.Bs[k].F.length + x.Bs[k].V.sz = x.Bs[k].sz := rfl
 obtain ⟨b,hb,hb2⟩ := Zw n x.Bs[k] (zK0 wx hk) (by omega) (by omega)
 have hg : (decide ((0 : Int) ≤ 0) && (decide ((0 : Int) ≤ (k : Int)) && decide ((k : Int) ≤ (x.Bs.length : Int)))) = true := by
  rw [tQ (by omega),tQ (by omega),tQ (by omega)]; rfl
 rw [qX,zp hk,cQ,zI hk,bQ,hb2,bQ]
 cases b with
 | false => exact .inr ⟨fun hc => absurd ((hc hk).1.symm.trans hb) (by simp),rfl⟩
 | true =>
  simp only [nQ,fQ,hg,cQ]
  have ht : (x.Bs.drop ((0 : Int)).toNat).take (((k : Int)).toNat - ((0 : Int)).toNat) = x.Bs.take k := by simp
  have hl : (x.Bs.take k).length = k := by simp; omega
  have h8 := YD (L := fun m j => QE n m x.Bs[k] x k j) (N := k) (P := fun j => ∀ hj : j < k,(x.Bs[j]'(by omega)).Id ≠ x.Bs[k].Id) (fun m j hj => by
   simp only [QE,ht]
   rw [hl,zp hj,cQ,zI (show j < (x.Bs.take k).length by omega),bQ,List.getElem_take,vQ j]
   by_cases he : (x.Bs[j]'(by omega)).Id = x.Bs[k].Id
   ·exact .inr ⟨fun hc => hc hj he,by rw [show ((x.Bs[j]'(by omega)).Id == x.Bs[k].Id) = true from by simpa using he]; rfl⟩
   ·exact .inl ⟨fun _ => he,by rw [show ((x.Bs[j]'(by omega)).Id == x.Bs[k].Id) = false from by simpa using he]; rfl⟩) (fun m => ⟨_,by simp only [QE,ht]; rw [hl,zf]; rfl⟩) n 0 (by omega) (by omega)
  rcases h8 with ⟨a1,e8,p8⟩ | ⟨e8,p8⟩
  ·rw [show QE n n x.Bs[k] x k 0 = _ from e8,bQ]
   simp only [zAt]
   have h7 := YD (L := fun m j => Zh n m x.Bs[k] x k j) (N := x.Bs[k].Ps.length) (P := fun j => ∀ hp : j < x.Bs[k].Ps.length,x.Bs[k].Ps[j].Has = true → x.Ls.any (qM k j) = true) (fun m j hj => by
    simp only [Zh]
    rw [zp hj,cQ,zI hj,bQ,vQ j]
    cases hh : x.Bs[k].Ps[j].Has with
    | false => exact .inl ⟨fun _ hc => absurd (hh.symm.trans hc) (by simp),rfl⟩
    | true =>
     rw [cQ,zGY n x.Ls k j (by omega) (by omega),bQ]
     cases hu : x.Ls.any (qM k j) with
     | false => exact .inr ⟨fun hc => absurd (hc hj hh) (by simp),rfl⟩
     | true => exact .inl ⟨fun _ _ => rfl,rfl⟩) (fun m => ⟨_,by simp only [Zh]; rw [zf]; rfl⟩) n 0 (by omega) (by omega)
   rcases h7 with ⟨a,e7,p7⟩ | ⟨e7,p7⟩
   ·rw [show Zh n n x.Bs[k] x k 0 = _ from e7,bQ]
    refine .inl ⟨fun _ => ⟨hb,fun j hj => p8 j (by omega) hj hj,fun p hp => p7 p (by omega) hp hp⟩,?_⟩
    simp only [zAu,vQ k]
   ·rw [show Zh n n x.Bs[k] x k 0 = _ from e7,bQ]
    exact .inr ⟨fun hc => p7 fun j _ hj2 _ => (hc hk).2.2 j hj2,rfl⟩
  ·rw [show QE n n x.Bs[k] x k 0 = _ from e8,bQ]
   exact .inr ⟨fun hc => p8 fun j _ hj2 _ => (hc hk).2.1 j hj2,rfl⟩
theorem zGg (n : Nat) (x : Net) (wx : x.wf) (h : Big x) (hn : 1048700 < n) : ∃ b,Ja n x = some b ∧ (b = true ↔ (∀ k,k < x.Bs.length → BOk n x k) ∧ 1 ≤ x.Bs.length ∧ x.Bs.length ≤ 6) := by
 have ⟨hl1,hl2,hl3,hl4⟩ := h
 unfold Ja
 rcases YD (L := fun m k => zr n m x k) (N := x.Bs.length) (P := BOk n x) (fun m k hk => zFi n x wx h hn m k hk) (fun m => ⟨(),by simp only [zr]; rw [zf]; rfl⟩) n 0 (by omega) (by omega) with ⟨a,e,p⟩ | ⟨e,p⟩
 ·rw [show zr n n x 0 = _ from e,bQ]
  simp only [Ys,zP,bQ]
  refine ⟨_,rfl,?_⟩
  rw [Bool.and_eq_true,decide_eq_true_eq,decide_eq_true_eq]
  exact ⟨fun hc => ⟨fun k hk => p k (by omega) hk,by omega,by omega⟩,fun hc => ⟨by omega,by omega⟩⟩
 ·rw [show zr n n x 0 = _ from e,bQ]
  exact ⟨false,rfl,⟨fun hc => (by cases hc),fun hc => absurd (fun k _ hk => hc.1 k hk) p⟩⟩
theorem zEx (n : Nat) (x : Net) (h : Big x) (b p : Int) : Qd n x b p = some (match ZN x b p with | some q => (q,true) | none => (⟨false,0,false,⟨0,0,0,0,0⟩⟩,false)) := by
 have ⟨hl1,hl2,hl3,hl4⟩ := h
 unfold Qd ZN
 rw [ZD,zBf n b _ (show x.Bs.length ≤ 1048600 by omega),bQ]
 by_cases hb : 0 ≤ b ∧ b < x.Bs.length
 ·obtain ⟨v,hv⟩ := zDG.2 hb
  have := hl2 _ (List.mem_of_getElem? (zK hv).2)
  have hs2 : v.Name.size + v.Ps.length + v.F.length + v.V.sz = v.sz := rfl
  rw [tQ hb,hv]
  simp only [nQ,fQ,cQ,bQ,zBf n p _ (show v.Ps.length ≤ 1048600 by omega)]
  by_cases hp : 0 ≤ p ∧ p < v.Ps.length
  ·obtain ⟨q,hq⟩ := zDG.2 hp
   simp [hp,hq,hv]
  ·simp [hp,zD2 hp]
 ·simp [hb,zD2 hb]
theorem zE2 (n : Nat) (x : Net) (h : Big x) (hn : 1048700 < n) (b p : Int) : zAU n x b p = some (match ZN x b p with | some q => decide (qO (qZ b p) x.Ls = 1) | none => false) := by
 have ⟨hl1,hl2,hl3,hl4⟩ := h
 unfold zAU ZN
 rw [zBf n b _ (show x.Bs.length ≤ 1048600 by omega),bQ]
 by_cases hb : 0 ≤ b ∧ b < x.Bs.length
 ·obtain ⟨v,hv⟩ := zDG.2 hb
  have := hl2 _ (List.mem_of_getElem? (zK hv).2)
  have hs2 : v.Name.size + v.Ps.length + v.F.length + v.V.sz = v.sz := rfl
  rw [tQ hb,hv]
  simp only [cQ,bQ,zBf n p _ (show v.Ps.length ≤ 1048600 by omega)]
  by_cases hp : 0 ≤ p ∧ p < v.Ps.length
  ·obtain ⟨q,hq⟩ := zDG.2 hp
   rw [tQ hp,hq,cQ,Y8 n x b p (by omega) (by omega),bQ]
   by_cases h1 : qO (qZ b p) x.Ls = 1
   ·simp [h1]
   ·have : ((qO (qZ b p) x.Ls : Nat) : Int) ≠ 1 := by omega
    simp [h1,this]
  ·simp [hp,zD2 hp]
 ·simp [hb,zD2 hb]
theorem zHb (n : Nat) (x : Net) (h : Big x) (hn : 1048700 < n) (m k : Nat) (hk : k < x.Ls.length) :
  ((∀ hk : k < x.Ls.length,LOk x x.Ls[k] ∧ qO (qZ x.Ls[k].A x.Ls[k].P) x.Ls = 1 ∧ qO (qZ x.Ls[k].B x.Ls[k].Q) x.Ls = 1) ∧ ZG n (m + 1) x k = ZG n m x ((k + 1 : Nat) : Int)) ∨
  (¬ (∀ hk : k < x.Ls.length,LOk x x.Ls[k] ∧ qO (qZ x.Ls[k].A x.Ls[k].P) x.Ls = 1 ∧ qO (qZ x.Ls[k].B x.Ls[k].Q) x.Ls = 1) ∧ ZG n (m + 1) x k = some (.inr false)) := by
 have ⟨hl1,hl2,hl3,hl4⟩ := h
 rw [ZG,zp hk,cQ,zI hk,bQ,zE2 n x h hn,zE2 n x h hn,vQ k]
 by_cases hab : x.Ls[k].A = x.Ls[k].B
 ·exact .inr ⟨fun hc => (hc hk).1.1 (hab),by rw [show (x.Ls[k].A == x.Ls[k].B) = true from by simpa using hab]; rfl⟩
 ·rw [show (x.Ls[k].A == x.Ls[k].B) = false from by simpa using hab]
  simp only [fQ,bQ]
  cases hp : ZN x x.Ls[k].A x.Ls[k].P with
  | none => exact .inr ⟨fun hc => (by obtain ⟨p,q,e,_⟩ := (hc hk).1.2; rw [hp] at e; cases e),rfl⟩
  | some p =>
   by_cases h1 : qO (qZ x.Ls[k].A x.Ls[k].P) x.Ls = 1
   ·simp only [tQ h1,nQ,fQ]
    cases hq : ZN x x.Ls[k].B x.Ls[k].Q with
    | none => exact .inr ⟨fun hc => (by obtain ⟨p,q,_,e,_⟩ := (hc hk).1.2; rw [hq] at e; cases e),rfl⟩
    | some q =>
     by_cases h2 : qO (qZ x.Ls[k].B x.Ls[k].Q) x.Ls = 1
     ·obtain ⟨v,v1,v2⟩ := Yf hp
      obtain ⟨u,u1,u2⟩ := Yf hq
      simp only [tQ h2,nQ,fQ,v1,v2,u1,u2,bQ]
      by_cases h3 : p.Up = q.Up
      ·exact .inl ⟨fun _ => ⟨⟨hab,p,q,hp,hq,h3⟩,h1,h2⟩,by rw [h3]; simp⟩
      ·refine .inr ⟨fun hc => ?_,by rw [show (p.Up == q.Up) = false from by simpa using h3]; rfl⟩
       obtain ⟨p',q',e1,e2,e3⟩ := (hc hk).1.2
       rw [hp] at e1; rw [hq] at e2
       cases e1; cases e2; exact h3 e3
     ·exact .inr ⟨fun hc => h2 (hc hk).2.2,by simp only [dQ h2]; rfl⟩
   ·exact .inr ⟨fun hc => h1 (hc hk).2.1,by simp only [dQ h1]; rfl⟩
theorem zGZ (n : Nat) (x : Net) (h : Big x) (hn : 1048700 < n) (m k : Nat) (hk : k < x.Ls.length) :
  ((∀ hk : k < x.Ls.length,k < 9 ∧ LOk x x.Ls[k] ∧ (x.Ls.take k).any (qM x.Ls[k].A x.Ls[k].P) = false ∧ (x.Ls.take k).any (qM x.Ls[k].B x.Ls[k].Q) = false) ∧ qn n (m + 1) x k = qn n m x ((k + 1 : Nat) : Int)) ∨
  (¬ (∀ hk : k < x.Ls.length,k < 9 ∧ LOk x x.Ls[k] ∧ (x.Ls.take k).any (qM x.Ls[k].A x.Ls[k].P) = false ∧ (x.Ls.take k).any (qM x.Ls[k].B x.Ls[k].Q) = false) ∧ qn n (m + 1) x k = some (.inr false)) := by
 have ⟨hl1,hl2,hl3,hl4⟩ := h
 have hg : (decide ((0 : Int) ≤ 0) && (decide ((0 : Int) ≤ (k : Int)) && decide ((k : Int) ≤ (x.Ls.length : Int)))) = true := by
  rw [tQ (by omega),tQ (by omega),tQ (by omega)]; rfl
 have ht : (x.Ls.drop ((0 : Int)).toNat).take (((k : Int)).toNat - ((0 : Int)).toNat) = x.Ls.take k := by simp
 have hlen : (x.Ls.take k).length ≤ 1048600 := by simp; omega
 rw [qn,zp hk,cQ,zI hk,bQ,zEx n x h,bQ,zEx n x h,bQ]
 simp only [hg,cQ,ht,zGY n (x.Ls.take k) _ _ hlen (by omega),bQ,vQ k]
 by_cases h9 : k < 9
 ·rw [dQ (show ¬ ((k : Nat) : Int) ≥ 9 by omega),fQ]
  cases hp : ZN x x.Ls[k].A x.Ls[k].P with
  | none => exact .inr ⟨fun hc => (by obtain ⟨p,q,e,_⟩ := (hc hk).2.1.2; rw [hp] at e; cases e),rfl⟩
  | some p =>
   cases hq : ZN x x.Ls[k].B x.Ls[k].Q with
   | none => exact .inr ⟨fun hc => (by obtain ⟨p,q,_,e,_⟩ := (hc hk).2.1.2; rw [hq] at e; cases e),rfl⟩
   | some q =>
    simp only [nQ,fQ]
    by_cases hab : x.Ls[k].A = x.Ls[k].B
    ·exact .inr ⟨fun hc => (hc hk).2.1.1 (hab),by rw [show (x.Ls[k].A == x.Ls[k].B) = true from by simpa using hab]; rfl⟩
    ·rw [show (x.Ls[k].A == x.Ls[k].B) = false from by simpa using hab,fQ]
     by_cases h3 : p.Up = q.Up
     ·rw [show (!(p.Up == q.Up)) = false from by simp [h3],fQ]
      cases h1 : (x.Ls.take k).any (qM x.Ls[k].A x.Ls[k].P) with
      | true => exact .inr ⟨fun hc => (by have := (hc hk).2.2.1; rw [h1] at this; cases this),rfl⟩
      | false =>
       cases h2 : (x.Ls.take k).any (qM x.Ls[k].B x.Ls[k].Q) with
       | true => exact .inr ⟨fun hc => (by have := (hc hk).2.2.2; rw [h2] at this; cases this),rfl⟩
       | false => exact .inl ⟨fun _ => ⟨h9,⟨hab,p,q,hp,hq,h3⟩,h1,h2⟩,rfl⟩
     ·refine .inr ⟨fun hc => ?_,by rw [show (p.Up == q.Up) = false from by simpa using h3]; rfl⟩
      obtain ⟨p',q',e1,e2,e3⟩ := (hc hk).2.1.2
      rw [hp] at e1; rw [hq] at e2
      cases e1; cases e2; exact h3 e3
 ·exact .inr ⟨fun hc => h9 (hc hk).1,by rw [tQ (show ((k : Nat) : Int) ≥ 9 by omega)]; rfl⟩
def zGp (n : Nat) (x : Net) : Prop := (∀ k,k < x.Bs.length → BOk n x k) ∧ (1 ≤ x.Bs.length ∧ x.Bs.length ≤ 6) ∧ x.Ls.length ≤ 9 ∧ x.Said.length ≤ 40 ∧ ∀ k (hk : k < x.Ls.length),LOk x x.Ls[k] ∧ qO (qZ x.Ls[k].A x.Ls[k].P) x.Ls = 1 ∧ qO (qZ x.Ls[k].B x.Ls[k].Q) x.Ls = 1
theorem zAC (n : Nat) (x : zA) (hn : x.Ps.length < n) (h1 : 1 ≤ x.Ps.length) (h2 : x.Ps.length ≤ 6) (h3 : 1 ≤ x.Id) (h4 : x.Id ≤ 99) (h5 : x.Name.size ≤ 10) (h6 : ZQ n x.F = some true) (h7 : zy n x.V (x.Ps.length : Int) = some true) (h8 : 0 ≤ x.Tk ∧ x.Tk ≤ 1000000) (h9 : 0 ≤ x.Pa ∧ x.Pa ≤ 1000000) (h10 : 0 ≤ x.Wo ∧ x.Wo ≤ 1000000) (h11 : 0 ≤ x.Dr ∧ x.Dr ≤ 1000000) (h12 : 0 ≤ x.Ve ∧ x.Ve ≤ 1000000) (h13 : ∀ j (hj : j < x.Ps.length),qC n x.Ps[j] = some true) : zU n x = some true := by
 have two : ∀ {a b c : Int},a ≤ b → b ≤ c → (decide (a ≤ b) && decide (b ≤ c)) = true := fun h h' => by rw [tQ h,tQ h']; rfl
 unfold zU
 rcases YD (L := fun m k => z6 n m x k) (N := x.Ps.length) (P := fun k => ∀ hk : k < x.Ps.length,qC n x.Ps[k] = some true) (fun m k hk => by
  simp only [z6]
  rw [zp hk,cQ,zI hk,bQ,h13 k hk,bQ,vQ k]
  exact .inl ⟨fun _ => h13 k hk,rfl⟩) (fun m => ⟨(),by simp only [z6]; rw [zf]; rfl⟩) n 0 (by omega) (by omega) with ⟨a,e,_⟩ | ⟨_,p⟩
 ·rw [show z6 n n x 0 = _ from e]
  simp only [bQ,Qs,Y2,zP,two h3 h4,two h8.1 h8.2,two h9.1 h9.2,two h10.1 h10.2,two h11.1 h11.2,two h12.1 h12.2,two (show (1 : Int) ≤ (x.Ps.length : Int) by omega) (show (x.Ps.length : Int) ≤ 6 by omega),tQ (show (x.Name.size : Int) ≤ 10 by omega),h6,h7,cQ]
 ·exact absurd (fun j _ _ hj => h13 j hj) p
def dnP : Pt := ⟨false,1,false,⟨0,0,0,0,0⟩⟩
def upP : Pt := ⟨true,1,false,⟨0,0,0,0,0⟩⟩
def psK (p k : Nat) : List Pt := List.replicate k upP ++ List.replicate (p - k) dnP
theorem JM {p k : Nat} (h : k ≤ p) : (psK p k).length = p := by simp [psK]; omega
theorem zDs {p k j : Nat} (hj : j < (psK p k).length) : (psK p k)[j] = if j < k then upP else dnP := by
 unfold psK at hj ⊢
 by_cases h : j < k
 ·rw [List.getElem_append_left (by simpa using h),if_pos h]; simp
 ·rw [List.getElem_append_right (by simpa using h),if_neg h]; simp
theorem zPJ {p k : Nat} (h : k < p) : (psK p k).set k upP = psK p (k + 1) := by
 refine List.ext_getElem (by rw [List.length_set,JM (by omega),JM (by omega)]) fun j h1 h2 => ?_
 rw [List.length_set] at h1
 rw [List.getElem_set,zDs,zDs]
 by_cases hj : k = j
 ·subst hj; rw [if_pos rfl,if_pos (by omega)]
 ·rw [if_neg hj]
  by_cases hk : j < k
  ·rw [if_pos hk,if_pos (by omega)]
  ·rw [if_neg hk,if_neg (by omega)]
def nbB (z : Int) (vt : zD) (ps : List Pt) (v : Int) : zA := ⟨z,⟨#[]⟩,ps,[],vt,0,0,0,0,v⟩
def noB : zA := ⟨0,⟨#[]⟩,[],[],⟨[],[]⟩,0,0,0,0,0⟩
theorem zL6 {z : Int} {vt : zD} {ps : List Pt} {v : Int} : (nbB z vt ps v).sz = ps.length + vt.sz := by
 show 0 + ps.length + 0 + vt.sz = _
 omega
theorem zJr {z : Int} {vt : zD} {p k : Nat} {v : Int} (hz : 1 ≤ z ∧ z ≤ 99) (h1 : 1 ≤ p) (h6 : p ≤ 6) (hk : k ≤ p) (hv : zy 1048800 vt p = some true) (v0 : 0 ≤ v) (v1 : v ≤ 1000000) : zU 1048800 (nbB z vt (psK p k) v) = some true := by
 have hl := JM hk
 have d0 : (0 : Int) ≤ 0 ∧ (0 : Int) ≤ 1000000 := by decide
 refine zAC 1048800 (nbB z vt (psK p k) v) (by show (psK p k).length < _; omega) (by show 1 ≤ (psK p k).length; omega) (by show (psK p k).length ≤ 6; omega) hz.1 hz.2 (Nat.zero_le 10) (by kernel_rfl) (by show zy 1048800 vt ((psK p k).length : Int) = _; rw [hl]; exact hv) d0 d0 d0 d0 ⟨v0,v1⟩ (fun j hj => ?_)
 have e : (nbB z vt (psK p k) v).Ps[j] = if j < k then upP else dnP := zDs hj
 rw [e]
 split <;> rfl
theorem zL7 {z : Int} {vt : zD} {p k : Nat} {v : Int} (hz : 1 ≤ z ∧ z ≤ 99) (h6 : p ≤ 6) (hk : k ≤ p) (wv : vt.wf) (v0 : 0 ≤ v) (v1 : v ≤ 1000000) : (nbB z vt (psK p k) v).wf := by
 have hm : maxLen = 9223372036854775807 := by decide
 have z0 : zh 0 := zV (by omega) (by omega)
 have o1 : zh 1 := zV (by omega) (by omega)
 have wz : zh z := zV (by omega) (by omega)
 have wv' : zh v := zV (by omega) (by omega)
 refine ⟨wz,Nat.zero_le _,⟨by show (psK p k).length ≤ maxLen; rw [JM hk]; omega,fun q hq => ?_⟩,⟨Nat.zero_le _,fun q hq => by cases hq⟩,wv.1,wv.2.1,z0,z0,z0,z0,wv',trivial⟩
 obtain ⟨j,hj,rfl⟩ := List.getElem_of_mem hq
 have e : (nbB z vt (psK p k) v).Ps[j] = if j < k then upP else dnP := zDs hj
 rw [e]
 split <;> exact ⟨o1,z0,z0,z0,z0,z0,trivial⟩
theorem zN6 : noB.wf := by
 have z0 : zh 0 := zV (by omega) (by omega)
 exact ⟨z0,Nat.zero_le _,⟨Nat.zero_le _,fun q hq => by cases hq⟩,⟨Nat.zero_le _,fun q hq => by cases hq⟩,⟨Nat.zero_le _,fun q hq => by cases hq⟩,⟨Nat.zero_le _,fun q hq => by cases hq⟩,z0,z0,z0,z0,z0,trivial⟩
theorem zQH {z : Int} {vt : zD} {p k : Nat} {v : Int} (hz : 1 ≤ z ∧ z ≤ 99) (h1 : 1 ≤ p) (h6 : p ≤ 6) (hk : k < p) (hv : zy 1048800 vt p = some true) (hs : vt.sz ≤ 10) (wv : vt.wf) (v0 : 0 ≤ v) (v1 : v ≤ 1000000) : ∃ v',0 ≤ v' ∧ v' ≤ 1000000 ∧ Qj 1048800 (nbB z vt (psK p k) v) k true = some (nbB z vt (psK p (k + 1)) v') ∧ YN 1048800 (nbB z vt (psK p k) v) k true = some (nbB z vt (psK p (k + 1)) v') := by
 have hl : (nbB z vt (psK p k) v).Ps.length = p := JM (by omega)
 have hsz : (nbB z vt (psK p k) v).sz ≤ 16 := by rw [zL6,JM (by omega)]; omega
 have ok := zJr (k := k) hz h1 h6 (by omega) hv v0 v1
 have wx := zL7 (v := v) hz h6 (show k ≤ p by omega) wv v0 v1
 obtain ⟨b,e1,e2⟩ := Zw 1048800 _ wx (by omega) (by omega)
 rw [ok] at e1
 cases e1
 have hk' : k < (nbB z vt (psK p k) v).Ps.length := by omega
 have hg : (nbB z vt (psK p k) v).Ps[k].Co = 1 := by
  have e : (nbB z vt (psK p k) v).Ps[k] = if k < k then upP else dnP := zDs hk'
  rw [e]; split <;> rfl
 obtain ⟨zs,v',bb,f1,f2,f3,f4,f5,f6,_⟩ := zEv 1048800 (nbB z vt (psK p k) v) (by omega) (by omega) ok ((nbB z vt (psK p k) v).Ps.set k upP) (by simp) [] (Nat.zero_le _) 0
 have hzs : zs = [] := List.eq_nil_of_length_eq_zero (Nat.le_zero.1 f3)
 subst hzs
 have hset : (nbB z vt (psK p k) v).Ps.set k upP = psK p (k + 1) := zPJ hk
 rw [hset] at f1 f2
 have there : (true && (decide ((0 : Int) ≤ k) && decide ((k : Int) < (nbB z vt (psK p k) v).Ps.length))) = true := by
  rw [tQ (by omega),tQ (by omega)]; rfl
 refine ⟨v',f5,f6,?_,?_⟩
 ·unfold Qj
  rw [Yd 1048800 _ (by omega),bQ,J1 1048800 _ k true ok (by omega),bQ,there]
  simp only [nQ,fQ,zI hk',bQ,hg,Int.toNat_natCast]
  rw [show (⟨true,1,false,(⟨0,0,0,0,0⟩ : Vec)⟩ : Pt) = upP from rfl,hset]
  have : qz 1048800 ⟨(nbB z vt (psK p k) v).Id,(nbB z vt (psK p k) v).Name,psK p (k + 1),(nbB z vt (psK p k) v).F,(nbB z vt (psK p k) v).V,(nbB z vt (psK p k) v).Tk,(nbB z vt (psK p k) v).Pa,(nbB z vt (psK p k) v).Wo,(nbB z vt (psK p k) v).Dr,(nbB z vt (psK p k) v).Ve⟩ = some (nbB z vt (psK p (k + 1)) v') := f1
  rw [this]
  rfl
 ·unfold YN
  rw [Qc 1048800 _ (by omega),bQ,zAi 1048800 _ k true e2 (by omega),bQ,there]
  simp only [cQ,zI hk',bQ,hg,Int.toNat_natCast]
  rw [show (⟨true,1,false,(⟨0,0,0,0,0⟩ : Vec)⟩ : Pt) = upP from rfl,hset]
  have : ZC 1048800 ⟨(nbB z vt (psK p k) v).Id,(nbB z vt (psK p k) v).Name,psK p (k + 1),(nbB z vt (psK p k) v).F,(nbB z vt (psK p k) v).V,(nbB z vt (psK p k) v).Tk,(nbB z vt (psK p k) v).Pa,(nbB z vt (psK p k) v).Wo,(nbB z vt (psK p k) v).Dr,(nbB z vt (psK p k) v).Ve⟩ = some (nbB z vt (psK p (k + 1)) v') := f2
  rw [this]
  rfl
def NU (q : Int) (y y' : zA) : Prop := (y = noB ∧ y' = noB) ∨ ∃ (z : Int) (p : Nat) (vt : zD) (w : Int),q = p ∧ (1 ≤ z ∧ z ≤ 99) ∧ 1 ≤ p ∧ p ≤ 6 ∧ vt.sz ≤ 10 ∧ vt.wf ∧ zy 1048800 vt p = some true ∧ 0 ≤ w ∧ w ≤ 1000000 ∧ y = nbB z vt (psK p 0) 0 ∧ y' = nbB z vt (psK p p) w ∧ ∀ (i : Nat) (zs : List zA) (hi : i < zs.length),zs[i] = y → QN 1048800 1048800 q i 0 zs = some (.inl (zs.set i y'))
theorem NU.facts {q : Int} {y y' : zA} (h : NU q y y') : y.wf ∧ y'.wf ∧ y.sz ≤ 16 ∧ y'.sz ≤ 16 ∧ y.Id = y'.Id ∧ y.Ps.length = y'.Ps.length ∧ (zU 1048800 y = some true ↔ zU 1048800 y' = some true) ∧ (∀ j (hj : j < y.Ps.length),y.Ps[j].Up = false ∧ y.Ps[j].Has = false) ∧ (∀ j (hj : j < y'.Ps.length),y'.Ps[j].Up = true ∧ y'.Ps[j].Has = false) := by
 rcases h with ⟨rfl,rfl⟩ | ⟨z,p,vt,w,rfl,hz,h1,h6,hs,wv,hv,w0,w1,rfl,rfl,_⟩
 ·exact ⟨zN6,zN6,by decide,by decide,rfl,rfl,Iff.rfl,fun j hj => absurd hj (Nat.not_lt_zero j),fun j hj => absurd hj (Nat.not_lt_zero j)⟩
 ·refine ⟨zL7 hz h6 (by omega) wv (by omega) (by omega),zL7 hz h6 (by omega) wv w0 w1,?_,?_,rfl,?_,?_,fun j hj => ?_,fun j hj => ?_⟩
  ·rw [zL6,JM (by omega)]; omega
  ·rw [zL6,JM (by omega)]; omega
  ·show (psK p 0).length = (psK p p).length
   rw [JM (by omega),JM (by omega)]
  ·exact ⟨fun _ => zJr hz h1 h6 (by omega) hv w0 w1,fun _ => zJr hz h1 h6 (by omega) hv (by omega) (by omega)⟩
  ·have e : (nbB z vt (psK p 0) 0).Ps[j] = if j < 0 then upP else dnP := zDs hj
   rw [e,if_neg (by omega)]; exact ⟨rfl,rfl⟩
  ·have e : (nbB z vt (psK p p) w).Ps[j] = if j < p then upP else dnP := zDs hj
   have hl : (nbB z vt (psK p p) w).Ps.length = p := JM (by omega)
   rw [e,if_pos (by omega)]; exact ⟨rfl,rfl⟩
theorem zE1 (q : Int) (ys ys' : List zA) (hl : ys'.length = ys.length) (h6 : ys.length ≤ 6) (hu : ∀ j (hj : j < ys.length) (hj' : j < ys'.length),NU q ys[j] ys'[j]) (hok : ∀ j (hj : j < ys.length),ys[j] ≠ noB) : ∀ (m k : Nat) (zs : List zA),k ≤ ys.length → ys.length < m + k → (hz : zs.length = ys.length) → (∀ j (hj : j < zs.length),zs[j] = if j < k then ys'[j]'(by omega) else ys[j]'(by omega)) → Zq 1048800 m q k zs = some (.inl ys')
 | 0,k,zs,h1,h2,hz,h3 => by omega
 | m + 1,k,zs,h1,h2,hz,h3 => by
  rw [Zq]
  by_cases hk : k < ys.length
  ·rcases hu k hk (by omega) with ⟨e,_⟩ | ⟨z,p,vt,w,rfl,_,_,_,_,_,_,_,_,_,_,f⟩
   ·exact absurd e (hok k hk)
   ·rw [tQ (show (k : Int) < (zs.length : Int) by omega),cQ,f k zs (by omega) (by rw [h3 k (by omega),if_neg (by omega)])]
    simp only [bQ,zAR]
    rw [vQ k]
    refine zE1 _ ys ys' hl h6 hu hok m (k + 1) _ (by omega) (by omega) (by simpa using hz) (fun j hj => ?_)
    rw [List.length_set] at hj
    rw [List.getElem_set]
    by_cases hjk : k = j
    ·subst hjk; rw [if_pos rfl,if_pos (by omega)]
    ·rw [if_neg hjk,h3 j hj]
     by_cases hlt : j < k
     ·rw [if_pos hlt,if_pos (by omega)]
     ·rw [if_neg hlt,if_neg (by omega)]
  ·obtain rfl : k = ys.length := by omega
   rw [dQ (show ¬ ((ys.length : Nat) : Int) < (zs.length : Int) by omega),fQ]
   congr 2
   refine List.ext_getElem (by omega) fun j a b => ?_
   rw [h3 j a,if_pos (by omega)]
theorem zOb (q : Int) (ls : List Link) (ys ys' : List zA) (hl : ys'.length = ys.length) (hu : ∀ j (hj : j < ys.length) (hj' : j < ys'.length),NU q ys[j] ys'[j]) : zGp 1048800 ⟨ys,ls,[]⟩ ↔ zGp 1048800 ⟨ys',ls,[]⟩ := by
 have bok : ∀ k,BOk 1048800 ⟨ys,ls,[]⟩ k ↔ BOk 1048800 ⟨ys',ls,[]⟩ k := fun k => by
  constructor
  ·intro h hk'
   have hk : k < ys.length := by simp only at hk'; omega
   have f := (hu k hk (by simp only at hk'; exact hk')).facts
   obtain ⟨a,b,_⟩ := h hk
   refine ⟨f.2.2.2.2.2.2.1.1 a,fun j hj => ?_,fun p hp hh => ?_⟩
   ·have g := (hu j (by omega) (by omega)).facts
    have := b j hj
    simp only at this ⊢
    rw [← g.2.2.2.2.1,← f.2.2.2.2.1]; exact this
   ·exact absurd (hh.symm.trans (f.2.2.2.2.2.2.2.2 p hp).2) (by simp)
  ·intro h hk
   have hk' : k < ys'.length := by simp only at hk; omega
   have f := (hu k (by simp only at hk; exact hk) hk').facts
   obtain ⟨a,b,_⟩ := h hk'
   refine ⟨f.2.2.2.2.2.2.1.2 a,fun j hj => ?_,fun p hp hh => ?_⟩
   ·have g := (hu j (by omega) (by omega)).facts
    have := b j hj
    simp only at this ⊢
    rw [g.2.2.2.2.1,f.2.2.2.2.1]; exact this
   ·exact absurd (hh.symm.trans (f.2.2.2.2.2.2.2.1 p hp).2) (by simp)
 have port : ∀ b p,(∃ v,ZN ⟨ys,ls,[]⟩ b p = some v) ↔ ∃ v,ZN ⟨ys',ls,[]⟩ b p = some v := fun b p => by
  constructor
  ·rintro ⟨v,hv⟩
   obtain ⟨a,h1,h2⟩ := Yf hv
   obtain ⟨i0,i1⟩ := Jp h1
   obtain ⟨j0,j1⟩ := Jp h2
   obtain ⟨i,rfl⟩ := Int.eq_ofNat_of_zero_le i0
   obtain ⟨j,rfl⟩ := Int.eq_ofNat_of_zero_le j0
   have hi : i < ys.length := by simp only at i1; omega
   rw [zI hi] at h1
   obtain rfl := Option.some.inj h1
   have f := (hu i hi (by omega)).facts.2.2.2.2.2.1
   exact ⟨_,by unfold ZN; rw [zI (show i < ys'.length by omega),bQ,zI (show j < ys'[i].Ps.length by omega)]⟩
  ·rintro ⟨v,hv⟩
   obtain ⟨a,h1,h2⟩ := Yf hv
   obtain ⟨i0,i1⟩ := Jp h1
   obtain ⟨j0,j1⟩ := Jp h2
   obtain ⟨i,rfl⟩ := Int.eq_ofNat_of_zero_le i0
   obtain ⟨j,rfl⟩ := Int.eq_ofNat_of_zero_le j0
   have hi : i < ys'.length := by simp only at i1; omega
   rw [zI hi] at h1
   obtain rfl := Option.some.inj h1
   have f := (hu i (by omega) hi).facts.2.2.2.2.2.1
   exact ⟨_,by unfold ZN; rw [zI (show i < ys.length by omega),bQ,zI (show j < ys[i].Ps.length by omega)]⟩
 have down : ∀ b p v,ZN ⟨ys,ls,[]⟩ b p = some v → v.Up = false := fun b p v hv => by
  obtain ⟨a,h1,h2⟩ := Yf hv
  obtain ⟨i0,i1⟩ := Jp h1
  obtain ⟨j0,j1⟩ := Jp h2
  obtain ⟨i,rfl⟩ := Int.eq_ofNat_of_zero_le i0
  obtain ⟨j,rfl⟩ := Int.eq_ofNat_of_zero_le j0
  have hi : i < ys.length := by simp only at i1; omega
  rw [zI hi] at h1
  obtain rfl := Option.some.inj h1
  have hj : j < ys[i].Ps.length := by omega
  rw [zI hj] at h2
  obtain rfl := Option.some.inj h2
  exact ((hu i hi (by omega)).facts.2.2.2.2.2.2.2.1 j hj).1
 have up : ∀ b p v,ZN ⟨ys',ls,[]⟩ b p = some v → v.Up = true := fun b p v hv => by
  obtain ⟨a,h1,h2⟩ := Yf hv
  obtain ⟨i0,i1⟩ := Jp h1
  obtain ⟨j0,j1⟩ := Jp h2
  obtain ⟨i,rfl⟩ := Int.eq_ofNat_of_zero_le i0
  obtain ⟨j,rfl⟩ := Int.eq_ofNat_of_zero_le j0
  have hi : i < ys'.length := by simp only at i1; omega
  rw [zI hi] at h1
  obtain rfl := Option.some.inj h1
  have hj : j < ys'[i].Ps.length := by omega
  rw [zI hj] at h2
  obtain rfl := Option.some.inj h2
  exact ((hu i (by omega) hi).facts.2.2.2.2.2.2.2.2 j hj).1
 have lok : ∀ l,LOk ⟨ys,ls,[]⟩ l ↔ LOk ⟨ys',ls,[]⟩ l := fun l => by
  constructor
  ·rintro ⟨hab,p,q,e1,e2,_⟩
   obtain ⟨p',e1'⟩ := (port _ _).1 ⟨p,e1⟩
   obtain ⟨q',e2'⟩ := (port _ _).1 ⟨q,e2⟩
   exact ⟨hab,p',q',e1',e2',(up _ _ _ e1').trans (up _ _ _ e2').symm⟩
  ·rintro ⟨hab,p,q,e1,e2,_⟩
   obtain ⟨p',e1'⟩ := (port _ _).2 ⟨p,e1⟩
   obtain ⟨q',e2'⟩ := (port _ _).2 ⟨q,e2⟩
   exact ⟨hab,p',q',e1',e2',(down _ _ _ e1').trans (down _ _ _ e2').symm⟩
 unfold zGp
 constructor
 ·rintro ⟨h1,h2,h3,h4,h5⟩
  exact ⟨fun k hk => (bok k).1 (h1 k (by simp only at hk ⊢; omega)),⟨by simp only at h2 ⊢; omega,by simp only at h2 ⊢; omega⟩,h3,h4,fun k hk => ⟨(lok _).1 (h5 k hk).1,(h5 k hk).2⟩⟩
 ·rintro ⟨h1,h2,h3,h4,h5⟩
  exact ⟨fun k hk => (bok k).2 (h1 k (by simp only at hk ⊢; omega)),⟨by simp only at h2 ⊢; omega,by simp only at h2 ⊢; omega⟩,h3,h4,fun k hk => ⟨(lok _).2 (h5 k hk).1,(h5 k hk).2⟩⟩
theorem zG4 (n : Nat) (xs : List zB) (t a : Int) (h : xs.length ≤ 1048580) : ∀ (m k : Nat),k ≤ xs.length → xs.length < m + k → (QD n m xs t a k = some (.inl ()) ∧ ∀ j,k ≤ j → ∀ hj : j < xs.length,¬ (xs[j].Tag = t ∧ xs[j].Mac = a)) ∨ ∃ j,k ≤ j ∧ ∃ hj : j < xs.length,QD n m xs t a k = some (.inr (j : Int)) ∧ xs[j].Tag = t ∧ xs[j].Mac = a
 | 0,k,h1,h2 => by omega
 | m + 1,k,h1,h2 => by
  rw [QD]
  by_cases hk : k < xs.length
  ·rw [zp hk,cQ,zI hk,bQ,bQ,vQ k]
   by_cases ht : xs[k].Tag = t
   ·rw [show (xs[k].Tag == t) = true from by simpa using ht,cQ]
    by_cases ha : xs[k].Mac = a
    ·rw [show (xs[k].Mac == a) = true from by simpa using ha,cQ]
     exact .inr ⟨k,Nat.le_refl _,hk,rfl,ht,ha⟩
    ·rw [show (xs[k].Mac == a) = false from by simpa using ha,fQ]
     rcases zG4 n xs t a h m (k + 1) (by omega) (by omega) with ⟨e,p⟩ | ⟨j,hj,hj2,e,p⟩
     ·refine .inl ⟨e,fun j hj hj2 => ?_⟩
      by_cases hjk : j = k
      ·subst hjk; exact fun hc => ha hc.2
      ·exact p j (by omega) hj2
     ·exact .inr ⟨j,by omega,hj2,e,p⟩
   ·rw [show (xs[k].Tag == t) = false from by simpa using ht,fQ]
    rcases zG4 n xs t a h m (k + 1) (by omega) (by omega) with ⟨e,p⟩ | ⟨j,hj,hj2,e,p⟩
    ·refine .inl ⟨e,fun j hj hj2 => ?_⟩
     by_cases hjk : j = k
     ·subst hjk; exact fun hc => ht hc.1
     ·exact p j (by omega) hj2
    ·exact .inr ⟨j,by omega,hj2,e,p⟩
  ·obtain rfl : k = xs.length := by omega
   rw [zf]
   exact .inl ⟨rfl,fun j hj hj2 => by omega⟩
theorem zHT (n : Nat) (xs : List zB) (t a : Int) (h : xs.length ≤ 1048580) (hn : xs.length < n) : (zAn n xs t a = some (-1) ∧ ∀ j (hj : j < xs.length),¬ (xs[j].Tag = t ∧ xs[j].Mac = a)) ∨ ∃ j,∃ hj : j < xs.length,zAn n xs t a = some (j : Int) ∧ xs[j].Tag = t ∧ xs[j].Mac = a := by
 unfold zAn
 rcases zG4 n xs t a h n 0 (by omega) (by omega) with ⟨e,p⟩ | ⟨j,_,hj,e,p⟩
 ·rw [show QD n n xs t a 0 = _ from e]
  exact .inl ⟨rfl,fun j hj => p j (by omega) hj⟩
 ·rw [show QD n n xs t a 0 = _ from e]
  exact .inr ⟨j,hj,rfl,p⟩
def Zx (v : zB) (t a : Int) : Prop := v.Tag < t ∨ v.Tag = t ∧ v.Mac < a
instance (v : zB) (t a : Int) : Decidable (Zx v t a) := inferInstanceAs (Decidable (_ ∨ _))
def zBE (e : zB) : List zB → List zB
 | [] => [e]
 | v :: vs => if Zx v e.Tag e.Mac then v :: zBE e vs else if v.Tag = e.Tag ∧ v.Mac = e.Mac then e :: vs else e :: v :: vs
theorem zLz (e : zB) : ∀ xs : List zB,(zBE e xs).length ≤ xs.length + 1
 | [] => Nat.le_refl _
 | v :: vs => by
  unfold zBE
  have := zLz e vs
  split
  ·simp only [List.length_cons]; omega
  ·split <;> simp only [List.length_cons] <;> omega
theorem zDr (e : zB) : ∀ (xs : List zB) (v : zB),v ∈ zBE e xs → v = e ∨ v ∈ xs
 | [],v,h => by simp [zBE] at h; exact .inl h
 | u :: us,v,h => by
  unfold zBE at h
  split at h
  ·rcases List.mem_cons.1 h with rfl | h
   ·exact .inr (by simp)
   ·rcases zDr e us v h with h | h
    ·exact .inl h
    ·exact .inr (by simp [h])
  ·split at h
   ·rcases List.mem_cons.1 h with rfl | h
    ·exact .inl rfl
    ·exact .inr (by simp [h])
   ·rcases List.mem_cons.1 h with rfl | h
    ·exact .inl rfl
    ·exact .inr h
theorem zCN (n : Nat) (v : zB) (t a : Int) : Zm n v t a = some (decide (Zx v t a)) := by
 unfold Zm
 by_cases h : v.Tag = t
 ·rw [show (v.Tag != t) = false from by simpa using h,fQ]
  congr 1
  rw [decide_eq_decide]
  unfold Zx
  constructor
  ·intro h2; exact .inr ⟨h,h2⟩
  ·rintro (h2 | h2)
   ·omega
   ·exact h2.2
 ·rw [show (v.Tag != t) = true from by simpa using h,cQ]
  congr 1
  rw [decide_eq_decide]
  unfold Zx
  constructor
  ·intro h2; exact .inl h2
  ·rintro (h2 | h2)
   ·exact h2
   ·exact absurd h2.1 h
theorem zH5 (n : Nat) (xs : List zB) (h : xs.length ≤ 1048580) (hok : ZQ n xs = some true) : ∀ (j i : Nat) (hij : i < j) (hj : j < xs.length),Zx (xs[i]'(by omega)) xs[j].Tag xs[j].Mac := by
 have hs := (zF8 n xs h hok).2.2
 intro j
 induction j with
 | zero => intro i hij; omega
 | succ j ih =>
  intro i hij hj
  have h1 := hs j hj
  rw [zCN] at h1
  have h1 := of_decide_eq_true (Option.some.inj h1)
  by_cases e : i = j
  ·subst e; exact h1
  ·have := ih i (by omega) (by omega)
   unfold Zx at this h1 ⊢
   omega
theorem zC2 (n : Nat) (xs : List zB) (e : zB) (h : xs.length ≤ 1048580) : ∀ (m k : Nat) (acc : List zB),k ≤ xs.length → xs.length < m + k → acc.length ≤ k + 1 → (∀ j,k ≤ j → ∀ hj : j < xs.length,¬ (xs[j].Tag = e.Tag ∧ xs[j].Mac = e.Mac)) → q8 n m xs e k true acc = some (.inl (true,acc ++ xs.drop k))
 | 0,k,acc,h1,h2,h3,hne => by omega
 | m + 1,k,acc,h1,h2,h3,hne => by
  rw [q8]
  by_cases hk : k < xs.length
  ·have hg : ∀ v : zB,decide (acc.length + [v].length ≤ 268435456) = true := fun v => tQ (by simp; omega)
   have ih := zC2 n xs e h m (k + 1) (acc ++ [xs[k]]) (by omega) (by omega) (by simp; omega) (fun j hj => hne j (by omega))
   rw [zp hk,cQ,nQ,fQ]
   simp only [Qn,zI hk,bQ,hg,cQ,vQ k]
   have hd : acc ++ [xs[k]] ++ xs.drop (k + 1) = acc ++ xs.drop k := by rw [List.append_assoc,List.drop_eq_getElem_cons hk]; rfl
   rw [hd] at ih
   by_cases ht : xs[k].Tag = e.Tag
   ·have hm : xs[k].Mac ≠ e.Mac := fun hm => hne k (Nat.le_refl _) hk ⟨ht,hm⟩
    rw [show (xs[k].Tag != e.Tag) = false from by simpa using ht,fQ,show (xs[k].Mac != e.Mac) = true from by simpa using hm,cQ]
    exact ih
   ·rw [show (xs[k].Tag != e.Tag) = true from by simpa using ht,cQ]
    exact ih
  ·obtain rfl : k = xs.length := by omega
   rw [zf,fQ,List.drop_length,List.append_nil]
theorem zFo (n : Nat) (xs : List zB) (e : zB) (h : xs.length ≤ 1048580) (hs : ∀ (j i : Nat) (hij : i < j) (hj : j < xs.length),Zx (xs[i]'(by omega)) xs[j].Tag xs[j].Mac) : ∀ (m k : Nat) (acc : List zB),k ≤ xs.length → xs.length < m + k → acc.length ≤ k → ∃ b zs,q8 n m xs e k false acc = some (.inl (b,zs)) ∧ zs.length ≤ xs.length + 1 ∧ (bif !b then zs ++ [e] else zs) = acc ++ zBE e (xs.drop k)
 | 0,k,acc,h1,h2,h3 => by omega
 | m + 1,k,acc,h1,h2,h3 => by
  rw [q8]
  by_cases hk : k < xs.length
  ·have hg : ∀ (zs : List zB) (v : zB),zs.length ≤ k + 1 → decide (zs.length + [v].length ≤ 268435456) = true := fun zs v hz => tQ (by simp; omega)
   rw [zp hk,cQ,Bool.not_false,cQ,zI hk,bQ,zCN,bQ]
   rw [List.drop_eq_getElem_cons hk]
   by_cases ha : Zx xs[k] e.Tag e.Mac
   ·obtain ⟨b,zs,e1,e2,e3⟩ := zFo n xs e h hs m (k + 1) (acc ++ [xs[k]]) (by omega) (by omega) (by simp; omega)
    refine ⟨b,zs,?_,e2,?_⟩
    ·rw [tQ ha]
     simp only [nQ,fQ,Qn,zI hk,bQ,hg acc _ (by omega),cQ,vQ k]
     by_cases ht : xs[k].Tag = e.Tag
     ·have hm : xs[k].Mac ≠ e.Mac := fun hm => by unfold Zx at ha; omega
      rw [show (xs[k].Tag != e.Tag) = false from by simpa using ht,fQ,show (xs[k].Mac != e.Mac) = true from by simpa using hm,cQ]
      exact e1
     ·rw [show (xs[k].Tag != e.Tag) = true from by simpa using ht,cQ]
      exact e1
    ·rw [e3,zBE,if_pos ha,List.append_assoc]; rfl
   ·rw [dQ ha,zBE,if_neg ha]
    have rest : ∀ j,k + 1 ≤ j → ∀ hj : j < xs.length,¬ (xs[j].Tag = e.Tag ∧ xs[j].Mac = e.Mac) := fun j hj hj2 hc => by
     have := hs j k (by omega) hj2
     rw [hc.1,hc.2] at this
     exact ha this
    simp only [Bool.not_false,cQ,hg acc _ (by omega),Qn,zI hk,bQ,hg (acc ++ [e]) _ (by simp; omega),vQ k]
    by_cases hkey : xs[k].Tag = e.Tag ∧ xs[k].Mac = e.Mac
    ·rw [show (xs[k].Tag != e.Tag) = false from by simpa using hkey.1,fQ,show (xs[k].Mac != e.Mac) = false from by simpa using hkey.2,fQ]
     refine ⟨true,_,zC2 n xs e h m (k + 1) (acc ++ [e]) (by omega) (by omega) (by simp; omega) rest,by simp; omega,?_⟩
     rw [if_pos hkey,nQ,fQ,List.append_assoc]; rfl
    ·have e1 := zC2 n xs e h m (k + 1) (acc ++ [e] ++ [xs[k]]) (by omega) (by omega) (by simp; omega) rest
     refine ⟨true,acc ++ [e] ++ [xs[k]] ++ xs.drop (k + 1),?_,by simp; omega,?_⟩
     ·by_cases ht : xs[k].Tag = e.Tag
      ·have hm : xs[k].Mac ≠ e.Mac := fun hm => hkey ⟨ht,hm⟩
       rw [show (xs[k].Tag != e.Tag) = false from by simpa using ht,fQ,show (xs[k].Mac != e.Mac) = true from by simpa using hm,cQ]
       exact e1
      ·rw [show (xs[k].Tag != e.Tag) = true from by simpa using ht,cQ]
       exact e1
     ·rw [if_neg hkey,nQ,fQ]
      simp
  ·obtain rfl : k = xs.length := by omega
   rw [zf]
   refine ⟨false,acc,rfl,by omega,?_⟩
   rw [List.drop_length]
   rfl
theorem zGD (n : Nat) (xs : List zB) (e : zB) (h : xs.length ≤ 1048580) (hn : xs.length < n) (hs : ∀ (j i : Nat) (hij : i < j) (hj : j < xs.length),Zx (xs[i]'(by omega)) xs[j].Tag xs[j].Mac) : YA n xs e = some (zBE e xs) := by
 obtain ⟨b,zs,e1,e2,e3⟩ := zFo n xs e h hs n 0 [] (by omega) (by omega) (by simp)
 unfold YA
 rw [show q8 n n xs e 0 false [] = _ from e1]
 simp only [bQ,zA3]
 rw [tQ (by simp; omega)]
 rw [List.drop_zero,List.nil_append] at e3
 rw [← e3]
 cases b <;> rfl
theorem zL0 (e : zB) : ∀ (xs : List zB) (k : Nat) (hk : k < xs.length) (hs : ∀ (j i : Nat) (hij : i < j) (hj : j < xs.length),Zx (xs[i]'(by omega)) xs[j].Tag xs[j].Mac),xs[k].Tag = e.Tag → xs[k].Mac = e.Mac → zBE e xs = xs.set k e
 | [],k,hk,hs,h1,h2 => by simp at hk
 | v :: vs,0,hk,hs,h1,h2 => by
  have h1 : v.Tag = e.Tag := h1
  have h2 : v.Mac = e.Mac := h2
  unfold zBE
  rw [if_neg (by unfold Zx; omega),if_pos ⟨h1,h2⟩]
  rfl
 | v :: vs,k + 1,hk,hs,h1,h2 => by
  have ha : Zx v e.Tag e.Mac := by
   have := hs (k + 1) 0 (by omega) hk
   rw [h1,h2] at this
   exact this
  unfold zBE
  rw [if_pos ha,zL0 e vs k (by simpa using hk) (fun j i hij hj => hs (j + 1) (i + 1) (by omega) (by simpa using hj)) h1 h2]
  rfl
def zGu (v : zB) : Prop := (1 ≤ v.Tag ∧ v.Tag ≤ 99) ∧ (1 ≤ v.Mac ∧ v.Mac ≤ 9999) ∧ (0 ≤ v.Port ∧ v.Port ≤ 7) ∧ (0 ≤ v.Age ∧ v.Age ≤ 4) ∧ (v.Sc = true → v.Age = 0)
def Ya (xs : List zB) : Prop := xs.length ≤ 12 ∧ (∀ v ∈ xs,zGu v) ∧ xs.Pairwise fun a b => Zx a b.Tag b.Mac
theorem zGh (n : Nat) (v : zB) (h : zGu v) : ZR n v = some true := by
 obtain ⟨h1,h2,h3,h4,h5⟩ := h
 have two : ∀ {a b c : Int},a ≤ b → b ≤ c → (decide (a ≤ b) && decide (b ≤ c)) = true := fun h h' => by rw [tQ h,tQ h']; rfl
 unfold ZR
 simp only [zP,bQ,two h1.1 h1.2,two h2.1 h2.2,two h3.1 h3.2,two h4.1 h4.2,cQ]
 cases hs : v.Sc with
 | false => rfl
 | true => rw [h5 hs]; rfl
theorem zCA (n : Nat) (xs : List zB) (hn : xs.length < n) (h : Ya xs) : ZQ n xs = some true := by
 obtain ⟨h1,h2,h3⟩ := h
 rw [List.pairwise_iff_getElem] at h3
 unfold ZQ
 rcases YD (L := fun m k => qY n m xs k) (N := xs.length) (P := fun _ => True) (fun m k hk => by
  refine .inl ⟨trivial,?_⟩
  simp only [qY]
  rw [zp hk,cQ,zI hk,bQ,zGh n _ (h2 _ (List.getElem_mem hk)),bQ,vQ k,nQ,fQ]
  cases k with
  | zero => rfl
  | succ k =>
   have hw2 : IntKind.wrap .i64 (((k + 1 : Nat) : Int) - 1) = (k : Int) := by rw [wQ]; omega
   rw [tQ (show ((k + 1 : Nat) : Int) > 0 by omega),hw2,cQ,zI (show k < xs.length by omega),bQ,bQ,bQ,zCN,tQ (h3 k (k + 1) (by omega) hk (by omega))]
   rfl) (fun m => ⟨(),by simp only [qY]; rw [zf]; rfl⟩) n 0 (by omega) (by omega) with ⟨a,e,_⟩ | ⟨_,p⟩
 ·rw [show qY n n xs 0 = _ from e,bQ]
  simp only [zAy]
  rw [tQ (by omega)]
 ·exact absurd (fun _ _ _ => trivial) p
theorem zCq (n : Nat) (xs : List zB) (h : xs.length ≤ 1048580) (hok : ZQ n xs = some true) : Ya xs := by
 obtain ⟨h1,h2,_⟩ := zF8 n xs h hok
 refine ⟨h1,fun v hv => ?_,?_⟩
 ·obtain ⟨j,hj,rfl⟩ := List.getElem_of_mem hv
  exact zGC n _ (h2 j hj)
 ·rw [List.pairwise_iff_getElem]
  intro i j hi hj hij
  exact zH5 n xs h hok j i hij hj
theorem Ya.sub {xs ys : List zB} (h : Ya xs) (hs : ys.Sublist xs) : Ya ys := ⟨Nat.le_trans hs.length_le h.1,fun v hv => h.2.1 v (hs.subset hv),h.2.2.sublist hs⟩
theorem zAT (n : Nat) (bits : Int) (x : zA) (h : x.Ps.length ≤ 6) : ∀ (m k : Nat) (ys zs : List zB),k ≤ x.Ps.length → ys.length ≤ 134217728 → ys.length < n → qV n m bits x k ys = some (.inl zs) → zs.Sublist ys
 | 0,k,ys,zs,h1,h3,h4,e => by cases e
 | m + 1,k,ys,zs,h1,h3,h4,e => by
  rw [qV] at e
  by_cases hk : k < x.Ps.length
  ·rw [zp hk,cQ,zDZ n bits k (by omega),bQ,vQ k,zBF n ys _ h3 h4] at e
   cases hb : zEp bits k with
   | true =>
    rw [hb] at e
    exact zAT n bits x h m (k + 1) ys zs (by omega) h3 h4 e
   | false =>
    rw [hb] at e
    have hle := List.length_filter_le (fun v : zB => v.Sc || v.Port != (k : Int)) ys
    exact (zAT n bits x h m (k + 1) (ys.filter fun v => v.Sc || v.Port != (k : Int)) zs (by omega) (by omega) (by omega) e).trans List.filter_sublist
  ·have he : k = x.Ps.length := by omega
   subst he
   rw [zf] at e
   cases e
   exact List.Sublist.refl _
theorem zHc (n : Nat) (x y : zA) (h : x.Ps.length ≤ 6) (h3 : x.F.length ≤ 134217728) (h4 : x.F.length < n) (e : qz n x = some y) : y.F.Sublist x.F := by
 unfold qz at e
 obtain ⟨v,_,e⟩ := bind_some e
 obtain ⟨b,_,e⟩ := bind_some e
 obtain ⟨o,ho,e⟩ := bind_some e
 cases o with
 | inl zs =>
  have hz := zAT n b x h n 0 x.F zs (by omega) h3 h4 ho
  cases e
  exact hz
 | inr r =>
  exfalso
  have key : ∀ (m k : Nat) (ys : List zB),k ≤ x.Ps.length → ys.length ≤ 134217728 → ys.length < n → ∀ r,qV n m b x k ys ≠ some (.inr r) := by
   intro m
   induction m with
   | zero => intro k ys h1 h3 h4 r e; cases e
   | succ m ih =>
    intro k ys h1 h3 h4 r e
    rw [qV] at e
    by_cases hk : k < x.Ps.length
    ·rw [zp hk,cQ,zDZ n b k (by omega),bQ,vQ k,zBF n ys _ h3 h4] at e
     have hle := List.length_filter_le (fun v : zB => v.Sc || v.Port != (k : Int)) ys
     cases hb : zEp b k with
     | true => rw [hb] at e; exact ih (k + 1) ys (by omega) h3 h4 r e
     | false => rw [hb] at e; exact ih (k + 1) _ (by omega) (by omega) (by omega) r e
    ·have he : k = x.Ps.length := by omega
     subst he
     rw [zf] at e
     cases e
  exact key n 0 x.F (by omega) h3 h4 r ho
def zDo (v : zB) : Option zB := if v.Sc then some v else if v.Age < 4 then some ⟨v.Tag,v.Mac,v.Port,v.Age + 1,false⟩ else none
theorem zEc (n : Nat) (xs : List zB) (h : xs.length ≤ 134217728) (ha : ∀ v ∈ xs,0 ≤ v.Age ∧ v.Age ≤ 1000) : ∀ (m k : Nat) (acc : List zB),k ≤ xs.length → xs.length < m + k → acc.length ≤ k → qy n m xs k acc = some (.inl (acc ++ (xs.drop k).filterMap zDo))
 | 0,k,acc,h1,h2,h3 => by omega
 | m + 1,k,acc,h1,h2,h3 => by
  rw [qy]
  by_cases hk : k < xs.length
  ·rw [zp hk,cQ,zI hk,bQ,vQ k]
   have hg : ∀ v : zB,decide (acc.length + [v].length ≤ 268435456) = true := fun v => tQ (by simp; omega)
   simp only [hg,cQ]
   have ih := fun acc' h3' => zEc n xs h ha m (k + 1) acc' (by omega) (by omega) h3'
   rw [List.drop_eq_getElem_cons hk,List.filterMap_cons]
   cases hs : xs[k].Sc with
   | true =>
    have e : zDo xs[k] = some xs[k] := by unfold zDo; rw [if_pos hs]
    rw [cQ,ih (acc ++ [xs[k]]) (by simp; omega),e]
    simp
   | false =>
    have hw : IntKind.wrap .i64 (xs[k].Age + 1) = xs[k].Age + 1 := by
     have := ha _ (List.getElem_mem hk)
     exact wQ
    by_cases hl : xs[k].Age < 4
    ·have e : zDo xs[k] = some ⟨xs[k].Tag,xs[k].Mac,xs[k].Port,xs[k].Age + 1,false⟩ := by unfold zDo; rw [if_neg (by simp [hs]),if_pos hl]
     rw [fQ,tQ hl,cQ,ih _ (by simp; omega),e,hw]
     simp
    ·have e : zDo xs[k] = none := by unfold zDo; rw [if_neg (by simp [hs]),if_neg hl]
     rw [fQ,dQ hl,fQ,ih _ (by omega),e]
  ·have he : k = xs.length := by omega
   subst he
   rw [zf]
   simp
theorem zHh {v w : zB} (h : zDo v = some w) : w.Tag = v.Tag ∧ w.Mac = v.Mac ∧ (zGu v → zGu w) := by
 unfold zDo at h
 split at h
 ·cases h; exact ⟨rfl,rfl,id⟩
 ·split at h
  ·rename_i h1 h2
   cases h
   refine ⟨rfl,rfl,fun ⟨a,b,c,d,e⟩ => ⟨a,b,c,⟨by simp only; omega,by simp only; omega⟩,fun hs => by cases hs⟩⟩
  ·cases h
theorem Ya.age {xs : List zB} (h : Ya xs) : Ya (xs.filterMap zDo) := by
 obtain ⟨h1,h2,h3⟩ := h
 refine ⟨Nat.le_trans (List.length_filterMap_le _ _) h1,fun v hv => ?_,?_⟩
 ·obtain ⟨u,hu,e⟩ := List.mem_filterMap.1 hv
  exact (zHh e).2.2 (h2 u hu)
 ·rw [List.pairwise_filterMap]
  refine h3.imp fun {a b} hab a' ha b' hb => ?_
  obtain ⟨p1,p2,_⟩ := zHh ha
  obtain ⟨q1,q2,_⟩ := zHh hb
  unfold Zx at hab ⊢
  rw [p1,p2,q1,q2]
  exact hab
theorem zC0 (n : Nat) (xs : List zB) (h : Ya xs) (hn : 12 < n) : Yo n xs = some (xs.filterMap zDo) := by
 have h1 := h.1
 unfold Yo
 rw [show qy n n xs 0 [] = _ from zEc n xs (by omega) (fun v hv => by have := (h.2.1 v hv).2.2.2.1; omega) n 0 [] (by omega) (by omega) (by simp)]
 rfl
theorem zJe {v : zB} (h : zGu v) : v.wf := by
 obtain ⟨h1,h2,h3,h4,_⟩ := h
 exact ⟨zV (by omega) (by omega),zV (by omega) (by omega),zV (by omega) (by omega),zV (by omega) (by omega),trivial⟩
theorem zKx (n : Nat) (x : zA) (hn : 1048577 < n) (wx : x.wf) (hx : x.sz ≤ 1048576) (hb : zU n x = some true) (ps : List Pt) (hp : ps.length = x.Ps.length) (hps : ∀ j (hj : j < ps.length),qC n ps[j] = some true) (wps : Q5 Pt.wf ps) (fs : List zB) (hf : fs.length ≤ x.F.length) (hfs : Ya fs) (t : Int) (t0 : 0 ≤ t) (t1 : t ≤ 1000000) :
  ∃ (zs : List zB) (v b : Int),qz n ⟨x.Id,x.Name,ps,fs,x.V,t,x.Pa,x.Wo,x.Dr,x.Ve⟩ = some ⟨x.Id,x.Name,ps,zs,x.V,t,x.Pa,x.Wo,x.Dr,v⟩ ∧ ZC n ⟨x.Id,x.Name,ps,fs,x.V,t,x.Pa,x.Wo,x.Dr,x.Ve⟩ = some ⟨x.Id,x.Name,ps,zs,x.V,t,x.Pa,x.Wo,x.Dr,v⟩ ∧
   zU n ⟨x.Id,x.Name,ps,zs,x.V,t,x.Pa,x.Wo,x.Dr,v⟩ = some true ∧ (⟨x.Id,x.Name,ps,zs,x.V,t,x.Pa,x.Wo,x.Dr,v⟩ : zA).wf ∧ (⟨x.Id,x.Name,ps,zs,x.V,t,x.Pa,x.Wo,x.Dr,v⟩ : zA).sz ≤ x.sz ∧ QJ n x.Id ps = some b ∧ (∀ u ∈ zs,u.Sc = true ∨ ∀ j : Nat,j < ps.length → zEp b j = false → u.Port ≠ j) ∧ zs.Sublist fs := by
 have hs : x.Name.size + x.Ps.length + x.F.length + x.V.sz = x.sz := rfl
 obtain ⟨p1,p2,p3,p4,p5,p6,p7,p8,p9,p10,p11,p12,p13⟩ := qU n x (by omega) hb
 obtain ⟨zs,v,b,e1,e2,e3,e4,e5,e6,e7,e8⟩ := zEv n x hn hx hb ps hp fs hf t
 have hsub := zHc n _ _ (by simp only; omega) (by simp only; omega) (by simp only; omega) e1
 have hz : Ya zs := hfs.sub hsub
 have hz1 := hz.1
 obtain ⟨w1,w2,w3,w4,w5,w6,w7,w8,w9,w10,w11,w12⟩ := wx
 refine ⟨zs,v,b,e1,e2,?_,⟨w1,w2,wps,⟨Nat.le_trans hz1 (by decide),fun u hu => zJe (hz.2.1 u hu)⟩,w5,w6,iQ (z := t),w8,w9,w10,iQ (z := v),trivial⟩,?_,e7,e8,hsub⟩
 ·exact zAC n ⟨x.Id,x.Name,ps,zs,x.V,t,x.Pa,x.Wo,x.Dr,v⟩ (by simp only; omega) (by simp only; omega) (by simp only; omega) p3 p4 p5 (zCA n zs (by omega) hz) (by simp only [hp]; exact p7) ⟨t0,t1⟩ p9 p10 p11 ⟨e5,e6⟩ hps
 ·show x.Name.size + ps.length + zs.length + x.V.sz ≤ x.sz
  omega
theorem zFM : (⟨0,0,0,0,0⟩ : Vec).wf := by
 have z0 : zh 0 := zV (by omega) (by omega)
 exact ⟨z0,z0,z0,z0,z0,trivial⟩
end Go.Proofs.YtajadnlejdpceaaGreat.Tw
