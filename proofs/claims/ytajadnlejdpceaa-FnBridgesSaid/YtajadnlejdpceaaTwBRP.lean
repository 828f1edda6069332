import Derived.Test.YtajadnlejdpceaaTwBR
import Derived.Test.YtajadnlejdpceaaTlPlain
set_option linter.unusedVariables false
set_option linter.unusedSimpArgs false
set_option maxRecDepth 100000
set_option maxHeartbeats 1000000
namespace Go.Proofs.Ytajadnlejdpceaa.Tw
open Go Go.TL Go.Proofs
def zD.sz (x : zD) : Nat := x.Rows.length + x.Pv.length
theorem zED (n : Nat) : QK n = ZI n := by
 funext m
 induction m with
 | zero => rfl
 | succ m ih => funext x i y; simp only [QK,ZI,ih]
theorem zFK (n : Nat) : JP n = QV n := by
 funext x i; simp only [JP,QV,zED]; rfl
theorem zAT (n : Nat) (x : zD) (id : Int) (h : x.Rows.length ≤ 1048580) (hn : x.Rows.length < n) : ∃ r,QV n x id = some r ∧ (r = -1 ∧ (∀ v ∈ x.Rows,v.Id ≠ id) ∨ ∃ v,0 ≤ r ∧ idx x.Rows r = some v ∧ v.Id = id) := by
 unfold QV
 have hf := zFn (L := fun m xs i => ZI n m ⟨xs,x.Pv⟩ id i) (p := fun i v => bif v.Id == id then some i else none) (fun m xs i => by
  show (bif _ then _ else _) = _
  congr 1
  congr 1
  funext v
  cases (v.Id == id) <;> rfl) x.Rows (by omega) n 0 (by omega) (by omega)
 rcases hf with ⟨e1,e2⟩ | ⟨j,hj,r,e1,e2,e3,e4⟩
 ·rw [show ZI n n x id 0 = _ from e1]
  refine ⟨-1,rfl,.inl ⟨rfl,fun v hv => ?_⟩⟩
  obtain ⟨j,hj,rfl⟩ := List.getElem_of_mem hv
  have := e2 j hj (by omega)
  intro hid
  simp [hid] at this
 ·rw [show ZI n n x id 0 = _ from e4]
  have hid : (x.Rows[j].Id == id) = true := by
   cases hc : (x.Rows[j].Id == id) with
   | true => rfl
   | false => rw [hc] at e2; cases e2
  rw [hid] at e2
  cases e2
  exact ⟨_,rfl,.inr ⟨_,by omega,zY hj,by simpa using hid⟩⟩
theorem Q7 (n : Nat) (a b c : Int) : Tot (zX n a b c) := Tot.bif (fun _ => .of) (fun _ => .of)
theorem Y7 (n : Nat) : Z6 n = qW n := rfl
theorem zAE (n : Nat) (v : Vec) : Tot (qW n v) := by
 unfold qW
 repeat' first | exact Tot.of | refine Tot.bind (Q7 _ _ _ _) fun _ _ => ?_ | refine Tot.bif (fun _ => ?_) (fun _ => ?_)
theorem zEE (n : Nat) : JZ n = Je n := rfl
theorem zDr (n : Nat) (v : Vec) (c : Int) : Tot (Je n v c) := by
 unfold Je
 repeat' first | exact Tot.of | refine Tot.bind (Q7 _ _ _ _) fun _ _ => ?_ | refine Tot.bind (zAE _ _) fun _ _ => ?_ | refine Tot.bif (fun _ => ?_) (fun _ => ?_)
theorem zBS (n : Nat) : YM n = YQ n := rfl
theorem zA1 (n : Nat) (v u : Vec) : Tot (YQ n v u) := by
 unfold YQ
 repeat' first | exact Tot.of | refine Tot.bif (fun _ => ?_) (fun _ => ?_)
theorem zAM (n : Nat) (x0 : Int) (x1 : List Pt) (h : x1.length ≤ 1048576) : ∀ (m k : Nat) (y2 y3 y4 y5 y6 y7 y8 y9 y10 : Int),k ≤ x1.length → x1.length < m + k → Tot (qn n m x0 x1 k y2 y3 y4 y5 y6 y7 y8 y9 y10)
 | 0,k,y2,y3,y4,y5,y6,y7,y8,y9,y10,h1,h2 => by omega
 | m + 1,k,y2,y3,y4,y5,y6,y7,y8,y9,y10,h1,h2 => by
  rw [qn]
  refine Tot.step (fun hk => ?_) .of
  have ih := fun y2 y3 y4 y5 y6 y7 y8 y9 y10 => zAM n x0 x1 h m (k + 1) y2 y3 y4 y5 y6 y7 y8 y9 y10 (by omega) (by omega)
  simp only [QG,zm (by omega : k ≤ 1099511627776)]
  repeat' first | exact ih _ _ _ _ _ _ _ _ _ | exact Tot.of | refine Tot.bind (zHQ hk) fun _ _ => ?_ | refine Tot.bind (zDr _ _ _) fun _ _ => ?_ | refine Tot.bind (zA1 _ _ _) fun _ _ => ?_ | refine Tot.bif (fun _ => ?_) (fun _ => ?_)
theorem zAy (n : Nat) (x0 : Int) (x1 : List Pt) (h : x1.length ≤ 1048576) (hn : x1.length < n) : Tot (Qq n x0 x1) := by
 unfold Qq
 refine Tot.bind (zAM n x0 x1 h n 0 _ _ _ _ _ _ _ _ _ (by omega) (by omega)) fun o _ => ?_
 cases o <;> exact Tot.of
theorem zC4 (n : Nat) : qH n = qn n := by
 funext m
 induction m with
 | zero => rfl
 | succ m ih =>
  funext x0 x1 y1 y2 y3 y4 y5 y6 y7 y8 y9 y10
  simp only [qH,qn,ih,ZP,QG,zEE,zBS]
  cases idx x1 y1 <;> rfl
theorem zBR (n : Nat) : Qo n = Qq n := by
 funext x i; simp only [Qo,Qq,zC4]; rfl
theorem zEi (n : Nat) : Yp n = zAD n := by
 funext x i y; simp only [Yp,zAD,zBR]
theorem zEO (n : Nat) (x0 : Int) (x1 : List Pt) (x2 : Int) (h : x1.length ≤ 1048576) (hn : x1.length < n) : Tot (zAD n x0 x1 x2) := Tot.bind (zAy n x0 x1 h hn) fun _ _ => .of
theorem zEg (n : Nat) : Yo n = Yx n := by
 funext x i y; simp only [Yo,Yx,zBR,zEi,zBS]; rfl
theorem zEz (n : Nat) (x0 : Int) (x1 : List Pt) (x2 : Int) (h : x1.length ≤ 1048576) (hn : x1.length < n) : ∃ r,Yx n x0 x1 x2 = some r ∧ 1 ≤ r ∧ r ≤ 4 := by
 unfold Yx zX
 rw [wrap64 (by omega) (by omega)]
 obtain ⟨b,hb⟩ := zAy n x0 x1 h hn
 obtain ⟨s,hs⟩ := zEO n x0 x1 x2 h hn
 by_cases h1 : x2 ≥ 0
 ·by_cases h2 : x2 ≤ (x1.length : Int) - 1
  ·obtain ⟨v,hv,_⟩ := zCA (xs := x1) h1 (by omega)
   obtain ⟨l,hl⟩ := zA1 n s v.Hd
   simp only [decide_eq_true h1,decide_eq_true h2,cond_true,Option.bind_some,Bool.not_true,cond_false,hb,hs,hv,hl]
   cases v.Up <;> cases (b.2 == x2) <;> cases v.Has <;> cases l <;> exact ⟨_,rfl,by decide,by decide⟩
  ·simp only [decide_eq_true h1,decide_eq_false h2,cond_true,Option.bind_some,Bool.not_false]
   exact ⟨_,rfl,by decide,by decide⟩
 ·simp only [decide_eq_false h1,cond_false,Option.bind_some,Bool.not_false,cond_true]
  exact ⟨_,rfl,by decide,by decide⟩
theorem zHy {k : Nat} (h : k ≤ 1099511627776) : IntKind.wrap .u64 (k : Int) = k := by
 show ((k : Int) % 18446744073709551616) = k
 omega
theorem zAm (n : Nat) (x0 : Int) (x1 : List Pt) (h : x1.length ≤ 1048576) (hn : x1.length < n) : ∀ (m k : Nat) (y2 : Int),k ≤ x1.length → x1.length < m + k → ZH n m x0 x1 k y2 = QL n m x0 x1 k y2 ∧ Tot (QL n m x0 x1 k y2)
 | 0,k,y2,h1,h2 => by omega
 | m + 1,k,y2,h1,h2 => by
  rw [QL,ZH]
  by_cases hk : k < x1.length
  ·have ih := fun y2 => zAm n x0 x1 h hn m (k + 1) y2 (by omega) (by omega)
   obtain ⟨r,hr,r1,r2⟩ := zEz n x0 x1 k h hn
   have hk' : decide ((k : Int) < (x1.length : Int)) = true := decide_eq_true (by omega)
   have h0 : decide ((0 : Int) ≤ (k : Int)) = true := decide_eq_true (by omega)
   simp only [hk',zm (by omega : k ≤ 1099511627776),zHy (by omega : k ≤ 1099511627776),zEg,hr,Option.bind_some,h0,cond_true,(ih _).1,true_and]
   have hc : r = 1 ∨ r = 2 ∨ r = 3 ∨ r = 4 := by omega
   rcases hc with rfl | rfl | rfl | rfl <;> cases (decide ((k : Int) < 6)) <;> first | exact ⟨rfl,(ih _).2⟩ | exact ⟨by trivial,Tot.of⟩
  ·have hk' : decide ((k : Int) < (x1.length : Int)) = false := decide_eq_false (by omega)
   rw [hk']
   exact ⟨by trivial,Tot.of⟩
theorem zBV (n : Nat) (x0 : Int) (x1 : List Pt) (h : x1.length ≤ 1048576) (hn : x1.length < n) : Zf n x0 x1 = ZT n x0 x1 ∧ Tot (ZT n x0 x1) := by
 obtain ⟨h1,o,h2⟩ := zAm n x0 x1 h hn n 0 0 (by omega) (by omega)
 unfold Zf ZT
 have e1 : ZH n n x0 x1 0 0 = some o := h1.trans h2
 have e2 : QL n n x0 x1 0 0 = some o := h2
 rw [e1,e2]
 cases o <;> exact ⟨by trivial,Tot.of⟩
theorem YX (n : Nat) : qN n = zX n := rfl
theorem zd (n : Nat) (a b c : Int) : zX n a b c = some (decide (b ≤ a) && decide (a ≤ c)) := by
 unfold zX
 by_cases h : a ≥ b
 ·rw [decide_eq_true h]; rfl
 ·rw [decide_eq_false h]; rfl
theorem zBW {p : Int} (h0 : 1 ≤ p) (h1 : p ≤ 6) : ∃ a : Int,0 ≤ a ∧ a < 9223372036854775808 ∧ (IntKind.wrap .i64 ((IntKind.wrap .i64 (1 * 2 ^ min ((IntKind.wrap .u64 p)).toNat (IntKind.bits .i64))) - 1)) = a ∧ (IntKind.wrap .i64 ((IntKind.wrap .i64 (1 * 2 ^ min (p).toNat (IntKind.bits .i64))) - 1)) = a ∧ decide (0 ≤ (IntKind.wrap .u64 p)) = true ∧ decide (0 ≤ p) = true := by
 have hc : p = 1 ∨ p = 2 ∨ p = 3 ∨ p = 4 ∨ p = 5 ∨ p = 6 := by omega
 rcases hc with rfl | rfl | rfl | rfl | rfl | rfl
 ·exact ⟨1,by decide,by decide,by decide,by decide,by decide,by decide⟩
 ·exact ⟨3,by decide,by decide,by decide,by decide,by decide,by decide⟩
 ·exact ⟨7,by decide,by decide,by decide,by decide,by decide,by decide⟩
 ·exact ⟨15,by decide,by decide,by decide,by decide,by decide,by decide⟩
 ·exact ⟨31,by decide,by decide,by decide,by decide,by decide,by decide⟩
 ·exact ⟨63,by decide,by decide,by decide,by decide,by decide,by decide⟩
theorem zAO (n : Nat) (x0 : zD) (w0 : x0.wf) (x1 : Int) (hp0 : 1 ≤ x1) (hp1 : x1 ≤ 6) (h : x0.Rows.length ≤ 1048580) : ∀ (m k : Nat),k ≤ x0.Rows.length → x0.Rows.length < m + k → ZJ n m x0 x1 k = qh n m x0 x1 k ∧ Tot (qh n m x0 x1 k)
 | 0,k,h1,h2 => by omega
 | m + 1,k,h1,h2 => by
  rw [qh,ZJ]
  by_cases hk : k < x0.Rows.length
  ·obtain ⟨ih1,o,ih2⟩ := zAO n x0 w0 x1 hp0 hp1 h m (k + 1) (by omega) (by omega)
   obtain ⟨a,ha0,ha1,ha2,ha3,ha4,ha5⟩ := zBW hp0 hp1
   have hk' : decide ((k : Int) < (x0.Rows.length : Int)) = true := decide_eq_true (by omega)
   have hv : x0.Rows[k] ∈ x0.Rows := List.getElem_mem hk
   have hi := zY hk
   generalize x0.Rows[k] = v at hv hi
   have hw := w0.1.2 v hv
   have hin : Zd n x1 = some a := by unfold Zd; rw [ha5,ha3]; rfl
   simp only [hk',zm (by omega : k ≤ 1099511627776),hi,Option.bind_some,cond_true,ih1,ih2,hin,YX,zd,ha2]
   have hbits := fun hm0 hm1 => zIr (B := v.Bare) (M := v.Members) hw.2.2.1 hm0 hm1
   by_cases hm : 0 ≤ v.Members ∧ v.Members ≤ a
   ·have hb := hbits hm.1 (by omega)
    simp only [decide_eq_true hm.1,decide_eq_true hm.2,Bool.and_self,Bool.not_true,cond_false]
    by_cases hz : IntKind.wrap .i64 (BitVec.ofInt (IntKind.bits .i64) v.Bare &&& ~~~BitVec.ofInt (IntKind.bits .i64) v.Members).toNat = 0
    ·have h3 := hb.1 hz
     have hz' : ((IntKind.wrap .i64 (BitVec.ofInt (IntKind.bits .i64) v.Bare &&& ~~~BitVec.ofInt (IntKind.bits .i64) v.Members).toNat) != 0) = false := by rw [hz]; rfl
     have hy' : ((IntKind.wrap .i64 (BitVec.ofInt (IntKind.bits .i64) v.Bare &&& BitVec.ofInt (IntKind.bits .i64) v.Members).toNat) != v.Bare) = false := by rw [h3.2.2]; simp
     simp only [hz',hy',decide_eq_true h3.1,decide_eq_true (show v.Bare ≤ a by omega),Bool.and_self,Bool.not_true,cond_false]
     cases k with
     | zero => cases (decide (1 ≤ v.Id) && decide (v.Id ≤ 99)) <;> exact ⟨by trivial,Tot.of⟩
     | succ k =>
      have hw2 : IntKind.wrap .i64 (((k + 1 : Nat) : Int) - 1) = (k : Int) := by rw [wrap64 (by omega) (by omega)]; omega
      have hpos : decide (((k + 1 : Nat) : Int) > 0) = true := decide_eq_true (by omega)
      simp only [hw2,hpos,cond_true,zY (show k < x0.Rows.length by omega),Option.bind_some]
      cases (decide (1 ≤ v.Id) && decide (v.Id ≤ 99)) <;> cases (decide ((x0.Rows[k]'(by omega)).Id ≥ v.Id)) <;> exact ⟨by trivial,Tot.of⟩
    ·have hz' : ((IntKind.wrap .i64 (BitVec.ofInt (IntKind.bits .i64) v.Bare &&& ~~~BitVec.ofInt (IntKind.bits .i64) v.Members).toNat) != 0) = true := by simpa using hz
     have h3 : (decide (0 ≤ v.Bare) && decide (v.Bare ≤ a)) = false ∨ ((IntKind.wrap .i64 (BitVec.ofInt (IntKind.bits .i64) v.Bare &&& BitVec.ofInt (IntKind.bits .i64) v.Members).toNat) != v.Bare) = true := by
      by_cases hq : ((IntKind.wrap .i64 (BitVec.ofInt (IntKind.bits .i64) v.Bare &&& BitVec.ofInt (IntKind.bits .i64) v.Members).toNat) != v.Bare) = true
      ·exact .inr hq
      ·left
       simp at hq
       by_cases hr : 0 ≤ v.Bare ∧ v.Bare ≤ a
       ·have hle := zIs hw.2.2.1 hm.1 (by omega) hq
        exact absurd (hb.2 ⟨hle.1,hle.2,hq⟩) hz
       ·simp only [Bool.and_eq_false_iff,decide_eq_false_iff_not]; omega
     simp only [hz',cond_true]
     have hspec : (bif !(decide (0 ≤ v.Bare) && decide (v.Bare ≤ a)) then some (Sum.inr false) else bif ((IntKind.wrap .i64 (BitVec.ofInt (IntKind.bits .i64) v.Bare &&& BitVec.ofInt (IntKind.bits .i64) v.Members).toNat) != v.Bare) then some (Sum.inr false) else (bif decide ((k : Int) > 0) then (idx x0.Rows (IntKind.wrap .i64 ((k : Int) - 1))).bind fun v13 => bif decide (v13.Id ≥ v.Id) then some (Sum.inr false) else some o else some o)) = (some (Sum.inr false) : Option (Unit ⊕ Bool)) := by
      rcases h3 with h3 | h3
      ·rw [h3]; rfl
      ·rw [h3]; cases (decide (0 ≤ v.Bare) && decide (v.Bare ≤ a)) <;> rfl
     rw [hspec]
     cases k with
     | zero => cases (decide (1 ≤ v.Id) && decide (v.Id ≤ 99)) <;> exact ⟨by trivial,Tot.of⟩
     | succ k =>
      have hw2 : IntKind.wrap .i64 (((k + 1 : Nat) : Int) - 1) = (k : Int) := by rw [wrap64 (by omega) (by omega)]; omega
      have hpos : decide (((k + 1 : Nat) : Int) > 0) = true := decide_eq_true (by omega)
      simp only [hw2,hpos,cond_true,zY (show k < x0.Rows.length by omega),Option.bind_some]
      cases (decide (1 ≤ v.Id) && decide (v.Id ≤ 99)) <;> cases (decide ((x0.Rows[k]'(by omega)).Id ≥ v.Id)) <;> exact ⟨by trivial,Tot.of⟩
   ·have hm' : (decide (0 ≤ v.Members) && decide (v.Members ≤ a)) = false := by
     simp only [Bool.and_eq_false_iff,decide_eq_false_iff_not]; omega
    simp only [hm',Bool.not_false,cond_true]
    cases k with
    | zero => cases (decide (1 ≤ v.Id) && decide (v.Id ≤ 99)) <;> exact ⟨by trivial,Tot.of⟩
    | succ k =>
     have hw2 : IntKind.wrap .i64 (((k + 1 : Nat) : Int) - 1) = (k : Int) := by rw [wrap64 (by omega) (by omega)]; omega
     have hpos : decide (((k + 1 : Nat) : Int) > 0) = true := decide_eq_true (by omega)
     simp only [hw2,hpos,cond_true,zY (show k < x0.Rows.length by omega),Option.bind_some]
     cases (decide (1 ≤ v.Id) && decide (v.Id ≤ 99)) <;> cases (decide ((x0.Rows[k]'(by omega)).Id ≥ v.Id)) <;> exact ⟨by trivial,Tot.of⟩
  ·have hk' : decide ((k : Int) < (x0.Rows.length : Int)) = false := decide_eq_false (by omega)
   rw [hk']
   exact ⟨by trivial,Tot.of⟩
theorem zAN (n : Nat) (x0 : zD) (h : x0.Rows.length ≤ 1048580) (hn : x0.Rows.length < n) (hq : x0.Pv.length ≤ 1048580) : ∀ (m k : Nat),k ≤ x0.Pv.length → x0.Pv.length < m + k → Zb n m x0 k = qt n m x0 k ∧ Tot (qt n m x0 k)
 | 0,k,h1,h2 => by omega
 | m + 1,k,h1,h2 => by
  rw [qt,Zb]
  by_cases hk : k < x0.Pv.length
  ·obtain ⟨ih1,o,ih2⟩ := zAN n x0 h hn hq m (k + 1) (by omega) (by omega)
   have hk' : decide ((k : Int) < (x0.Pv.length : Int)) = true := decide_eq_true (by omega)
   obtain ⟨r,hr,_⟩ := zAT n x0 x0.Pv[k] h hn
   simp only [hk',zm (by omega : k ≤ 1099511627776),zY hk,Option.bind_some,cond_true,ih1,ih2,zFK,hr]
   cases decide (r < 0) <;> exact ⟨by trivial,Tot.of⟩
  ·have hk' : decide ((k : Int) < (x0.Pv.length : Int)) = false := decide_eq_false (by omega)
   rw [hk']
   exact ⟨by trivial,Tot.of⟩
theorem zDs (n : Nat) (x0 : zD) (w0 : x0.wf) (x1 : Int) (h : x0.sz ≤ 1048580) (hn : x0.sz < n) : Yq n x0 x1 = qG n x0 x1 ∧ Tot (qG n x0 x1) := by
 have hs : x0.Rows.length + x0.Pv.length = x0.sz := rfl
 unfold Yq qG
 simp only [YX,zd,Option.bind_some]
 by_cases hp : 1 ≤ x1 ∧ x1 ≤ 6
 ·obtain ⟨a,ha0,ha1,ha2,ha3,ha4,ha5⟩ := zBW hp.1 hp.2
  obtain ⟨e1,o,e2⟩ := zAO n x0 w0 x1 hp.1 hp.2 (by omega) n 0 (by omega) (by omega)
  obtain ⟨f1,q,f2⟩ := zAN n x0 (by omega) (by omega) (by omega) n 0 (by omega) (by omega)
  have e1' : ZJ n n x0 x1 0 = some o := e1.trans e2
  have e2' : qh n n x0 x1 0 = some o := e2
  have f1' : Zb n n x0 0 = some q := f1.trans f2
  have f2' : qt n n x0 0 = some q := f2
  simp only [decide_eq_true hp.1,decide_eq_true hp.2,Bool.and_self,Bool.not_true,cond_false,ha4,cond_true,e1',e2',Option.bind_some]
  cases o with
  | inl u =>
   simp only [Q1,Z5,f1',f2',Option.bind_some]
   cases q <;> exact ⟨rfl,Tot.bif (fun _ => .of) fun _ => Tot.bif (fun _ => .of) fun _ => .of⟩
  | inr r => exact ⟨rfl,Tot.bif (fun _ => .of) fun _ => Tot.bif (fun _ => .of) fun _ => .of⟩
 ·have hp' : (decide (1 ≤ x1) && decide (x1 ≤ 6)) = false := by
   simp only [Bool.and_eq_false_iff,decide_eq_false_iff_not]; omega
  rw [hp']
  exact ⟨by trivial,Tot.of⟩
theorem Qx (n : Nat) (x : zD) (h : x.sz ≤ 268435456) : qu n x = some x := by
 have hs : x.Rows.length + x.Pv.length = x.sz := rfl
 unfold qu
 simp only [List.length_nil,Nat.zero_add,decide_eq_true (show x.Rows.length ≤ 268435456 by omega),decide_eq_true (show x.Pv.length ≤ 268435456 by omega),cond_true,List.nil_append]
theorem zDf (n : Nat) (x : zD) (h : x.sz ≤ 268435456) : Q3 n x = some x := by
 have hs : x.Rows.length + x.Pv.length = x.sz := rfl
 unfold Q3 Y9
 simp only [List.length_nil,Nat.zero_add,decide_eq_true (show x.Rows.length ≤ 268435456 by omega),decide_eq_true (show x.Pv.length ≤ 268435456 by omega),cond_true,List.nil_append,Option.bind_some]
theorem zHl {α : Type} {wf : α → Prop} {xs ys : List α} (h : QB wf xs) (hs : ∀ y ∈ ys,y ∈ xs) (hl : ys.length ≤ xs.length) : QB wf ys := ⟨Nat.le_trans hl h.1,fun y hy => h.2 y (hs y hy)⟩
theorem zBC {α : Type} {wf : α → Prop} {xs : List α} {i : Nat} {v : α} (h : QB wf xs) (hv : wf v) : QB wf (xs.set i v) := ⟨by rw [List.length_set]; exact h.1,fun y hy => by
 rcases List.mem_or_eq_of_mem_set hy with h1 | h1
 ·exact h.2 y h1
 ·rw [h1]; exact hv⟩
def zA.sz (x : zA) : Nat := x.Name.size + x.Ps.length + x.F.length + x.V.sz
theorem zF2 (n : Nat) : J1 n = qB n := by
 funext v
 unfold J1 qB
 rw [YX,Y7]
 obtain ⟨b,hb⟩ := Q7 n v.Co 1 1000
 rw [hb]
 cases b <;> cases v.Up <;> cases v.Has <;> rfl
theorem zCH (n : Nat) (v : Pt) : Tot (qB n v) := by
 unfold qB
 repeat' first | exact Tot.of | refine Tot.bind (Q7 _ _ _ _) fun _ _ => ?_ | refine Tot.bind (zAE _ _) fun _ _ => ?_ | refine Tot.bif (fun _ => ?_) (fun _ => ?_)
theorem zAI (n : Nat) (v : zB) : Tot (qq n v) := by
 unfold qq
 repeat' first | exact Tot.of | refine Tot.bind (Q7 _ _ _ _) fun _ _ => ?_ | refine Tot.bif (fun _ => ?_) (fun _ => ?_)
theorem zEk (n : Nat) : J6 n = qq n := rfl
theorem zEj (n : Nat) (v u : zB) : Yr n u v.Tag v.Mac = q3 n v u.Tag u.Mac := by
 unfold Yr q3
 by_cases h1 : v.Tag = u.Tag
 ·simp [h1]
 ·have e1 : (v.Tag != u.Tag) = true := by simpa using h1
  have e2 : (u.Tag == v.Tag) = false := by simpa using fun e : u.Tag = v.Tag => h1 e.symm
  rw [e1,e2]
  by_cases h2 : v.Tag < u.Tag
  ·rw [decide_eq_true h2]; rfl
  ·rw [decide_eq_false h2]; rfl
theorem zA3 (n : Nat) (v : zB) (a b : Int) : Tot (q3 n v a b) := Tot.bif (fun _ => .of) (fun _ => .of)
theorem zAl (n : Nat) (xs : List zB) (h : xs.length ≤ 1048580) : ∀ (m k : Nat),k ≤ xs.length → xs.length < m + k → ZU n m xs k = qD n m xs k ∧ Tot (qD n m xs k)
 | 0,k,h1,h2 => by omega
 | m + 1,k,h1,h2 => by
  rw [qD,ZU]
  by_cases hk : k < xs.length
  ·obtain ⟨ih1,o,ih2⟩ := zAl n xs h m (k + 1) (by omega) (by omega)
   rw [qd hk]
   obtain ⟨a,ha⟩ := zAI n xs[k]
   simp only [zm (by omega : k ≤ 1099511627776),zY hk,Option.bind_some,cond_true,ih1,ih2,zEk,ha]
   cases k with
   | zero => cases a <;> exact ⟨by trivial,Tot.of⟩
   | succ k =>
    have hw2 : IntKind.wrap .i64 (((k + 1 : Nat) : Int) - 1) = (k : Int) := by rw [wrap64 (by omega) (by omega)]; omega
    have hpos : decide (((k + 1 : Nat) : Int) > 0) = true := decide_eq_true (by omega)
    obtain ⟨b,hb⟩ := zA3 n (xs[k]'(by omega)) xs[k + 1].Tag xs[k + 1].Mac
    simp only [hw2,hpos,cond_true,zY (show k < xs.length by omega),Option.bind_some,zEj,hb]
    cases a <;> cases b <;> exact ⟨by trivial,Tot.of⟩
  ·have he : k = xs.length := by omega
   rw [he,qQ]
   exact ⟨rfl,Tot.of⟩
theorem zEL (n : Nat) (xs : List zB) (h : xs.length ≤ 1048580) (hn : xs.length < n) : ∃ b,qp n xs = some b ∧ JO n xs = some b := by
 obtain ⟨e1,o,e2⟩ := zAl n xs h n 0 (by omega) (by omega)
 have e1' : ZU n n xs 0 = some o := e1.trans e2
 have e2' : qD n n xs 0 = some o := e2
 unfold qp JO
 rw [e1',e2']
 cases o <;> exact ⟨_,rfl,rfl⟩
theorem zCr (n : Nat) : ZX n = zz n := by
 funext m
 induction m with
 | zero => rfl
 | succ m ih => funext x i; simp only [ZX,zz,ih,zF2]
theorem zAA (n : Nat) (x : zA) (h : x.Ps.length ≤ 1048580) : ∀ (m k : Nat),k ≤ x.Ps.length → x.Ps.length < m + k → Tot (zz n m x k)
 | 0,k,h1,h2 => by omega
 | m + 1,k,h1,h2 => by
  rw [zz]
  refine Tot.step (fun hk => ?_) .of
  have ih := zAA n x h m (k + 1) (by omega) (by omega)
  rw [zm (by omega : k ≤ 1099511627776)]
  exact Tot.bind (zHQ hk) fun _ _ => Tot.bind (zCH _ _) fun _ _ => Tot.bif (fun _ => .of) fun _ => ih
theorem Z3 (n : Nat) (x : zA) (wx : x.wf) (h : x.sz ≤ 1048580) (hn : x.sz < n) : ∃ b,zn n x = some b ∧ zQ n x = some b := by
 have hs : x.Name.size + x.Ps.length + x.F.length + x.V.sz = x.sz := rfl
 obtain ⟨o,ho⟩ := zAA n x (by omega) n 0 (by omega) (by omega)
 have ho' : zz n n x 0 = some o := ho
 obtain ⟨f,hf1,hf2⟩ := zEL n x.F (by omega) (by omega)
 obtain ⟨g,v,hv⟩ := zDs n x.V ⟨wx.2.2.2.2.1,wx.2.2.2.2.2.1,trivial⟩ (x.Ps.length : Int) (by omega) (by omega)
 unfold zn zQ
 rw [zCr,ho',Option.bind_some,Option.bind_some]
 cases o with
 | inr r => exact ⟨_,rfl,rfl⟩
 | inl u =>
  simp only [YH,Qh,YX,Zu,Yj,zd,hf1,hf2,g,hv,Option.bind_some]
  have hname : decide ((x.Name.size : Int) > 10) = !decide ((x.Name.size : Int) ≤ 10) := by
   by_cases h : (x.Name.size : Int) ≤ 10
   ·rw [decide_eq_true h,decide_eq_false (by omega)]; rfl
   ·rw [decide_eq_false h,decide_eq_true (by omega)]; rfl
  rw [hname]
  generalize decide ((x.Name.size : Int) ≤ 10) = b1
  generalize (decide (1 ≤ x.Id) && decide (x.Id ≤ 99)) = b2
  generalize (decide (1 ≤ (x.Ps.length : Int)) && decide ((x.Ps.length : Int) ≤ 6)) = b3
  generalize (decide (0 ≤ x.Tk) && decide (x.Tk ≤ 1000000)) = b4
  generalize (decide (0 ≤ x.Pa) && decide (x.Pa ≤ 1000000)) = b5
  generalize (decide (0 ≤ x.Wo) && decide (x.Wo ≤ 1000000)) = b6
  generalize (decide (0 ≤ x.Dr) && decide (x.Dr ≤ 1000000)) = b7
  generalize (decide (0 ≤ x.Ve) && decide (x.Ve ≤ 1000000)) = b8
  clear hf1 hf2 g hv hname
  revert f v b1 b2 b3 b4 b5 b6 b7 b8
  decide +kernel
def Src.ok (c : Src) : Prop := 0 ≤ c.i ∧ c.b.length ≤ 1099511627776
theorem zH1 (z : Int) : ∃ v : Int,(IntKind.wrap .i64 (BitVec.ofInt (IntKind.bits .i64) z &&& BitVec.ofInt (IntKind.bits .i64) 255).toNat) = v ∧ 0 ≤ v ∧ v ≤ 255 := by
 have h : (BitVec.ofInt 64 z &&& BitVec.ofInt 64 255).toNat ≤ 255 := by
  rw [BitVec.toNat_and]
  exact Nat.le_trans Nat.and_le_right (by decide)
 refine ⟨((BitVec.ofInt 64 z &&& BitVec.ofInt 64 255).toNat : Int),?_,by omega,by omega⟩
 exact wrap64 (z := ((BitVec.ofInt 64 z &&& BitVec.ofInt 64 255).toNat : Int)) (by omega) (by omega)
theorem Yk (n : Nat) (c : Src) (h : c.ok) : ∃ v c',QD n c = some (v,c') ∧ 0 ≤ v ∧ v ≤ 255 ∧ c'.ok := by
 unfold QD
 rw [show decide ((0 : Int) ≤ 33) = true from rfl,show decide ((0 : Int) ≤ 47) = true from rfl]
 simp only [cond_true]
 by_cases hi : c.i < (c.b.length : Int)
 ·obtain ⟨v,hv,_⟩ := zCA (xs := c.b) h.1 hi
  rw [decide_eq_true hi,hv,wrap64 (z := c.i + 1) (by have := h.1; omega) (by have := h.2; omega)]
  obtain ⟨w,e,e1,e2⟩ := zH1 (IntKind.wrap .i64 ((IntKind.wrap .i64 (BitVec.ofInt (IntKind.bits .i64) (IntKind.wrap .i64 (BitVec.ofInt (IntKind.bits .i64) (Int.fdiv (IntKind.wrap .i64 ((IntKind.wrap .i64 (c.h * 6364136223846793005)) + 1442695040888963407)) (2 ^ min ((33 : Int)).toNat (IntKind.bits .i64))) ^^^ BitVec.ofInt (IntKind.bits .i64) (Int.fdiv (IntKind.wrap .i64 ((IntKind.wrap .i64 (c.h * 6364136223846793005)) + 1442695040888963407)) (2 ^ min ((47 : Int)).toNat (IntKind.bits .i64)))).toNat) &&& BitVec.ofInt (IntKind.bits .i64) 255).toNat) + (IntKind.wrap .i64 v)))
  simp only [cond_true,Option.bind_some]
  exact ⟨_,_,rfl,by rw [e]; exact e1,by rw [e]; exact e2,by have := h.1; show 0 ≤ c.i + 1; omega,h.2⟩
 ·rw [decide_eq_false hi]
  obtain ⟨w,e,e1,e2⟩ := zH1 (IntKind.wrap .i64 (BitVec.ofInt (IntKind.bits .i64) (Int.fdiv (IntKind.wrap .i64 ((IntKind.wrap .i64 (c.h * 6364136223846793005)) + 1442695040888963407)) (2 ^ min ((33 : Int)).toNat (IntKind.bits .i64))) ^^^ BitVec.ofInt (IntKind.bits .i64) (Int.fdiv (IntKind.wrap .i64 ((IntKind.wrap .i64 (c.h * 6364136223846793005)) + 1442695040888963407)) (2 ^ min ((47 : Int)).toNat (IntKind.bits .i64)))).toNat)
  simp only [cond_false]
  exact ⟨_,_,rfl,by rw [e]; exact e1,by rw [e]; exact e2,h.1,h.2⟩
theorem zHa {v k : Int} (h0 : 0 ≤ v) (hk : 0 < k) : 0 ≤ Int.tmod v k ∧ Int.tmod v k < k := by
 rw [Int.tmod_eq_emod_of_nonneg h0]
 exact ⟨Int.emod_nonneg _ (by omega),Int.emod_lt_of_pos _ hk⟩
theorem zG (n : Nat) (c : Src) (k : Int) (h : c.ok) : ∃ v c',zJ n c k = some (v,c') ∧ 0 ≤ v ∧ (0 < k → v < k) ∧ c'.ok := by
 unfold zJ
 by_cases h1 : k ≤ 0
 ·rw [decide_eq_true h1]
  exact ⟨0,c,rfl,by omega,fun h => by omega,h⟩
 ·rw [decide_eq_false h1]
  have hne : decide ((k : Int) ≠ 0) = true := decide_eq_true (by omega)
  by_cases h2 : k ≤ 256
  ·rw [decide_eq_true h2]
   obtain ⟨v,c',e,e1,e2,e3⟩ := Yk n c h
   simp only [cond_true,cond_false,e,Option.bind_some,hne]
   obtain ⟨t1,t2⟩ := zHa e1 (show 0 < k by omega)
   exact ⟨_,_,rfl,t1,fun _ => t2,e3⟩
  ·rw [decide_eq_false h2]
   obtain ⟨v1,c1,e,e1,e2,e3⟩ := Yk n c h
   obtain ⟨v2,c2,f,f1,f2,f3⟩ := Yk n c1 e3
   obtain ⟨v3,c3,g,g1,g2,g3⟩ := Yk n c2 f3
   simp only [cond_false,e,f,g,Option.bind_some,hne,cond_true]
   simp (disch := omega) only [wrap64]
   obtain ⟨t1,t2⟩ := zHa (show 0 ≤ v1 * 65536 + v2 * 256 + v3 by omega) (show 0 < k by omega)
   exact ⟨_,_,rfl,t1,fun _ => t2,g3⟩
theorem zAF (n : Nat) (c : Src) (k : Int) (h : c.ok) : ∃ v c',Zo n c k = some (v,c') ∧ c'.ok := by
 obtain ⟨v,c',e,_,_,e3⟩ := zG n c k h
 unfold Zo
 rw [e]
 exact ⟨_,_,rfl,e3⟩
theorem zS (n : Nat) (c : Src) (xs : List Int) (h : c.ok) (hx : 0 < xs.length) : ∃ v c',ze n c xs = some (v,c') ∧ v ∈ xs ∧ c'.ok := by
 obtain ⟨v,c',e,e1,e2,e3⟩ := zG n c (xs.length : Int) h
 obtain ⟨u,hu,hm⟩ := zCA (xs := xs) e1 (e2 (by omega))
 unfold ze
 simp only [e,hu,Option.bind_some]
 exact ⟨_,_,rfl,hm,e3⟩
theorem zA2 (n : Nat) (x0 : List Int) (h : x0.length ≤ 1048580) : ∀ (m k : Nat) (y : Int),k ≤ x0.length → x0.length < m + k → ∃ v,Zw n m x0 k y = some (.inl v)
 | 0,k,y,h1,h2 => by omega
 | m + 1,k,y,h1,h2 => by
  rw [Zw]
  by_cases hk : k < x0.length
  ·rw [qd hk,zY hk,zm (by omega)]
   by_cases h4 : (k : Int) < 4000
   ·rw [decide_eq_true h4]
    simp only [cond_true,Option.bind_some]
    exact zA2 n x0 h m (k + 1) _ (by omega) (by omega)
   ·rw [decide_eq_false h4]
    exact ⟨_,rfl⟩
  ·have he : k = x0.length := by omega
   rw [he,qQ]
   exact ⟨_,rfl⟩
theorem zFa (n : Nat) (x0 : List Int) (h : x0.length ≤ 1048580) (hn : x0.length < n) : ∃ c,Ya n x0 = some c ∧ c.ok := by
 obtain ⟨v,e⟩ := zA2 n x0 h n 0 (IntKind.wrap .i64 (762762 + (x0.length : Int))) (by omega) (by omega)
 unfold Ya
 rw [show Zw n n x0 0 (IntKind.wrap .i64 (762762 + (x0.length : Int))) = _ from e]
 exact ⟨_,rfl,by show (0 : Int) ≤ 0; omega,by show x0.length ≤ _; omega⟩
theorem zE7 (n : Nat) (c : Src) (h : c.ok) : ∃ v c',QE n c = some (v,c') ∧ c'.ok := by
 obtain ⟨v1,c1,e1,a1,b1,h1⟩ := zG n c 5 h
 obtain ⟨v2,c2,e2,a2,h2⟩ := zS n c1 [0,1,2,5,10,100] h1 (by decide)
 obtain ⟨v3,c3,e3,a3,h3⟩ := zS n c2 [0,1,2,9,10] h2 (by decide)
 obtain ⟨v4,c4,e4,a4,b4,h4⟩ := zG n c3 5 h3
 obtain ⟨v5,c5,e5,a5,b5,h5⟩ := zG n c4 4 h4
 unfold QE
 simp only [e1,e2,e3,e4,e5,Option.bind_some]
 exact ⟨_,_,rfl,h5⟩
theorem zFb (n : Nat) (c : Src) (h : c.ok) : ∃ v c',QY n c = some (v,c') ∧ c'.ok := by
 obtain ⟨v1,c1,e1,h1⟩ := zE7 n c h
 obtain ⟨v2,c2,e2,a2,b2,h2⟩ := zG n c1 12 h1
 obtain ⟨v3,c3,e3,a3,h3⟩ := zS n c2 [0,99,100] h2 (by decide)
 obtain ⟨v4,c4,e4,a4,h4⟩ := zS n c2 [(-1),99999,100000,100001] h2 (by decide)
 obtain ⟨v5,c5,e5,a5,h5⟩ := zS n c2 [(-1),11] h2 (by decide)
 obtain ⟨v6,c6,e6,a6,h6⟩ := zS n c2 [(-1),7,8] h2 (by decide)
 unfold QY
 simp only [e1,e2,e3,e4,e5,e6,Option.bind_some]
 cases (v2 == 0) <;> cases (v2 == 1) <;> cases (v2 == 2) <;> cases (v2 == 3) <;> first | exact ⟨_,_,rfl,h2⟩ | exact ⟨_,_,rfl,h3⟩ | exact ⟨_,_,rfl,h4⟩ | exact ⟨_,_,rfl,h5⟩ | exact ⟨_,_,rfl,h6⟩
theorem zAq (n : Nat) (x0 : zD) (x1 : Int) (h : x0.Rows.length ≤ 1048580) : ∀ (m k : Nat),k ≤ x0.Rows.length → x0.Rows.length < m + k → Tot (qh n m x0 x1 k)
 | 0,k,h1,h2 => by omega
 | m + 1,k,h1,h2 => by
  rw [qh]
  refine Tot.step (fun hk => ?_) .of
  have ih := zAq n x0 x1 h m (k + 1) (by omega) (by omega)
  simp only [zY hk,Option.bind_some,zd,zm (by omega : k ≤ 1099511627776)]
  refine Tot.bif (fun _ => .of) fun _ => Tot.bif (fun _ => .of) fun _ => Tot.bif (fun _ => .of) fun _ => Tot.bif (fun _ => .of) fun _ => Tot.bif (fun hp => ?_) fun _ => ih
  have hp := of_decide_eq_true hp
  obtain ⟨v,hv,_⟩ := zCA (xs := x0.Rows) (i := (k : Int) - 1) (by omega) (by omega)
  rw [wrap64 (by omega) (by omega),hv,Option.bind_some]
  exact Tot.bif (fun _ => .of) fun _ => ih
theorem zAp (n : Nat) (x0 : zD) (h : x0.Rows.length ≤ 1048580) (hn : x0.Rows.length < n) (hq : x0.Pv.length ≤ 1048580) : ∀ (m k : Nat),k ≤ x0.Pv.length → x0.Pv.length < m + k → Tot (qt n m x0 k)
 | 0,k,h1,h2 => by omega
 | m + 1,k,h1,h2 => by
  rw [qt]
  refine Tot.step (fun hk => ?_) .of
  have ih := zAp n x0 h hn hq m (k + 1) (by omega) (by omega)
  obtain ⟨r,hr,_⟩ := zAT n x0 x0.Pv[k] h hn
  simp only [zY hk,Option.bind_some,hr,zm (by omega : k ≤ 1099511627776)]
  exact Tot.bif (fun _ => .of) fun _ => ih
theorem zES (n : Nat) (x0 : zD) (p : Nat) (hp : p ≤ 1000000) (h : x0.sz ≤ 1048580) (hn : x0.sz < n) : Tot (qG n x0 p) := by
 have hs : x0.Rows.length + x0.Pv.length = x0.sz := rfl
 unfold qG
 simp only [zd,Option.bind_some]
 have hu : decide ((0 : Int) ≤ IntKind.wrap .u64 (p : Int)) = true := by rw [show IntKind.wrap .u64 (p : Int) = p from by show ((p : Int) % 18446744073709551616) = p; omega]; exact decide_eq_true (by omega)
 refine Tot.bif (fun _ => .of) fun _ => Tot.bif (fun _ => .of) fun _ => Tot.bif (fun _ => .of) fun _ => ?_
 rw [hu,cond_true]
 refine Tot.bind (zAq n x0 p (by omega) n 0 (by omega) (by omega)) fun o _ => ?_
 cases o with
 | inr b => exact Tot.of
 | inl u =>
  show Tot (Z5 n x0)
  unfold Z5
  refine Tot.bind (zAp n x0 (by omega) (by omega) (by omega) n 0 (by omega) (by omega)) fun o _ => ?_
  cases o <;> exact Tot.of
theorem zER (n : Nat) (x : zD) (p : Int) (hok : qG n x p = some true) : x.Rows.length ≤ 6 ∧ (x.Pv.length : Int) = p := by
 unfold qG at hok
 simp only [zd,Option.bind_some] at hok
 revert hok
 cases (decide (1 ≤ p) && decide (p ≤ 6)) with
 | false => intro h; cases h
 | true =>
  simp only [Bool.not_true,cond_false]
  by_cases hp : (x.Pv.length : Int) = p
  ·have : ((x.Pv.length : Int) != p) = false := by simp [hp]
   rw [this,cond_false]
   by_cases hr : (x.Rows.length : Int) > 6
   ·rw [decide_eq_true hr]; intro h; cases h
   ·exact fun _ => ⟨by omega,hp⟩
  ·have : ((x.Pv.length : Int) != p) = true := by simp [hp]
   rw [this]; intro h; cases h
def VtG (n p : Nat) (x : zD) : Prop := x.wf ∧ x.Pv.length = p ∧ x.Rows.length ≤ 6 ∧ qG n x p = some true ∧ ∀ r ∈ x.Rows,0 ≤ r.Bare ∧ r.Bare ≤ 63
theorem VtG.sz {n p : Nat} {x : zD} (h : VtG n p x) : x.sz ≤ 6 + p := by
 have hs : x.Rows.length + x.Pv.length = x.sz := rfl
 have := h.2.1; have := h.2.2.1; omega
theorem zAw (n p : Nat) (hp : p ≤ 1000) (x y : zD) (hx : VtG n p x) (wy : y.wf) (hy : y.Pv.length = p) (hl : y.Rows.length ≤ 1000) (hb : ∀ r ∈ y.Rows,0 ≤ r.Bare ∧ r.Bare ≤ 63) (hn : 1048577 < n) : ∃ r b,YK n y x = some (r,b) ∧ VtG n p r := by
 have hs : y.Rows.length + y.Pv.length = y.sz := rfl
 have hxs := hx.sz
 obtain ⟨b,e⟩ := zES n y p (by omega) (by omega) (by omega)
 unfold YK
 rw [hx.2.1,e,Option.bind_some,Qx n x (by omega)]
 cases b
 ·exact ⟨x,false,rfl,hx⟩
 ·exact ⟨y,true,rfl,wy,hy,(zER n y p e).1,e,hb⟩
theorem zEP (n p : Nat) (hp : p ≤ 1000) (x : zD) (hx : VtG n p x) (i id : Int) (wi : zr id) (hn : 1048577 < n) : ∃ r b,YR n x i id = some (r,b) ∧ VtG n p r := by
 have hxs := hx.sz
 have hpl := hx.2.1
 have hw : IntKind.wrap .i64 ((p : Int) - 1) = (p : Int) - 1 := wrap64 (by omega) (by omega)
 unfold YR
 simp only [hpl,hx.2.2.2.1,Option.bind_some,Bool.not_true,cond_false,zd,hw,Qx n x (by omega)]
 by_cases hi : 0 ≤ i ∧ i ≤ (p : Int) - 1
 ·obtain ⟨v,hv,_⟩ := zCA (xs := x.Pv) hi.1 (by omega)
  obtain ⟨r,b,e,g⟩ := zAw n p hp x ⟨x.Rows,x.Pv.set i.toNat id⟩ hx ⟨hx.1.1,zBC hx.1.2.1 wi,trivial⟩ (by simp [hpl]) (by have := hx.2.2.1; show x.Rows.length ≤ 1000; omega) hx.2.2.2.2 hn
  rw [decide_eq_true hi.1,decide_eq_true hi.2]
  simp only [Bool.and_self,Bool.not_true,cond_false,hv,Option.bind_some,e]
  exact ⟨r,b,rfl,g⟩
 ·have hp' : (decide (0 ≤ i) && decide (i ≤ (p : Int) - 1)) = false := by
   simp only [Bool.and_eq_false_iff,decide_eq_false_iff_not]; omega
  rw [hp']
  exact ⟨x,false,rfl,hx⟩
theorem zEK (n p : Nat) (hp : p ≤ 1000) (x : zD) (hx : VtG n p x) (id : Int) (hn : 1048577 < n) : ∃ r b,Qr n x id = some (r,b) ∧ VtG n p r := by
 have hxs := hx.sz
 have hpl := hx.2.1
 have h6 := hx.2.2.1
 obtain ⟨r,hr,hk⟩ := zAT n x id (by omega) (by omega)
 rcases hk with ⟨rfl,_⟩ | ⟨v,h0,hv,_⟩
 ·refine ⟨x,false,?_,hx⟩
  simp only [Qr,hr,hpl,hx.2.2.2.1,Option.bind_some,Qx n x (by omega)]
  rfl
 ·obtain ⟨g1,g2⟩ := qc hv
  have hlt : r.toNat < x.Rows.length := (List.getElem?_eq_some_iff.1 g2).1
  obtain ⟨k,rfl⟩ : ∃ k : Nat,r = k := ⟨r.toNat,by omega⟩
  simp only [Int.toNat_natCast] at hlt
  have hw : IntKind.wrap .i64 ((k : Int) + 1) = ((k + 1 : Nat) : Int) := zm (by omega)
  have hlist : (([] : List zC) ++ ((x.Rows.drop ((0 : Int)).toNat).take (((k : Int)).toNat - ((0 : Int)).toNat))) ++ ((x.Rows.drop ((((k + 1 : Nat) : Int))).toNat).take ((((x.Rows.length : Int) : Int)).toNat - ((((k + 1 : Nat) : Int))).toNat)) = x.Rows.take k ++ x.Rows.drop (k + 1) := by
   simp only [Int.toNat_natCast,List.nil_append,show ((0 : Int)).toNat = 0 from rfl,List.drop_zero,Nat.sub_zero]
   congr 1
   exact List.take_of_length_le (by simp)
  have hmem : ∀ y ∈ x.Rows.take k ++ x.Rows.drop (k + 1),y ∈ x.Rows := fun y hy => by
   rcases List.mem_append.1 hy with h | h
   ·exact List.mem_of_mem_take h
   ·exact List.mem_of_mem_drop h
  obtain ⟨y,b,e,g⟩ := zAw n p hp x ⟨x.Rows.take k ++ x.Rows.drop (k + 1),x.Pv⟩ hx ⟨zHl hx.1.1 hmem (by simp; omega),hx.1.2⟩ hpl (by show (x.Rows.take k ++ x.Rows.drop (k + 1)).length ≤ 1000; simp; omega) (fun r hr => hx.2.2.2.2 r (hmem r hr)) hn
  have hg1 : (decide ((0 : Int) ≤ 0) && (decide ((0 : Int) ≤ (k : Int)) && decide ((k : Int) ≤ (x.Rows.length : Int)))) = true := by
   rw [decide_eq_true (by omega : (0 : Int) ≤ (k : Int)),decide_eq_true (by omega : (k : Int) ≤ (x.Rows.length : Int))]; rfl
  have hg2 : (decide ((0 : Int) ≤ ((k + 1 : Nat) : Int)) && (decide ((((k + 1 : Nat) : Int) : Int) ≤ (x.Rows.length : Int)) && decide (((x.Rows.length : Int) : Int) ≤ (x.Rows.length : Int)))) = true := by
   rw [decide_eq_true (by omega : (0 : Int) ≤ ((k + 1 : Nat) : Int)),decide_eq_true (by omega : ((k + 1 : Nat) : Int) ≤ (x.Rows.length : Int)),decide_eq_true (Int.le_refl _)]; rfl
  have hg3 : decide (([] : List zC).length + ((x.Rows.drop ((0 : Int)).toNat).take (((k : Int)).toNat - ((0 : Int)).toNat)).length ≤ 268435456) = true := decide_eq_true (by simp; omega)
  have hg4 : decide ((([] : List zC) ++ ((x.Rows.drop ((0 : Int)).toNat).take (((k : Int)).toNat - ((0 : Int)).toNat))).length + ((x.Rows.drop ((((k + 1 : Nat) : Int))).toNat).take ((((x.Rows.length : Int) : Int)).toNat - ((((k + 1 : Nat) : Int))).toNat)).length ≤ 268435456) = true := decide_eq_true (by simp; omega)
  have hn0 : decide ((k : Int) < 0) = false := decide_eq_false (by omega)
  refine ⟨y,b,?_,g⟩
  simp only [Qr,hr,hpl,hx.2.2.2.1,Option.bind_some,Bool.not_true,Qx n x (by omega),hn0,cond_false,hw,hg1,hg2,hg3,hg4,cond_true,hlist,e]
theorem zA6 (n : Nat) (x0 : zD) (r : zC) (h : x0.Rows.length ≤ 1000) : ∀ (m k : Nat) (d : Bool) (acc : List zC),k ≤ x0.Rows.length → x0.Rows.length < m + k → acc.length ≤ 2 * k → (∀ v ∈ acc,v = r ∨ v ∈ x0.Rows) → ∃ d' acc',qi n m x0 r k d acc = some (.inl (d',acc')) ∧ acc'.length ≤ 2 * x0.Rows.length ∧ (∀ v ∈ acc',v = r ∨ v ∈ x0.Rows)
 | 0,k,d,acc,h1,h2,_,_ => by omega
 | m + 1,k,d,acc,h1,h2,h3,h4 => by
  rw [qi]
  by_cases hk : k < x0.Rows.length
  ·have ih := fun d acc h3 h4 => zA6 n x0 r h m (k + 1) d acc (by omega) (by omega) h3 h4
   have hmem : x0.Rows[k] ∈ x0.Rows := List.getElem_mem hk
   have hj : ∀ b1 b2 b3 (d : Bool) (acc : List zC),acc.length ≤ 2 * k + 1 → (∀ v ∈ acc,v = r ∨ v ∈ x0.Rows) → ∃ d' acc',Zz n (fun v => qi n m x0 r v.1 v.2.1 v.2.2) x0 r k b1 b2 b3 d acc = some (.inl (d',acc')) ∧ acc'.length ≤ 2 * x0.Rows.length ∧ (∀ v ∈ acc',v = r ∨ v ∈ x0.Rows) := fun b1 b2 b3 d acc hl ha => by
    have hlen : decide (acc.length + [x0.Rows[k]].length ≤ 268435456) = true := decide_eq_true (by rw [List.length_singleton]; omega)
    simp only [Zz,zY hk,Option.bind_some,hlen,cond_true,zm (by omega : k ≤ 1099511627776)]
    cases (x0.Rows[k].Id != r.Id)
    ·exact ih d acc (by omega) ha
    ·refine ih d _ (by simp; omega) fun v hv => ?_
     rcases List.mem_append.1 hv with a | a
     ·exact ha v a
     ·rw [List.mem_singleton.1 a]; exact .inr hmem
   have hlen : decide (acc.length + [r].length ≤ 268435456) = true := decide_eq_true (by rw [List.length_singleton]; omega)
   simp only [qd hk,cond_true,zY hk,Option.bind_some,hlen]
   cases d
   ·simp only [Bool.not_false,cond_true]
    cases (decide (x0.Rows[k].Id ≥ r.Id))
    ·simp only [cond_false]; exact hj _ _ _ _ _ (by omega) h4
    ·simp only [cond_true]
     refine hj _ _ _ _ _ (by simp; omega) fun v hv => ?_
     rcases List.mem_append.1 hv with a | a
     ·exact h4 v a
     ·exact .inl (List.mem_singleton.1 a)
   ·simp only [Bool.not_true,cond_false]; exact hj _ _ _ _ _ (by omega) h4
  ·have he : k = x0.Rows.length := by omega
   subst he
   rw [qQ,cond_false]
   exact ⟨d,acc,rfl,h3,h4⟩
theorem zBv (n : Nat) (x : zD) (r : zC) (h : x.Rows.length ≤ 1000) (hq : x.Pv.length ≤ 1000) (hn : 1000 < n) : ∃ y,Yb n x r = some y ∧ y.Pv = x.Pv ∧ y.Rows.length ≤ 2 * x.Rows.length + 1 ∧ (∀ v ∈ y.Rows,v = r ∨ v ∈ x.Rows) := by
 obtain ⟨d,acc,e,h1,h2⟩ := zA6 n x r h n 0 false [] (by omega) (by omega) (by simp) (by simp)
 have e : qi n n x r 0 false ([] : List zC) = some (.inl (d,acc)) := e
 unfold Yb
 rw [decide_eq_true (by simp; omega),cond_true,e,Option.bind_some]
 simp only [YV,List.nil_append]
 have hlen : decide (acc.length + [r].length ≤ 268435456) = true := decide_eq_true (by rw [List.length_singleton]; omega)
 rw [hlen]
 cases d
 ·refine ⟨_,rfl,rfl,by simp; omega,fun v hv => ?_⟩
  rcases List.mem_append.1 hv with a | a
  ·exact h2 v a
  ·exact .inl (List.mem_singleton.1 a)
 ·exact ⟨_,rfl,rfl,by simp; omega,h2⟩
theorem zFS {xs ys : List zC} {r : zC} (hx : QB zC.wf xs) (wr : r.wf) (hl : ys.length ≤ 4000) (h : ∀ v ∈ ys,v = r ∨ v ∈ xs) : QB zC.wf ys := ⟨Nat.le_trans hl (by decide),fun v hv => by
 rcases h v hv with a | a
 ·rw [a]; exact wr
 ·exact hx.2 v a⟩
theorem zEy (n p : Nat) (hp : p ≤ 1000) (x : zD) (hx : VtG n p x) (r : zC) (wr : r.wf) (hr : 0 ≤ r.Bare ∧ r.Bare ≤ 63) (hn : 1048577 < n) : ∃ y b,Yw n x r = some (y,b) ∧ VtG n p y := by
 have hxs := hx.sz
 have hpl := hx.2.1
 have h6 := hx.2.2.1
 obtain ⟨z,e,e1,e2,e3⟩ := zBv n x r (by omega) (by omega) (by omega)
 have wz : z.wf := ⟨zFS hx.1.1 wr (by omega) e3,by rw [e1]; exact hx.1.2.1,trivial⟩
 obtain ⟨y,b,f,g⟩ := zAw n p hp x z hx wz (by rw [e1]; exact hpl) (by omega) (fun v hv => by
  rcases e3 v hv with a | a
  ·rw [a]; exact hr
  ·exact hx.2.2.2.2 v a) hn
 refine ⟨y,b,?_,g⟩
 simp only [Yw,hpl,hx.2.2.2.1,Option.bind_some,Bool.not_true,cond_false,e,f]
theorem zN {z : Int} (h0 : -1000000 ≤ z) (h1 : z ≤ 1000000) : zr z := by
 show (Lit.int .i64 z).wf = true
 simp [Lit.wf,show IntKind.wrap .i64 z = z from wrap64 (by omega) (by omega)]
 exact ⟨by show (-9223372036854775808 : Int) ≤ z; omega,by omega⟩
theorem zIP : ∀ a < 64,∀ b < 64,IntKind.wrap .i64 (BitVec.ofInt (IntKind.bits .i64) ((a : Nat) : Int) &&& BitVec.ofInt (IntKind.bits .i64) ((b : Nat) : Int)).toNat = ((a &&& b : Nat) : Int) := by decide +kernel
theorem zDN : ∀ p < 7,IntKind.wrap .u64 ((p : Nat) : Int) = p ∧ IntKind.wrap .i64 ((IntKind.wrap .i64 ((IntKind.wrap .i64 (1 * 2 ^ min (((IntKind.wrap .u64 ((p : Nat) : Int)) : Int)).toNat (IntKind.bits .i64))) - 1)) + 1) = ((2 ^ p : Nat) : Int) ∧ (IntKind.wrap .i64 ((IntKind.wrap .i64 (1 * 2 ^ min (((IntKind.wrap .u64 ((p : Nat) : Int)) : Int)).toNat (IntKind.bits .i64))) - 1)) = ((2 ^ p - 1 : Nat) : Int) ∧ 1 ≤ 2 ^ p ∧ 2 ^ p ≤ 64 := by decide +kernel
theorem zFA (n p : Nat) (hp : p < 7) (c : Src) (h : c.ok) : ∃ v c',Y3 n c p = some (v,c') ∧ v.wf ∧ 0 ≤ v.Bare ∧ v.Bare ≤ 63 ∧ c'.ok := by
 obtain ⟨s1,s2,s3,s4,s5⟩ := zDN p hp
 obtain ⟨v1,c1,e1,a1,b1,g1⟩ := zG n c ((2 ^ p : Nat) : Int) h
 obtain ⟨v2,c2,e2,a2,g2⟩ := zS n c1 [1,2,3,2] g1 (by decide)
 obtain ⟨v3,c3,e3,a3,b3,g3⟩ := zG n c2 ((2 ^ p : Nat) : Int) g2
 have b1 := b1 (by omega)
 have b3 := b3 (by omega)
 obtain ⟨x,rfl⟩ : ∃ x : Nat,v1 = x := ⟨v1.toNat,by omega⟩
 obtain ⟨y,rfl⟩ : ∃ y : Nat,v3 = y := ⟨v3.toNat,by omega⟩
 have hand := zIP x (by omega) y (by omega)
 have hle : x &&& y ≤ x := Nat.and_le_left
 have hu : decide ((0 : Int) ≤ IntKind.wrap .u64 ((p : Nat) : Int)) = true := decide_eq_true (by rw [s1]; omega)
 unfold Y3
 simp only [s2,hu,cond_true,e1,e2,e3,Option.bind_some,hand]
 have w1 : zr v2 := by
  simp only [List.mem_cons,List.not_mem_nil,or_false] at a2
  refine zN ?_ ?_ <;> rcases a2 with a | a | a | a <;> omega
 have w2 : zr ((x : Nat) : Int) := zN (by omega) (by omega)
 have w3 : zr ((x &&& y : Nat) : Int) := zN (by omega) (by omega)
 refine ⟨_,_,rfl,⟨w1,w2,w3,trivial⟩,?_,?_,g3⟩
 ·show (0 : Int) ≤ ((x &&& y : Nat) : Int); omega
 ·show ((x &&& y : Nat) : Int) ≤ 63; omega
theorem zAo (n p : Nat) (hp : p ≤ 1000) : ∀ (m k : Nat) (acc : List Int),k ≤ p → p < m + k → acc = List.replicate k 1 → ZQ n m p k acc = some (.inl (List.replicate p 1))
 | 0,k,acc,h1,h2,h3 => by omega
 | m + 1,k,acc,h1,h2,h3 => by
  rw [ZQ]
  by_cases hk : k < p
  ·have hlen : decide (acc.length + [(1 : Int)].length ≤ 268435456) = true := decide_eq_true (by rw [List.length_singleton,h3]; simp; omega)
   simp only [qd hk,cond_true,zm (by omega : k ≤ 1099511627776)]
   refine Eq.trans (congrArg (fun b => cond b _ none) hlen) ?_
   exact zAo n p hp m (k + 1) (acc ++ [1]) (by omega) (by omega) (by rw [h3,← List.replicate_succ'])
  ·have he : k = p := by omega
   subst he
   rw [qQ,cond_false,h3]
theorem zEQ (n p : Nat) (h0 : 1 ≤ p) (h1 : p < 7) (hn : 1000 < n) : QM n p = some ⟨[⟨1,((2 ^ p - 1 : Nat) : Int),((2 ^ p - 1 : Nat) : Int)⟩],List.replicate p 1⟩ := by
 obtain ⟨s1,s2,s3,s4,s5⟩ := zDN p h1
 have e := zAo n p (by omega) n 0 [] (by omega) (by omega) rfl
 have e : ZQ n n p 0 ([] : List Int) = some (.inl (List.replicate p 1)) := e
 unfold QM
 have hu : decide ((0 : Int) ≤ IntKind.wrap .u64 ((p : Nat) : Int)) = true := decide_eq_true (by rw [s1]; omega)
 simp only [zd,Option.bind_some,decide_eq_true (show (1 : Int) ≤ (p : Int) by omega),decide_eq_true (show (p : Int) ≤ 6 by omega),Bool.and_self,Bool.not_true,cond_false,hu,cond_true,e,Qw,s3]
theorem zJR : ∀ p < 7,1 ≤ p → qG 1048580 ⟨[⟨1,((2 ^ p - 1 : Nat) : Int),((2 ^ p - 1 : Nat) : Int)⟩],List.replicate p 1⟩ ((p : Nat) : Int) = some true := by decide +kernel
theorem zJQ (p : Nat) (h0 : 1 ≤ p) (h1 : p < 7) : ∃ v,QM 1048580 p = some v ∧ VtG 1048580 p v := by
 obtain ⟨s1,s2,s3,s4,s5⟩ := zDN p h1
 have w : zr ((2 ^ p - 1 : Nat) : Int) := zN (by omega) (by omega)
 refine ⟨_,zEQ 1048580 p h0 h1 (by omega),⟨⟨by show 1 ≤ maxLen; decide,fun v hv => ?_⟩,⟨by rw [List.length_replicate]; exact Nat.le_trans (Nat.le_of_lt h1) (by decide),fun v hv => ?_⟩,trivial⟩,List.length_replicate,by show 1 ≤ 6; decide,zJR p h1 h0,fun v hv => ?_⟩
 ·rw [List.mem_singleton.1 hv]; have w1 : zr 1 := zN (by decide) (by decide)
  exact ⟨w1,w,w,trivial⟩
 ·rw [(List.mem_replicate.1 hv).2]; exact zN (by decide) (by decide)
 ·rw [List.mem_singleton.1 hv]
  have h : (0 : Int) ≤ ((2 ^ p - 1 : Nat) : Int) ∧ ((2 ^ p - 1 : Nat) : Int) ≤ 63 := by omega
  exact h
theorem zA5 (p : Nat) (h0 : 1 ≤ p) (h7 : p < 7) : ∀ (m k : Nat) (c : Src) (v : zD),k < m → k ≤ 1000 → c.ok → VtG 1048580 p v → ∃ (c' : Src) (v' : zD),ZK 1048580 m p k c.b c.i c.h v.Rows v.Pv = some (.inl (c'.b,c'.i,c'.h,v'.Rows,v'.Pv)) ∧ c'.ok ∧ VtG 1048580 p v'
 | 0,k,c,v,h1,h2,h3,h4 => by omega
 | m + 1,k,c,v,h1,h2,h3,h4 => by
  rw [ZK]
  by_cases hk : 0 < k
  ·obtain ⟨j,rfl⟩ : ∃ j,k = j + 1 := ⟨k - 1,by omega⟩
   have hw : IntKind.wrap .i64 (((j + 1 : Nat) : Int) - 1) = (j : Nat) := by rw [wrap64 (by omega) (by omega)]; omega
   have ih := fun c v h3 h4 => zA5 p h0 h7 m j c v (by omega) (by omega) h3 h4
   obtain ⟨v1,c1,e1,a1,b1,g1⟩ := zG 1048580 c 4 h3
   obtain ⟨v2,c2,e2,a2,b2,g2⟩ := zG 1048580 c1 (p : Int) g1
   obtain ⟨v3,c3,e3,a3,b3,g3⟩ := zG 1048580 c2 3 g2
   obtain ⟨v4,c4,e4,a4,b4,g4⟩ := zG 1048580 c1 2 g1
   obtain ⟨v5,c5,e5,w5,p5,q5,g5⟩ := zFA 1048580 p h7 c1 g1
   have b3 := b3 (by decide)
   have b4 := b4 (by decide)
   obtain ⟨y2,d2,f2,k2⟩ := zEP 1048580 p (by omega) v h4 v2 (1 + v3) (zN (by omega) (by omega)) (by omega)
   obtain ⟨y4,d4,f4,k4⟩ := zEK 1048580 p (by omega) v h4 (2 + v4) (by omega)
   obtain ⟨y5,d5,f5,k5⟩ := zEy 1048580 p (by omega) v h4 v5 w5 ⟨p5,q5⟩ (by omega)
   have hpos : decide (((j + 1 : Nat) : Int) > 0) = true := decide_eq_true (by omega)
   simp only [hpos,cond_true,e1,Option.bind_some,e2,e3,e4,e5,hw,wrap64 (show -9223372036854775808 ≤ 1 + v3 by omega) (by omega),wrap64 (show -9223372036854775808 ≤ 2 + v4 by omega) (by omega),f2,f4,f5]
   cases (v1 == 0)
   ·cases (v1 == 1)
    ·exact ih c5 y5 g5 k5
    ·exact ih c4 y4 g4 k4
   ·exact ih c3 y2 g3 k2
  ·have : k = 0 := by omega
   subst this
   exact ⟨c,v,rfl,h3,h4⟩
theorem zBu (p : Nat) (h0 : 1 ≤ p) (h7 : p < 7) (c : Src) (h : c.ok) : ∃ v c',Q8 1048580 c p = some (v,c') ∧ VtG 1048580 p v ∧ c'.ok := by
 obtain ⟨v0,e0,g0⟩ := zJQ p h0 h7
 obtain ⟨v1,c1,e1,a1,b1,g1⟩ := zG 1048580 c 6 h
 have b1 := b1 (by decide)
 obtain ⟨k,rfl⟩ : ∃ k : Nat,v1 = k := ⟨v1.toNat,by omega⟩
 obtain ⟨c',v',e,g,g'⟩ := zA5 p h0 h7 1048580 k c1 v0 (by omega) (by omega) g1 g0
 unfold Q8
 rw [e0,Option.bind_some,e1,Option.bind_some,e]
 exact ⟨v',c',rfl,g',g⟩
def VtB (x : zD) : Prop := x.wf ∧ 1 ≤ x.Pv.length ∧ x.Pv.length ≤ 6 ∧ x.Rows.length ≤ 1000 ∧ ∀ r ∈ x.Rows,0 ≤ r.Bare ∧ r.Bare ≤ 63
theorem zBb : ∀ (m k : Nat) (v : zD),k ≤ 6 → 6 < m + k → VtB v → v.Rows.length * 2 ^ (6 - k) + 2 ^ (6 - k) ≤ 1000 → ∃ (v' : zD),Zy 1048580 m k v.Rows v.Pv = some (.inl (v'.Rows,v'.Pv)) ∧ VtB v'
 | 0,k,v,h1,h2,h3,h4 => by omega
 | m + 1,k,v,h1,h2,h3,h4 => by
  rw [Zy]
  by_cases hk : k < 6
  ·have hp : 2 ^ (6 - k) = 2 * 2 ^ (6 - (k + 1)) := by rw [← Nat.pow_succ']; congr 1; omega
   have hpos : 1 ≤ 2 ^ (6 - (k + 1)) := Nat.pos_of_ne_zero (by simp)
   obtain ⟨y,e,e1,e2,e3⟩ := zBv 1048580 (⟨v.Rows,v.Pv⟩ : zD) (⟨IntKind.wrap .i64 (10 + (k : Int)),0,0⟩ : zC) h3.2.2.2.1 (Nat.le_trans h3.2.2.1 (by decide)) (by omega)
   have e2 : y.Rows.length ≤ 2 * v.Rows.length + 1 := e2
   have e1 : y.Pv = v.Pv := e1
   have hle : y.Rows.length * 2 ^ (6 - (k + 1)) + 2 ^ (6 - (k + 1)) ≤ 1000 := by
    refine Nat.le_trans ?_ h4
    rw [hp]
    have := Nat.mul_le_mul_right (2 ^ (6 - (k + 1))) e2
    have h5 : (2 * v.Rows.length + 1) * 2 ^ (6 - (k + 1)) = v.Rows.length * (2 * 2 ^ (6 - (k + 1))) + 2 ^ (6 - (k + 1)) := by
     rw [Nat.add_mul,Nat.one_mul,Nat.mul_comm 2 v.Rows.length,Nat.mul_assoc]
    omega
   have hl : y.Rows.length ≤ 1000 := by
    have := Nat.mul_le_mul_left y.Rows.length hpos
    omega
   have wr : zC.wf (⟨IntKind.wrap .i64 (10 + (k : Int)),0,0⟩ : zC) := by
    rw [wrap64 (by omega) (by omega)]
    have w0 : zr 0 := zN (by decide) (by decide)
    exact ⟨zN (by show (-1000000 : Int) ≤ 10 + (k : Int); omega) (by show 10 + (k : Int) ≤ 1000000; omega),w0,w0,trivial⟩
   have gy : VtB y := ⟨⟨zFS h3.1.1 wr (by omega) e3,by rw [e1]; exact h3.1.2.1,trivial⟩,by rw [e1]; exact h3.2.1,by rw [e1]; exact h3.2.2.1,hl,fun r hr => by
    rcases e3 r hr with a | a
    ·rw [a]; exact (show (0 : Int) ≤ 0 ∧ (0 : Int) ≤ 63 by decide)
    ·exact h3.2.2.2.2 r a⟩
   simp only [decide_eq_true (show (k : Int) < 6 by omega),cond_true,e,Option.bind_some,zm (by omega : k ≤ 1099511627776)]
   exact zBb m (k + 1) y (by omega) (by omega) gy hle
  ·have : k = 6 := by omega
   subst this
   exact ⟨v,rfl,h3⟩
theorem zFd (c : Src) (h : c.ok) : ∃ v p c',JS 1048580 c = some (v,p,c') ∧ VtB v ∧ zr p ∧ c'.ok := by
 obtain ⟨v1,c1,e1,a1,b1,g1⟩ := zG 1048580 c 4 h
 have b1 := b1 (by decide)
 obtain ⟨k,rfl⟩ : ∃ k : Nat,v1 = k := ⟨v1.toNat,by omega⟩
 have hw : IntKind.wrap .i64 (1 + (k : Int)) = ((k + 1 : Nat) : Int) := by rw [wrap64 (by omega) (by omega)]; omega
 obtain ⟨v,c2,e2,gv,g2⟩ := zBu (k + 1) (by omega) (by omega) c1 g1
 have hl := gv.2.1
 have h6 := gv.2.2.1
 have bv : VtB v := ⟨gv.1,by omega,by omega,by omega,gv.2.2.2.2⟩
 have wk : zr ((k + 1 : Nat) : Int) := zN (by omega) (by omega)
 obtain ⟨v3,c3,e3,a3,b3,g3⟩ := zG 1048580 c2 12 g2
 obtain ⟨v4,c4,e4,a4,g4⟩ := zS 1048580 c3 [0,1,9,100] g3 (by decide)
 obtain ⟨v5,c5,e5,a5,g5⟩ := zS 1048580 c4 [(-1),0,1,64] g4 (by decide)
 obtain ⟨v6,c6,e6,a6,b6,g6⟩ := zG 1048580 c5 3 g5
 have b6 := b6 (by decide)
 obtain ⟨v7,c7,e7,a7,g7⟩ := zS 1048580 c3 [0,7] g3 (by decide)
 obtain ⟨v8,c8,e8,a8,g8⟩ := zS 1048580 c3 [0,6,7] g3 (by decide)
 obtain ⟨u,hu,_⟩ := zCA (xs := v.Pv) (i := 0) (by omega) (by omega)
 obtain ⟨z,ez,bz⟩ := zBb 1048580 0 v (by omega) (by omega) bv (by show v.Rows.length * 64 + 64 ≤ 1000; omega)
 have ez : Zy 1048580 1048580 0 v.Rows v.Pv = some (.inl (z.Rows,z.Pv)) := ez
 simp only [List.mem_cons,List.not_mem_nil,or_false] at a4 a5 a7 a8
 have w4 : zr v4 := by refine zN ?_ ?_ <;> rcases a4 with a | a | a | a <;> omega
 have w5 : zr v5 := by refine zN ?_ ?_ <;> rcases a5 with a | a | a | a <;> omega
 have w6 : zr v6 := zN (by omega) (by omega)
 have w7 : zr v7 := by refine zN ?_ ?_ <;> rcases a7 with a | a <;> omega
 have w8 : zr v8 := by refine zN ?_ ?_ <;> rcases a8 with a | a | a <;> omega
 have hlen : decide (v.Rows.length + [(⟨v4,v5,v6⟩ : zC)].length ≤ 268435456) = true := decide_eq_true (by rw [List.length_singleton]; omega)
 unfold JS
 simp only [e1,Option.bind_some,hw,e2,e3,e4,e5,e6,e7,e8,hu,hlen,cond_true,ez,YU]
 cases (v3 == 0)
 ·cases (v3 == 1)
  ·cases (v3 == 2)
   ·cases (v3 == 3)
    ·exact ⟨_,_,_,rfl,bv,wk,g3⟩
    ·exact ⟨_,_,_,rfl,bz,wk,g3⟩
   ·exact ⟨_,_,_,rfl,bv,w8,g8⟩
  ·exact ⟨_,_,_,rfl,⟨⟨bv.1.1,zBC bv.1.2.1 w7,trivial⟩,by show 1 ≤ (v.Pv.set ((0 : Int)).toNat v7).length; rw [List.length_set]; omega,by show (v.Pv.set ((0 : Int)).toNat v7).length ≤ 6; rw [List.length_set]; omega,bv.2.2.2⟩,wk,g7⟩
 ·refine ⟨_,_,_,rfl,⟨⟨zFS bv.1.1 (r := ⟨v4,v5,v6⟩) ⟨w4,w5,w6,trivial⟩ (by show (v.Rows ++ [_]).length ≤ 4000; simp; omega) fun r hr => ?_,bv.1.2⟩,bv.2.1,bv.2.2.1,by show (v.Rows ++ [_]).length ≤ 1000; simp; omega,fun r hr => ?_⟩,wk,g6⟩
  ·rcases List.mem_append.1 hr with a | a
   ·exact .inr a
   ·exact .inl (List.mem_singleton.1 a)
  ·rcases List.mem_append.1 hr with a | a
   ·exact bv.2.2.2.2 r a
   ·rw [List.mem_singleton.1 a]; exact ⟨a6,by show v6 ≤ 63; omega⟩
def Ji (a : Int) (i : Nat) : Bool := (IntKind.wrap .i64 (BitVec.ofInt (IntKind.bits .i64) (Int.fdiv a (2 ^ min ((i : Int)).toNat (IntKind.bits .i64))) &&& BitVec.ofInt (IntKind.bits .i64) 1).toNat == 1)
theorem zDg (n : Nat) (a : Int) (i : Nat) (h : i ≤ 62) : YO n a i = some (Ji a i) := by
 unfold YO
 simp only [YX,zd,Option.bind_some,decide_eq_true (show (0 : Int) ≤ (i : Int) by omega),decide_eq_true (show (i : Int) ≤ 62 by omega),Bool.and_self,cond_true]
 rfl
theorem zAJ (n : Nat) (a : Int) (i : Nat) (h : i ≤ 7) : zB5 n a i = some (Ji a i) := by
 unfold zB5
 have hu : IntKind.wrap .u64 (i : Int) = i := zHy (by omega)
 simp only [zd,Option.bind_some,decide_eq_true (show (0 : Int) ≤ (i : Int) by omega),decide_eq_true (show (i : Int) ≤ 7 by omega),Bool.and_self,cond_true,hu]
 rfl
theorem zFP (n : Nat) (a : Int) (i : Nat) (h : i ≤ 7) : QA n a i = some (Ji a i) := by
 unfold QA
 have hu : IntKind.wrap .u64 (i : Int) = i := zHy (by omega)
 simp only [decide_eq_true (show (i : Int) ≥ 0 by omega),decide_eq_true (show (i : Int) < 8 by omega),cond_true,hu,decide_eq_true (show (0 : Int) ≤ (i : Int) by omega)]
 rfl
theorem zAQ {c : Bool} {x : Option Bool} (h : (bif c then x else some false) = some true) : c = true ∧ x = some true := by
 cases c with
 | true => exact ⟨rfl,h⟩
 | false => cases h
theorem zEI {L : Nat → Int → Option (Unit ⊕ Bool)} {N : Nat} {P : Nat → Prop} (h0 : ∀ k,L 0 k = none) (hs : ∀ m (k : Nat) o,k < N → L (m + 1) (k : Int) = some o → o = .inr false ∨ (P k ∧ L m ((k + 1 : Nat) : Int) = some o)) (he : ∀ m o,L (m + 1) (N : Int) = some o → o = .inl ()) :
  ∀ (m k : Nat) o,k ≤ N → L m (k : Int) = some o → o = .inr false ∨ (o = .inl () ∧ ∀ j,k ≤ j → j < N → P j)
 | 0,k,o,_,h => by rw [h0] at h; cases h
 | m + 1,k,o,hk,h => by
  by_cases hlt : k < N
  ·rcases hs m k o hlt h with e | ⟨hp,h⟩
   ·exact .inl e
   ·rcases zEI h0 hs he m (k + 1) o (by omega) h with e | ⟨e,h2⟩
    ·exact .inl e
    ·refine .inr ⟨e,fun j hj hj2 => ?_⟩
     by_cases hjk : j = k
     ·subst hjk; exact hp
     ·exact h2 j (by omega) hj2
  ·have : k = N := by omega
   subst this
   exact .inr ⟨he m o h,fun j hj hj2 => by omega⟩
theorem zCk (n : Nat) (x : zA) (hl : x.Ps.length ≤ 1048580) {o : Unit ⊕ Bool} (h : zz n n x 0 = some o) : o = .inr false ∨ (o = .inl () ∧ ∀ j (hj : j < x.Ps.length),qB n x.Ps[j] = some true) := by
 rcases zEI (L := fun m k => zz n m x k) (N := x.Ps.length) (P := fun j => ∀ hj : j < x.Ps.length,qB n x.Ps[j] = some true) (fun k => rfl) (fun m k o hk h => by
  simp only [zz] at h
  rw [qd hk,cond_true,zY hk,Option.bind_some,zm (by omega : k ≤ 1099511627776)] at h
  obtain ⟨b,hb⟩ := zCH n x.Ps[k]
  rw [hb,Option.bind_some] at h
  cases b with
  | true => exact .inr ⟨fun _ => hb,h⟩
  | false => cases h; exact .inl rfl) (fun m o h => by
  simp only [zz] at h
  rw [qQ] at h; cases h; rfl) n 0 o (by omega) h with e | ⟨e,h2⟩
 ·exact .inl e
 ·exact .inr ⟨e,fun j hj => h2 j (by omega) hj hj⟩
theorem qz (n : Nat) (x : zA) (hl : x.Ps.length ≤ 1048580) (h : zn n x = some true) : 1 ≤ x.Ps.length ∧ x.Ps.length ≤ 6 ∧ 1 ≤ x.Id ∧ x.Id ≤ 99 ∧ x.Name.size ≤ 10 ∧ qp n x.F = some true ∧ qG n x.V (x.Ps.length : Int) = some true ∧
  (0 ≤ x.Tk ∧ x.Tk ≤ 1000000) ∧ (0 ≤ x.Pa ∧ x.Pa ≤ 1000000) ∧ (0 ≤ x.Wo ∧ x.Wo ≤ 1000000) ∧ (0 ≤ x.Dr ∧ x.Dr ≤ 1000000) ∧ (0 ≤ x.Ve ∧ x.Ve ≤ 1000000) ∧ ∀ j (hj : j < x.Ps.length),qB n x.Ps[j] = some true := by
 unfold zn at h
 obtain ⟨o,ho,h⟩ := bind_some h
 rcases zCk n x hl ho with rfl | ⟨rfl,hp⟩
 ·cases h
 ·simp only [YH,Yj,zd,Option.bind_some] at h
  obtain ⟨h1,h⟩ := zAQ h
  obtain ⟨h2,h⟩ := zAQ h
  obtain ⟨h3,h⟩ := zAQ h
  obtain ⟨b4,h4,h⟩ := bind_some h
  obtain ⟨rfl,h⟩ := zAQ h
  obtain ⟨b5,h5,h⟩ := bind_some h
  obtain ⟨rfl,h⟩ := zAQ h
  obtain ⟨b6,h6,h⟩ := bind_some h
  cases h
  obtain ⟨h7,h6⟩ := zAQ h6
  obtain ⟨h8,h6⟩ := zAQ h6
  obtain ⟨h9,h6⟩ := zAQ h6
  obtain ⟨h10,h6⟩ := zAQ h6
  have h11 := Option.some.inj h6
  simp only [Bool.and_eq_true,decide_eq_true_eq] at h1 h2 h3 h7 h8 h9 h10 h11
  exact ⟨by omega,by omega,h1.1,h1.2,by omega,h4,h5,h7,h8,h9,h10,h11,hp⟩
theorem zCn (n : Nat) (z : Int) (h0 : 0 ≤ z) (h1 : z ≤ 1000000) : ∃ y,Y1 n z = some y ∧ JA n z = some y ∧ 0 ≤ y ∧ y ≤ 1000000 := by
 unfold Y1 JA
 rw [wrap64 (by omega) (by omega)]
 by_cases h : z ≥ 1000000
 ·rw [decide_eq_true h,if_pos (by omega)]; exact ⟨z,rfl,by rw [show z = 1000000 by omega],h0,h1⟩
 ·rw [decide_eq_false h,if_neg (by omega)]; exact ⟨_,rfl,rfl,by omega,by omega⟩
theorem zC1 {α β : Type} {p : α → Bool} {L : Nat → Int → List α → Option (List α ⊕ β)} (xs : List α) (hx : xs.length ≤ 134217728)
  (h : ∀ m (k : Nat) (acc : List α) (hk : k < xs.length),acc.length ≤ k → L (m + 1) k acc = L m ((k + 1 : Nat) : Int) (acc ++ if p xs[k] then [xs[k]] else [])) (he : ∀ m (acc : List α),L (m + 1) (xs.length : Int) acc = some (.inl acc)) :
  ∀ (m k : Nat) (acc : List α),k ≤ xs.length → xs.length < m + k → acc.length ≤ k → L m k acc = some (.inl (acc ++ (xs.drop k).filter p))
 | 0,k,acc,h1,h2,h3 => by omega
 | m + 1,k,acc,h1,h2,h3 => by
  by_cases hk : k < xs.length
  ·rw [h m k acc hk h3,zC1 xs hx h he m (k + 1) _ (by omega) (by omega) (by split <;> simp <;> omega),List.drop_eq_getElem_cons hk,List.filter_cons,List.append_assoc]
   split <;> simp
  ·have : k = xs.length := by omega
   subst this
   rw [he m acc]
   simp
theorem Yd (n : Nat) (xs : List zB) (p : Int) (h : xs.length ≤ 134217728) (hn : xs.length < n) : zAB n xs p = some (xs.filter fun v => v.Sc || v.Port != p) := by
 have := zC1 (p := fun v : zB => v.Sc || v.Port != p) (L := fun m k acc => q9 n m xs p k acc) xs h (fun m k acc hk ha => by
  simp only [q9]
  rw [qd hk,cond_true,zY hk,Option.bind_some,zm (by omega : k ≤ 1099511627776)]
  have hg : ∀ v : zB,decide (acc.length + [v].length ≤ 268435456) = true := fun v => decide_eq_true (by simp; omega)
  simp only [Option.bind_some,hg,cond_true]
  cases hs : xs[k].Sc <;> cases hq : (xs[k].Port != p) <;> simp [hs,hq]) (fun m acc => by simp only [q9]; rw [qQ]; rfl) n 0 [] (by omega) (by omega) (by simp)
 unfold zAB
 rw [show q9 n n xs p 0 [] = _ from this]
 simp [zA0]
theorem zCs (n : Nat) (xs : List zB) (p : Int) (h : xs.length ≤ 134217728) (hn : xs.length < n) : Qu n xs p = some (xs.filter fun v => v.Sc || v.Port != p) := by
 have := zC1 (p := fun v : zB => v.Sc || v.Port != p) (L := fun m k acc => qR n m xs p k acc) xs h (fun m k acc hk ha => by
  simp only [qR]
  rw [qd hk,cond_true,zY hk,Option.bind_some,zm (by omega : k ≤ 1099511627776)]
  have hg : ∀ v : zB,decide (acc.length + [v].length ≤ 268435456) = true := fun v => decide_eq_true (by simp; omega)
  simp only [Option.bind_some,hg,cond_true]
  cases hs : xs[k].Sc <;> cases hq : (xs[k].Port != p) <;> simp [hs,hq]) (fun m acc => by simp only [qR]; rw [qQ]; rfl) n 0 [] (by omega) (by omega) (by simp)
 unfold Qu
 rw [show qR n n xs p 0 [] = _ from this]
 simp [QN]
theorem YI (n : Nat) (bits : Int) (x : zA) (h : x.Ps.length ≤ 6) : ∀ (m k : Nat) (ys : List zB),k ≤ x.Ps.length → x.Ps.length < m + k → ys.length ≤ 134217728 → ys.length < n → ∃ zs : List zB,qe n m bits x k ys = some (.inl zs) ∧ qb n m bits x k ys = some (.inl zs) ∧ zs.length ≤ ys.length ∧ (∀ v ∈ zs,v ∈ ys) ∧ ∀ v ∈ zs,v.Sc = true ∨ ∀ j : Nat,k ≤ j → j < x.Ps.length → Ji bits j = false → v.Port ≠ j
 | 0,k,ys,h1,h2,h3,h4 => by omega
 | m + 1,k,ys,h1,h2,h3,h4 => by
  rw [qe,qb]
  by_cases hk : k < x.Ps.length
  ·rw [qd hk,cond_true,cond_true,zAJ n bits k (by omega),zDg n bits k (by omega),Option.bind_some,Option.bind_some,zm (by omega : k ≤ 1099511627776),Yd n ys _ h3 h4,zCs n ys _ h3 h4]
   cases hb : Ji bits k with
   | true =>
    simp only [Bool.not_true,cond_false]
    obtain ⟨zs,e1,e2,e3,e4,e5⟩ := YI n bits x h m (k + 1) ys (by omega) (by omega) h3 h4
    refine ⟨zs,e1,e2,e3,e4,fun v hv => (e5 v hv).imp id fun h5 j hj hj2 hj3 => ?_⟩
    by_cases hjk : j = k
    ·subst hjk; rw [hb] at hj3; cases hj3
    ·exact h5 j (by omega) hj2 hj3
   | false =>
    simp only [Bool.not_false,cond_true,Option.bind_some]
    have hle := List.length_filter_le (fun v : zB => v.Sc || v.Port != (k : Int)) ys
    obtain ⟨zs,e1,e2,e3,e4,e5⟩ := YI n bits x h m (k + 1) (ys.filter fun v => v.Sc || v.Port != (k : Int)) (by omega) (by omega) (by omega) (by omega)
    refine ⟨zs,e1,e2,by omega,fun v hv => (List.mem_filter.1 (e4 v hv)).1,fun v hv => ?_⟩
    have hf := (List.mem_filter.1 (e4 v hv)).2
    rcases e5 v hv with h5 | h5
    ·exact .inl h5
    ·cases hs : v.Sc with
     | true => exact .inl rfl
     | false =>
      refine .inr fun j hj hj2 hj3 => ?_
      by_cases hjk : j = k
      ·subst hjk; rw [hs] at hf; simpa using hf
      ·exact h5 j (by omega) hj2 hj3
  ·have he : k = x.Ps.length := by omega
   subst he
   rw [qQ]
   exact ⟨ys,rfl,rfl,Nat.le_refl _,fun v hv => hv,fun v hv => .inr fun j hj hj2 => by omega⟩
theorem zCl (n : Nat) (x : zA) (h : x.Ps.length ≤ 6) (hf : x.F.length ≤ 134217728) (hn : x.F.length < n) (hn6 : 6 < n) (hv0 : 0 ≤ x.Ve) (hv1 : x.Ve ≤ 1000000) : ∃ (zs : List zB) (v b : Int),ZD n x = some ⟨x.Id,x.Name,x.Ps,zs,x.V,x.Tk,x.Pa,x.Wo,x.Dr,v⟩ ∧ qs n x = some ⟨x.Id,x.Name,x.Ps,zs,x.V,x.Tk,x.Pa,x.Wo,x.Dr,v⟩ ∧
  zs.length ≤ x.F.length ∧ (∀ u ∈ zs,u ∈ x.F) ∧ 0 ≤ v ∧ v ≤ 1000000 ∧ ZT n x.Id x.Ps = some b ∧ ∀ u ∈ zs,u.Sc = true ∨ ∀ j : Nat,j < x.Ps.length → Ji b j = false → u.Port ≠ j := by
 obtain ⟨v,h1,h2,h3,h4⟩ := zCn n x.Ve hv0 hv1
 obtain ⟨e,b,hb⟩ := zBV n x.Id x.Ps (by omega) (by omega)
 obtain ⟨zs,k1,k2,k3,k4,k5⟩ := YI n b x h n 0 x.F (by omega) (by omega) hf hn
 refine ⟨zs,v,b,?_,?_,k3,k4,h3,h4,hb,fun u hu => (k5 u hu).imp id fun h5 j hj => h5 j (by omega) hj⟩
 ·unfold ZD
  rw [h1,Option.bind_some,hb,Option.bind_some,show qe n n b x 0 x.F = _ from k1]
  rfl
 ·unfold qs
  rw [h2,Option.bind_some,e,hb,Option.bind_some,show qb n n b x 0 x.F = _ from k2]
  rfl
theorem Jn (n : Nat) (x : zA) (h : x.sz ≤ 268435456) : YS n x = some x := by
 have hs : x.Name.size + x.Ps.length + x.F.length + x.V.sz = x.sz := rfl
 unfold YS qS
 rw [Qx n x.V (by omega),decide_eq_true (by simp; omega),decide_eq_true (by simp; omega)]
 rfl
theorem Ql (n : Nat) (x : zA) (h : x.sz ≤ 268435456) : ZY n x = some x := by
 have hs : x.Name.size + x.Ps.length + x.F.length + x.V.sz = x.sz := rfl
 unfold ZY Jb
 rw [zDf n x.V (by omega),decide_eq_true (by simp; omega),decide_eq_true (by simp; omega)]
 rfl
theorem zAs (n : Nat) (x : zA) (p : Int) (b : Bool) (hb : zn n x = some b) (hl : x.Ps.length ≤ 1048580) : JF n x p = some (b && (decide (0 ≤ p) && decide (p < x.Ps.length))) := by
 unfold JF
 rw [hb,Option.bind_some,zd,wrap64 (by omega) (by omega)]
 have : decide (p ≤ (x.Ps.length : Int) - 1) = decide (p < x.Ps.length) := by
  by_cases h : p < x.Ps.length
  ·rw [decide_eq_true h,decide_eq_true (by omega)]
  ·rw [decide_eq_false h,decide_eq_false (by omega)]
 rw [this]
 cases b <;> rfl
theorem Jk (n : Nat) (x : zA) (p : Int) (b : Bool) (hb : zQ n x = some b) (hl : x.Ps.length ≤ 1048580) : Q4 n x p = some (b && (decide (0 ≤ p) && decide (p < x.Ps.length))) := by
 unfold Q4
 rw [hb,Option.bind_some,YX,zd,wrap64 (by omega) (by omega)]
 have : decide (p ≤ (x.Ps.length : Int) - 1) = decide (p < x.Ps.length) := by
  by_cases h : p < x.Ps.length
  ·rw [decide_eq_true h,decide_eq_true (by omega)]
  ·rw [decide_eq_false h,decide_eq_false (by omega)]
 rw [this]
 cases b <;> rfl
theorem zGB (n : Nat) (x : zA) (hn : 1048577 < n) (hx : x.sz ≤ 1048576) (hb : zn n x = some true) (ps : List Pt) (hp : ps.length = x.Ps.length) (fs : List zB) (hf : fs.length ≤ x.F.length) (t : Int) : ∃ (zs : List zB) (v b : Int),ZD n ⟨x.Id,x.Name,ps,fs,x.V,t,x.Pa,x.Wo,x.Dr,x.Ve⟩ = some ⟨x.Id,x.Name,ps,zs,x.V,t,x.Pa,x.Wo,x.Dr,v⟩ ∧
  qs n ⟨x.Id,x.Name,ps,fs,x.V,t,x.Pa,x.Wo,x.Dr,x.Ve⟩ = some ⟨x.Id,x.Name,ps,zs,x.V,t,x.Pa,x.Wo,x.Dr,v⟩ ∧ zs.length ≤ fs.length ∧ (∀ u ∈ zs,u ∈ fs) ∧ 0 ≤ v ∧ v ≤ 1000000 ∧ ZT n x.Id ps = some b ∧ ∀ u ∈ zs,u.Sc = true ∨ ∀ j : Nat,j < ps.length → Ji b j = false → u.Port ≠ j := by
 have hs : x.Name.size + x.Ps.length + x.F.length + x.V.sz = x.sz := rfl
 obtain ⟨p1,p2,p3,p4,p5,p6,p7,p8,p9,p10,p11,p12,p13⟩ := qz n x (by omega) hb
 exact zCl n ⟨x.Id,x.Name,ps,fs,x.V,t,x.Pa,x.Wo,x.Dr,x.Ve⟩ (by simp only; omega) (by simp only; omega) (by simp only; omega) (by omega) p12.1 p12.2
theorem zAL (n : Nat) (xs : List zB) (h : xs.length ≤ 134217728) (ha : ∀ v ∈ xs,0 ≤ v.Age ∧ v.Age ≤ 1000) : ∀ (m k : Nat) (acc : List zB),k ≤ xs.length → xs.length < m + k → acc.length ≤ k → ∃ zs,qX n m xs k acc = some (.inl zs) ∧ q6 n m xs k acc = some (.inl zs) ∧ zs.length ≤ xs.length
 | 0,k,acc,h1,h2,h3 => by omega
 | m + 1,k,acc,h1,h2,h3 => by
  rw [qX,q6]
  by_cases hk : k < xs.length
  ·rw [qd hk,cond_true,cond_true,zY hk,Option.bind_some,Option.bind_some,zm (by omega : k ≤ 1099511627776)]
   have hg : ∀ v : zB,decide (acc.length + [v].length ≤ 268435456) = true := fun v => decide_eq_true (by simp; omega)
   simp only [hg,cond_true]
   have ih := fun acc' h3' => zAL n xs h ha m (k + 1) acc' (by omega) (by omega) h3'
   cases hs : xs[k].Sc with
   | true =>
    simp only [Bool.not_true,cond_true,cond_false]
    exact ih (acc ++ [xs[k]]) (by simp; omega)
   | false =>
    simp only [Bool.not_false,cond_true,cond_false]
    by_cases hl : xs[k].Age < 4
    ·rw [decide_eq_true hl,decide_eq_false (by omega : ¬ xs[k].Age ≥ 4)]
     exact ih _ (by simp; omega)
    ·rw [decide_eq_false hl,decide_eq_true (by omega : xs[k].Age ≥ 4)]
     exact ih _ (by omega)
  ·have he : k = xs.length := by omega
   subst he
   rw [qQ]
   exact ⟨acc,rfl,rfl,by omega⟩
theorem zDq (n : Nat) (xs : List zB) (h : xs.length ≤ 134217728) (hn : xs.length < n) (ha : ∀ v ∈ xs,0 ≤ v.Age ∧ v.Age ≤ 1000) : ∃ zs,QC n xs = some zs ∧ Yn n xs = some zs ∧ zs.length ≤ xs.length := by
 obtain ⟨zs,h1,h2,h3⟩ := zAL n xs h ha n 0 [] (by omega) (by omega) (by simp)
 refine ⟨zs,?_,?_,h3⟩
 ·unfold QC; rw [show qX n n xs 0 [] = _ from h1]; rfl
 ·unfold Yn; rw [show q6 n n xs 0 [] = _ from h2]; rfl
theorem zBp (n : Nat) (xs : List zB) (h : xs.length ≤ 1048580) (hok : qp n xs = some true) : xs.length ≤ 12 ∧ (∀ j (hj : j < xs.length),qq n xs[j] = some true) ∧ ∀ j (hj : j + 1 < xs.length),q3 n xs[j] xs[j + 1].Tag xs[j + 1].Mac = some true := by
 unfold qp at hok
 obtain ⟨o,ho,hok⟩ := bind_some hok
 rcases zEI (L := fun m k => qD n m xs k) (N := xs.length) (P := fun k => ∀ hk : k < xs.length,qq n xs[k] = some true ∧ ∀ j (e : k = j + 1),q3 n (xs[j]'(by omega)) xs[k].Tag xs[k].Mac = some true) (fun k => rfl) (fun m k o hk h => by
  simp only [qD] at h
  rw [qd hk,cond_true,zY hk,Option.bind_some,zm (by omega : k ≤ 1099511627776)] at h
  obtain ⟨b,hb⟩ := zAI n xs[k]
  rw [hb,Option.bind_some] at h
  cases b with
  | false => cases h; exact .inl rfl
  | true =>
   simp only [Bool.not_true,cond_false] at h
   cases k with
   | zero => exact .inr ⟨fun _ => ⟨hb,fun j e => by omega⟩,h⟩
   | succ k =>
    have hw2 : IntKind.wrap .i64 (((k + 1 : Nat) : Int) - 1) = (k : Int) := by rw [wrap64 (by omega) (by omega)]; omega
    have hpos : decide (((k + 1 : Nat) : Int) > 0) = true := decide_eq_true (by omega)
    rw [hpos,hw2,cond_true,zY (show k < xs.length by omega),Option.bind_some,Option.bind_some,Option.bind_some] at h
    obtain ⟨c,hc⟩ := zA3 n (xs[k]'(by omega)) xs[k + 1].Tag xs[k + 1].Mac
    rw [hc,Option.bind_some] at h
    cases c with
    | false => cases h; exact .inl rfl
    | true => exact .inr ⟨fun _ => ⟨hb,fun j e => (show k = j by omega) ▸ hc⟩,h⟩) (fun m o h => by
  simp only [qD] at h
  rw [qQ] at h; cases h; rfl) n 0 o (by omega) ho with rfl | ⟨rfl,hp⟩
 ·cases hok
 ·have h12 := of_decide_eq_true (Option.some.inj hok)
  exact ⟨by omega,fun j hj => (hp j (by omega) hj hj).1,fun j hj => (hp (j + 1) (by omega) hj hj).2 j rfl⟩
theorem zBs (n : Nat) (v : zB) (h : qq n v = some true) : (1 ≤ v.Tag ∧ v.Tag ≤ 99) ∧ (1 ≤ v.Mac ∧ v.Mac ≤ 9999) ∧ (0 ≤ v.Port ∧ v.Port ≤ 7) ∧ (0 ≤ v.Age ∧ v.Age ≤ 4) ∧ (v.Sc = true → v.Age = 0) := by
 unfold qq at h
 simp only [zd,Option.bind_some] at h
 obtain ⟨h1,h⟩ := zAQ h
 obtain ⟨h2,h⟩ := zAQ h
 obtain ⟨h3,h⟩ := zAQ h
 obtain ⟨h4,h⟩ := zAQ h
 simp only [Bool.and_eq_true,decide_eq_true_eq] at h1 h2 h3 h4
 refine ⟨h1,h2,h3,h4,fun hs => ?_⟩
 rw [hs] at h
 simpa using h
theorem zCT {α : Type} {L : Nat → Int → Option (α ⊕ Bool)} {N : Nat} {P : Nat → Prop} (hs : ∀ m (k : Nat),k < N → (P k ∧ L (m + 1) (k : Int) = L m ((k + 1 : Nat) : Int)) ∨ (¬ P k ∧ L (m + 1) (k : Int) = some (.inr false))) (he : ∀ m,∃ a,L (m + 1) (N : Int) = some (.inl a)) :
  ∀ (m k : Nat),k ≤ N → N < m + k → (∃ a,L m (k : Int) = some (.inl a) ∧ ∀ j,k ≤ j → j < N → P j) ∨ (L m (k : Int) = some (.inr false) ∧ ¬ ∀ j,k ≤ j → j < N → P j)
 | 0,k,h1,h2 => by omega
 | m + 1,k,h1,h2 => by
  by_cases hk : k < N
  ·rcases hs m k hk with ⟨hp,e⟩ | ⟨hp,e⟩
   ·rcases zCT hs he m (k + 1) (by omega) (by omega) with ⟨a,h3,h4⟩ | ⟨h3,h4⟩
    ·refine .inl ⟨a,e.trans h3,fun j hj hj2 => ?_⟩
     by_cases hjk : j = k
     ·subst hjk; exact hp
     ·exact h4 j (by omega) hj2
    ·exact .inr ⟨e.trans h3,fun h => h4 fun j hj hj2 => h j (by omega) hj2⟩
   ·exact .inr ⟨e,fun h => hp (h k (Nat.le_refl _) hk)⟩
  ·have : k = N := by omega
   subst this
   obtain ⟨a,ha⟩ := he m
   exact .inl ⟨a,ha,fun j hj hj2 => by omega⟩
theorem VtB.sz {v : zD} (h : VtB v) : v.sz ≤ 1006 := by
 have h1 := h.2.2.1
 have h2 := h.2.2.2.1
 show v.Rows.length + v.Pv.length ≤ 1006
 omega
theorem zCJ (n : Nat) (v : Vec) (h : qW n v = some true) : v.wf := by
 unfold qW at h
 simp only [zd,Option.bind_some] at h
 cases h1 : (decide (1 ≤ v.Root) && decide (v.Root ≤ 99)) with
 | false => rw [h1] at h; cases h
 | true =>
  cases h2 : (decide (0 ≤ v.Co) && decide (v.Co ≤ 100000)) with
  | false => rw [h1,h2] at h; cases h
  | true =>
   cases h3 : (decide (0 ≤ v.Hops) && decide (v.Hops ≤ 10)) with
   | false => rw [h1,h2,h3] at h; cases h
   | true =>
    cases h4 : (decide (1 ≤ v.Bridge) && decide (v.Bridge ≤ 99)) with
    | false => rw [h1,h2,h3,h4] at h; cases h
    | true =>
     rw [h1,h2,h3,h4] at h
     simp only [cond_true,Option.some.injEq,Bool.and_eq_true,decide_eq_true_eq] at h h1 h2 h3 h4
     exact ⟨zN (by omega) (by omega),zN (by omega) (by omega),zN (by omega) (by omega),zN (by omega) (by omega),zN (by omega) (by omega),trivial⟩
theorem zAz (n : Nat) (x : zA) (hn : x.Ps.length < n) (h1 : 1 ≤ x.Ps.length) (h2 : x.Ps.length ≤ 6) (h3 : 1 ≤ x.Id) (h4 : x.Id ≤ 99) (h5 : x.Name.size ≤ 10) (h6 : qp n x.F = some true) (h7 : qG n x.V (x.Ps.length : Int) = some true) (h8 : 0 ≤ x.Tk ∧ x.Tk ≤ 1000000) (h9 : 0 ≤ x.Pa ∧ x.Pa ≤ 1000000) (h10 : 0 ≤ x.Wo ∧ x.Wo ≤ 1000000) (h11 : 0 ≤ x.Dr ∧ x.Dr ≤ 1000000) (h12 : 0 ≤ x.Ve ∧ x.Ve ≤ 1000000) (h13 : ∀ j (hj : j < x.Ps.length),qB n x.Ps[j] = some true) : zn n x = some true := by
 have two : ∀ {a b c : Int},a ≤ b → b ≤ c → (decide (a ≤ b) && decide (b ≤ c)) = true := fun h h' => by rw [decide_eq_true h,decide_eq_true h']; rfl
 unfold zn
 rcases zCT (L := fun m k => zz n m x k) (N := x.Ps.length) (P := fun k => ∀ hk : k < x.Ps.length,qB n x.Ps[k] = some true) (fun m k hk => by
  simp only [zz]
  rw [qd hk,cond_true,zY hk,Option.bind_some,h13 k hk,Option.bind_some,zm (by omega : k ≤ 1099511627776)]
  exact .inl ⟨fun _ => h13 k hk,rfl⟩) (fun m => ⟨(),by simp only [zz]; rw [qQ]; rfl⟩) n 0 (by omega) (by omega) with ⟨a,e,_⟩ | ⟨_,p⟩
 ·rw [show zz n n x 0 = _ from e]
  simp only [Option.bind_some,YH,Yj,zd,two h3 h4,two h8.1 h8.2,two h9.1 h9.2,two h10.1 h10.2,two h11.1 h11.2,two h12.1 h12.2,two (show (1 : Int) ≤ (x.Ps.length : Int) by omega) (show (x.Ps.length : Int) ≤ 6 by omega),decide_eq_true (show (x.Name.size : Int) ≤ 10 by omega),h6,h7,cond_true]
 ·exact absurd (fun j _ _ hj => h13 j hj) p
theorem zCZ (n : Nat) (xs : List zB) (t a : Int) (h : xs.length ≤ 1048580) : ∀ (m k : Nat),k ≤ xs.length → xs.length < m + k → (ZG n m xs t a k = some (.inl ()) ∧ ∀ j,k ≤ j → ∀ hj : j < xs.length,¬ (xs[j].Tag = t ∧ xs[j].Mac = a)) ∨ ∃ j,k ≤ j ∧ ∃ hj : j < xs.length,ZG n m xs t a k = some (.inr (j : Int)) ∧ xs[j].Tag = t ∧ xs[j].Mac = a
 | 0,k,h1,h2 => by omega
 | m + 1,k,h1,h2 => by
  rw [ZG]
  by_cases hk : k < xs.length
  ·rw [qd hk,cond_true,zY hk,Option.bind_some,Option.bind_some,zm (by omega : k ≤ 1099511627776)]
   by_cases ht : xs[k].Tag = t
   ·rw [show (xs[k].Tag == t) = true from by simpa using ht,cond_true]
    by_cases ha : xs[k].Mac = a
    ·rw [show (xs[k].Mac == a) = true from by simpa using ha,cond_true]
     exact .inr ⟨k,Nat.le_refl _,hk,rfl,ht,ha⟩
    ·rw [show (xs[k].Mac == a) = false from by simpa using ha,cond_false]
     rcases zCZ n xs t a h m (k + 1) (by omega) (by omega) with ⟨e,p⟩ | ⟨j,hj,hj2,e,p⟩
     ·refine .inl ⟨e,fun j hj hj2 => ?_⟩
      by_cases hjk : j = k
      ·subst hjk; exact fun hc => ha hc.2
      ·exact p j (by omega) hj2
     ·exact .inr ⟨j,by omega,hj2,e,p⟩
   ·rw [show (xs[k].Tag == t) = false from by simpa using ht,cond_false]
    rcases zCZ n xs t a h m (k + 1) (by omega) (by omega) with ⟨e,p⟩ | ⟨j,hj,hj2,e,p⟩
    ·refine .inl ⟨e,fun j hj hj2 => ?_⟩
     by_cases hjk : j = k
     ·subst hjk; exact fun hc => ht hc.1
     ·exact p j (by omega) hj2
    ·exact .inr ⟨j,by omega,hj2,e,p⟩
  ·obtain rfl : k = xs.length := by omega
   rw [qQ]
   exact .inl ⟨rfl,fun j hj hj2 => by omega⟩
theorem zCq (n : Nat) (xs : List zB) (t a : Int) (h : xs.length ≤ 1048580) (hn : xs.length < n) : (YJ n xs t a = some (-1) ∧ ∀ j (hj : j < xs.length),¬ (xs[j].Tag = t ∧ xs[j].Mac = a)) ∨ ∃ j,∃ hj : j < xs.length,YJ n xs t a = some (j : Int) ∧ xs[j].Tag = t ∧ xs[j].Mac = a := by
 unfold YJ
 rcases zCZ n xs t a h n 0 (by omega) (by omega) with ⟨e,p⟩ | ⟨j,_,hj,e,p⟩
 ·rw [show ZG n n xs t a 0 = _ from e]
  exact .inl ⟨rfl,fun j hj => p j (by omega) hj⟩
 ·rw [show ZG n n xs t a 0 = _ from e]
  exact .inr ⟨j,hj,rfl,p⟩
def ZA (v : zB) (t a : Int) : Prop := v.Tag < t ∨ v.Tag = t ∧ v.Mac < a
instance (v : zB) (t a : Int) : Decidable (ZA v t a) := inferInstanceAs (Decidable (_ ∨ _))
def Yc (e : zB) : List zB → List zB
 | [] => [e]
 | v :: vs => if ZA v e.Tag e.Mac then v :: Yc e vs else if v.Tag = e.Tag ∧ v.Mac = e.Mac then e :: vs else e :: v :: vs
theorem zGY (e : zB) : ∀ xs : List zB,(Yc e xs).length ≤ xs.length + 1
 | [] => Nat.le_refl _
 | v :: vs => by
  unfold Yc
  have := zGY e vs
  split
  ·simp only [List.length_cons]; omega
  ·split <;> simp only [List.length_cons] <;> omega
theorem zAS (e : zB) : ∀ (xs : List zB) (v : zB),v ∈ Yc e xs → v = e ∨ v ∈ xs
 | [],v,h => by simp [Yc] at h; exact .inl h
 | u :: us,v,h => by
  unfold Yc at h
  split at h
  ·rcases List.mem_cons.1 h with rfl | h
   ·exact .inr (by simp)
   ·rcases zAS e us v h with h | h
    ·exact .inl h
    ·exact .inr (by simp [h])
  ·split at h
   ·rcases List.mem_cons.1 h with rfl | h
    ·exact .inl rfl
    ·exact .inr (by simp [h])
   ·rcases List.mem_cons.1 h with rfl | h
    ·exact .inl rfl
    ·exact .inr h
theorem JK (n : Nat) (v : zB) (t a : Int) : q3 n v t a = some (decide (ZA v t a)) := by
 unfold q3
 by_cases h : v.Tag = t
 ·rw [show (v.Tag != t) = false from by simpa using h,cond_false]
  congr 1
  rw [decide_eq_decide]
  unfold ZA
  constructor
  ·intro h2; exact .inr ⟨h,h2⟩
  ·rintro (h2 | h2)
   ·omega
   ·exact h2.2
 ·rw [show (v.Tag != t) = true from by simpa using h,cond_true]
  congr 1
  rw [decide_eq_decide]
  unfold ZA
  constructor
  ·intro h2; exact .inl h2
  ·rintro (h2 | h2)
   ·exact h2
   ·exact absurd h2.1 h
theorem zDO (n : Nat) (xs : List zB) (h : xs.length ≤ 1048580) (hok : qp n xs = some true) : ∀ (j i : Nat) (hij : i < j) (hj : j < xs.length),ZA (xs[i]'(by omega)) xs[j].Tag xs[j].Mac := by
 have hs := (zBp n xs h hok).2.2
 intro j
 induction j with
 | zero => intro i hij; omega
 | succ j ih =>
  intro i hij hj
  have h1 := hs j hj
  rw [JK] at h1
  have h1 := of_decide_eq_true (Option.some.inj h1)
  by_cases e : i = j
  ·subst e; exact h1
  ·have := ih i (by omega) (by omega)
   unfold ZA at this h1 ⊢
   omega
theorem Jo (n : Nat) (xs : List zB) (e : zB) (h : xs.length ≤ 1048580) : ∀ (m k : Nat) (acc : List zB),k ≤ xs.length → xs.length < m + k → acc.length ≤ k + 1 → (∀ j,k ≤ j → ∀ hj : j < xs.length,¬ (xs[j].Tag = e.Tag ∧ xs[j].Mac = e.Mac)) → qY n m xs e k true acc = some (.inl (true,acc ++ xs.drop k))
 | 0,k,acc,h1,h2,h3,hne => by omega
 | m + 1,k,acc,h1,h2,h3,hne => by
  rw [qY]
  by_cases hk : k < xs.length
  ·have hg : ∀ v : zB,decide (acc.length + [v].length ≤ 268435456) = true := fun v => decide_eq_true (by simp; omega)
   have ih := Jo n xs e h m (k + 1) (acc ++ [xs[k]]) (by omega) (by omega) (by simp; omega) (fun j hj => hne j (by omega))
   rw [qd hk,cond_true,Bool.not_true,cond_false]
   simp only [ZV,zY hk,Option.bind_some,hg,cond_true,zm (by omega : k ≤ 1099511627776)]
   have hd : acc ++ [xs[k]] ++ xs.drop (k + 1) = acc ++ xs.drop k := by rw [List.append_assoc,List.drop_eq_getElem_cons hk]; rfl
   rw [hd] at ih
   by_cases ht : xs[k].Tag = e.Tag
   ·have hm : xs[k].Mac ≠ e.Mac := fun hm => hne k (Nat.le_refl _) hk ⟨ht,hm⟩
    rw [show (xs[k].Tag != e.Tag) = false from by simpa using ht,cond_false,show (xs[k].Mac != e.Mac) = true from by simpa using hm,cond_true]
    exact ih
   ·rw [show (xs[k].Tag != e.Tag) = true from by simpa using ht,cond_true]
    exact ih
  ·obtain rfl : k = xs.length := by omega
   rw [qQ,cond_false,List.drop_length,List.append_nil]
theorem zBa (n : Nat) (xs : List zB) (e : zB) (h : xs.length ≤ 1048580) (hs : ∀ (j i : Nat) (hij : i < j) (hj : j < xs.length),ZA (xs[i]'(by omega)) xs[j].Tag xs[j].Mac) : ∀ (m k : Nat) (acc : List zB),k ≤ xs.length → xs.length < m + k → acc.length ≤ k → ∃ b zs,qY n m xs e k false acc = some (.inl (b,zs)) ∧ zs.length ≤ xs.length + 1 ∧ (bif !b then zs ++ [e] else zs) = acc ++ Yc e (xs.drop k)
 | 0,k,acc,h1,h2,h3 => by omega
 | m + 1,k,acc,h1,h2,h3 => by
  rw [qY]
  by_cases hk : k < xs.length
  ·have hg : ∀ (zs : List zB) (v : zB),zs.length ≤ k + 1 → decide (zs.length + [v].length ≤ 268435456) = true := fun zs v hz => decide_eq_true (by simp; omega)
   rw [qd hk,cond_true,Bool.not_false,cond_true,zY hk,Option.bind_some,JK,Option.bind_some]
   rw [List.drop_eq_getElem_cons hk]
   by_cases ha : ZA xs[k] e.Tag e.Mac
   ·obtain ⟨b,zs,e1,e2,e3⟩ := zBa n xs e h hs m (k + 1) (acc ++ [xs[k]]) (by omega) (by omega) (by simp; omega)
    refine ⟨b,zs,?_,e2,?_⟩
    ·rw [decide_eq_true ha]
     simp only [Bool.not_true,cond_false,ZV,zY hk,Option.bind_some,hg acc _ (by omega),cond_true,zm (by omega : k ≤ 1099511627776)]
     by_cases ht : xs[k].Tag = e.Tag
     ·have hm : xs[k].Mac ≠ e.Mac := fun hm => by unfold ZA at ha; omega
      rw [show (xs[k].Tag != e.Tag) = false from by simpa using ht,cond_false,show (xs[k].Mac != e.Mac) = true from by simpa using hm,cond_true]
      exact e1
     ·rw [show (xs[k].Tag != e.Tag) = true from by simpa using ht,cond_true]
      exact e1
    ·rw [e3,Yc,if_pos ha,List.append_assoc]; rfl
   ·rw [decide_eq_false ha,Yc,if_neg ha]
    have rest : ∀ j,k + 1 ≤ j → ∀ hj : j < xs.length,¬ (xs[j].Tag = e.Tag ∧ xs[j].Mac = e.Mac) := fun j hj hj2 hc => by
     have := hs j k (by omega) hj2
     rw [hc.1,hc.2] at this
     exact ha this
    simp only [Bool.not_false,cond_true,hg acc _ (by omega),ZV,zY hk,Option.bind_some,hg (acc ++ [e]) _ (by simp; omega),zm (by omega : k ≤ 1099511627776)]
    by_cases hkey : xs[k].Tag = e.Tag ∧ xs[k].Mac = e.Mac
    ·rw [show (xs[k].Tag != e.Tag) = false from by simpa using hkey.1,cond_false,show (xs[k].Mac != e.Mac) = false from by simpa using hkey.2,cond_false]
     refine ⟨true,_,Jo n xs e h m (k + 1) (acc ++ [e]) (by omega) (by omega) (by simp; omega) rest,by simp; omega,?_⟩
     rw [if_pos hkey,Bool.not_true,cond_false,List.append_assoc]; rfl
    ·have e1 := Jo n xs e h m (k + 1) (acc ++ [e] ++ [xs[k]]) (by omega) (by omega) (by simp; omega) rest
     refine ⟨true,acc ++ [e] ++ [xs[k]] ++ xs.drop (k + 1),?_,by simp; omega,?_⟩
     ·by_cases ht : xs[k].Tag = e.Tag
      ·have hm : xs[k].Mac ≠ e.Mac := fun hm => hkey ⟨ht,hm⟩
       rw [show (xs[k].Tag != e.Tag) = false from by simpa using ht,cond_false,show (xs[k].Mac != e.Mac) = true from by simpa using hm,cond_true]
       exact e1
      ·rw [show (xs[k].Tag != e.Tag) = true from by simpa using ht,cond_true]
       exact e1
     ·rw [if_neg hkey,Bool.not_true,cond_false]
      simp
  ·obtain rfl : k = xs.length := by omega
   rw [qQ]
   refine ⟨false,acc,rfl,by omega,?_⟩
   rw [List.drop_length]
   rfl
theorem zBt (n : Nat) (xs : List zB) (e : zB) (h : xs.length ≤ 1048580) (hn : xs.length < n) (hs : ∀ (j i : Nat) (hij : i < j) (hj : j < xs.length),ZA (xs[i]'(by omega)) xs[j].Tag xs[j].Mac) : Zg n xs e = some (Yc e xs) := by
 obtain ⟨b,zs,e1,e2,e3⟩ := zBa n xs e h hs n 0 [] (by omega) (by omega) (by simp)
 unfold Zg
 rw [show qY n n xs e 0 false [] = _ from e1]
 simp only [Option.bind_some,YT]
 rw [decide_eq_true (by simp; omega)]
 rw [List.drop_zero,List.nil_append] at e3
 rw [← e3]
 cases b <;> rfl
theorem zGZ (e : zB) : ∀ (xs : List zB) (k : Nat) (hk : k < xs.length) (hs : ∀ (j i : Nat) (hij : i < j) (hj : j < xs.length),ZA (xs[i]'(by omega)) xs[j].Tag xs[j].Mac),xs[k].Tag = e.Tag → xs[k].Mac = e.Mac → Yc e xs = xs.set k e
 | [],k,hk,hs,h1,h2 => by simp at hk
 | v :: vs,0,hk,hs,h1,h2 => by
  have h1 : v.Tag = e.Tag := h1
  have h2 : v.Mac = e.Mac := h2
  unfold Yc
  rw [if_neg (by unfold ZA; omega),if_pos ⟨h1,h2⟩]
  rfl
 | v :: vs,k + 1,hk,hs,h1,h2 => by
  have ha : ZA v e.Tag e.Mac := by
   have := hs (k + 1) 0 (by omega) hk
   rw [h1,h2] at this
   exact this
  unfold Yc
  rw [if_pos ha,zGZ e vs k (by simpa using hk) (fun j i hij hj => hs (j + 1) (i + 1) (by omega) (by simpa using hj)) h1 h2]
  rfl
def zCU (v : zB) : Prop := (1 ≤ v.Tag ∧ v.Tag ≤ 99) ∧ (1 ≤ v.Mac ∧ v.Mac ≤ 9999) ∧ (0 ≤ v.Port ∧ v.Port ≤ 7) ∧ (0 ≤ v.Age ∧ v.Age ≤ 4) ∧ (v.Sc = true → v.Age = 0)
def Z4 (xs : List zB) : Prop := xs.length ≤ 12 ∧ (∀ v ∈ xs,zCU v) ∧ xs.Pairwise fun a b => ZA a b.Tag b.Mac
theorem zCK (n : Nat) (v : zB) (h : zCU v) : qq n v = some true := by
 obtain ⟨h1,h2,h3,h4,h5⟩ := h
 have two : ∀ {a b c : Int},a ≤ b → b ≤ c → (decide (a ≤ b) && decide (b ≤ c)) = true := fun h h' => by rw [decide_eq_true h,decide_eq_true h']; rfl
 unfold qq
 simp only [zd,Option.bind_some,two h1.1 h1.2,two h2.1 h2.2,two h3.1 h3.2,two h4.1 h4.2,cond_true]
 cases hs : v.Sc with
 | false => rfl
 | true => rw [h5 hs]; rfl
theorem JD (n : Nat) (xs : List zB) (hn : xs.length < n) (h : Z4 xs) : qp n xs = some true := by
 obtain ⟨h1,h2,h3⟩ := h
 rw [List.pairwise_iff_getElem] at h3
 unfold qp
 rcases zCT (L := fun m k => qD n m xs k) (N := xs.length) (P := fun _ => True) (fun m k hk => by
  refine .inl ⟨trivial,?_⟩
  simp only [qD]
  rw [qd hk,cond_true,zY hk,Option.bind_some,zCK n _ (h2 _ (List.getElem_mem hk)),Option.bind_some,zm (by omega : k ≤ 1099511627776),Bool.not_true,cond_false]
  cases k with
  | zero => rfl
  | succ k =>
   have hw2 : IntKind.wrap .i64 (((k + 1 : Nat) : Int) - 1) = (k : Int) := by rw [wrap64 (by omega) (by omega)]; omega
   rw [decide_eq_true (show ((k + 1 : Nat) : Int) > 0 by omega),hw2,cond_true,zY (show k < xs.length by omega),Option.bind_some,Option.bind_some,Option.bind_some,JK,decide_eq_true (h3 k (k + 1) (by omega) hk (by omega))]
   rfl) (fun m => ⟨(),by simp only [qD]; rw [qQ]; rfl⟩) n 0 (by omega) (by omega) with ⟨a,e,_⟩ | ⟨_,p⟩
 ·rw [show qD n n xs 0 = _ from e,Option.bind_some]
  simp only [YP]
  rw [decide_eq_true (by omega)]
 ·exact absurd (fun _ _ _ => trivial) p
theorem Jc (n : Nat) (xs : List zB) (h : xs.length ≤ 1048580) (hok : qp n xs = some true) : Z4 xs := by
 obtain ⟨h1,h2,_⟩ := zBp n xs h hok
 refine ⟨h1,fun v hv => ?_,?_⟩
 ·obtain ⟨j,hj,rfl⟩ := List.getElem_of_mem hv
  exact zBs n _ (h2 j hj)
 ·rw [List.pairwise_iff_getElem]
  intro i j hi hj hij
  exact zDO n xs h hok j i hij hj
theorem Z4.sub {xs ys : List zB} (h : Z4 xs) (hs : ys.Sublist xs) : Z4 ys := ⟨Nat.le_trans hs.length_le h.1,fun v hv => h.2.1 v (hs.subset hv),h.2.2.sublist hs⟩
theorem Q6 (n : Nat) (bits : Int) (x : zA) (h : x.Ps.length ≤ 6) : ∀ (m k : Nat) (ys zs : List zB),k ≤ x.Ps.length → ys.length ≤ 134217728 → ys.length < n → qe n m bits x k ys = some (.inl zs) → zs.Sublist ys
 | 0,k,ys,zs,h1,h3,h4,e => by cases e
 | m + 1,k,ys,zs,h1,h3,h4,e => by
  rw [qe] at e
  by_cases hk : k < x.Ps.length
  ·rw [qd hk,cond_true,zAJ n bits k (by omega),Option.bind_some,zm (by omega : k ≤ 1099511627776),Yd n ys _ h3 h4] at e
   cases hb : Ji bits k with
   | true =>
    rw [hb] at e
    exact Q6 n bits x h m (k + 1) ys zs (by omega) h3 h4 e
   | false =>
    rw [hb] at e
    have hle := List.length_filter_le (fun v : zB => v.Sc || v.Port != (k : Int)) ys
    exact (Q6 n bits x h m (k + 1) (ys.filter fun v => v.Sc || v.Port != (k : Int)) zs (by omega) (by omega) (by omega) e).trans List.filter_sublist
  ·have he : k = x.Ps.length := by omega
   subst he
   rw [qQ] at e
   cases e
   exact List.Sublist.refl _
theorem zCt (n : Nat) (x y : zA) (h : x.Ps.length ≤ 6) (h3 : x.F.length ≤ 134217728) (h4 : x.F.length < n) (e : ZD n x = some y) : y.F.Sublist x.F := by
 unfold ZD at e
 obtain ⟨v,_,e⟩ := bind_some e
 obtain ⟨b,_,e⟩ := bind_some e
 obtain ⟨o,ho,e⟩ := bind_some e
 cases o with
 | inl zs =>
  have hz := Q6 n b x h n 0 x.F zs (by omega) h3 h4 ho
  cases e
  exact hz
 | inr r =>
  exfalso
  have key : ∀ (m k : Nat) (ys : List zB),k ≤ x.Ps.length → ys.length ≤ 134217728 → ys.length < n → ∀ r,qe n m b x k ys ≠ some (.inr r) := by
   intro m
   induction m with
   | zero => intro k ys h1 h3 h4 r e; cases e
   | succ m ih =>
    intro k ys h1 h3 h4 r e
    rw [qe] at e
    by_cases hk : k < x.Ps.length
    ·rw [qd hk,cond_true,zAJ n b k (by omega),Option.bind_some,zm (by omega : k ≤ 1099511627776),Yd n ys _ h3 h4] at e
     have hle := List.length_filter_le (fun v : zB => v.Sc || v.Port != (k : Int)) ys
     cases hb : Ji b k with
     | true => rw [hb] at e; exact ih (k + 1) ys (by omega) h3 h4 r e
     | false => rw [hb] at e; exact ih (k + 1) _ (by omega) (by omega) (by omega) r e
    ·have he : k = x.Ps.length := by omega
     subst he
     rw [qQ] at e
     cases e
  exact key n 0 x.F (by omega) h3 h4 r ho
def Jx (v : zB) : Option zB := if v.Sc then some v else if v.Age < 4 then some ⟨v.Tag,v.Mac,v.Port,v.Age + 1,false⟩ else none
theorem zAk (n : Nat) (xs : List zB) (h : xs.length ≤ 134217728) (ha : ∀ v ∈ xs,0 ≤ v.Age ∧ v.Age ≤ 1000) : ∀ (m k : Nat) (acc : List zB),k ≤ xs.length → xs.length < m + k → acc.length ≤ k → qX n m xs k acc = some (.inl (acc ++ (xs.drop k).filterMap Jx))
 | 0,k,acc,h1,h2,h3 => by omega
 | m + 1,k,acc,h1,h2,h3 => by
  rw [qX]
  by_cases hk : k < xs.length
  ·rw [qd hk,cond_true,zY hk,Option.bind_some,zm (by omega : k ≤ 1099511627776)]
   have hg : ∀ v : zB,decide (acc.length + [v].length ≤ 268435456) = true := fun v => decide_eq_true (by simp; omega)
   simp only [hg,cond_true]
   have ih := fun acc' h3' => zAk n xs h ha m (k + 1) acc' (by omega) (by omega) h3'
   rw [List.drop_eq_getElem_cons hk,List.filterMap_cons]
   cases hs : xs[k].Sc with
   | true =>
    have e : Jx xs[k] = some xs[k] := by unfold Jx; rw [if_pos hs]
    rw [cond_true,ih (acc ++ [xs[k]]) (by simp; omega),e]
    simp
   | false =>
    have hw : IntKind.wrap .i64 (xs[k].Age + 1) = xs[k].Age + 1 := by
     have := ha _ (List.getElem_mem hk)
     exact wrap64 (by omega) (by omega)
    by_cases hl : xs[k].Age < 4
    ·have e : Jx xs[k] = some ⟨xs[k].Tag,xs[k].Mac,xs[k].Port,xs[k].Age + 1,false⟩ := by unfold Jx; rw [if_neg (by simp [hs]),if_pos hl]
     rw [cond_false,decide_eq_true hl,cond_true,ih _ (by simp; omega),e,hw]
     simp
    ·have e : Jx xs[k] = none := by unfold Jx; rw [if_neg (by simp [hs]),if_neg hl]
     rw [cond_false,decide_eq_false hl,cond_false,ih _ (by omega),e]
  ·have he : k = xs.length := by omega
   subst he
   rw [qQ]
   simp
theorem zCv {v w : zB} (h : Jx v = some w) : w.Tag = v.Tag ∧ w.Mac = v.Mac ∧ (zCU v → zCU w) := by
 unfold Jx at h
 split at h
 ·cases h; exact ⟨rfl,rfl,id⟩
 ·split at h
  ·rename_i h1 h2
   cases h
   refine ⟨rfl,rfl,fun ⟨a,b,c,d,e⟩ => ⟨a,b,c,⟨by simp only; omega,by simp only; omega⟩,fun hs => by cases hs⟩⟩
  ·cases h
theorem Z4.age {xs : List zB} (h : Z4 xs) : Z4 (xs.filterMap Jx) := by
 obtain ⟨h1,h2,h3⟩ := h
 refine ⟨Nat.le_trans (List.length_filterMap_le _ _) h1,fun v hv => ?_,?_⟩
 ·obtain ⟨u,hu,e⟩ := List.mem_filterMap.1 hv
  exact (zCv e).2.2 (h2 u hu)
 ·rw [List.pairwise_filterMap]
  refine h3.imp fun {a b} hab a' ha b' hb => ?_
  obtain ⟨p1,p2,_⟩ := zCv ha
  obtain ⟨q1,q2,_⟩ := zCv hb
  unfold ZA at hab ⊢
  rw [p1,p2,q1,q2]
  exact hab
theorem Jm (n : Nat) (xs : List zB) (h : Z4 xs) (hn : 12 < n) : QC n xs = some (xs.filterMap Jx) := by
 have h1 := h.1
 unfold QC
 rw [show qX n n xs 0 [] = _ from zAk n xs (by omega) (fun v hv => by have := (h.2.1 v hv).2.2.2.1; omega) n 0 [] (by omega) (by omega) (by simp)]
 rfl
theorem zEd {v : zB} (h : zCU v) : v.wf := by
 obtain ⟨h1,h2,h3,h4,_⟩ := h
 exact ⟨zN (by omega) (by omega),zN (by omega) (by omega),zN (by omega) (by omega),zN (by omega) (by omega),trivial⟩
theorem zFg (n : Nat) (x : zA) (hn : 1048577 < n) (wx : x.wf) (hx : x.sz ≤ 1048576) (hb : zn n x = some true) (ps : List Pt) (hp : ps.length = x.Ps.length) (hps : ∀ j (hj : j < ps.length),qB n ps[j] = some true) (wps : QB Pt.wf ps) (fs : List zB) (hf : fs.length ≤ x.F.length) (hfs : Z4 fs) (t : Int) (t0 : 0 ≤ t) (t1 : t ≤ 1000000) :
  ∃ (zs : List zB) (v b : Int),ZD n ⟨x.Id,x.Name,ps,fs,x.V,t,x.Pa,x.Wo,x.Dr,x.Ve⟩ = some ⟨x.Id,x.Name,ps,zs,x.V,t,x.Pa,x.Wo,x.Dr,v⟩ ∧ qs n ⟨x.Id,x.Name,ps,fs,x.V,t,x.Pa,x.Wo,x.Dr,x.Ve⟩ = some ⟨x.Id,x.Name,ps,zs,x.V,t,x.Pa,x.Wo,x.Dr,v⟩ ∧
   zn n ⟨x.Id,x.Name,ps,zs,x.V,t,x.Pa,x.Wo,x.Dr,v⟩ = some true ∧ (⟨x.Id,x.Name,ps,zs,x.V,t,x.Pa,x.Wo,x.Dr,v⟩ : zA).wf ∧ (⟨x.Id,x.Name,ps,zs,x.V,t,x.Pa,x.Wo,x.Dr,v⟩ : zA).sz ≤ x.sz ∧ ZT n x.Id ps = some b ∧ (∀ u ∈ zs,u.Sc = true ∨ ∀ j : Nat,j < ps.length → Ji b j = false → u.Port ≠ j) ∧ zs.Sublist fs := by
 have hs : x.Name.size + x.Ps.length + x.F.length + x.V.sz = x.sz := rfl
 obtain ⟨p1,p2,p3,p4,p5,p6,p7,p8,p9,p10,p11,p12,p13⟩ := qz n x (by omega) hb
 obtain ⟨zs,v,b,e1,e2,e3,e4,e5,e6,e7,e8⟩ := zGB n x hn hx hb ps hp fs hf t
 have hsub := zCt n _ _ (by simp only; omega) (by simp only; omega) (by simp only; omega) e1
 have hz : Z4 zs := hfs.sub hsub
 have hz1 := hz.1
 obtain ⟨w1,w2,w3,w4,w5,w6,w7,w8,w9,w10,w11,w12⟩ := wx
 refine ⟨zs,v,b,e1,e2,?_,⟨w1,w2,wps,⟨Nat.le_trans hz1 (by decide),fun u hu => zEd (hz.2.1 u hu)⟩,w5,w6,zN (z := t) (by omega) (by omega),w8,w9,w10,zN (z := v) (by omega) (by omega),trivial⟩,?_,e7,e8,hsub⟩
 ·exact zAz n ⟨x.Id,x.Name,ps,zs,x.V,t,x.Pa,x.Wo,x.Dr,v⟩ (by simp only; omega) (by simp only; omega) (by simp only; omega) p3 p4 p5 (JD n zs (by omega) hz) (by simp only [hp]; exact p7) ⟨t0,t1⟩ p9 p10 p11 ⟨e5,e6⟩ hps
 ·show x.Name.size + ps.length + zs.length + x.V.sz ≤ x.sz
  omega
theorem zBK : (⟨0,0,0,0,0⟩ : Vec).wf := by
 have z0 : zr 0 := zN (by omega) (by omega)
 exact ⟨z0,z0,z0,z0,z0,trivial⟩
theorem zAC (n : Nat) (p : Pt) (h : qB n p = some true) : (1 ≤ p.Co ∧ p.Co ≤ 1000) ∧ (p.Has = true → p.Up = true ∧ qW n p.Hd = some true) ∧ (p.Has = false → p.Hd = ⟨0,0,0,0,0⟩) := by
 unfold qB at h
 rw [zd,Option.bind_some] at h
 cases hc : (decide (1 ≤ p.Co) && decide (p.Co ≤ 1000)) with
 | false => rw [hc] at h; cases h
 | true =>
  have h0 : ∀ {v : Vec},some ((v.Root == 0) && ((v.Co == 0) && ((v.Hops == 0) && ((v.Bridge == 0) && ((v.Port == 0) && true))))) = some true → v = ⟨0,0,0,0,0⟩ := fun {v} e => by
   have e := Option.some.inj e
   simp only [Bool.and_eq_true,beq_iff_eq] at e
   obtain ⟨a,b,c,d,f,_⟩ := e
   cases v
   simp_all
  simp only [Bool.and_eq_true,decide_eq_true_eq] at hc
  rw [decide_eq_true hc.1,decide_eq_true hc.2] at h
  simp only [Bool.and_self,Bool.not_true,cond_false] at h
  cases hu : p.Up with
  | false =>
   rw [hu] at h
   simp only [Bool.not_false,cond_true] at h
   cases hh : p.Has with
   | true => rw [hh] at h; cases h
   | false => rw [hh] at h; exact ⟨hc,fun e => (by cases e),fun _ => h0 h⟩
  | true =>
   rw [hu] at h
   simp only [Bool.not_true,cond_false] at h
   cases hh : p.Has with
   | false => rw [hh] at h; exact ⟨hc,fun e => (by cases e),fun _ => h0 h⟩
   | true =>
    rw [hh] at h
    simp only [Bool.not_true,cond_false] at h
    obtain ⟨b,hb,h⟩ := bind_some h
    cases h
    exact ⟨hc,fun _ => ⟨rfl,hb⟩,fun e => (by cases e)⟩
theorem zCF (n : Nat) (c : Int) (up : Bool) (h : 1 ≤ c ∧ c ≤ 1000) : qB n ⟨up,c,false,⟨0,0,0,0,0⟩⟩ = some true := by
 unfold qB
 rw [zd,Option.bind_some,decide_eq_true h.1,decide_eq_true h.2]
 cases up <;> rfl
theorem zCG (n : Nat) (c : Int) (v : Vec) (h : 1 ≤ c ∧ c ≤ 1000) (hv : qW n v = some true) : qB n ⟨true,c,true,v⟩ = some true := by
 unfold qB
 rw [zd,Option.bind_some,decide_eq_true h.1,decide_eq_true h.2]
 simp only [Bool.and_self,Bool.not_true,cond_false,hv,Option.bind_some]
theorem zHZ {α : Type} {P : α → Prop} {xs : List α} {k : Nat} {v : α} (h : ∀ j (hj : j < xs.length),P xs[j]) (hv : P v) : ∀ j (hj : j < (xs.set k v).length),P (xs.set k v)[j] := fun j hj => by
 rw [List.getElem_set]
 split
 ·exact hv
 ·exact h j (by simpa using hj)
theorem zEN (n : Nat) (x : zA) (k : Nat) (up : Bool) (wx : x.wf) (hx : x.sz ≤ 1048576) (hn : 1048577 < n) (hb : zn n x = some true) (hk : k < x.Ps.length) : ∃ y : zA,zCp n x k up = some y ∧ Qp n x k up = some y ∧ zn n y = some true ∧ y.wf ∧ y.sz ≤ x.sz ∧ y.Id = x.Id ∧ y.Ps = x.Ps.set k ⟨up,x.Ps[k].Co,false,⟨0,0,0,0,0⟩⟩ ∧ ∃ b,ZT n y.Id y.Ps = some b ∧ (∀ u ∈ y.F,u.Sc = true ∨ ∀ j : Nat,j < y.Ps.length → Ji b j = false → u.Port ≠ j) ∧ y.F.Sublist x.F := by
 have hs : x.Name.size + x.Ps.length + x.F.length + x.V.sz = x.sz := rfl
 obtain ⟨b,h1,h2⟩ := Z3 n x wx (by omega) (by omega)
 rw [hb] at h1
 obtain rfl := Option.some.inj h1
 obtain ⟨p1,p2,p3,p4,p5,p6,p7,p8,p9,p10,p11,p12,p13⟩ := qz n x (by omega) hb
 have hc := (zAC n _ (p13 k hk)).1
 have wk := (wx.2.2.1.2 _ (List.getElem_mem hk))
 obtain ⟨zs,v,bb,e1,e2,e3,e4,e5,e6,e7,e8⟩ := zFg n x hn wx hx hb (x.Ps.set k ⟨up,x.Ps[k].Co,false,⟨0,0,0,0,0⟩⟩) (by simp) (zHZ (P := fun q => qB n q = some true) p13 (zCF n _ up hc)) (zBC wx.2.2.1 ⟨wk.1,zBK.1,zBK.2.1,zBK.2.2.1,zBK.2.2.2.1,zBK.2.2.2.2.1,trivial⟩) x.F (Nat.le_refl _) (Jc n x.F (by omega) p6) x.Tk p8.1 p8.2
 have there : (true && (decide ((0 : Int) ≤ k) && decide ((k : Int) < x.Ps.length))) = true := by
  rw [decide_eq_true (by omega),decide_eq_true (by omega)]; rfl
 refine ⟨_,?_,?_,e3,e4,e5,rfl,rfl,bb,e6,e7,e8⟩
 ·unfold zCp
  rw [Jn n x (by omega),Option.bind_some,zAs n x k true hb (by omega),Option.bind_some,there]
  simp only [Bool.not_true,cond_false,zY hk,Option.bind_some,Int.toNat_natCast,e1]
 ·unfold Qp
  rw [Ql n x (by omega),Option.bind_some,Jk n x k true h2 (by omega),Option.bind_some,there]
  simp only [cond_true,zY hk,Option.bind_some,Int.toNat_natCast,e2]
theorem zEM (n : Nat) (x : zA) (k : Nat) (u : Vec) (wx : x.wf) (hx : x.sz ≤ 1048576) (hn : 1048577 < n) (hb : zn n x = some true) (hk : k < x.Ps.length) (hu : x.Ps[k].Up = true) (hv : qW n u = some true) : ∃ y : zA,zCo n x k u = some y ∧ Zt n x k u = some y ∧ zn n y = some true ∧ y.wf ∧ y.sz ≤ x.sz ∧ y.Id = x.Id ∧ y.Ps = x.Ps.set k ⟨true,x.Ps[k].Co,true,u⟩ ∧ ∃ b,ZT n y.Id y.Ps = some b ∧ (∀ u ∈ y.F,u.Sc = true ∨ ∀ j : Nat,j < y.Ps.length → Ji b j = false → u.Port ≠ j) ∧ y.F.Sublist x.F := by
 have hs : x.Name.size + x.Ps.length + x.F.length + x.V.sz = x.sz := rfl
 obtain ⟨b,h1,h2⟩ := Z3 n x wx (by omega) (by omega)
 rw [hb] at h1
 obtain rfl := Option.some.inj h1
 obtain ⟨p1,p2,p3,p4,p5,p6,p7,p8,p9,p10,p11,p12,p13⟩ := qz n x (by omega) hb
 have hc := (zAC n _ (p13 k hk)).1
 have wk := (wx.2.2.1.2 _ (List.getElem_mem hk))
 have wu := zCJ n u hv
 obtain ⟨zs,v,bb,e1,e2,e3,e4,e5,e6,e7,e8⟩ := zFg n x hn wx hx hb (x.Ps.set k ⟨true,x.Ps[k].Co,true,u⟩) (by simp) (zHZ (P := fun q => qB n q = some true) p13 (zCG n _ u hc hv)) (zBC wx.2.2.1 ⟨wk.1,wu.1,wu.2.1,wu.2.2.1,wu.2.2.2.1,wu.2.2.2.2.1,trivial⟩) x.F (Nat.le_refl _) (Jc n x.F (by omega) p6) x.Tk p8.1 p8.2
 have there : (true && (decide ((0 : Int) ≤ k) && decide ((k : Int) < x.Ps.length))) = true := by
  rw [decide_eq_true (by omega),decide_eq_true (by omega)]; rfl
 have hi : idx (x.Ps.set k ⟨x.Ps[k].Up,x.Ps[k].Co,true,x.Ps[k].Hd⟩) (k : Int) = some ⟨x.Ps[k].Up,x.Ps[k].Co,true,x.Ps[k].Hd⟩ := by
  rw [zY (by simpa using hk)]; simp
 have hi' : idx (x.Ps.set k ⟨true,x.Ps[k].Co,true,x.Ps[k].Hd⟩) (k : Int) = some ⟨true,x.Ps[k].Co,true,x.Ps[k].Hd⟩ := by
  rw [zY (by simpa using hk)]; simp
 refine ⟨_,?_,?_,e3,e4,e5,rfl,rfl,bb,e6,e7,e8⟩
 ·unfold zCo
  rw [Jn n x (by omega),Option.bind_some,zAs n x k true hb (by omega),Option.bind_some,there]
  simp only [Bool.not_true,cond_false,zY hk,Option.bind_some,Int.toNat_natCast,hu,hv,hi,hi',List.set_set,e1]
 ·unfold Zt
  rw [Ql n x (by omega),Option.bind_some,Jk n x k true h2 (by omega),Option.bind_some,there]
  simp only [Zi,Y7,cond_true,zY hk,Option.bind_some,Int.toNat_natCast,hu,hv,hi,hi',List.set_set,e2]
theorem zF9 (n : Nat) (x : zA) (wx : x.wf) (hx : x.sz ≤ 1048576) (hn : 1048577 < n) (hb : zn n x = some true) : ∃ y : zA,zE1 n x = some y ∧ J3 n x = some y ∧ zn n y = some true ∧ y.wf ∧ y.sz ≤ x.sz ∧ y.Id = x.Id ∧ y.Ps = x.Ps ∧ (x.Tk < 1000000 → y.Tk = x.Tk + 1) ∧ ∃ b,ZT n y.Id y.Ps = some b ∧ (∀ u ∈ y.F,u.Sc = true ∨ ∀ j : Nat,j < y.Ps.length → Ji b j = false → u.Port ≠ j) ∧ y.F.Sublist (x.F.filterMap Jx) := by
 have hs : x.Name.size + x.Ps.length + x.F.length + x.V.sz = x.sz := rfl
 obtain ⟨b,h1,h2⟩ := Z3 n x wx (by omega) (by omega)
 rw [hb] at h1
 obtain rfl := Option.some.inj h1
 obtain ⟨p1,p2,p3,p4,p5,p6,p7,p8,p9,p10,p11,p12,p13⟩ := qz n x (by omega) hb
 have hf := Jc n x.F (by omega) p6
 obtain ⟨fs,a1,a2,a3⟩ := zDq n x.F (by omega) (by omega) (fun v hv => by have := (hf.2.1 v hv).2.2.2.1; omega)
 rw [Jm n x.F hf (by omega)] at a1
 obtain rfl := Option.some.inj a1
 obtain ⟨t,t1,t2,t3,t4⟩ := zCn n x.Tk p8.1 p8.2
 obtain ⟨zs,v,bb,e1,e2,e3,e4,e5,e6,e7,e8⟩ := zFg n x hn wx hx hb x.Ps rfl p13 wx.2.2.1 (x.F.filterMap Jx) a3 hf.age t t3 t4
 refine ⟨_,?_,?_,e3,e4,e5,rfl,rfl,fun hlt => ?_,bb,e6,e7,e8⟩
 ·unfold zE1
  simp only [Jn n x (show x.sz ≤ 268435456 by omega),hb,Jm n x.F hf (show 12 < n by omega),t1,Option.bind_some,Bool.not_true,cond_false,e1]
 ·unfold J3
  simp only [Ql n x (show x.sz ≤ 268435456 by omega),h2,a2,t2,Option.bind_some,cond_true,e2]
 ·unfold Y1 at t1
  rw [decide_eq_false (by omega),cond_false,wrap64 (by omega) (by omega)] at t1
  exact (Option.some.inj t1).symm
theorem zAi {L : Nat → Int → Option (Unit ⊕ Bool)} (l : Nat) (h : ∀ (m k : Nat),k < l → L (m + 1) k = L m ((k + 1 : Nat) : Int)) (h0 : ∀ m,L (m + 1) (l : Int) = some (.inl ())) : ∀ (m k : Nat),k ≤ l → l < m + k → L m k = some (.inl ())
 | 0,k,h1,h2 => by omega
 | m + 1,k,h1,h2 => by
  by_cases hk : k < l
  ·rw [h m k hk]
   exact zAi l h h0 m (k + 1) hk (by omega)
  ·obtain rfl : k = l := by omega
   exact h0 m
theorem zCB (n : Nat) (x : zA) (hx : x.sz ≤ 1048576) (hn : 1048577 < n) : Qi n x x = some true := by
 have hs : x.Name.size + x.Ps.length + x.F.length + x.V.sz = x.sz := rfl
 have hs2 : x.V.Rows.length + x.V.Pv.length = x.V.sz := rfl
 have r1 := zAi (L := fun m k => qy n m x.V.Rows x.V.Rows k) x.V.Rows.length (fun m k hk => by
  simp only [qy]
  rw [qd hk,cond_true,zY hk,zm (by omega : k ≤ 1099511627776)]
  simp only [Option.bind_some,beq_self_eq_true,Bool.and_self,Bool.not_true,cond_false]) (fun m => by simp only [qy]; rw [qQ]; rfl) n 0 (by omega) (by omega)
 have r2 := zAi (L := fun m k => ZC n m x.V.Pv x.V.Pv k) x.V.Pv.length (fun m k hk => by
  simp only [ZC]
  rw [qd hk,cond_true,zY hk,zm (by omega : k ≤ 1099511627776)]
  simp only [Option.bind_some,bne_self_eq_false,beq_self_eq_true,Bool.and_self,Bool.not_true,cond_false]) (fun m => by simp only [ZC]; rw [qQ]; rfl) n 0 (by omega) (by omega)
 have r3 := zAi (L := fun m k => qk n m x x k) x.F.length (fun m k hk => by
  simp only [qk]
  rw [qd hk,cond_true,zY hk,zm (by omega : k ≤ 1099511627776)]
  simp only [Option.bind_some,beq_self_eq_true,Bool.and_self,Bool.not_true,cond_false]) (fun m => by simp only [qk]; rw [qQ]; rfl) n 0 (by omega) (by omega)
 have r4 := zAi (L := fun m k => ql n m x x k) x.Ps.length (fun m k hk => by
  simp only [ql]
  rw [qd hk,cond_true,zY hk,zm (by omega : k ≤ 1099511627776)]
  simp only [Option.bind_some,beq_self_eq_true,Bool.and_self,Bool.not_true,cond_false]) (fun m => by simp only [ql]; rw [qQ]; rfl) n 0 (by omega) (by omega)
 have q1 : Q5 n x.V.Rows x.V.Rows = some true := by
  unfold Q5
  rw [bne_self_eq_false,cond_false,show qy n n x.V.Rows x.V.Rows 0 = _ from r1]; rfl
 have q2 : YN n x.V.Pv x.V.Pv = some true := by
  unfold YN
  rw [bne_self_eq_false,cond_false,show ZC n n x.V.Pv x.V.Pv 0 = _ from r2]; rfl
 unfold Qi Z8 Z9
 rw [q1,q2,show ql n n x x 0 = _ from r4]
 simp only [bne_self_eq_false,beq_self_eq_true,Bool.not_true,cond_false,Option.bind_some,cond_true]
 rw [show qk n n x x 0 = _ from r3]
 rfl
theorem zG2 (n : Nat) (x0 : List Int) (w0 : QB zCx x0) (h : x0.length ≤ 1048576) (i : Nat) (hi : i ≤ 1000) : ∃ r : Nat,ZZ n x0 i = some (r : Int) ∧ r ≤ 255 := by
 unfold ZZ
 by_cases hl : i < x0.length
 ·have hb := w0.2 _ (List.getElem_mem hl)
  have hb : 0 ≤ x0[i] ∧ x0[i] ≤ 255 := by
   unfold zCx Lit.wf at hb
   rw [Bool.and_eq_true,decide_eq_true_iff,decide_eq_true_iff,show IntKind.min .u8 = 0 from rfl,show IntKind.max .u8 = 255 from rfl] at hb
   exact hb
  rw [qd hl,cond_true,zY hl,Option.bind_some,wrap64 (by omega) (by omega)]
  obtain ⟨r,hr⟩ := Int.eq_ofNat_of_zero_le hb.1
  exact ⟨r,by rw [hr],by omega⟩
 ·rw [decide_eq_false (by omega),cond_false,show decide ((256 : Int) ≠ 0) = true from by decide,cond_true,wrap64 (z := (i : Int) * 31) (by omega) (by omega),wrap64 (z := (x0.length : Int) * 7) (by omega) (by omega),wrap64 (by omega) (by omega),Int.tmod_eq_emod_of_nonneg (by omega)]
  exact ⟨(i * 31 + x0.length * 7) % 256,by congr 1,by omega⟩
theorem zFW (n : Nat) (v : Vec) (h1 : 1 ≤ v.Root ∧ v.Root ≤ 99) (h2 : 0 ≤ v.Co ∧ v.Co ≤ 100000) (h3 : 0 ≤ v.Hops ∧ v.Hops ≤ 10) (h4 : 1 ≤ v.Bridge ∧ v.Bridge ≤ 99) (h5 : 0 ≤ v.Port ∧ v.Port ≤ 7) : qW n v = some true := by
 unfold qW
 simp only [zd,Option.bind_some,decide_eq_true h1.1,decide_eq_true h1.2,decide_eq_true h2.1,decide_eq_true h2.2,decide_eq_true h3.1,decide_eq_true h3.2,decide_eq_true h4.1,decide_eq_true h4.2,decide_eq_true h5.1,decide_eq_true h5.2,Bool.and_self,cond_true]
theorem zBY (n : Nat) (c : Src) (h : c.ok) : ∃ v c',QE n c = some (v,c') ∧ qW n v = some true ∧ c'.ok := by
 obtain ⟨v1,c1,e1,a1,b1,g1⟩ := zG n c 5 h
 obtain ⟨v2,c2,e2,a2,g2⟩ := zS n c1 [0,1,2,5,10,100] g1 (by decide)
 obtain ⟨v3,c3,e3,a3,g3⟩ := zS n c2 [0,1,2,9,10] g2 (by decide)
 obtain ⟨v4,c4,e4,a4,b4,g4⟩ := zG n c3 5 g3
 obtain ⟨v5,c5,e5,a5,b5,g5⟩ := zG n c4 4 g4
 have b1 := b1 (by decide)
 have b4 := b4 (by decide)
 have b5 := b5 (by decide)
 simp only [List.mem_cons,List.not_mem_nil,or_false] at a2 a3
 refine ⟨⟨1 + v1,v2,v3,1 + v4,v5⟩,c5,?_,zFW n _ (by simp only; omega) (by simp only; omega) (by simp only; omega) (by simp only; omega) (by simp only; omega),g5⟩
 unfold QE
 simp only [e1,e2,e3,e4,e5,Option.bind_some]
 rw [wrap64 (z := 1 + v1) (by omega) (by omega),wrap64 (z := 1 + v4) (by omega) (by omega)]
theorem Yz (n : Nat) (p : Nat) (hp : p ≤ 1000) : ∀ (m k : Nat) (ys : List Pt) (c : Src),k ≤ p → p < m + k → ys.length = k → c.ok → (∀ q ∈ ys,qB n q = some true ∧ q.wf) → ∃ (ys' : List Pt) (c' : Src),qP n m p k ys c.b c.i c.h = some (.inl (ys',c'.b,c'.i,c'.h)) ∧ ys'.length = p ∧ c'.ok ∧ ∀ q ∈ ys',qB n q = some true ∧ q.wf
 | 0,k,ys,c,h1,h2,_,_,_ => by omega
 | m + 1,k,ys,c,h1,h2,h3,h4,h5 => by
  rw [qP]
  by_cases hk : k < p
  ·obtain ⟨v1,c1,e1,g1⟩ := zAF n c 4 h4
   obtain ⟨v2,c2,e2,a2,g2⟩ := zS n c1 [1,1,2,5,10] g1 (by decide)
   obtain ⟨v3,c3,e3,g3⟩ := zAF n c2 4 g2
   obtain ⟨v4,c4,e4,o4,g4⟩ := zBY n c3 g3
   have hc : 1 ≤ v2 ∧ v2 ≤ 1000 := by
    simp only [List.mem_cons,List.not_mem_nil,or_false] at a2
    omega
   have w2 : zr v2 := zN (by omega) (by omega)
   have w4 := zCJ n v4 o4
   have e1' : Zo n (⟨c.b,c.i,c.h⟩ : Src) 4 = some (v1,c1) := e1
   have hlen : ∀ u : Pt,decide (ys.length + [u].length ≤ 268435456) = true := fun u => decide_eq_true (by rw [List.length_singleton]; omega)
   have ih := fun (u : Pt) c' hc (hu : qB n u = some true ∧ u.wf) => Yz n p hp m (k + 1) (ys ++ [u]) c' (by omega) (by omega) (by simp [h3]) hc (fun q hq => by
    rcases List.mem_append.1 hq with hq | hq
    ·exact h5 q hq
    ·rw [List.mem_singleton] at hq; subst hq; exact hu)
   have ok0 : ∀ up : Bool,qB n ⟨up,v2,false,⟨0,0,0,0,0⟩⟩ = some true ∧ (⟨up,v2,false,⟨0,0,0,0,0⟩⟩ : Pt).wf := fun up => ⟨zCF n v2 up hc,w2,zBK⟩
   simp only [qd hk,cond_true,e1',e2,e3,e4,Option.bind_some,Zl,hlen,zm (by omega : k ≤ 1099511627776)]
   cases v1 with
   | false =>
    simp only [Bool.not_false,cond_true]
    cases v3 with
    | false => simp only [Bool.not_false,cond_true]; exact ih _ c4 g4 ⟨zCG n v2 v4 hc o4,w2,w4⟩
    | true => simp only [Bool.not_true,cond_false]; exact ih _ c3 g3 (ok0 true)
   | true => simp only [Bool.not_true,cond_false]; exact ih _ c2 g2 (ok0 false)
  ·have he : k = p := by omega
   rw [he,qQ]
   exact ⟨ys,c,rfl,by omega,h4,h5⟩
theorem zHR (e : zB) : ∀ (xs : List zB),(xs.Pairwise fun a b => ZA a b.Tag b.Mac) → (Yc e xs).Pairwise fun a b => ZA a b.Tag b.Mac
 | [],_ => by unfold Yc; exact List.pairwise_singleton _ _
 | v :: vs,h => by
  rw [List.pairwise_cons] at h
  unfold Yc
  by_cases h1 : ZA v e.Tag e.Mac
  ·rw [if_pos h1,List.pairwise_cons]
   refine ⟨fun w hw => ?_,zHR e vs h.2⟩
   rcases zAS e vs w hw with rfl | hw
   ·exact h1
   ·exact h.1 w hw
  ·rw [if_neg h1]
   by_cases h2 : v.Tag = e.Tag ∧ v.Mac = e.Mac
   ·rw [if_pos h2,List.pairwise_cons]
    refine ⟨fun w hw => ?_,h.2⟩
    have := h.1 w hw
    unfold ZA at this ⊢
    rw [← h2.1,← h2.2]; exact this
   ·rw [if_neg h2,List.pairwise_cons,List.pairwise_cons]
    have hev : ZA e v.Tag v.Mac := by unfold ZA at h1 ⊢; omega
    refine ⟨fun w hw => ?_,h⟩
    rcases List.mem_cons.1 hw with rfl | hw
    ·exact hev
    ·have := h.1 w hw
     unfold ZA at this hev ⊢
     omega
theorem Z4.put {xs : List zB} (hx : Z4 xs) (e : zB) (he : zCU e) (h : xs.length < 12 ∨ ∃ k,∃ hk : k < xs.length,xs[k].Tag = e.Tag ∧ xs[k].Mac = e.Mac) : Z4 (Yc e xs) := by
 refine ⟨?_,fun v hv => ?_,zHR e xs hx.2.2⟩
 ·rcases h with h | ⟨k,hk,k1,k2⟩
  ·have := zGY e xs; omega
  ·rw [zGZ e xs k hk (fun j i hij hj => List.pairwise_iff_getElem.1 hx.2.2 i j (by omega) hj hij) k1 k2,List.length_set]
   exact hx.1
 ·rcases zAS e xs v hv with rfl | hv
  ·exact he
  ·exact hx.2.1 v hv
theorem Z4.srt {xs : List zB} (hx : Z4 xs) : ∀ (j i : Nat) (hij : i < j) (hj : j < xs.length),ZA (xs[i]'(by omega)) xs[j].Tag xs[j].Mac := fun j i hij hj => List.pairwise_iff_getElem.1 hx.2.2 i j (by omega) hj hij
theorem zBr (n : Nat) (v : zB) : ∃ b,qq n v = some b ∧ (b = true ↔ zCU v) := by
 obtain ⟨b,hb⟩ := zAI n v
 refine ⟨b,hb,fun h => ?_,fun h => ?_⟩
 ·rw [h] at hb
  have := zBs n v hb
  exact this
 ·have := zCK n v h
  rw [hb] at this
  exact Option.some.inj this
theorem zBq (n : Nat) (xs : List zB) (t a p : Int) (hx : Z4 xs) (hn : 1048577 < n) : ∃ ys,YZ n xs t a p = some ys ∧ Z4 ys ∧ (zCU ⟨t,a,p,0,false⟩ → ys = Yc ⟨t,a,p,0,false⟩ xs ∨ (ys = xs ∧ ((∃ k,∃ hk : k < xs.length,xs[k].Tag = t ∧ xs[k].Mac = a) ∨ xs.length = 12))) := by
 have h12 := hx.1
 have hcs : qS n xs = some xs := by unfold qS; rw [decide_eq_true (by simp; omega)]; rfl
 have hb := JD n xs (by omega) hx
 obtain ⟨c,hc,hce⟩ := zBr n ⟨t,a,p,0,false⟩
 have hp := zBt n xs ⟨t,a,p,0,false⟩ (by omega) (by omega) hx.srt
 unfold YZ
 rcases zCq n xs t a (by omega) (by omega) with ⟨e,hne⟩ | ⟨k,hk,e,k1,k2⟩
 ·rw [e,Option.bind_some,hb,Option.bind_some,hc,Option.bind_some]
  cases c with
  | false => exact ⟨xs,by simp only [Bool.not_true,Bool.not_false,cond_true,cond_false,hcs,Option.bind_some],hx,fun he => absurd (hce.2 he) (by simp)⟩
  | true =>
   simp only [Bool.not_true,cond_false,decide_eq_false (show ¬ (-1 : Int) ≥ 0 by omega),decide_eq_true (show (-1 : Int) < 0 by omega),cond_true,hp,Option.bind_some,hcs]
   by_cases hf : 12 ≤ xs.length
   ·rw [decide_eq_true (show (xs.length : Int) ≥ 12 by omega)]
    exact ⟨xs,rfl,hx,fun _ => .inr ⟨rfl,.inr (by omega)⟩⟩
   ·rw [decide_eq_false (show ¬ (xs.length : Int) ≥ 12 by omega)]
    exact ⟨_,rfl,hx.put _ (hce.1 rfl) (.inl (by omega)),fun _ => .inl rfl⟩
 ·rw [e,Option.bind_some,hb,Option.bind_some,hc,Option.bind_some]
  cases c with
  | false => exact ⟨xs,by simp only [Bool.not_true,Bool.not_false,cond_true,cond_false,hcs,Option.bind_some],hx,fun he => absurd (hce.2 he) (by simp)⟩
  | true =>
   simp only [Bool.not_true,cond_false,decide_eq_true (show ((k : Nat) : Int) ≥ 0 by omega),decide_eq_false (show ¬ ((k : Nat) : Int) < 0 by omega),cond_true,hp,Option.bind_some,hcs,zY hk]
   cases xs[k].Sc with
   | true => exact ⟨xs,rfl,hx,fun _ => .inr ⟨rfl,.inl ⟨k,hk,k1,k2⟩⟩⟩
   | false => exact ⟨_,rfl,hx.put _ (hce.1 rfl) (.inr ⟨k,hk,k1,k2⟩),fun _ => .inl rfl⟩
theorem zAn (n : Nat) (xs : List zB) (t a p : Int) (hx : Z4 xs) (hn : 1048577 < n) : ∃ ys b,QI n xs t a p = some (ys,b) ∧ Z4 ys ∧ ∀ v ∈ ys,v ∈ xs ∨ v = ⟨t,a,p,0,true⟩ := by
 have h12 := hx.1
 have hcs : qS n xs = some xs := by unfold qS; rw [decide_eq_true (by simp; omega)]; rfl
 have hb := JD n xs (by omega) hx
 obtain ⟨c,hc,hce⟩ := zBr n ⟨t,a,p,0,true⟩
 have hp := zBt n xs ⟨t,a,p,0,true⟩ (by omega) (by omega) hx.srt
 unfold QI
 rw [hb,Option.bind_some,hc,Option.bind_some]
 cases c with
 | false => exact ⟨xs,false,by simp only [Bool.not_true,Bool.not_false,cond_true,cond_false,hcs,Option.bind_some],hx,fun v hv => .inl hv⟩
 | true =>
  simp only [Bool.not_true,cond_false]
  rcases zCq n xs t a (by omega) (by omega) with ⟨e,hne⟩ | ⟨k,hk,e,k1,k2⟩
  ·rw [e]
   simp only [Option.bind_some,decide_eq_true (show (-1 : Int) < 0 by omega),cond_true,hp,hcs]
   by_cases hf : 12 ≤ xs.length
   ·rw [decide_eq_true (show (xs.length : Int) ≥ 12 by omega)]
    exact ⟨xs,_,rfl,hx,fun v hv => .inl hv⟩
   ·rw [decide_eq_false (show ¬ (xs.length : Int) ≥ 12 by omega)]
    exact ⟨_,_,rfl,hx.put _ (hce.1 rfl) (.inl (by omega)),fun v hv => (zAS _ xs v hv).symm⟩
  ·rw [e]
   simp only [Option.bind_some,decide_eq_false (show ¬ ((k : Nat) : Int) < 0 by omega),cond_false,hp]
   exact ⟨_,_,rfl,hx.put _ (hce.1 rfl) (.inr ⟨k,hk,k1,k2⟩),fun v hv => (zAS _ xs v hv).symm⟩
theorem zJP : ∀ z < 5,∀ p < 4,((QH 1048580 ((1 + z : Nat) : Int) ((1 + p : Nat) : Int)).any fun y => decide (y.Id = ((1 + z : Nat) : Int)) && (y.F.isEmpty && (decide (y.Pa = 0) && (decide (y.Wo = 0) && decide (y.Dr = 0))))) = true := by decide +kernel
theorem zAU (n : Nat) (c : Src) (h : c.ok) : ∃ v c',QX n c = some (v,c') ∧ (11 ≤ v ∧ v ≤ 14) ∧ c'.ok := by
 obtain ⟨v,c',e,hv,g⟩ := zS n c [11,12,13,14] h (by decide)
 simp only [List.mem_cons,List.not_mem_nil,or_false] at hv
 unfold QX
 rw [e]
 exact ⟨v,c',rfl,by omega,g⟩
def PIn (q : Nat) (fs : List zB) : Prop := ∀ v ∈ fs,v.Sc = false → v.Port < q
def DrB (x : zA) : Prop := zn 1048580 x = some true ∧ x.wf ∧ x.sz ≤ 40 ∧ x.Dr = 0 ∧ Z4 x.F ∧ VtG 1048580 x.Ps.length x.V ∧ (x.Ps.length ≤ 4 ∧ x.Tk ≤ 4 ∧ PIn x.Ps.length x.F)
theorem zAr (p : Nat) (r : Int × Src) (hr : r.1 = p) (hp : p ≤ 3) : ∀ (m k : Nat) (c : Src) (fs : List zB),k < m → k ≤ 1000 → c.ok → Z4 fs ∧ PIn (1 + p) fs → ∃ (c' : Src) (zs : List zB),c'.ok ∧ (Z4 zs ∧ PIn (1 + p) zs) ∧ ZR 1048580 m r k c.b c.i c.h fs = some (.inl (c'.b,c'.i,c'.h,zs))
 | 0,k,c,fs,h,_,_,_ => by omega
 | m + 1,k,c,fs,h,h',hc,hf => by
  rw [ZR]
  by_cases hk : (k : Int) > 0
  ·obtain ⟨v1,c1,e1,a1,b1,g1⟩ := zG 1048580 c 3 hc
   obtain ⟨v2,c2,e2,a2,g2⟩ := zAU 1048580 c1 g1
   obtain ⟨v3,c3,e3,a3,b3,g3⟩ := zG 1048580 c2 (IntKind.wrap .i64 (1 + r.1)) g2
   have b1 := b1 (by decide)
   have w1 : IntKind.wrap .i64 (1 + v1) = 1 + v1 := wrap64 (by omega) (by omega)
   have w3 : IntKind.wrap .i64 (1 + r.1) = ((1 + p : Nat) : Int) := by rw [hr,wrap64 (by omega) (by omega)]; omega
   have b3 := b3 (by rw [w3]; omega)
   rw [w3] at b3
   obtain ⟨ys,e4,f4,q4⟩ := zBq 1048580 fs (IntKind.wrap .i64 (1 + v1)) v2 v3 hf.1 (by omega)
   have q4 := q4 ⟨by simp only [w1]; omega,by simp only; omega,by simp only; omega,by simp only; omega,fun h => by cases h⟩
   have p4 : PIn (1 + p) ys := fun v hv hs => by
    rcases q4 with q4 | ⟨q4,_⟩
    ·rw [q4] at hv
     rcases zAS _ fs v hv with rfl | hv
     ·exact b3
     ·exact hf.2 v hv hs
    ·rw [q4] at hv
     exact hf.2 v hv hs
   rw [decide_eq_true hk,cond_true,show zJ 1048580 ⟨c.b,c.i,c.h⟩ 3 = _ from e1,Option.bind_some,e2,Option.bind_some,e3,Option.bind_some,e4,Option.bind_some,show IntKind.wrap .i64 ((k : Int) - 1) = ((k - 1 : Nat) : Int) from by rw [wrap64 (by omega) (by omega)]; omega]
   exact zAr p r hr hp m (k - 1) c3 ys (by omega) (by omega) g3 ⟨f4,p4⟩
  ·rw [decide_eq_false hk,cond_false]
   exact ⟨c,fs,hc,hf,rfl⟩
theorem zBX (c : Src) (hc : c.ok) : ∃ x c',Qs 1048580 c = some (x,c') ∧ DrB x ∧ c'.ok := by
 obtain ⟨v1,c1,e1,a1,b1,g1⟩ := zG 1048580 c 4 hc
 obtain ⟨v2,c2,e2,a2,b2,g2⟩ := zG 1048580 c1 5 g1
 have b1 := b1 (by decide)
 have b2 := b2 (by decide)
 obtain ⟨v1,rfl⟩ := Int.eq_ofNat_of_zero_le a1
 obtain ⟨v2,rfl⟩ := Int.eq_ofNat_of_zero_le a2
 have t1 : IntKind.wrap .i64 (1 + (v1 : Int)) = ((1 + v1 : Nat) : Int) := by rw [wrap64 (by omega) (by omega)]; omega
 have t2 : IntKind.wrap .i64 (1 + (v2 : Int)) = ((1 + v2 : Nat) : Int) := by rw [wrap64 (by omega) (by omega)]; omega
 obtain ⟨y,ey,hy⟩ : ∃ y,QH 1048580 ((1 + v2 : Nat) : Int) ((1 + v1 : Nat) : Int) = some y ∧ y.Id = ((1 + v2 : Nat) : Int) ∧ y.F = [] ∧ y.Pa = 0 ∧ y.Wo = 0 ∧ y.Dr = 0 := by
  have := zJP v2 (by omega) v1 (by omega)
  cases hb : QH 1048580 ((1 + v2 : Nat) : Int) ((1 + v1 : Nat) : Int) with
  | none => rw [hb] at this; cases this
  | some y =>
   rw [hb] at this
   simp only [Option.any_some,Bool.and_eq_true,decide_eq_true_eq,List.isEmpty_iff] at this
   exact ⟨y,rfl,this.1,this.2.1,this.2.2.1,this.2.2.2.1,this.2.2.2.2⟩
 obtain ⟨y1,y2,y3,y4,y5⟩ := hy
 obtain ⟨nm,c3,e3,hnm,g3⟩ : ∃ nm c',QW 1048580 c2 [(⟨#[]⟩ : ByteArray),(⟨#[121,97,114,100]⟩ : ByteArray),(⟨#[98,49]⟩ : ByteArray)] = some (nm,c') ∧ nm.size ≤ 4 ∧ c'.ok := by
  obtain ⟨v,c',e,a,b,g⟩ := zG 1048580 c2 (([(⟨#[]⟩ : ByteArray),(⟨#[121,97,114,100]⟩ : ByteArray),(⟨#[98,49]⟩ : ByteArray)].length : Nat) : Int) g2
  have b := b (by decide)
  obtain ⟨v,rfl⟩ := Int.eq_ofNat_of_zero_le a
  have b : v < 3 := by simp only [List.length_cons,List.length_nil] at b; omega
  unfold QW
  rw [e]
  have : v = 0 ∨ v = 1 ∨ v = 2 := by omega
  rcases this with rfl | rfl | rfl
  ·exact ⟨_,c',rfl,by decide,g⟩
  ·exact ⟨_,c',rfl,by decide,g⟩
  ·exact ⟨_,c',rfl,by decide,g⟩
 obtain ⟨ps,c4,e4,l4,g4,w4⟩ := Yz 1048580 (1 + v1) (by omega) 1048580 0 [] c3 (by omega) (by omega) rfl g3 (fun q hq => by cases hq)
 obtain ⟨vt,c5,e5,g5,h5⟩ := zBu (1 + v1) (by omega) (by omega) c4 g4
 obtain ⟨v6,c6,e6,a6,b6,g6⟩ := zG 1048580 c5 6 h5
 have b6 := b6 (by decide)
 obtain ⟨v6,rfl⟩ := Int.eq_ofNat_of_zero_le a6
 obtain ⟨c7,fs,g7,f7,e7⟩ := zAr v1 ((v1 : Int),c1) rfl (by omega) 1048580 v6 c6 [] (by omega) (by omega) g6 ⟨⟨Nat.zero_le _,(fun v hv => by cases hv),List.Pairwise.nil⟩,fun v hv => by cases hv⟩
 have j2 : ∀ (fs : List zB) (c : Src),Z4 fs ∧ PIn (1 + v1) fs → c.ok → ∃ x c',Zm 1048580 y (nm,c3) (ps,c4) (vt,c5) c.b c.i c.h fs = some (x,c') ∧ DrB x ∧ c'.ok := fun fs c hf hc => by
  obtain ⟨u1,d1,k1,m1,n1,o1⟩ := zG 1048580 c 5 hc
  have n1 := n1 (by decide)
  obtain ⟨u2,d2,k2,m2,o2⟩ := zS 1048580 d1 [0,1,5,1000000] o1 (by decide)
  simp only [List.mem_cons,List.not_mem_nil,or_false] at m2
  have hvs := g5.sz
  obtain ⟨hf,hf2⟩ := hf
  have h12 := hf.1
  refine ⟨⟨y.Id,nm,ps,fs,vt,u1,y.Pa,y.Wo,y.Dr,u2⟩,d2,?_,⟨?_,?_,?_,y5,hf,by simp only; rw [l4]; exact g5,by simp only; omega,by simp only; omega,by simp only; rw [l4]; exact hf2⟩,o2⟩
  ·unfold Zm
   rw [show zJ 1048580 ⟨c.b,c.i,c.h⟩ 5 = _ from k1,Option.bind_some,k2]
   rfl
  ·refine zAz 1048580 _ (by simp only; omega) (by simp only; omega) (by simp only; omega) (by simp only; omega) (by simp only; omega) (by simp only; omega) (JD 1048580 fs (by omega) hf) ?_ ⟨m1,by simp only; omega⟩ (by simp only; omega) (by simp only; omega) (by simp only; omega) ?_ (fun j hj => (w4 _ (List.getElem_mem hj)).1)
   ·simp only; rw [l4]; exact g5.2.2.2.1
   ·simp only; omega
  ·have z0 : zr 0 := zN (by omega) (by omega)
   have hm : maxLen = 9223372036854775807 := by decide
   refine ⟨by simp only; rw [y1]; exact zN (by omega) (by omega),by simp only; omega,⟨by simp only; omega,fun q hq => (w4 q hq).2⟩,⟨by simp only; omega,fun v hv => zEd (hf.2.1 v hv)⟩,g5.1.1,g5.1.2.1,zN (z := u1) (by omega) (by omega),by simp only; rw [y3]; exact z0,by simp only; rw [y4]; exact z0,by simp only; rw [y5]; exact z0,zN (z := u2) (by omega) (by omega),trivial⟩
  ·show nm.size + ps.length + fs.length + vt.sz ≤ 40
   omega
 have j1 : ∃ x c',QJ 1048580 ((v1 : Int),c1) y (nm,c3) (ps,c4) (vt,c5) c7.b c7.i c7.h fs = some (x,c') ∧ DrB x ∧ c'.ok := by
  unfold QJ
  obtain ⟨u1,d1,k1,o1⟩ := zAF 1048580 c7 3 g7
  rw [show Zo 1048580 ⟨c7.b,c7.i,c7.h⟩ 3 = _ from k1,Option.bind_some]
  cases u1 with
  | false => exact j2 fs d1 f7 o1
  | true =>
   obtain ⟨u2,d2,k2,m2,o2⟩ := zAU 1048580 d1 o1
   obtain ⟨u3,d3,k3,m3,n3,o3⟩ := zG 1048580 d2 (IntKind.wrap .i64 (1 + (v1 : Int))) o2
   obtain ⟨ys,b,k4,f4,q4⟩ := zAn 1048580 fs 1 u2 u3 f7.1 (by omega)
   simp only [cond_true,k2,k3,k4,Option.bind_some]
   exact j2 ys d3 ⟨f4,fun v hv hs => by
    rcases q4 v hv with h | rfl
    ·exact f7.2 v h hs
    ·cases hs⟩ o3
 obtain ⟨x,c8,e8,h8⟩ := j1
 refine ⟨x,c8,?_,h8⟩
 have e4' : Zv 1048580 c3 ((1 + v1 : Nat) : Int) = some (ps,c4) := by
  unfold Zv
  rw [show qP 1048580 1048580 ((1 + v1 : Nat) : Int) 0 ([] : List Pt) c3.b c3.i c3.h = _ from e4]
  rfl
 unfold Qs
 simp only [e1,Option.bind_some,e2,t1,t2,ey,e3,e4',e5,e6,y2]
 rw [show ZR 1048580 1048580 ((v1 : Int),c1) v6 c6.b c6.i c6.h [] = _ from e7]
 exact e8
def lx2 (a b : Int × Int) : Prop := a.1 < b.1 ∨ (a.1 = b.1 ∧ a.2 < b.2)
instance (a b : Int × Int) : Decidable (lx2 a b) := inferInstanceAs (Decidable (_ ∨ _))
def le4 (a b : Int × Int × Int × Int) : Prop := a.1 < b.1 ∨ (a.1 = b.1 ∧ (a.2.1 < b.2.1 ∨ (a.2.1 = b.2.1 ∧ (a.2.2.1 < b.2.2.1 ∨ (a.2.2.1 = b.2.2.1 ∧ a.2.2.2 ≤ b.2.2.2)))))
theorem le4.trans {a b c : Int × Int × Int × Int} (h1 : le4 a b) (h2 : le4 b c) : le4 a c := by
 unfold le4 at *
 omega
theorem le4.rfl' (a : Int × Int × Int × Int) : le4 a a := by
 unfold le4
 omega
theorem zHF (n : Nat) (v : Vec) (h : qW n v = some true) : (1 ≤ v.Root ∧ v.Root ≤ 99) ∧ (0 ≤ v.Co ∧ v.Co ≤ 100000) ∧ (0 ≤ v.Hops ∧ v.Hops ≤ 10) ∧ (1 ≤ v.Bridge ∧ v.Bridge ≤ 99) ∧ (0 ≤ v.Port ∧ v.Port ≤ 7) := by
 unfold qW at h
 simp only [zd,Option.bind_some] at h
 cases h1 : (decide (1 ≤ v.Root) && decide (v.Root ≤ 99)) with
 | false => rw [h1] at h; cases h
 | true =>
  cases h2 : (decide (0 ≤ v.Co) && decide (v.Co ≤ 100000)) with
  | false => rw [h1,h2] at h; cases h
  | true =>
   cases h3 : (decide (0 ≤ v.Hops) && decide (v.Hops ≤ 10)) with
   | false => rw [h1,h2,h3] at h; cases h
   | true =>
    cases h4 : (decide (1 ≤ v.Bridge) && decide (v.Bridge ≤ 99)) with
    | false => rw [h1,h2,h3,h4] at h; cases h
    | true =>
     rw [h1,h2,h3,h4] at h
     simp only [cond_true,Option.some.injEq,Bool.and_eq_true,decide_eq_true_eq] at h h1 h2 h3 h4
     exact ⟨h1,h2,h3,h4,h⟩
def zGp (v : Vec) : Prop := (-1 ≤ v.Root ∧ v.Root ≤ 100) ∧ (-1 ≤ v.Co ∧ v.Co ≤ 100001) ∧ (-1 ≤ v.Hops ∧ v.Hops ≤ 11) ∧ (-1 ≤ v.Bridge ∧ v.Bridge ≤ 99) ∧ (-1 ≤ v.Port ∧ v.Port ≤ 8)
theorem zDu (n : Nat) (c : Src) (h : c.ok) : ∃ v c',QY n c = some (v,c') ∧ zGp v ∧ c'.ok := by
 obtain ⟨v1,c1,e1,w1,h1⟩ := zBY n c h
 obtain ⟨p1,p2,p3,p4,p5⟩ := zHF n v1 w1
 obtain ⟨v2,c2,e2,a2,b2,h2⟩ := zG n c1 12 h1
 obtain ⟨v3,c3,e3,a3,h3⟩ := zS n c2 [0,99,100] h2 (by decide)
 obtain ⟨v4,c4,e4,a4,h4⟩ := zS n c2 [(-1),99999,100000,100001] h2 (by decide)
 obtain ⟨v5,c5,e5,a5,h5⟩ := zS n c2 [(-1),11] h2 (by decide)
 obtain ⟨v6,c6,e6,a6,h6⟩ := zS n c2 [(-1),7,8] h2 (by decide)
 simp only [List.mem_cons,List.not_mem_nil,or_false] at a3 a4 a5 a6
 unfold QY
 simp only [e1,e2,e3,e4,e5,e6,Option.bind_some]
 cases (v2 == 0) with
 | true => exact ⟨_,_,rfl,⟨by simp only; omega,by simp only; omega,by simp only; omega,by simp only; omega,by simp only; omega⟩,h3⟩
 | false =>
 cases (v2 == 1) with
 | true => exact ⟨_,_,rfl,⟨by simp only; omega,by simp only; omega,by simp only; omega,by simp only; omega,by simp only; omega⟩,h4⟩
 | false =>
 cases (v2 == 2) with
 | true => exact ⟨_,_,rfl,⟨by simp only; omega,by simp only; omega,by simp only; omega,by simp only; omega,by simp only; omega⟩,h5⟩
 | false =>
 cases (v2 == 3) with
 | true => exact ⟨_,_,rfl,⟨by simp only; omega,by simp only; omega,by simp only; omega,by simp only; omega,by simp only; omega⟩,h6⟩
 | false => exact ⟨_,_,rfl,⟨by omega,by omega,by omega,by omega,by omega⟩,h2⟩
theorem zGp.wf {v : Vec} (h : zGp v) (u : Bool) (c : Int) (b : Bool) (hc : -1000000 ≤ c) (hc' : c ≤ 1000000) : (⟨u,c,b,v⟩ : Pt).wf := by
 obtain ⟨p1,p2,p3,p4,p5⟩ := h
 exact ⟨zN hc hc',zN (z := v.Root) (by omega) (by omega),zN (z := v.Co) (by omega) (by omega),zN (z := v.Hops) (by omega) (by omega),zN (z := v.Bridge) (by omega) (by omega),zN (z := v.Port) (by omega) (by omega),trivial⟩
theorem zE2 (n : Nat) (c : Src) (h : c.ok) (hn : 1000 < n) : ∃ ys c',Yy n c = some (ys,c') ∧ (1 ≤ ys.length ∧ ys.length ≤ 4) ∧ (∀ q ∈ ys,q.wf) ∧ c'.ok := by
 obtain ⟨v1,c1,e1,a1,b1,g1⟩ := zG n c 4 h
 have b1 := b1 (by omega)
 obtain ⟨v1,rfl⟩ := Int.eq_ofNat_of_zero_le a1
 obtain ⟨ys,c2,e2,l2,g2,w2⟩ := Yz n (1 + v1) (by omega) n 0 [] c1 (by omega) (by omega) rfl g1 (fun q hq => by cases hq)
 have e2 : Zv n c1 (IntKind.wrap .i64 (1 + (v1 : Int))) = some (ys,c2) := by
  rw [show IntKind.wrap .i64 (1 + (v1 : Int)) = ((1 + v1 : Nat) : Int) from by rw [wrap64 (by omega) (by omega)]; omega]
  unfold Zv
  rw [show qP n n ((1 + v1 : Nat) : Int) 0 ([] : List Pt) c1.b c1.i c1.h = _ from e2]
  rfl
 obtain ⟨v3,c3,e3,a3,b3,g3⟩ := zG n c2 12 g2
 obtain ⟨v4,c4,e4,s4,g4⟩ := zDu n c3 g3
 obtain ⟨v5,c5,e5,a5,g5⟩ := zS n c3 [0,1000,1001] g3 (by decide)
 simp only [List.mem_cons,List.not_mem_nil,or_false] at a5
 have h0 : 0 < ys.length := by omega
 have hu : idx ys 0 = some ys[0] := zY h0
 have wu := (w2 _ (List.getElem_mem h0)).2
 have pu := (zAC n _ (w2 _ (List.getElem_mem h0)).1).1
 obtain ⟨q1,q2⟩ := wu
 unfold Yy
 simp only [e1,Option.bind_some,e2,e3,e4,e5,hu]
 have hset : ∀ u : Pt,u.wf → ∀ q ∈ ys.set ((0 : Int)).toNat u,q.wf := fun u hu q hq => by
  rcases List.mem_or_eq_of_mem_set hq with h | h
  ·exact (w2 q h).2
  ·rw [h]; exact hu
 have hs : ∀ u : Pt,1 ≤ (ys.set ((0 : Int)).toNat u).length ∧ (ys.set ((0 : Int)).toNat u).length ≤ 4 := fun u => by rw [List.length_set]; omega
 cases (v3 == 0) with
 | true => exact ⟨_,_,rfl,hs _,hset _ (s4.wf _ _ _ (by omega) (by omega)),g4⟩
 | false =>
 cases (v3 == 1) with
 | true => exact ⟨_,_,rfl,hs _,hset _ ⟨zN (z := v5) (by omega) (by omega),q2⟩,g5⟩
 | false =>
 cases (v3 == 2) with
 | true => exact ⟨_,_,rfl,hs _,hset _ ⟨q1,q2⟩,g3⟩
 | false => exact ⟨_,_,rfl,by omega,fun q hq => (w2 q hq).2,g3⟩
theorem zA4 (n : Nat) (hn : 1048577 < n) : ∀ (m k : Nat) (fs : List zB) (c : Src),k < m → k ≤ 1000 → c.ok → Z4 fs → ∃ (zs : List zB) (c' : Src),c'.ok ∧ Z4 zs ∧ q7 n m k fs c.b c.i c.h = some (.inl (zs,c'.b,c'.i,c'.h))
 | 0,k,fs,c,h,_,_,_ => by omega
 | m + 1,k,fs,c,h,h',hc,hf => by
  rw [q7]
  by_cases hk : (k : Int) > 0
  ·obtain ⟨v1,c1,e1,a1,b1,g1⟩ := zG n c 6 hc
   rw [decide_eq_true hk,cond_true,show zJ n ⟨c.b,c.i,c.h⟩ 6 = _ from e1,Option.bind_some,show IntKind.wrap .i64 ((k : Int) - 1) = ((k - 1 : Nat) : Int) from by rw [wrap64 (by omega) (by omega)]; omega]
   have ih := fun zs c' hc' hf' => zA4 n hn m (k - 1) zs c' (by omega) (by omega) hc' hf'
   obtain ⟨v2,c2,e2,a2,b2,g2⟩ := zG n c1 3 g1
   obtain ⟨v3,c3,e3,a3,g3⟩ := zAU n c2 g2
   cases (v1 == 0) with
   | true =>
    obtain ⟨v4,c4,e4,a4,b4,g4⟩ := zG n c3 4 g3
    obtain ⟨ys,b,e5,f5,_⟩ := zAn n fs (IntKind.wrap .i64 (1 + v2)) v3 v4 hf hn
    simp only [cond_true,e2,e3,e4,e5,Option.bind_some]
    exact ih ys c4 g4 f5
   | false =>
   cases (v1 == 1) with
   | true =>
    simp only [cond_true,cond_false,Jm n fs hf (by omega),Option.bind_some]
    exact ih _ c1 g1 hf.age
   | false =>
    obtain ⟨v4,c4,e4,a4,b4,g4⟩ := zG n c3 3 g3
    obtain ⟨v5,c5,e5,a5,b5,g5⟩ := zG n c4 4 g4
    obtain ⟨ys,e6,f6,_⟩ := zBq n fs (IntKind.wrap .i64 (1 + v2)) (IntKind.wrap .i64 (v3 + v4)) v5 hf hn
    simp only [cond_false,e2,e3,e4,e5,e6,Option.bind_some]
    exact ih ys c5 g5 f6
  ·rw [decide_eq_false hk,cond_false]
   exact ⟨fs,c,hc,hf,rfl⟩
theorem zE8 (n : Nat) (hn : 1048577 < n) (c : Src) (hc : c.ok) : ∃ (zs : List zB) (c' : Src),Y2 n c = some (zs,c') ∧ Z4 zs ∧ c'.ok := by
 obtain ⟨v,c1,e1,a1,b1,g1⟩ := zG n c 10 hc
 have b1 := b1 (by decide)
 obtain ⟨v,rfl⟩ := Int.eq_ofNat_of_zero_le a1
 obtain ⟨zs,c2,g2,f2,e2⟩ := zA4 n hn n v [] c1 (by omega) (by omega) g1 ⟨Nat.zero_le _,(fun v hv => by cases hv),List.Pairwise.nil⟩
 refine ⟨zs,c2,?_,f2,g2⟩
 unfold Y2
 rw [e1,Option.bind_some,show q7 n n v ([] : List zB) c1.b c1.i c1.h = _ from e2]
 rfl
def zAj (v : zB) : Prop := (0 ≤ v.Tag ∧ v.Tag ≤ 100) ∧ (0 ≤ v.Mac ∧ v.Mac ≤ 9999) ∧ (-1 ≤ v.Port ∧ v.Port ≤ 8) ∧ (-1 ≤ v.Age ∧ v.Age ≤ 5)
theorem zAj.of {v : zB} (h : zCU v) : zAj v := by
 obtain ⟨a,b,c,d,_⟩ := h
 exact ⟨by omega,by omega,by omega,by omega⟩
theorem zAj.wf {v : zB} (h : zAj v) : v.wf := by
 obtain ⟨a,b,c,d⟩ := h
 exact ⟨zN (z := v.Tag) (by omega) (by omega),zN (z := v.Mac) (by omega) (by omega),zN (z := v.Port) (by omega) (by omega),zN (z := v.Age) (by omega) (by omega),trivial⟩
theorem zBZ (n : Nat) : ∀ (m k : Nat) (fs : List zB) (c : Src),14 < m + k → k ≤ 13 → fs.length ≤ 12 + k → c.ok → (∀ v ∈ fs,zAj v) → ∃ (zs : List zB) (c' : Src),c'.ok ∧ zs.length ≤ 25 ∧ (∀ v ∈ zs,zAj v) ∧ Zx n m k fs c.b c.i c.h = some (.inl (zs,c'.b,c'.i,c'.h))
 | 0,k,fs,c,h,_,_,_,_ => by omega
 | m + 1,k,fs,c,h,h',hl,hc,hf => by
  rw [Zx]
  obtain ⟨v1,c1,e1,a1,b1,g1⟩ := zG n c 3 hc
  have b1 := b1 (by decide)
  rw [show zJ n ⟨c.b,c.i,c.h⟩ 3 = _ from e1,Option.bind_some,wrap64 (z := 11 + v1) (by omega) (by omega)]
  by_cases hk : (k : Int) < 11 + v1
  ·rw [decide_eq_true hk,cond_true,decide_eq_true (by simp; omega),cond_true,zm (by omega : k ≤ 1099511627776),wrap64 (z := 100 + (k : Int)) (by omega) (by omega)]
   exact zBZ n m (k + 1) _ c1 (by omega) (by omega) (by simp; omega) g1 fun v hv => by
    rcases List.mem_append.1 hv with hv | hv
    ·exact hf v hv
    ·rw [List.mem_singleton.1 hv]
     exact ⟨by simp only; omega,by simp only; omega,by simp only; omega,by simp only; omega⟩
  ·rw [decide_eq_false hk,cond_false]
   exact ⟨fs,c1,g1,by omega,hf,rfl⟩
theorem zFc (n : Nat) (hn : 1048577 < n) (c : Src) (hc : c.ok) : ∃ (zs : List zB) (c' : Src),JR n c = some (zs,c') ∧ zs.length ≤ 25 ∧ (∀ v ∈ zs,zAj v) ∧ c'.ok := by
 obtain ⟨fs,c1,e1,f1,g1⟩ := zE8 n hn c hc
 obtain ⟨v2,c2,e2,a2,b2,g2⟩ := zG n c1 12 g1
 obtain ⟨v3,c3,e3,a3,g3⟩ := zS n c2 [0,1,99,100] g2 (by decide)
 obtain ⟨v4,c4,e4,a4,g4⟩ := zS n c3 [0,1,9999] g3 (by decide)
 obtain ⟨v5,c5,e5,a5,g5⟩ := zS n c4 [(-1),7,8] g4 (by decide)
 obtain ⟨v6,c6,e6,a6,g6⟩ := zS n c5 [(-1),4,5] g5 (by decide)
 simp only [List.mem_cons,List.not_mem_nil,or_false] at a3 a4 a5 a6
 have h12 := f1.1
 have sm : ∀ v ∈ fs,zAj v := fun v hv => .of (f1.2.1 v hv)
 obtain ⟨zs,c7,g7,l7,s7,e7⟩ := zBZ n n 0 fs c2 (by omega) (by omega) (by omega) g2 sm
 unfold JR
 simp only [e1,e2,e3,e4,e5,e6,Option.bind_some]
 cases (v2 == 0) with
 | true =>
  rw [cond_true,decide_eq_true (by simp; omega),cond_true]
  refine ⟨_,_,rfl,by simp; omega,fun v hv => ?_,g6⟩
  rcases List.mem_append.1 hv with hv | hv
  ·exact sm v hv
  ·rw [List.mem_singleton.1 hv]
   exact ⟨by simp only; omega,by simp only; omega,by simp only; omega,by simp only; omega⟩
 | false =>
 cases (v2 == 1) with
 | true =>
  rw [cond_false,cond_true,show Zx n n 0 fs c2.b c2.i c2.h = _ from e7]
  exact ⟨zs,c7,rfl,l7,s7,g7⟩
 | false => exact ⟨fs,c2,rfl,by omega,sm,g2⟩
theorem zGa {z : Int} (h0 : -1000000000 ≤ z) (h1 : z ≤ 1000000000) : zr z := by
 show (Lit.int .i64 z).wf = true
 simp [Lit.wf,show IntKind.wrap .i64 z = z from wrap64 (by omega) (by omega)]
 exact ⟨by show (-9223372036854775808 : Int) ≤ z; omega,by omega⟩
theorem zE3 (c : Src) (hc : c.ok) : ∃ x c',Y0 1048580 c = some (x,c') ∧ x.wf ∧ x.sz ≤ 1100 ∧ c'.ok := by
 obtain ⟨x,c1,e1,h1,g1⟩ := zBX c hc
 obtain ⟨v2,c2,e2,a2,b2,g2⟩ := zG 1048580 c1 16 g1
 obtain ⟨v3,c3,e3,a3,g3⟩ := zS 1048580 c2 [0,99,100] g2 (by decide)
 obtain ⟨nm,c4,e4,hnm,g4⟩ : ∃ nm c',QW 1048580 c2 [(⟨#[116,101,110,45,98,121,116,101,115,45]⟩ : ByteArray),(⟨#[101,108,101,118,101,110,45,98,121,116,101]⟩ : ByteArray)] = some (nm,c') ∧ nm.size ≤ 11 ∧ c'.ok := by
  obtain ⟨v,c',e,a,b,g⟩ := zG 1048580 c2 (([(⟨#[116,101,110,45,98,121,116,101,115,45]⟩ : ByteArray),(⟨#[101,108,101,118,101,110,45,98,121,116,101]⟩ : ByteArray)].length : Nat) : Int) g2
  have b := b (by decide)
  obtain ⟨v,rfl⟩ := Int.eq_ofNat_of_zero_le a
  have b : v < 2 := by simp only [List.length_cons,List.length_nil] at b; omega
  unfold QW
  rw [e]
  have : v = 0 ∨ v = 1 := by omega
  rcases this with rfl | rfl
  ·exact ⟨_,c',rfl,by decide,g⟩
  ·exact ⟨_,c',rfl,by decide,g⟩
 obtain ⟨ps,c5,e5,l5,w5,g5⟩ := zE2 1048580 c2 g2 (by omega)
 obtain ⟨fs,c6,e6,l6,w6,g6⟩ := zFc 1048580 (by omega) c2 g2
 obtain ⟨vt,p7,c7,e7,w7,_,g7⟩ := zFd c2 g2
 have s7 := w7.sz
 obtain ⟨v8,c8,e8,a8,g8⟩ := zS 1048580 c2 [(-1),1000000,1000001] g2 (by decide)
 simp only [List.mem_cons,List.not_mem_nil,or_false] at a3 a8
 have hs : x.Name.size + x.Ps.length + x.F.length + x.V.sz = x.sz := rfl
 have h40 := h1.2.2.1
 have hm : maxLen = 9223372036854775807 := by decide
 obtain ⟨i1,i2,i3,i4,i5,i6,i7,i8,i9,i10,i11,_⟩ := h1.2.1
 unfold Y0
 simp only [e1,e2,e3,e4,e5,e6,e7,e8,Option.bind_some]
 cases (v2 == 0) with
 | true => exact ⟨_,_,rfl,⟨zN (z := v3) (by omega) (by omega),i2,i3,i4,i5,i6,i7,i8,i9,i10,i11,trivial⟩,by simp only [zA.sz]; omega,g3⟩
 | false =>
 cases (v2 == 1) with
 | true => exact ⟨_,_,rfl,⟨i1,by simp only; omega,i3,i4,i5,i6,i7,i8,i9,i10,i11,trivial⟩,by simp only [zA.sz]; omega,g4⟩
 | false =>
 cases (v2 == 2) with
 | true => exact ⟨_,_,rfl,⟨i1,i2,⟨by simp only; omega,w5⟩,i4,i5,i6,i7,i8,i9,i10,i11,trivial⟩,by simp only [zA.sz]; omega,g5⟩
 | false =>
 cases (v2 == 3) with
 | true => exact ⟨_,_,rfl,⟨i1,i2,i3,⟨by simp only; omega,fun v hv => (w6 v hv).wf⟩,i5,i6,i7,i8,i9,i10,i11,trivial⟩,by simp only [zA.sz]; omega,g6⟩
 | false =>
 cases (v2 == 4) with
 | true => exact ⟨_,_,rfl,⟨i1,i2,i3,i4,w7.1.1,w7.1.2.1,i7,i8,i9,i10,i11,trivial⟩,by simp only [zA.sz]; omega,g7⟩
 | false =>
 cases (v2 == 5) with
 | true => exact ⟨_,_,rfl,⟨i1,i2,i3,i4,i5,i6,i7,i8,i9,(zGa (z := v8) (by omega) (by omega)),i11,trivial⟩,by simp only [zA.sz]; omega,g8⟩
 | false => exact ⟨_,_,rfl,⟨i1,i2,i3,i4,i5,i6,i7,i8,i9,i10,i11,trivial⟩,by omega,g2⟩
theorem zCw {n : Nat} {b : Int} {L : Nat → Int → Option (Unit ⊕ Bool)} (F : List zB) (h12 : F.length ≤ 12) (hG : ∀ v ∈ F,v.Sc = false → QA n b v.Port = some true)
  (hs : ∀ (m k : Nat) (hk : k < F.length),L (m + 1) k = (bif !F[k].Sc then (QA n b F[k].Port).bind fun r => (bif !r then some (.inr false) else L m ((k + 1 : Nat) : Int)) else L m ((k + 1 : Nat) : Int))) (he : ∀ m,L (m + 1) (F.length : Nat) = some (.inl ())) : ∀ (m k : Nat),k ≤ F.length → F.length < m + k → L m k = some (.inl ())
 | 0,k,h1,h2 => by omega
 | m + 1,k,h1,h2 => by
  by_cases hk : k < F.length
  ·have ih := zCw F h12 hG hs he m (k + 1) (by omega) (by omega)
   rw [hs m k hk]
   cases hst : F[k].Sc with
   | true => exact ih
   | false =>
    rw [hG _ (List.getElem_mem hk) hst]
    exact ih
  ·obtain rfl : k = F.length := by omega
   exact he m
def YW (n : Nat) (y : zA) : Prop := zQ n y = some true ∧ ∃ b,Zf n y.Id y.Ps = some b ∧ y.F.length ≤ 12 ∧ ∀ v ∈ y.F,v.Sc = false → QA n b v.Port = some true
theorem YW.mk' {n : Nat} {y : zA} {b : Int} (hn : 1048577 < n) (wy : y.wf) (sy : y.sz ≤ 1000) (hb : zn n y = some true) (hs : ZT n y.Id y.Ps = some b) (hF : ∀ u ∈ y.F,u.Sc = true ∨ ∀ j : Nat,j < y.Ps.length → Ji b j = false → u.Port ≠ j) (hP : PIn y.Ps.length y.F) : YW n y := by
 have hz : y.Name.size + y.Ps.length + y.F.length + y.V.sz = y.sz := rfl
 obtain ⟨b',h1,h2⟩ := Z3 n y wy (by omega) (by omega)
 rw [hb] at h1
 obtain rfl := Option.some.inj h1
 obtain ⟨p1,p2,p3,p4,p5,p6,_⟩ := qz n y (by omega) hb
 have hf := Jc n y.F (by omega) p6
 refine ⟨h2,b,by rw [(zBV n y.Id y.Ps (by omega) (by omega)).1]; exact hs,hf.1,fun v hv hst => ?_⟩
 have he := hf.2.1 v hv
 have hp := hP v hv hst
 obtain ⟨j,hj⟩ := Int.eq_ofNat_of_zero_le he.2.2.1.1
 rw [hj,zFP n b j (by omega)]
 rcases hF v hv with h | h
 ·rw [hst] at h; cases h
 ·cases hv2 : Ji b j with
  | true => rfl
  | false => exact absurd hj (h j (by omega) hv2)
theorem zCa (n m : Nat) (hn : 1000 < n) (y z : zA) (hy : YW n y) (hz : YW n z) : qJ n (m + 3) y z 0 = some (.inl ()) := by
 have inner : ∀ (k : Int) (v : zA) (b : Int),idx [y,z] k = some v → v.F.length ≤ 12 → (∀ u ∈ v.F,u.Sc = false → QA n b u.Port = some true) → qK n n b y z k 0 = some (.inl ()) := fun k v b hv h12 hG =>
  zCw (L := fun m i => qK n m b y z k i) v.F h12 hG (fun m i hi => by
   show qK n (m + 1) b y z k i = _
   rw [qK,hv,Option.bind_some,qd hi,cond_true,zY hi,Option.bind_some,Option.bind_some,zm (by omega : i ≤ 1099511627776)]) (fun m => by
   show qK n (m + 1) b y z k _ = _
   rw [qK,hv,Option.bind_some,qQ]
   rfl) n 0 (by omega) (by omega)
 obtain ⟨y1,b,y2,y3,y4⟩ := hy
 obtain ⟨z1,c,z2,z3,z4⟩ := hz
 have w0 : IntKind.wrap .i64 ((0 : Int) + 1) = 1 := by decide
 have w1 : IntKind.wrap .i64 ((1 : Int) + 1) = 2 := by decide
 have i0 : idx [y,z] 0 = some y := rfl
 have i1 : idx [y,z] 1 = some z := rfl
 rw [qJ,decide_eq_true (by simp),cond_true,i0,Option.bind_some,y2,Option.bind_some,inner 0 y b i0 y3 y4]
 simp only [Option.bind_some,Zr,y1,Bool.not_true,cond_false,w0]
 rw [qJ,decide_eq_true (by simp),cond_true,i1,Option.bind_some,z2,Option.bind_some,inner 1 z c i1 z3 z4]
 simp only [Option.bind_some,Zr,z1,Bool.not_true,cond_false,w1]
 rw [qJ,decide_eq_false (by simp)]
 rfl
theorem zCb (n m : Nat) (hn : 1000 < n) (x y z : zA) (hx : YW n x) (hy : YW n y) (hz : YW n z) : qC n (m + 4) x y z 0 = some (.inl ()) := by
 have inner : ∀ (k : Int) (v : zA) (b : Int),idx ([y,z] ++ [x]) k = some v → v.F.length ≤ 12 → (∀ u ∈ v.F,u.Sc = false → QA n b u.Port = some true) → qL n n b x y z k 0 = some (.inl ()) := fun k v b hv h12 hG =>
  zCw (L := fun m i => qL n m b x y z k i) v.F h12 hG (fun m i hi => by
   show qL n (m + 1) b x y z k i = _
   rw [qL,hv,Option.bind_some,qd hi,cond_true,zY hi,Option.bind_some,Option.bind_some,zm (by omega : i ≤ 1099511627776)]) (fun m => by
   show qL n (m + 1) b x y z k _ = _
   rw [qL,hv,Option.bind_some,qQ]
   rfl) n 0 (by omega) (by omega)
 obtain ⟨x1,a,x2,x3,x4⟩ := hx
 obtain ⟨y1,b,y2,y3,y4⟩ := hy
 obtain ⟨z1,c,z2,z3,z4⟩ := hz
 have w0 : IntKind.wrap .i64 ((0 : Int) + 1) = 1 := by decide
 have w1 : IntKind.wrap .i64 ((1 : Int) + 1) = 2 := by decide
 have w2 : IntKind.wrap .i64 ((2 : Int) + 1) = 3 := by decide
 have i0 : idx ([y,z] ++ [x]) 0 = some y := rfl
 have i1 : idx ([y,z] ++ [x]) 1 = some z := rfl
 have i2 : idx ([y,z] ++ [x]) 2 = some x := rfl
 rw [qC,decide_eq_true (by simp),cond_true,i0,Option.bind_some,y2,Option.bind_some,inner 0 y b i0 y3 y4]
 simp only [Option.bind_some,ZN,y1,Bool.not_true,cond_false,w0]
 rw [qC,decide_eq_true (by simp),cond_true,i1,Option.bind_some,z2,Option.bind_some,inner 1 z c i1 z3 z4]
 simp only [Option.bind_some,ZN,z1,Bool.not_true,cond_false,w1]
 rw [qC,decide_eq_true (by simp),cond_true,i2,Option.bind_some,x2,Option.bind_some,inner 2 x a i2 x3 x4]
 simp only [Option.bind_some,ZN,x1,Bool.not_true,cond_false,w2]
 rw [qC,decide_eq_false (by simp)]
 rfl
theorem zCc (x0 : List Int) (w0 : QB zCx x0) : ∃ n,Yg n x0 = some true := by
 refine ⟨1048580,?_⟩
 have hn : 1048577 < 1048580 := by decide
 simp only [Yg,zBl,Option.bind_some]
 by_cases hbig : (x0.length : Int) > 1048576
 ·rw [decide_eq_true hbig]; rfl
 rw [decide_eq_false hbig,cond_false]
 obtain ⟨c,e1,g1⟩ := zFa 1048580 x0 (by omega) (by omega)
 obtain ⟨x,c2,e2,h2,g2⟩ := zBX c g1
 obtain ⟨hb,wx,sx,hd,hF,hV,l4,t4,pF⟩ := h2
 have hs : x.Name.size + x.Ps.length + x.F.length + x.V.sz = x.sz := rfl
 obtain ⟨p1,p2,p3,p4,p5,p6,p7,p8,p9,p10,p11,p12,p13⟩ := qz 1048580 x (by omega) hb
 obtain ⟨p,c3,e3,a3,b3,g3⟩ := zG 1048580 c2 (x.Ps.length : Int) g2
 have b3 := b3 (by omega)
 obtain ⟨p,rfl⟩ := Int.eq_ofNat_of_zero_le a3
 have hp : p < x.Ps.length := by omega
 obtain ⟨x',c4,e4,_,_,g4⟩ := zE3 c g1
 obtain ⟨v5,c5,e5,_,g5⟩ := zS 1048580 c4 [0,0,1,2,(-1),6] g4 (by decide)
 obtain ⟨u,c6,e6,g6⟩ := zFb 1048580 c5 g5
 obtain ⟨r,er,_⟩ := zG2 1048580 x0 w0 (by omega) 2 (by omega)
 have er : ZZ 1048580 x0 2 = some (r : Int) := er
 have d1 : Qj 1048580 x0 = some (x,(p : Int)) := by unfold Qj; simp only [e1,e2,e3,Option.bind_some]
 have d2 : QR 1048580 x0 = some (x',v5,u) := by unfold QR; simp only [e1,e4,e5,e6,Option.bind_some]
 obtain ⟨y,y1,y2,y3,y4,y5,y6,y7,b,y8,y9,y10⟩ := zEN 1048580 x p (Int.tmod (r : Int) 2 == 0) wx (by omega) hn hb hp
 obtain ⟨z,z1,z2,z3,z4,z5,z6,z7,z8,bz,z9,z10,z11⟩ := zF9 1048580 x wx (by omega) hn hb
 obtain ⟨bx,k1,k2⟩ := Z3 1048580 x wx (by omega) (by omega)
 rw [hb] at k1
 obtain rfl := Option.some.inj k1
 have hy : YW 1048580 y := .mk' hn y4 (by omega) y3 y8 y9 fun v hv hst => by
  rw [y7,List.length_set]
  exact pF v (y10.subset hv) hst
 have hz : YW 1048580 z := .mk' hn z4 (by omega) z3 z9 z10 fun v hv hst => by
  obtain ⟨w,hw,hwv⟩ := List.mem_filterMap.1 (z11.subset hv)
  rw [z7]
  unfold Jx at hwv
  cases hws : w.Sc with
  | true => rw [hws] at hwv; simp at hwv; rw [← hwv] at hst; rw [hws] at hst; cases hst
  | false =>
   rw [hws] at hwv
   simp at hwv
   have := pF w hw hws
   rw [← hwv.2]
   exact this
 have hyp : idx y.Ps (p : Int) = some ⟨(Int.tmod (r : Int) 2 == 0),x.Ps[p].Co,false,⟨0,0,0,0,0⟩⟩ := by
  rw [y7,zY (by simpa using hp)]; simp
 have hzt : z.Tk = IntKind.wrap .i64 (x.Tk + 1) := by
  rw [z8 (by omega),wrap64 (by omega) (by omega)]
 have L3 := zCa 1048580 1048577 (by omega) y z hy hz
 have two : (decide ((2 : Int) ≠ 0)) = true := by decide
 have quiet : Zt 1048580 x p u = some x → (q8 1048580 (x,(p : Int)) x y z x0 false) = some true := fun _ => by
  unfold q8
  rw [cond_false,zCB 1048580 x (by omega) (by omega),Option.bind_some,Bool.not_true,cond_false,show qJ 1048580 1048580 y z 0 = _ from L3]
  simp only [Option.bind_some,QO,k2,cond_true,hyp,er,two,beq_self_eq_true,Bool.not_false,hzt]
 simp only [d1,d2,er,two,cond_true,y2,z2,Option.bind_some,zY hp]
 have there : (true && (decide ((0 : Int) ≤ p) && decide ((p : Int) < x.Ps.length))) = true := by
  rw [decide_eq_true (by omega),decide_eq_true (by omega)]; rfl
 have hear0 : (x.Ps[p].Up = false ∨ Z6 1048580 u = some false) → Zt 1048580 x p u = some x := fun h => by
  unfold Zt
  rw [Ql 1048580 x (by omega),Option.bind_some,Jk 1048580 x p true k2 (by omega),Option.bind_some,there,cond_true,zY hp,Option.bind_some]
  rcases h with h | h
  ·rw [h]; rfl
  ·rw [h]
   cases x.Ps[p].Up <;> rfl
 obtain ⟨bv,hv⟩ := zAE 1048580 u
 rw [Y7] at hear0
 rw [Y7,hv]
 cases hup : x.Ps[p].Up with
 | false =>
  have := hear0 (.inl hup)
  rw [this,Option.bind_some]
  exact quiet this
 | true =>
  cases bv with
  | false =>
   have := hear0 (.inr hv)
   rw [this,Option.bind_some,cond_true,Option.bind_some]
   exact quiet this
  | true =>
   obtain ⟨w,w1,w2,w3,w4,w5,w6,w7,bw,w8,w9,w10⟩ := zEM 1048580 x p u wx (by omega) hn hb hp hup hv
   have hw : YW 1048580 w := .mk' hn w4 (by omega) w3 w8 w9 fun v hv hst => by
    rw [w7,List.length_set]
    exact pF v (w10.subset hv) hst
   have L7 := zCb 1048580 1048576 (by omega) w y z hw hy hz
   rw [w2,Option.bind_some,cond_true,Option.bind_some]
   unfold q8
   rw [cond_true,decide_eq_true (by simp),cond_true,show qC 1048580 1048580 w y z 0 = _ from L7]
   simp only [Option.bind_some,QP,k2,hw.1,cond_true,hyp,er,two,beq_self_eq_true,Bool.not_false,hzt]
end Go.Proofs.Ytajadnlejdpceaa.Tw
