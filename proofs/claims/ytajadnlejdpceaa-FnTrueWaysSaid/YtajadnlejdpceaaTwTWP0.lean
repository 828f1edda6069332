import Derived.Test.YtajadnlejdpceaaTwTW
import Derived.Test.YtajadnlejdpceaaTlPlain
set_option linter.unusedVariables false
set_option linter.unusedSimpArgs false
set_option maxRecDepth 100000
set_option maxHeartbeats 1000000
namespace Go.Proofs.Ytajadnlejdpceaa.Tw
open Go Go.TL Go.Proofs
def zR.sz (x : zR) : Nat := x.Rows.length + x.Pv.length
theorem zGJ (n : Nat) : zAd n = Ze n := by
 funext m
 induction m with
 | zero => rfl
 | succ m ih => funext x i y; simp only [zAd,Ze,ih]
theorem zHf (n : Nat) : zDe n = Yz n := by
 funext x i; simp only [zDe,Yz,zGJ]; rfl
theorem zHs (n : Nat) (x : zR) (id : Int) (h : x.Rows.length ≤ 1048580) (hn : x.Rows.length < n) : ∃ r,Yz n x id = some r ∧ (r = -1 ∧ (∀ v ∈ x.Rows,v.Id ≠ id) ∨ ∃ v,0 ≤ r ∧ idx x.Rows r = some v ∧ v.Id = id) := by
 unfold Yz
 have hf := zIC (L := fun m xs i => Ze n m ⟨xs,x.Pv⟩ id i) (p := fun i v => bif v.Id == id then some i else none) (fun m xs i => by
  show (bif _ then _ else _) = _
  congr 1
  congr 1
  funext v
  cases (v.Id == id) <;> rfl) x.Rows (by omega) n 0 (by omega) (by omega)
 rcases hf with ⟨e1,e2⟩ | ⟨j,hj,r,e1,e2,e3,e4⟩
 ·rw [show Ze n n x id 0 = _ from e1]
  refine ⟨-1,rfl,.inl ⟨rfl,fun v hv => ?_⟩⟩
  obtain ⟨j,hj,rfl⟩ := List.getElem_of_mem hv
  have := e2 j hj (by omega)
  intro hid
  simp [hid] at this
 ·rw [show Ze n n x id 0 = _ from e4]
  have hid : (x.Rows[j].Id == id) = true := by
   cases hc : (x.Rows[j].Id == id) with
   | true => rfl
   | false => rw [hc] at e2; cases e2
  rw [hid] at e2
  cases e2
  exact ⟨_,rfl,.inr ⟨_,by omega,zB hj,by simpa using hid⟩⟩
theorem JL (n : Nat) (a b c : Int) : Tot (zL n a b c) := Tot.bif (fun _ => .of) (fun _ => .of)
theorem zBb (n : Nat) : Je n = zw n := rfl
theorem zBD (n : Nat) (v : Vec) : Tot (zw n v) := by
 unfold zw
 repeat' first | exact Tot.of | refine Tot.bind (JL _ _ _ _) fun _ _ => ?_ | refine Tot.bif (fun _ => ?_) (fun _ => ?_)
theorem zGK (n : Nat) : zEk n = Qc n := rfl
theorem zFp (n : Nat) (v : Vec) (c : Int) : Tot (Qc n v c) := by
 unfold Qc
 repeat' first | exact Tot.of | refine Tot.bind (JL _ _ _ _) fun _ _ => ?_ | refine Tot.bind (zBD _ _) fun _ _ => ?_ | refine Tot.bif (fun _ => ?_) (fun _ => ?_)
theorem zCv (n : Nat) : zCH n = Q6 n := rfl
theorem zCS (n : Nat) (v u : Vec) : Tot (Q6 n v u) := by
 unfold Q6
 repeat' first | exact Tot.of | refine Tot.bif (fun _ => ?_) (fun _ => ?_)
theorem zBL (n : Nat) (x0 : Int) (x1 : List Pt) (h : x1.length ≤ 1048576) : ∀ (m k : Nat) (y2 y3 y4 y5 y6 y7 y8 y9 y10 : Int),k ≤ x1.length → x1.length < m + k → Tot (zo n m x0 x1 k y2 y3 y4 y5 y6 y7 y8 y9 y10)
 | 0,k,y2,y3,y4,y5,y6,y7,y8,y9,y10,h1,h2 => by omega
 | m + 1,k,y2,y3,y4,y5,y6,y7,y8,y9,y10,h1,h2 => by
  rw [zo]
  refine Tot.step (fun hk => ?_) .of
  have ih := fun y2 y3 y4 y5 y6 y7 y8 y9 y10 => zBL n x0 x1 h m (k + 1) y2 y3 y4 y5 y6 y7 y8 y9 y10 (by omega) (by omega)
  simp only [ZV,vQ k]
  repeat' first | exact ih _ _ _ _ _ _ _ _ _ | exact Tot.of | refine Tot.bind (zJw hk) fun _ _ => ?_ | refine Tot.bind (zFp _ _ _) fun _ _ => ?_ | refine Tot.bind (zCS _ _ _) fun _ _ => ?_ | refine Tot.bif (fun _ => ?_) (fun _ => ?_)
theorem zAO (n : Nat) (x0 : Int) (x1 : List Pt) (h : x1.length ≤ 1048576) (hn : x1.length < n) : Tot (QA n x0 x1) := by
 unfold QA
 refine Tot.bind (zBL n x0 x1 h n 0 _ _ _ _ _ _ _ _ _ (by omega) (by omega)) fun o _ => ?_
 cases o <;> exact Tot.of
theorem zE9 (n : Nat) : ZT n = zo n := by
 funext m
 induction m with
 | zero => rfl
 | succ m ih =>
  funext x0 x1 y1 y2 y3 y4 y5 y6 y7 y8 y9 y10
  simp only [ZT,zo,ih,Yj,ZV,zGK,zCv]
  cases idx x1 y1 <;> rfl
theorem zCt (n : Nat) : zAc n = QA n := by
 funext x i; simp only [zAc,QA,zE9]; rfl
theorem zDK (n : Nat) : zA3 n = qV n := by
 funext x i y; simp only [zA3,qV,zCt]
theorem zGX (n : Nat) (x0 : Int) (x1 : List Pt) (x2 : Int) (h : x1.length ≤ 1048576) (hn : x1.length < n) : Tot (qV n x0 x1 x2) := Tot.bind (zAO n x0 x1 h hn) fun _ _ => .of
theorem zGy (n : Nat) : zCy n = YQ n := by
 funext x i y; simp only [zCy,YQ,zCt,zDK,zCv]; rfl
theorem zHH (n : Nat) (x0 : Int) (x1 : List Pt) (x2 : Int) (h : x1.length ≤ 1048576) (hn : x1.length < n) : ∃ r,YQ n x0 x1 x2 = some r ∧ 1 ≤ r ∧ r ≤ 4 := by
 unfold YQ zL
 rw [wQ]
 obtain ⟨b,hb⟩ := zAO n x0 x1 h hn
 obtain ⟨s,hs⟩ := zGX n x0 x1 x2 h hn
 by_cases h1 : x2 ≥ 0
 ·by_cases h2 : x2 ≤ (x1.length : Int) - 1
  ·obtain ⟨v,hv,_⟩ := zDr (xs := x1) h1 (by omega)
   obtain ⟨l,hl⟩ := zCS n s v.Hd
   simp only [tQ h1,tQ h2,cQ,bQ,nQ,fQ,hb,hs,hv,hl]
   cases v.Up <;> cases (b.2 == x2) <;> cases v.Has <;> cases l <;> exact ⟨_,rfl,by decide,by decide⟩
  ·simp only [tQ h1,dQ h2,cQ,bQ,Bool.not_false]
   exact ⟨_,rfl,by decide,by decide⟩
 ·simp only [dQ h1,fQ,bQ,Bool.not_false,cQ]
  exact ⟨_,rfl,by decide,by decide⟩
theorem zLv {k : Nat} (h : k ≤ 1099511627776) : IntKind.wrap .u64 (k : Int) = k := by
 show ((k : Int) % 18446744073709551616) = k
 omega
theorem zCC (n : Nat) (x0 : Int) (x1 : List Pt) (h : x1.length ≤ 1048576) (hn : x1.length < n) : ∀ (m k : Nat) (y2 : Int),k ≤ x1.length → x1.length < m + k → Q4 n m x0 x1 k y2 = Zg n m x0 x1 k y2 ∧ Tot (Zg n m x0 x1 k y2)
 | 0,k,y2,h1,h2 => by omega
 | m + 1,k,y2,h1,h2 => by
  rw [Zg,Q4]
  by_cases hk : k < x1.length
  ·have ih := fun y2 => zCC n x0 x1 h hn m (k + 1) y2 (by omega) (by omega)
   obtain ⟨r,hr,r1,r2⟩ := zHH n x0 x1 k h hn
   have hk' : decide ((k : Int) < (x1.length : Int)) = true := tQ (by omega)
   have h0 : decide ((0 : Int) ≤ (k : Int)) = true := tQ (by omega)
   simp only [hk',vQ k,zLv (by omega : k ≤ 1099511627776),zGy,hr,bQ,h0,cQ,(ih _).1,true_and]
   have hc : r = 1 ∨ r = 2 ∨ r = 3 ∨ r = 4 := by omega
   rcases hc with rfl | rfl | rfl | rfl <;> cases (decide ((k : Int) < 6)) <;> first | exact ⟨rfl,(ih _).2⟩ | exact ⟨by trivial,Tot.of⟩
  ·have hk' : decide ((k : Int) < (x1.length : Int)) = false := dQ (by omega)
   rw [hk']
   exact ⟨by trivial,Tot.of⟩
theorem zGY (n : Nat) (x0 : Int) (x1 : List Pt) (h : x1.length ≤ 1048576) (hn : x1.length < n) : zBl n x0 x1 = Zf n x0 x1 ∧ Tot (Zf n x0 x1) := by
 obtain ⟨h1,o,h2⟩ := zCC n x0 x1 h hn n 0 0 (by omega) (by omega)
 unfold zBl Zf
 have e1 : Q4 n n x0 x1 0 0 = some o := h1.trans h2
 have e2 : Zg n n x0 x1 0 0 = some o := h2
 rw [e1,e2]
 cases o <;> exact ⟨by trivial,Tot.of⟩
theorem qb (n : Nat) : zq n = zL n := rfl
theorem zJ (n : Nat) (a b c : Int) : zL n a b c = some (decide (b ≤ a) && decide (a ≤ c)) := by
 unfold zL
 by_cases h : a ≥ b
 ·rw [tQ h]; rfl
 ·rw [dQ h]; rfl
theorem zDA {p : Int} (h0 : 1 ≤ p) (h1 : p ≤ 6) : ∃ a : Int,0 ≤ a ∧ a < 9223372036854775808 ∧ (IntKind.wrap .i64 ((IntKind.wrap .i64 (1 * 2 ^ min ((IntKind.wrap .u64 p)).toNat (IntKind.bits .i64))) - 1)) = a ∧ (IntKind.wrap .i64 ((IntKind.wrap .i64 (1 * 2 ^ min (p).toNat (IntKind.bits .i64))) - 1)) = a ∧ decide (0 ≤ (IntKind.wrap .u64 p)) = true ∧ decide (0 ≤ p) = true := by
 have hc : p = 1 ∨ p = 2 ∨ p = 3 ∨ p = 4 ∨ p = 5 ∨ p = 6 := by omega
 rcases hc with rfl | rfl | rfl | rfl | rfl | rfl
 ·exact ⟨1,by decide,by decide,by decide,by decide,by decide,by decide⟩
 ·exact ⟨3,by decide,by decide,by decide,by decide,by decide,by decide⟩
 ·exact ⟨7,by decide,by decide,by decide,by decide,by decide,by decide⟩
 ·exact ⟨15,by decide,by decide,by decide,by decide,by decide,by decide⟩
 ·exact ⟨31,by decide,by decide,by decide,by decide,by decide,by decide⟩
 ·exact ⟨63,by decide,by decide,by decide,by decide,by decide,by decide⟩
theorem zBO (n : Nat) (x0 : zR) (w0 : x0.wf) (x1 : Int) (hp0 : 1 ≤ x1) (hp1 : x1 ≤ 6) (h : x0.Rows.length ≤ 1048580) : ∀ (m k : Nat),k ≤ x0.Rows.length → x0.Rows.length < m + k → YF n m x0 x1 k = ZN n m x0 x1 k ∧ Tot (ZN n m x0 x1 k)
 | 0,k,h1,h2 => by omega
 | m + 1,k,h1,h2 => by
  rw [ZN,YF]
  by_cases hk : k < x0.Rows.length
  ·obtain ⟨ih1,o,ih2⟩ := zBO n x0 w0 x1 hp0 hp1 h m (k + 1) (by omega) (by omega)
   obtain ⟨a,ha0,ha1,ha2,ha3,ha4,ha5⟩ := zDA hp0 hp1
   have hk' : decide ((k : Int) < (x0.Rows.length : Int)) = true := tQ (by omega)
   have hv : x0.Rows[k] ∈ x0.Rows := List.getElem_mem hk
   have hi := zB hk
   generalize x0.Rows[k] = v at hv hi
   have hw := w0.1.2 v hv
   have hin : zAA n x1 = some a := by unfold zAA; rw [ha5,ha3]; rfl
   simp only [hk',vQ k,hi,bQ,cQ,ih1,ih2,hin,qb,zJ,ha2]
   have hbits := fun hm0 hm1 => zL0 (B := v.Bare) (M := v.Members) hw.2.2.1 hm0 hm1
   by_cases hm : 0 ≤ v.Members ∧ v.Members ≤ a
   ·have hb := hbits hm.1 (by omega)
    simp only [tQ hm.1,tQ hm.2,Bool.and_self,nQ,fQ]
    by_cases hz : IntKind.wrap .i64 (BitVec.ofInt (IntKind.bits .i64) v.Bare &&& ~~~BitVec.ofInt (IntKind.bits .i64) v.Members).toNat = 0
    ·have h3 := hb.1 hz
     have hz' : ((IntKind.wrap .i64 (BitVec.ofInt (IntKind.bits .i64) v.Bare &&& ~~~BitVec.ofInt (IntKind.bits .i64) v.Members).toNat) != 0) = false := by rw [hz]; rfl
     have hy' : ((IntKind.wrap .i64 (BitVec.ofInt (IntKind.bits .i64) v.Bare &&& BitVec.ofInt (IntKind.bits .i64) v.Members).toNat) != v.Bare) = false := by rw [h3.2.2]; simp
     simp only [hz',hy',tQ h3.1,tQ (show v.Bare ≤ a by omega),Bool.and_self,nQ,fQ]
     cases k with
     | zero => cases (decide (1 ≤ v.Id) && decide (v.Id ≤ 99)) <;> exact ⟨by trivial,Tot.of⟩
     | succ k =>
      have hw2 : IntKind.wrap .i64 (((k + 1 : Nat) : Int) - 1) = (k : Int) := by rw [wQ]; omega
      have hpos : decide (((k + 1 : Nat) : Int) > 0) = true := tQ (by omega)
      simp only [hw2,hpos,cQ,zB (show k < x0.Rows.length by omega),bQ]
      cases (decide (1 ≤ v.Id) && decide (v.Id ≤ 99)) <;> cases (decide ((x0.Rows[k]'(by omega)).Id ≥ v.Id)) <;> exact ⟨by trivial,Tot.of⟩
    ·have hz' : ((IntKind.wrap .i64 (BitVec.ofInt (IntKind.bits .i64) v.Bare &&& ~~~BitVec.ofInt (IntKind.bits .i64) v.Members).toNat) != 0) = true := by simpa using hz
     have h3 : (decide (0 ≤ v.Bare) && decide (v.Bare ≤ a)) = false ∨ ((IntKind.wrap .i64 (BitVec.ofInt (IntKind.bits .i64) v.Bare &&& BitVec.ofInt (IntKind.bits .i64) v.Members).toNat) != v.Bare) = true := by
      by_cases hq : ((IntKind.wrap .i64 (BitVec.ofInt (IntKind.bits .i64) v.Bare &&& BitVec.ofInt (IntKind.bits .i64) v.Members).toNat) != v.Bare) = true
      ·exact .inr hq
      ·left
       simp at hq
       by_cases hr : 0 ≤ v.Bare ∧ v.Bare ≤ a
       ·have hle := zL1 hw.2.2.1 hm.1 (by omega) hq
        exact absurd (hb.2 ⟨hle.1,hle.2,hq⟩) hz
       ·simp only [Bool.and_eq_false_iff,decide_eq_false_iff_not]; omega
     simp only [hz',cQ]
     have hspec : (bif !(decide (0 ≤ v.Bare) && decide (v.Bare ≤ a)) then some (Sum.inr false) else bif ((IntKind.wrap .i64 (BitVec.ofInt (IntKind.bits .i64) v.Bare &&& BitVec.ofInt (IntKind.bits .i64) v.Members).toNat) != v.Bare) then some (Sum.inr false) else (bif decide ((k : Int) > 0) then (idx x0.Rows (IntKind.wrap .i64 ((k : Int) - 1))).bind fun v13 => bif decide (v13.Id ≥ v.Id) then some (Sum.inr false) else some o else some o)) = (some (Sum.inr false) : Option (Unit ⊕ Bool)) := by
      rcases h3 with h3 | h3
      ·rw [h3]; rfl
      ·rw [h3]; cases (decide (0 ≤ v.Bare) && decide (v.Bare ≤ a)) <;> rfl
     rw [hspec]
     cases k with
     | zero => cases (decide (1 ≤ v.Id) && decide (v.Id ≤ 99)) <;> exact ⟨by trivial,Tot.of⟩
     | succ k =>
      have hw2 : IntKind.wrap .i64 (((k + 1 : Nat) : Int) - 1) = (k : Int) := by rw [wQ]; omega
      have hpos : decide (((k + 1 : Nat) : Int) > 0) = true := tQ (by omega)
      simp only [hw2,hpos,cQ,zB (show k < x0.Rows.length by omega),bQ]
      cases (decide (1 ≤ v.Id) && decide (v.Id ≤ 99)) <;> cases (decide ((x0.Rows[k]'(by omega)).Id ≥ v.Id)) <;> exact ⟨by trivial,Tot.of⟩
   ·have hm' : (decide (0 ≤ v.Members) && decide (v.Members ≤ a)) = false := by
     simp only [Bool.and_eq_false_iff,decide_eq_false_iff_not]; omega
    simp only [hm',Bool.not_false,cQ]
    cases k with
    | zero => cases (decide (1 ≤ v.Id) && decide (v.Id ≤ 99)) <;> exact ⟨by trivial,Tot.of⟩
    | succ k =>
     have hw2 : IntKind.wrap .i64 (((k + 1 : Nat) : Int) - 1) = (k : Int) := by rw [wQ]; omega
     have hpos : decide (((k + 1 : Nat) : Int) > 0) = true := tQ (by omega)
     simp only [hw2,hpos,cQ,zB (show k < x0.Rows.length by omega),bQ]
     cases (decide (1 ≤ v.Id) && decide (v.Id ≤ 99)) <;> cases (decide ((x0.Rows[k]'(by omega)).Id ≥ v.Id)) <;> exact ⟨by trivial,Tot.of⟩
  ·have hk' : decide ((k : Int) < (x0.Rows.length : Int)) = false := dQ (by omega)
   rw [hk']
   exact ⟨by trivial,Tot.of⟩
theorem zBN (n : Nat) (x0 : zR) (h : x0.Rows.length ≤ 1048580) (hn : x0.Rows.length < n) (hq : x0.Pv.length ≤ 1048580) : ∀ (m k : Nat),k ≤ x0.Pv.length → x0.Pv.length < m + k → JB n m x0 k = Zs n m x0 k ∧ Tot (Zs n m x0 k)
 | 0,k,h1,h2 => by omega
 | m + 1,k,h1,h2 => by
  rw [Zs,JB]
  by_cases hk : k < x0.Pv.length
  ·obtain ⟨ih1,o,ih2⟩ := zBN n x0 h hn hq m (k + 1) (by omega) (by omega)
   have hk' : decide ((k : Int) < (x0.Pv.length : Int)) = true := tQ (by omega)
   obtain ⟨r,hr,_⟩ := zHs n x0 x0.Pv[k] h hn
   simp only [hk',vQ k,zB hk,bQ,cQ,ih1,ih2,zHf,hr]
   cases decide (r < 0) <;> exact ⟨by trivial,Tot.of⟩
  ·have hk' : decide ((k : Int) < (x0.Pv.length : Int)) = false := dQ (by omega)
   rw [hk']
   exact ⟨by trivial,Tot.of⟩
theorem zFq (n : Nat) (x0 : zR) (w0 : x0.wf) (x1 : Int) (h : x0.sz ≤ 1048580) (hn : x0.sz < n) : zCz n x0 x1 = qW n x0 x1 ∧ Tot (qW n x0 x1) := by
 have hs : x0.Rows.length + x0.Pv.length = x0.sz := rfl
 unfold zCz qW
 simp only [qb,zJ,bQ]
 by_cases hp : 1 ≤ x1 ∧ x1 ≤ 6
 ·obtain ⟨a,ha0,ha1,ha2,ha3,ha4,ha5⟩ := zDA hp.1 hp.2
  obtain ⟨e1,o,e2⟩ := zBO n x0 w0 x1 hp.1 hp.2 (by omega) n 0 (by omega) (by omega)
  obtain ⟨f1,q,f2⟩ := zBN n x0 (by omega) (by omega) (by omega) n 0 (by omega) (by omega)
  have e1' : YF n n x0 x1 0 = some o := e1.trans e2
  have e2' : ZN n n x0 x1 0 = some o := e2
  have f1' : JB n n x0 0 = some q := f1.trans f2
  have f2' : Zs n n x0 0 = some q := f2
  simp only [tQ hp.1,tQ hp.2,Bool.and_self,nQ,fQ,ha4,cQ,e1',e2',bQ]
  cases o with
  | inl u =>
   simp only [zDt,JF,f1',f2',bQ]
   cases q <;> exact ⟨rfl,Tot.bif (fun _ => .of) fun _ => Tot.bif (fun _ => .of) fun _ => .of⟩
  | inr r => exact ⟨rfl,Tot.bif (fun _ => .of) fun _ => Tot.bif (fun _ => .of) fun _ => .of⟩
 ·have hp' : (decide (1 ≤ x1) && decide (x1 ≤ 6)) = false := by
   simp only [Bool.and_eq_false_iff,decide_eq_false_iff_not]; omega
  rw [hp']
  exact ⟨by trivial,Tot.of⟩
theorem zHP (n : Nat) (x : zR) (h : x.sz ≤ 268435456) : J7 n x = some x := by
 have hs : x.Rows.length + x.Pv.length = x.sz := rfl
 unfold J7
 simp only [List.length_nil,Nat.zero_add,tQ (show x.Rows.length ≤ 268435456 by omega),tQ (show x.Pv.length ≤ 268435456 by omega),cQ,List.nil_append]
theorem zFk (n : Nat) (x : zR) (h : x.sz ≤ 268435456) : zBc n x = some x := by
 have hs : x.Rows.length + x.Pv.length = x.sz := rfl
 unfold zBc zDu
 simp only [List.length_nil,Nat.zero_add,tQ (show x.Rows.length ≤ 268435456 by omega),tQ (show x.Pv.length ≤ 268435456 by omega),cQ,List.nil_append,bQ]
theorem zEP {α : Type} {wf : α → Prop} {xs : List α} {i : Nat} {v : α} (h : Q7 wf xs) (hv : wf v) : Q7 wf (xs.set i v) := ⟨by rw [List.length_set]; exact h.1,fun y hy => by
 rcases List.mem_or_eq_of_mem_set hy with h1 | h1
 ·exact h.2 y h1
 ·rw [h1]; exact hv⟩
def zA.sz (x : zA) : Nat := x.Name.size + x.Ps.length + x.F.length + x.V.sz
theorem zIR (n : Nat) : zEN n = qE n := by
 funext v
 unfold zEN qE
 rw [qb,zBb]
 obtain ⟨b,hb⟩ := JL n v.Co 1 1000
 rw [hb]
 cases b <;> cases v.Up <;> cases v.Has <;> rfl
theorem zD8 (n : Nat) (v : Pt) : Tot (qE n v) := by
 unfold qE
 repeat' first | exact Tot.of | refine Tot.bind (JL _ _ _ _) fun _ _ => ?_ | refine Tot.bind (zBD _ _) fun _ _ => ?_ | refine Tot.bif (fun _ => ?_) (fun _ => ?_)
theorem zDV (n : Nat) (v : zC) : Tot (Zk n v) := by
 unfold Zk
 repeat' first | exact Tot.of | refine Tot.bind (JL _ _ _ _) fun _ _ => ?_ | refine Tot.bif (fun _ => ?_) (fun _ => ?_)
theorem zG2 (n : Nat) : zFC n = Zk n := rfl
theorem zG0 (n : Nat) (v u : zC) : zC0 n u v.Tag v.Mac = Zj n v u.Tag u.Mac := by
 unfold zC0 Zj
 by_cases h1 : v.Tag = u.Tag
 ·simp [h1]
 ·have e1 : (v.Tag != u.Tag) = true := by simpa using h1
  have e2 : (u.Tag == v.Tag) = false := by simpa using fun e : u.Tag = v.Tag => h1 e.symm
  rw [e1,e2]
  by_cases h2 : v.Tag < u.Tag
  ·rw [tQ h2]; rfl
  ·rw [dQ h2]; rfl
theorem zCW (n : Nat) (v : zC) (a b : Int) : Tot (Zj n v a b) := Tot.bif (fun _ => .of) (fun _ => .of)
theorem zCB (n : Nat) (xs : List zC) (h : xs.length ≤ 1048580) : ∀ (m k : Nat),k ≤ xs.length → xs.length < m + k → Ya n m xs k = qN n m xs k ∧ Tot (qN n m xs k)
 | 0,k,h1,h2 => by omega
 | m + 1,k,h1,h2 => by
  rw [qN,Ya]
  by_cases hk : k < xs.length
  ·obtain ⟨ih1,o,ih2⟩ := zCB n xs h m (k + 1) (by omega) (by omega)
   rw [qH hk]
   obtain ⟨a,ha⟩ := zDV n xs[k]
   simp only [vQ k,zB hk,bQ,cQ,ih1,ih2,zG2,ha]
   cases k with
   | zero => cases a <;> exact ⟨by trivial,Tot.of⟩
   | succ k =>
    have hw2 : IntKind.wrap .i64 (((k + 1 : Nat) : Int) - 1) = (k : Int) := by rw [wQ]; omega
    have hpos : decide (((k + 1 : Nat) : Int) > 0) = true := tQ (by omega)
    obtain ⟨b,hb⟩ := zCW n (xs[k]'(by omega)) xs[k + 1].Tag xs[k + 1].Mac
    simp only [hw2,hpos,cQ,zB (show k < xs.length by omega),bQ,zG0,hb]
    cases a <;> cases b <;> exact ⟨by trivial,Tot.of⟩
  ·have he : k = xs.length := by omega
   rw [he,zz]
   exact ⟨rfl,Tot.of⟩
theorem zGV (n : Nat) (xs : List zC) (h : xs.length ≤ 1048580) (hn : xs.length < n) : ∃ b,ZK n xs = some b ∧ zDd n xs = some b := by
 obtain ⟨e1,o,e2⟩ := zCB n xs h n 0 (by omega) (by omega)
 have e1' : Ya n n xs 0 = some o := e1.trans e2
 have e2' : qN n n xs 0 = some o := e2
 unfold ZK zDd
 rw [e1',e2']
 cases o <;> exact ⟨_,rfl,rfl⟩
theorem zEs (n : Nat) : JR n = zi n := by
 funext m
 induction m with
 | zero => rfl
 | succ m ih => funext x i; simp only [JR,zi,ih,zIR]
theorem zBB (n : Nat) (x : zA) (h : x.Ps.length ≤ 1048580) : ∀ (m k : Nat),k ≤ x.Ps.length → x.Ps.length < m + k → Tot (zi n m x k)
 | 0,k,h1,h2 => by omega
 | m + 1,k,h1,h2 => by
  rw [zi]
  refine Tot.step (fun hk => ?_) .of
  have ih := zBB n x h m (k + 1) (by omega) (by omega)
  rw [vQ k]
  exact Tot.bind (zJw hk) fun _ _ => Tot.bind (zD8 _ _) fun _ _ => Tot.bif (fun _ => .of) fun _ => ih
theorem Z4 (n : Nat) (x : zA) (wx : x.wf) (h : x.sz ≤ 1048580) (hn : x.sz < n) : ∃ b,zN n x = some b ∧ YE n x = some b := by
 have hs : x.Name.size + x.Ps.length + x.F.length + x.V.sz = x.sz := rfl
 obtain ⟨o,ho⟩ := zBB n x (by omega) n 0 (by omega) (by omega)
 have ho' : zi n n x 0 = some o := ho
 obtain ⟨f,hf1,hf2⟩ := zGV n x.F (by omega) (by omega)
 obtain ⟨g,v,hv⟩ := zFq n x.V ⟨wx.2.2.2.2.1,wx.2.2.2.2.2.1,trivial⟩ (x.Ps.length : Int) (by omega) (by omega)
 unfold zN YE
 rw [zEs,ho',bQ,bQ]
 cases o with
 | inr r => exact ⟨_,rfl,rfl⟩
 | inl u =>
  simp only [QI,zCu,qb,Yd,Q1,zJ,hf1,hf2,g,hv,bQ]
  have hname : decide ((x.Name.size : Int) > 10) = !decide ((x.Name.size : Int) ≤ 10) := by
   by_cases h : (x.Name.size : Int) ≤ 10
   ·rw [tQ h,dQ (by omega)]; rfl
   ·rw [dQ h,tQ (by omega)]; rfl
  rw [hname]
  generalize decide ((x.Name.size : Int) ≤ 10) = b1
  generalize (decide (1 ≤ x.Id) && decide (x.Id ≤ 99)) = b2
  generalize (decide (1 ≤ (x.Ps.length : Int)) && decide ((x.Ps.length : Int) ≤ 6)) = b3
  generalize (decide (0 ≤ x.Tk) && decide (x.Tk ≤ 1000000)) = b4
  generalize (decide (0 ≤ x.Pa) && decide (x.Pa ≤ 1000000)) = b5
  generalize (decide (0 ≤ x.Wo) && decide (x.Wo ≤ 1000000)) = b6
  generalize (decide (0 ≤ x.Dr) && decide (x.Dr ≤ 1000000)) = b7
  generalize (decide (0 ≤ x.Ve) && decide (x.Ve ≤ 1000000)) = b8
  clear hf1 hf2 g hv hname
  revert f v b1 b2 b3 b4 b5 b6 b7 b8
  decide +kernel
def Net.sz (x : Net) : Nat := (x.Bs.length + Jr zA.sz x.Bs) + x.Ls.length + x.Said.length
theorem zDL (n : Nat) (x : Net) (i j : Int) (wx : x.wf) (h : x.Bs.length ≤ 1048580) : ∃ p b,ZZ n x i j = some (p,b) ∧ QT n x i j = some (b && p.Up) := by
 have hw : IntKind.wrap .i64 ((x.Bs.length : Int) - 1) = (x.Bs.length : Int) - 1 := wQ
 unfold ZZ QT
 simp only [qb,zJ,hw,bQ]
 by_cases hi : 0 ≤ i ∧ i ≤ (x.Bs.length : Int) - 1
 ·obtain ⟨v,hv,hm⟩ := zDr (xs := x.Bs) hi.1 (by omega)
  have hl := (wx.1.2 v hm).2.2.1.1
  have hmx : maxLen = 9223372036854775807 := by decide
  have hw2 : IntKind.wrap .i64 ((v.Ps.length : Int) - 1) = (v.Ps.length : Int) - 1 := wQ
  simp only [tQ hi.1,tQ hi.2,Bool.and_self,nQ,fQ,cQ,hv,bQ,hw2]
  by_cases hj : 0 ≤ j ∧ j ≤ (v.Ps.length : Int) - 1
  ·obtain ⟨p,hp,_⟩ := zDr (xs := v.Ps) hj.1 (by omega)
   simp only [tQ hj.1,tQ hj.2,Bool.and_self,nQ,fQ,cQ,hp,bQ]
   exact ⟨p,true,rfl,by simp⟩
  ·have hj' : (decide (0 ≤ j) && decide (j ≤ (v.Ps.length : Int) - 1)) = false := by
    simp only [Bool.and_eq_false_iff,decide_eq_false_iff_not]; omega
   simp only [hj',Bool.not_false,cQ,fQ]
   exact ⟨_,false,rfl,rfl⟩
 ·have hi' : (decide (0 ≤ i) && decide (i ≤ (x.Bs.length : Int) - 1)) = false := by
   simp only [Bool.and_eq_false_iff,decide_eq_false_iff_not]; omega
  simp only [hi',Bool.not_false,cQ,fQ]
  exact ⟨_,false,rfl,rfl⟩
theorem zFn (n : Nat) (x : Net) (i : Int) (wx : x.wf) (h : x.sz ≤ 1048580) : ∃ b,qp n x i = some b ∧ za n x i = some b := by
 unfold Net.sz at h
 have hw : IntKind.wrap .i64 ((x.Ls.length : Int) - 1) = (x.Ls.length : Int) - 1 := wQ
 unfold qp za
 simp only [qb,zJ,hw,bQ]
 by_cases hi : 0 ≤ i ∧ i ≤ (x.Ls.length : Int) - 1
 ·obtain ⟨v,hv,hm⟩ := zDr (xs := x.Ls) hi.1 (by omega)
  obtain ⟨p,b,h1,h2⟩ := zDL n x v.A v.P wx (by omega)
  obtain ⟨p',b',h1',h2'⟩ := zDL n x v.B v.Q wx (by omega)
  simp only [tQ hi.1,tQ hi.2,Bool.and_self,nQ,fQ,hv,bQ,h1,h2,h1',h2']
  cases b <;> cases b' <;> cases p.Up <;> cases p'.Up <;> exact ⟨_,rfl,rfl⟩
 ·have hi' : (decide (0 ≤ i) && decide (i ≤ (x.Ls.length : Int) - 1)) = false := by
   simp only [Bool.and_eq_false_iff,decide_eq_false_iff_not]; omega
  simp only [hi',Bool.not_false,cQ]
  exact ⟨_,rfl,rfl⟩
def Src.ok (c : Src) : Prop := 0 ≤ c.i ∧ c.b.length ≤ 1099511627776
theorem zKf (z : Int) : ∃ v : Int,(IntKind.wrap .i64 (BitVec.ofInt (IntKind.bits .i64) z &&& BitVec.ofInt (IntKind.bits .i64) 255).toNat) = v ∧ 0 ≤ v ∧ v ≤ 255 := by
 have h : (BitVec.ofInt 64 z &&& BitVec.ofInt 64 255).toNat ≤ 255 := by
  rw [BitVec.toNat_and]
  exact Nat.le_trans Nat.and_le_right (by decide)
 refine ⟨((BitVec.ofInt 64 z &&& BitVec.ofInt 64 255).toNat : Int),?_,by omega,by omega⟩
 exact wrap64 (z := ((BitVec.ofInt 64 z &&& BitVec.ofInt 64 255).toNat : Int)) (by omega) (by omega)
theorem Jq (n : Nat) (c : Src) (h : c.ok) : ∃ v c',Qv n c = some (v,c') ∧ 0 ≤ v ∧ v ≤ 255 ∧ c'.ok := by
 unfold Qv
 rw [show decide ((0 : Int) ≤ 33) = true from rfl,show decide ((0 : Int) ≤ 47) = true from rfl]
 simp only [cQ]
 by_cases hi : c.i < (c.b.length : Int)
 ·obtain ⟨v,hv,_⟩ := zDr (xs := c.b) h.1 hi
  rw [tQ hi,hv,wrap64 (z := c.i + 1) (by have := h.1; omega) (by have := h.2; omega)]
  obtain ⟨w,e,e1,e2⟩ := zKf (IntKind.wrap .i64 ((IntKind.wrap .i64 (BitVec.ofInt (IntKind.bits .i64) (IntKind.wrap .i64 (BitVec.ofInt (IntKind.bits .i64) (Int.fdiv (IntKind.wrap .i64 ((IntKind.wrap .i64 (c.h * 6364136223846793005)) + 1442695040888963407)) (2 ^ min ((33 : Int)).toNat (IntKind.bits .i64))) ^^^ BitVec.ofInt (IntKind.bits .i64) (Int.fdiv (IntKind.wrap .i64 ((IntKind.wrap .i64 (c.h * 6364136223846793005)) + 1442695040888963407)) (2 ^ min ((47 : Int)).toNat (IntKind.bits .i64)))).toNat) &&& BitVec.ofInt (IntKind.bits .i64) 255).toNat) + (IntKind.wrap .i64 v)))
  simp only [cQ,bQ]
  exact ⟨_,_,rfl,by rw [e]; exact e1,by rw [e]; exact e2,by have := h.1; show 0 ≤ c.i + 1; omega,h.2⟩
 ·rw [dQ hi]
  obtain ⟨w,e,e1,e2⟩ := zKf (IntKind.wrap .i64 (BitVec.ofInt (IntKind.bits .i64) (Int.fdiv (IntKind.wrap .i64 ((IntKind.wrap .i64 (c.h * 6364136223846793005)) + 1442695040888963407)) (2 ^ min ((33 : Int)).toNat (IntKind.bits .i64))) ^^^ BitVec.ofInt (IntKind.bits .i64) (Int.fdiv (IntKind.wrap .i64 ((IntKind.wrap .i64 (c.h * 6364136223846793005)) + 1442695040888963407)) (2 ^ min ((47 : Int)).toNat (IntKind.bits .i64)))).toNat)
  simp only [fQ]
  exact ⟨_,_,rfl,by rw [e]; exact e1,by rw [e]; exact e2,h.1,h.2⟩
theorem zJ5 {v k : Int} (h0 : 0 ≤ v) (hk : 0 < k) : 0 ≤ Int.tmod v k ∧ Int.tmod v k < k := by
 rw [Int.tmod_eq_emod_of_nonneg h0]
 exact ⟨Int.emod_nonneg _ (by omega),Int.emod_lt_of_pos _ hk⟩
theorem z6 (n : Nat) (c : Src) (k : Int) (h : c.ok) : ∃ v c',ze n c k = some (v,c') ∧ 0 ≤ v ∧ (0 < k → v < k) ∧ c'.ok := by
 unfold ze
 by_cases h1 : k ≤ 0
 ·rw [tQ h1]
  exact ⟨0,c,rfl,by omega,fun h => by omega,h⟩
 ·rw [dQ h1]
  have hne : decide ((k : Int) ≠ 0) = true := tQ (by omega)
  by_cases h2 : k ≤ 256
  ·rw [tQ h2]
   obtain ⟨v,c',e,e1,e2,e3⟩ := Jq n c h
   simp only [cQ,fQ,e,bQ,hne]
   obtain ⟨t1,t2⟩ := zJ5 e1 (show 0 < k by omega)
   exact ⟨_,_,rfl,t1,fun _ => t2,e3⟩
  ·rw [dQ h2]
   obtain ⟨v1,c1,e,e1,e2,e3⟩ := Jq n c h
   obtain ⟨v2,c2,f,f1,f2,f3⟩ := Jq n c1 e3
   obtain ⟨v3,c3,g,g1,g2,g3⟩ := Jq n c2 f3
   simp only [fQ,e,f,g,bQ,hne,cQ]
   simp (disch := omega) only [wrap64]
   obtain ⟨t1,t2⟩ := zJ5 (show 0 ≤ v1 * 65536 + v2 * 256 + v3 by omega) (show 0 < k by omega)
   exact ⟨_,_,rfl,t1,fun _ => t2,g3⟩
theorem zDU (n : Nat) (c : Src) (k : Int) (h : c.ok) : ∃ v c',JM n c k = some (v,c') ∧ c'.ok := by
 obtain ⟨v,c',e,_,_,e3⟩ := z6 n c k h
 unfold JM
 rw [e]
 exact ⟨_,_,rfl,e3⟩
theorem zAK (n : Nat) (c : Src) (xs : List Int) (h : c.ok) (hx : 0 < xs.length) : ∃ v c',Zi n c xs = some (v,c') ∧ v ∈ xs ∧ c'.ok := by
 obtain ⟨v,c',e,e1,e2,e3⟩ := z6 n c (xs.length : Int) h
 obtain ⟨u,hu,hm⟩ := zDr (xs := xs) e1 (e2 (by omega))
 unfold Zi
 simp only [e,hu,bQ]
 exact ⟨_,_,rfl,hm,e3⟩
theorem zCV (n : Nat) (x0 : List Int) (h : x0.length ≤ 1048580) : ∀ (m k : Nat) (y : Int),k ≤ x0.length → x0.length < m + k → ∃ v,Qd n m x0 k y = some (.inl v)
 | 0,k,y,h1,h2 => by omega
 | m + 1,k,y,h1,h2 => by
  rw [Qd]
  by_cases hk : k < x0.length
  ·rw [qH hk,zB hk,zEe (by omega)]
   by_cases h4 : (k : Int) < 4000
   ·rw [tQ h4]
    simp only [cQ,bQ]
    exact zCV n x0 h m (k + 1) _ (by omega) (by omega)
   ·rw [dQ h4]
    exact ⟨_,rfl⟩
  ·have he : k = x0.length := by omega
   rw [he,zz]
   exact ⟨_,rfl⟩
theorem zHz (n : Nat) (x0 : List Int) (h : x0.length ≤ 1048580) (hn : x0.length < n) : ∃ c,zAW n x0 = some c ∧ c.ok := by
 obtain ⟨v,e⟩ := zCV n x0 h n 0 (IntKind.wrap .i64 (762762 + (x0.length : Int))) (by omega) (by omega)
 unfold zAW
 rw [show Qd n n x0 0 (IntKind.wrap .i64 (762762 + (x0.length : Int))) = _ from e]
 exact ⟨_,rfl,by show (0 : Int) ≤ 0; omega,by show x0.length ≤ _; omega⟩
theorem zGa (n : Nat) (x : zR) (p : Int) (hok : qW n x p = some true) : x.Rows.length ≤ 6 ∧ (x.Pv.length : Int) = p := by
 unfold qW at hok
 simp only [zJ,bQ] at hok
 revert hok
 cases (decide (1 ≤ p) && decide (p ≤ 6)) with
 | false => intro h; cases h
 | true =>
  simp only [nQ,fQ]
  by_cases hp : (x.Pv.length : Int) = p
  ·have : ((x.Pv.length : Int) != p) = false := by simp [hp]
   rw [this,fQ]
   by_cases hr : (x.Rows.length : Int) > 6
   ·rw [tQ hr]; intro h; cases h
   ·exact fun _ => ⟨by omega,hp⟩
  ·have : ((x.Pv.length : Int) != p) = true := by simp [hp]
   rw [this]; intro h; cases h
theorem qR {z : Int} (h0 : -1000000 ≤ z) (h1 : z ≤ 1000000) : zu z := by
 show (Lit.int .i64 z).wf = true
 simp [Lit.wf,show IntKind.wrap .i64 z = z from wQ]
 exact ⟨by show (-9223372036854775808 : Int) ≤ z; omega,by omega⟩
theorem iQ {z : Int} (h0 : -1000000 ≤ z := by omega) (h1 : z ≤ 1000000 := by omega) : zu z := qR h0 h1
def zCG (a : Int) (i : Nat) : Bool := (IntKind.wrap .i64 (BitVec.ofInt (IntKind.bits .i64) (Int.fdiv a (2 ^ min ((i : Int)).toNat (IntKind.bits .i64))) &&& BitVec.ofInt (IntKind.bits .i64) 1).toNat == 1)
theorem zFl (n : Nat) (a : Int) (i : Nat) (h : i ≤ 62) : zAf n a i = some (zCG a i) := by
 unfold zAf
 simp only [qb,zJ,bQ,tQ (show (0 : Int) ≤ (i : Int) by omega),tQ (show (i : Int) ≤ 62 by omega),Bool.and_self,cQ]
 rfl
theorem zBG (n : Nat) (a : Int) (i : Nat) (h : i ≤ 7) : zAX n a i = some (zCG a i) := by
 unfold zAX
 have hu : IntKind.wrap .u64 (i : Int) = i := zLv (by omega)
 simp only [zJ,bQ,tQ (show (0 : Int) ≤ (i : Int) by omega),tQ (show (i : Int) ≤ 7 by omega),Bool.and_self,cQ,hu]
 rfl
theorem zDC (n : Nat) (x : Net) (i j : Int) (h : QT n x i j = some true) : ∃ v p,idx x.Bs i = some v ∧ idx v.Ps j = some p ∧ p.Up = true ∧ i ≤ (IntKind.wrap .i64 ((x.Bs.length : Int) - 1)) ∧ j ≤ (IntKind.wrap .i64 ((v.Ps.length : Int) - 1)) ∧ 0 ≤ i ∧ 0 ≤ j := by
 unfold QT at h
 simp only [zJ,bQ] at h
 cases hc : (decide (0 ≤ i) && decide (i ≤ IntKind.wrap .i64 ((x.Bs.length : Int) - 1))) with
 | false => rw [hc] at h; cases h
 | true =>
  simp only [hc,cQ] at h
  obtain ⟨v,hv,h⟩ := bind_some h
  cases hd : (decide (0 ≤ j) && decide (j ≤ IntKind.wrap .i64 ((v.Ps.length : Int) - 1))) with
  | false => rw [hd] at h; cases h
  | true =>
   simp only [hd,cQ,hv,bQ] at h
   obtain ⟨p,hp,h⟩ := bind_some h
   simp only [Bool.and_eq_true,decide_eq_true_eq] at hc hd
   exact ⟨v,p,hv,hp,Option.some.inj h,hc.2,hd.2,hc.1,hd.1⟩
theorem zFo (n : Nat) (x : Net) (k : Int) (h : qp n x k = some true) : ∃ l a b p q,idx x.Ls k = some l ∧ idx x.Bs l.A = some a ∧ idx a.Ps l.P = some p ∧ p.Up = true ∧ idx x.Bs l.B = some b ∧ idx b.Ps l.Q = some q ∧ q.Up = true := by
 unfold qp at h
 simp only [zJ,bQ] at h
 cases hc : (decide (0 ≤ k) && decide (k ≤ IntKind.wrap .i64 ((x.Ls.length : Int) - 1))) with
 | false => rw [hc] at h; cases h
 | true =>
  simp only [hc,nQ,fQ] at h
  obtain ⟨l,hl,h⟩ := bind_some h
  obtain ⟨u,hu,h⟩ := bind_some h
  cases u with
  | false => cases h
  | true =>
   simp only [cQ] at h
   obtain ⟨u',hu',h⟩ := bind_some h
   have : u' = true := Option.some.inj h
   subst this
   obtain ⟨a,p,a1,a2,a3,_⟩ := zDC n x _ _ hu
   obtain ⟨b,q,b1,b2,b3,_⟩ := zDC n x _ _ hu'
   exact ⟨l,a,b,p,q,hl,a1,a2,a3,b1,b2,b3⟩
theorem Yi {α : Type} {xs : List α} {i : Int} {v : α} (h : idx xs i = some v) : 0 ≤ i ∧ i < xs.length := by
 obtain ⟨g1,g2⟩ := zF h
 have := (List.getElem?_eq_some_iff.1 g2).1
 omega
theorem Jt {c : Bool} {x : Option Bool} (h : (bif c then x else some false) = some true) : c = true ∧ x = some true := by
 cases c with
 | true => exact ⟨rfl,h⟩
 | false => cases h
theorem zGT {L : Nat → Int → Option (Unit ⊕ Bool)} {N : Nat} {P : Nat → Prop} (h0 : ∀ k,L 0 k = none) (hs : ∀ m (k : Nat) o,k < N → L (m + 1) (k : Int) = some o → o = .inr false ∨ (P k ∧ L m ((k + 1 : Nat) : Int) = some o)) (he : ∀ m o,L (m + 1) (N : Int) = some o → o = .inl ()) :
  ∀ (m k : Nat) o,k ≤ N → L m (k : Int) = some o → o = .inr false ∨ (o = .inl () ∧ ∀ j,k ≤ j → j < N → P j)
 | 0,k,o,_,h => by rw [h0] at h; cases h
 | m + 1,k,o,hk,h => by
  by_cases hlt : k < N
  ·rcases hs m k o hlt h with e | ⟨hp,h⟩
   ·exact .inl e
   ·rcases zGT h0 hs he m (k + 1) o (by omega) h with e | ⟨e,h2⟩
    ·exact .inl e
    ·refine .inr ⟨e,fun j hj hj2 => ?_⟩
     by_cases hjk : j = k
     ·subst hjk; exact hp
     ·exact h2 j (by omega) hj2
  ·have : k = N := by omega
   subst this
   exact .inr ⟨he m o h,fun j hj hj2 => by omega⟩
theorem zEZ (n : Nat) (x : zA) (hl : x.Ps.length ≤ 1048580) {o : Unit ⊕ Bool} (h : zi n n x 0 = some o) : o = .inr false ∨ (o = .inl () ∧ ∀ j (hj : j < x.Ps.length),qE n x.Ps[j] = some true) := by
 rcases zGT (L := fun m k => zi n m x k) (N := x.Ps.length) (P := fun j => ∀ hj : j < x.Ps.length,qE n x.Ps[j] = some true) (fun k => rfl) (fun m k o hk h => by
  simp only [zi] at h
  rw [qH hk,cQ,zB hk,bQ,vQ k] at h
  obtain ⟨b,hb⟩ := zD8 n x.Ps[k]
  rw [hb,bQ] at h
  cases b with
  | true => exact .inr ⟨fun _ => hb,h⟩
  | false => cases h; exact .inl rfl) (fun m o h => by
  simp only [zi] at h
  rw [zz] at h; cases h; rfl) n 0 o (by omega) h with e | ⟨e,h2⟩
 ·exact .inl e
 ·exact .inr ⟨e,fun j hj => h2 j (by omega) hj hj⟩
theorem zt (n : Nat) (x : zA) (hl : x.Ps.length ≤ 1048580) (h : zN n x = some true) : 1 ≤ x.Ps.length ∧ x.Ps.length ≤ 6 ∧ 1 ≤ x.Id ∧ x.Id ≤ 99 ∧ x.Name.size ≤ 10 ∧ ZK n x.F = some true ∧ qW n x.V (x.Ps.length : Int) = some true ∧
  (0 ≤ x.Tk ∧ x.Tk ≤ 1000000) ∧ (0 ≤ x.Pa ∧ x.Pa ≤ 1000000) ∧ (0 ≤ x.Wo ∧ x.Wo ≤ 1000000) ∧ (0 ≤ x.Dr ∧ x.Dr ≤ 1000000) ∧ (0 ≤ x.Ve ∧ x.Ve ≤ 1000000) ∧ ∀ j (hj : j < x.Ps.length),qE n x.Ps[j] = some true := by
 unfold zN at h
 obtain ⟨o,ho,h⟩ := bind_some h
 rcases zEZ n x hl ho with rfl | ⟨rfl,hp⟩
 ·cases h
 ·simp only [QI,Q1,zJ,bQ] at h
  obtain ⟨h1,h⟩ := Jt h
  obtain ⟨h2,h⟩ := Jt h
  obtain ⟨h3,h⟩ := Jt h
  obtain ⟨b4,h4,h⟩ := bind_some h
  obtain ⟨rfl,h⟩ := Jt h
  obtain ⟨b5,h5,h⟩ := bind_some h
  obtain ⟨rfl,h⟩ := Jt h
  obtain ⟨b6,h6,h⟩ := bind_some h
  cases h
  obtain ⟨h7,h6⟩ := Jt h6
  obtain ⟨h8,h6⟩ := Jt h6
  obtain ⟨h9,h6⟩ := Jt h6
  obtain ⟨h10,h6⟩ := Jt h6
  have h11 := Option.some.inj h6
  simp only [Bool.and_eq_true,decide_eq_true_eq] at h1 h2 h3 h7 h8 h9 h10 h11
  exact ⟨by omega,by omega,h1.1,h1.2,by omega,h4,h5,h7,h8,h9,h10,h11,hp⟩
theorem zEm (n : Nat) (z : Int) (h0 : 0 ≤ z) (h1 : z ≤ 1000000) : ∃ y,YS n z = some y ∧ zCc n z = some y ∧ 0 ≤ y ∧ y ≤ 1000000 := by
 unfold YS zCc
 rw [wQ]
 by_cases h : z ≥ 1000000
 ·rw [tQ h,if_pos (by omega)]; exact ⟨z,rfl,by rw [show z = 1000000 by omega],h0,h1⟩
 ·rw [dQ h,if_neg (by omega)]; exact ⟨_,rfl,rfl,by omega,by omega⟩
theorem zE4 {α β : Type} {p : α → Bool} {L : Nat → Int → List α → Option (List α ⊕ β)} (xs : List α) (hx : xs.length ≤ 134217728)
  (h : ∀ m (k : Nat) (acc : List α) (hk : k < xs.length),acc.length ≤ k → L (m + 1) k acc = L m ((k + 1 : Nat) : Int) (acc ++ if p xs[k] then [xs[k]] else [])) (he : ∀ m (acc : List α),L (m + 1) (xs.length : Int) acc = some (.inl acc)) :
  ∀ (m k : Nat) (acc : List α),k ≤ xs.length → xs.length < m + k → acc.length ≤ k → L m k acc = some (.inl (acc ++ (xs.drop k).filter p))
 | 0,k,acc,h1,h2,h3 => by omega
 | m + 1,k,acc,h1,h2,h3 => by
  by_cases hk : k < xs.length
  ·rw [h m k acc hk h3,zE4 xs hx h he m (k + 1) _ (by omega) (by omega) (by split <;> simp <;> omega),List.drop_eq_getElem_cons hk,List.filter_cons,List.append_assoc]
   split <;> simp
  ·have : k = xs.length := by omega
   subst this
   rw [he m acc]
   simp
theorem Ji (n : Nat) (xs : List zC) (p : Int) (h : xs.length ≤ 134217728) (hn : xs.length < n) : Yp n xs p = some (xs.filter fun v => v.Sc || v.Port != p) := by
 have := zE4 (p := fun v : zC => v.Sc || v.Port != p) (L := fun m k acc => qg n m xs p k acc) xs h (fun m k acc hk ha => by
  simp only [qg]
  rw [qH hk,cQ,zB hk,bQ,vQ k]
  have hg : ∀ v : zC,decide (acc.length + [v].length ≤ 268435456) = true := fun v => tQ (by simp; omega)
  simp only [bQ,hg,cQ]
  cases hs : xs[k].Sc <;> cases hq : (xs[k].Port != p) <;> simp [hs,hq]) (fun m acc => by simp only [qg]; rw [zz]; rfl) n 0 [] (by omega) (by omega) (by simp)
 unfold Yp
 rw [show qg n n xs p 0 [] = _ from this]
 simp [Q8]
theorem zEu (n : Nat) (xs : List zC) (p : Int) (h : xs.length ≤ 134217728) (hn : xs.length < n) : zA1 n xs p = some (xs.filter fun v => v.Sc || v.Port != p) := by
 have := zE4 (p := fun v : zC => v.Sc || v.Port != p) (L := fun m k acc => ZP n m xs p k acc) xs h (fun m k acc hk ha => by
  simp only [ZP]
  rw [qH hk,cQ,zB hk,bQ,vQ k]
  have hg : ∀ v : zC,decide (acc.length + [v].length ≤ 268435456) = true := fun v => tQ (by simp; omega)
  simp only [bQ,hg,cQ]
  cases hs : xs[k].Sc <;> cases hq : (xs[k].Port != p) <;> simp [hs,hq]) (fun m acc => by simp only [ZP]; rw [zz]; rfl) n 0 [] (by omega) (by omega) (by simp)
 unfold zA1
 rw [show ZP n n xs p 0 [] = _ from this]
 simp [zCP]
theorem JW (n : Nat) (bits : Int) (x : zA) (h : x.Ps.length ≤ 6) : ∀ (m k : Nat) (ys : List zC),k ≤ x.Ps.length → x.Ps.length < m + k → ys.length ≤ 134217728 → ys.length < n → ∃ zs : List zC,qJ n m bits x k ys = some (.inl zs) ∧ Z3 n m bits x k ys = some (.inl zs) ∧ zs.length ≤ ys.length ∧ (∀ v ∈ zs,v ∈ ys) ∧ ∀ v ∈ zs,v.Sc = true ∨ ∀ j : Nat,k ≤ j → j < x.Ps.length → zCG bits j = false → v.Port ≠ j
 | 0,k,ys,h1,h2,h3,h4 => by omega
 | m + 1,k,ys,h1,h2,h3,h4 => by
  rw [qJ,Z3]
  by_cases hk : k < x.Ps.length
  ·rw [qH hk,cQ,cQ,zBG n bits k (by omega),zFl n bits k (by omega),bQ,bQ,vQ k,Ji n ys _ h3 h4,zEu n ys _ h3 h4]
   cases hb : zCG bits k with
   | true =>
    simp only [nQ,fQ]
    obtain ⟨zs,e1,e2,e3,e4,e5⟩ := JW n bits x h m (k + 1) ys (by omega) (by omega) h3 h4
    refine ⟨zs,e1,e2,e3,e4,fun v hv => (e5 v hv).imp id fun h5 j hj hj2 hj3 => ?_⟩
    by_cases hjk : j = k
    ·subst hjk; rw [hb] at hj3; cases hj3
    ·exact h5 j (by omega) hj2 hj3
   | false =>
    simp only [Bool.not_false,cQ,bQ]
    have hle := List.length_filter_le (fun v : zC => v.Sc || v.Port != (k : Int)) ys
    obtain ⟨zs,e1,e2,e3,e4,e5⟩ := JW n bits x h m (k + 1) (ys.filter fun v => v.Sc || v.Port != (k : Int)) (by omega) (by omega) (by omega) (by omega)
    refine ⟨zs,e1,e2,by omega,fun v hv => (List.mem_filter.1 (e4 v hv)).1,fun v hv => ?_⟩
    have hf := (List.mem_filter.1 (e4 v hv)).2
    rcases e5 v hv with h5 | h5
    ·exact .inl h5
    ·cases hs : v.Sc with
     | true => exact .inl rfl
     | false =>
      refine .inr fun j hj hj2 hj3 => ?_
      by_cases hjk : j = k
      ·subst hjk; rw [hs] at hf; simpa using hf
      ·exact h5 j (by omega) hj2 hj3
  ·have he : k = x.Ps.length := by omega
   subst he
   rw [zz]
   exact ⟨ys,rfl,rfl,Nat.le_refl _,fun v hv => hv,fun v hv => .inr fun j hj hj2 => by omega⟩
theorem zEb (n : Nat) (x : zA) (h : x.Ps.length ≤ 6) (hf : x.F.length ≤ 134217728) (hn : x.F.length < n) (hn6 : 6 < n) (hv0 : 0 ≤ x.Ve) (hv1 : x.Ve ≤ 1000000) : ∃ (zs : List zC) (v b : Int),qm n x = some ⟨x.Id,x.Name,x.Ps,zs,x.V,x.Tk,x.Pa,x.Wo,x.Dr,v⟩ ∧ ZO n x = some ⟨x.Id,x.Name,x.Ps,zs,x.V,x.Tk,x.Pa,x.Wo,x.Dr,v⟩ ∧
  zs.length ≤ x.F.length ∧ (∀ u ∈ zs,u ∈ x.F) ∧ 0 ≤ v ∧ v ≤ 1000000 ∧ Zf n x.Id x.Ps = some b ∧ ∀ u ∈ zs,u.Sc = true ∨ ∀ j : Nat,j < x.Ps.length → zCG b j = false → u.Port ≠ j := by
 obtain ⟨v,h1,h2,h3,h4⟩ := zEm n x.Ve hv0 hv1
 obtain ⟨e,b,hb⟩ := zGY n x.Id x.Ps (by omega) (by omega)
 obtain ⟨zs,k1,k2,k3,k4,k5⟩ := JW n b x h n 0 x.F (by omega) (by omega) hf hn
 refine ⟨zs,v,b,?_,?_,k3,k4,h3,h4,hb,fun u hu => (k5 u hu).imp id fun h5 j hj => h5 j (by omega) hj⟩
 ·unfold qm
  rw [h1,bQ,hb,bQ,show qJ n n b x 0 x.F = _ from k1]
  rfl
 ·unfold ZO
  rw [h2,bQ,e,hb,bQ,show Z3 n n b x 0 x.F = _ from k2]
  rfl
theorem YR (n : Nat) (x : zA) (h : x.sz ≤ 268435456) : QD n x = some x := by
 have hs : x.Name.size + x.Ps.length + x.F.length + x.V.sz = x.sz := rfl
 unfold QD zBF
 rw [zHP n x.V (by omega),tQ (by simp; omega),tQ (by simp; omega)]
 rfl
theorem Qe (n : Nat) (x : zA) (h : x.sz ≤ 268435456) : QG n x = some x := by
 have hs : x.Name.size + x.Ps.length + x.F.length + x.V.sz = x.sz := rfl
 unfold QG zEl
 rw [zFk n x.V (by omega),tQ (by simp; omega),tQ (by simp; omega)]
 rfl
theorem J4 (n : Nat) (x : zA) (p : Int) (b : Bool) (hb : zN n x = some b) (hl : x.Ps.length ≤ 1048580) : YH n x p = some (b && (decide (0 ≤ p) && decide (p < x.Ps.length))) := by
 unfold YH
 rw [hb,bQ,zJ,wQ]
 have : decide (p ≤ (x.Ps.length : Int) - 1) = decide (p < x.Ps.length) := by
  by_cases h : p < x.Ps.length
  ·rw [tQ h,tQ (by omega)]
  ·rw [dQ h,dQ (by omega)]
 rw [this]
 cases b <;> rfl
theorem zAo (n : Nat) (x : zA) (p : Int) (b : Bool) (hb : YE n x = some b) (hl : x.Ps.length ≤ 1048580) : zA6 n x p = some (b && (decide (0 ≤ p) && decide (p < x.Ps.length))) := by
 unfold zA6
 rw [hb,bQ,qb,zJ,wQ]
 have : decide (p ≤ (x.Ps.length : Int) - 1) = decide (p < x.Ps.length) := by
  by_cases h : p < x.Ps.length
  ·rw [tQ h,tQ (by omega)]
  ·rw [dQ h,dQ (by omega)]
 rw [this]
 cases b <;> rfl
theorem zEr (n : Nat) (x : zA) (hn : 1048577 < n) (hx : x.sz ≤ 1048576) (hb : zN n x = some true) (ps : List Pt) (hp : ps.length = x.Ps.length) (fs : List zC) (hf : fs.length ≤ x.F.length) (t : Int) : ∃ (zs : List zC) (v b : Int),qm n ⟨x.Id,x.Name,ps,fs,x.V,t,x.Pa,x.Wo,x.Dr,x.Ve⟩ = some ⟨x.Id,x.Name,ps,zs,x.V,t,x.Pa,x.Wo,x.Dr,v⟩ ∧
  ZO n ⟨x.Id,x.Name,ps,fs,x.V,t,x.Pa,x.Wo,x.Dr,x.Ve⟩ = some ⟨x.Id,x.Name,ps,zs,x.V,t,x.Pa,x.Wo,x.Dr,v⟩ ∧ zs.length ≤ fs.length ∧ (∀ u ∈ zs,u ∈ fs) ∧ 0 ≤ v ∧ v ≤ 1000000 ∧ Zf n x.Id ps = some b ∧ ∀ u ∈ zs,u.Sc = true ∨ ∀ j : Nat,j < ps.length → zCG b j = false → u.Port ≠ j := by
 have hs : x.Name.size + x.Ps.length + x.F.length + x.V.sz = x.sz := rfl
 obtain ⟨p1,p2,p3,p4,p5,p6,p7,p8,p9,p10,p11,p12,p13⟩ := zt n x (by omega) hb
 exact zEb n ⟨x.Id,x.Name,ps,fs,x.V,t,x.Pa,x.Wo,x.Dr,x.Ve⟩ (by simp only; omega) (by simp only; omega) (by simp only; omega) (by omega) p12.1 p12.2
theorem zBJ (n : Nat) (xs : List zC) (h : xs.length ≤ 134217728) (ha : ∀ v ∈ xs,0 ≤ v.Age ∧ v.Age ≤ 1000) : ∀ (m k : Nat) (acc : List zC),k ≤ xs.length → xs.length < m + k → acc.length ≤ k → ∃ zs,ql n m xs k acc = some (.inl zs) ∧ Qf n m xs k acc = some (.inl zs) ∧ zs.length ≤ xs.length
 | 0,k,acc,h1,h2,h3 => by omega
 | m + 1,k,acc,h1,h2,h3 => by
  rw [ql,Qf]
  by_cases hk : k < xs.length
  ·rw [qH hk,cQ,cQ,zB hk,bQ,bQ,vQ k]
   have hg : ∀ v : zC,decide (acc.length + [v].length ≤ 268435456) = true := fun v => tQ (by simp; omega)
   simp only [hg,cQ]
   have ih := fun acc' h3' => zBJ n xs h ha m (k + 1) acc' (by omega) (by omega) h3'
   cases hs : xs[k].Sc with
   | true =>
    simp only [nQ,cQ,fQ]
    exact ih (acc ++ [xs[k]]) (by simp; omega)
   | false =>
    simp only [Bool.not_false,cQ,fQ]
    by_cases hl : xs[k].Age < 4
    ·rw [tQ hl,dQ (by omega : ¬ xs[k].Age ≥ 4)]
     exact ih _ (by simp; omega)
    ·rw [dQ hl,tQ (by omega : xs[k].Age ≥ 4)]
     exact ih _ (by omega)
  ·have he : k = xs.length := by omega
   subst he
   rw [zz]
   exact ⟨acc,rfl,rfl,by omega⟩
theorem zFm (n : Nat) (xs : List zC) (h : xs.length ≤ 134217728) (hn : xs.length < n) (ha : ∀ v ∈ xs,0 ≤ v.Age ∧ v.Age ≤ 1000) : ∃ zs,YP n xs = some zs ∧ zCs n xs = some zs ∧ zs.length ≤ xs.length := by
 obtain ⟨zs,h1,h2,h3⟩ := zBJ n xs h ha n 0 [] (by omega) (by omega) (by simp)
 refine ⟨zs,?_,?_,h3⟩
 ·unfold YP; rw [show ql n n xs 0 [] = _ from h1]; rfl
 ·unfold zCs; rw [show Qf n n xs 0 [] = _ from h2]; rfl
theorem zDS (n : Nat) (xs : List zC) (h : xs.length ≤ 1048580) (hok : ZK n xs = some true) : xs.length ≤ 12 ∧ (∀ j (hj : j < xs.length),Zk n xs[j] = some true) ∧ ∀ j (hj : j + 1 < xs.length),Zj n xs[j] xs[j + 1].Tag xs[j + 1].Mac = some true := by
 unfold ZK at hok
 obtain ⟨o,ho,hok⟩ := bind_some hok
 rcases zGT (L := fun m k => qN n m xs k) (N := xs.length) (P := fun k => ∀ hk : k < xs.length,Zk n xs[k] = some true ∧ ∀ j (e : k = j + 1),Zj n (xs[j]'(by omega)) xs[k].Tag xs[k].Mac = some true) (fun k => rfl) (fun m k o hk h => by
  simp only [qN] at h
  rw [qH hk,cQ,zB hk,bQ,vQ k] at h
  obtain ⟨b,hb⟩ := zDV n xs[k]
  rw [hb,bQ] at h
  cases b with
  | false => cases h; exact .inl rfl
  | true =>
   simp only [nQ,fQ] at h
   cases k with
   | zero => exact .inr ⟨fun _ => ⟨hb,fun j e => by omega⟩,h⟩
   | succ k =>
    have hw2 : IntKind.wrap .i64 (((k + 1 : Nat) : Int) - 1) = (k : Int) := by rw [wQ]; omega
    have hpos : decide (((k + 1 : Nat) : Int) > 0) = true := tQ (by omega)
    rw [hpos,hw2,cQ,zB (show k < xs.length by omega),bQ,bQ,bQ] at h
    obtain ⟨c,hc⟩ := zCW n (xs[k]'(by omega)) xs[k + 1].Tag xs[k + 1].Mac
    rw [hc,bQ] at h
    cases c with
    | false => cases h; exact .inl rfl
    | true => exact .inr ⟨fun _ => ⟨hb,fun j e => (show k = j by omega) ▸ hc⟩,h⟩) (fun m o h => by
  simp only [qN] at h
  rw [zz] at h; cases h; rfl) n 0 o (by omega) ho with rfl | ⟨rfl,hp⟩
 ·cases hok
 ·have h12 := of_decide_eq_true (Option.some.inj hok)
  exact ⟨by omega,fun j hj => (hp j (by omega) hj hj).1,fun j hj => (hp (j + 1) (by omega) hj hj).2 j rfl⟩
theorem zHO (n : Nat) (v : zC) (h : Zk n v = some true) : (1 ≤ v.Tag ∧ v.Tag ≤ 99) ∧ (1 ≤ v.Mac ∧ v.Mac ≤ 9999) ∧ (0 ≤ v.Port ∧ v.Port ≤ 7) ∧ (0 ≤ v.Age ∧ v.Age ≤ 4) ∧ (v.Sc = true → v.Age = 0) := by
 unfold Zk at h
 simp only [zJ,bQ] at h
 obtain ⟨h1,h⟩ := Jt h
 obtain ⟨h2,h⟩ := Jt h
 obtain ⟨h3,h⟩ := Jt h
 obtain ⟨h4,h⟩ := Jt h
 simp only [Bool.and_eq_true,decide_eq_true_eq] at h1 h2 h3 h4
 refine ⟨h1,h2,h3,h4,fun hs => ?_⟩
 rw [hs] at h
 simpa using h
def Js (x : Net) (l : List Int) (k : Nat) (S : Int → Prop) : Prop := ∀ (j : Nat) z lk,k ≤ j → l[j]? = some z → idx x.Ls z = some lk → 0 ≤ lk.A → lk.A < x.Bs.length → 0 ≤ lk.B → lk.B < x.Bs.length → (S lk.A ↔ S lk.B)
theorem Qn (n : Nat) (z : Int) (N : Nat) (h : N ≤ 1048600) : zL n z 0 (IntKind.wrap .i64 ((N : Int) - 1)) = some (decide (0 ≤ z ∧ z < N)) := by
 rw [zJ,wQ]
 by_cases h : 0 ≤ z ∧ z < N
 ·rw [tQ h,tQ h.1,tQ (by omega)]; rfl
 ·rw [dQ h]
  congr 1
  simp only [Bool.and_eq_false_iff,decide_eq_false_iff_not]; omega
def qu (met : List Bool) (z : Int) : Prop := 0 ≤ z ∧ met[z.toNat]? = some true
theorem zHc {met : List Bool} {z : Int} (h0 : 0 ≤ z) (h1 : z < met.length) : ∃ b,idx met z = some b ∧ (qu met z ↔ b = true) := by
 obtain ⟨j,rfl⟩ := Int.eq_ofNat_of_zero_le h0
 have hj : j < met.length := by omega
 refine ⟨met[j],zB hj,?_⟩
 simp [qu,hj]
theorem zD1 {met : List Bool} {i z : Int} (h0 : 0 ≤ i) (h1 : i < met.length) : qu (met.set i.toNat true) z ↔ z = i ∨ qu met z := by
 obtain ⟨j,rfl⟩ := Int.eq_ofNat_of_zero_le h0
 have hj : j < met.length := by omega
 unfold qu
 simp only [Int.toNat_natCast]
 by_cases hz : z = (j : Int)
 ·subst hz
  simp [hj]
 ·constructor
  ·rintro ⟨a,b⟩
   rw [List.getElem?_set_ne (by omega)] at b
   exact .inr ⟨a,b⟩
  ·rintro (e | ⟨a,b⟩)
   ·exact absurd e hz
   ·exact ⟨a,by rw [List.getElem?_set_ne (by omega)]; exact b⟩
theorem zBY : ∀ (met : List Bool) (j : Nat),met[j]? = some false → (met.set j true).count true = met.count true + 1
 | [],j,h => by simp at h
 | b :: met,0,h => by
  simp only [List.getElem?_cons_zero,Option.some.injEq] at h
  subst h
  simp
 | b :: met,j + 1,h => by
  simp only [List.getElem?_cons_succ] at h
  have := zBY met j h
  simp only [List.set_cons_succ,List.count_cons,this]
  omega
theorem zCN : ∀ (met : List Bool) (j : Nat),met[j]? = some true → met.set j true = met
 | [],j,h => by simp
 | b :: met,0,h => by
  simp only [List.getElem?_cons_zero,Option.some.injEq] at h
  subst h; rfl
 | b :: met,j + 1,h => by
  simp only [List.getElem?_cons_succ] at h
  simp only [List.set_cons_succ,zCN met j h]
theorem zAM (n : Nat) (x : Net) (l : List Int) (hl : l.length ≤ 1048590) (hN : x.Bs.length ≤ 1048576) (hK : x.Ls.length ≤ 1048600) : ∀ (m k : Nat) (more : Bool) (met : List Bool),k ≤ l.length → l.length < m + k → met.length = x.Bs.length →
  ∃ (more' : Bool) (met' : List Bool),qZ n m x l k more met = some (.inl (more',met')) ∧ met'.length = x.Bs.length ∧ (∀ z,qu met z → qu met' z) ∧ (∀ S : Int → Prop,Js x l k S → (∀ z,qu met z → S z) → ∀ z,qu met' z → S z) ∧ met.count true ≤ met'.count true ∧
   (more = true → more' = true) ∧ (more' = true → more = true ∨ met.count true < met'.count true) ∧ (more' = false → met' = met ∧ Js x l k (qu met))
 | 0,k,more,met,h1,h2,h3 => by omega
 | m + 1,k,more,met,h1,h2,h3 => by
  rw [qZ]
  by_cases hk : k < l.length
  ·have hget : l[k]? = some l[k] := List.getElem?_eq_getElem hk
   rw [qH hk,cQ,zB hk,bQ,qb,Qn n _ _ hK,bQ,vQ k]
   have skip : (∀ lk,idx x.Ls l[k] = some lk → 0 ≤ lk.A → lk.A < x.Bs.length → 0 ≤ lk.B → lk.B < x.Bs.length → (qu met lk.A ↔ qu met lk.B)) → ∃ (more' : Bool) (met' : List Bool),qZ n m x l ((k + 1 : Nat) : Int) more met = some (.inl (more',met')) ∧ met'.length = x.Bs.length ∧ (∀ z,qu met z → qu met' z) ∧ (∀ S : Int → Prop,Js x l k S → (∀ z,qu met z → S z) → ∀ z,qu met' z → S z) ∧ met.count true ≤ met'.count true ∧
     (more = true → more' = true) ∧ (more' = true → more = true ∨ met.count true < met'.count true) ∧ (more' = false → met' = met ∧ Js x l k (qu met)) := by
    intro hc
    obtain ⟨mo,met',e1,e2,e3,e4,e5,e8,e6,e7⟩ := zAM n x l hl hN hK m (k + 1) more met (by omega) (by omega) h3
    refine ⟨mo,met',e1,e2,e3,fun S hS => e4 S fun j z lk hj => hS j z lk (by omega),e5,e8,e6,fun hf => ⟨(e7 hf).1,fun j z lk hj hz hlk a0 a1 b0 b1 => ?_⟩⟩
    by_cases hjk : j = k
    ·subst hjk; rw [hget] at hz; cases hz; exact hc lk hlk a0 a1 b0 b1
    ·exact (e7 hf).2 j z lk (by omega) hz hlk a0 a1 b0 b1
   by_cases hr : 0 ≤ l[k] ∧ l[k] < x.Ls.length
   ·obtain ⟨j,hj⟩ := Int.eq_ofNat_of_zero_le hr.1
    have hi : idx x.Ls l[k] = some (x.Ls[j]'(by omega)) := by rw [hj]; exact zB (by omega)
    generalize x.Ls[j]'(by omega) = lk at hi
    rw [tQ hr,hi]
    simp only [nQ,fQ,bQ,Qn n _ _ (show met.length ≤ 1048600 by omega)]
    by_cases hA : 0 ≤ lk.A ∧ lk.A < met.length
    ·by_cases hB : 0 ≤ lk.B ∧ lk.B < met.length
     ·obtain ⟨a,ha,ha2⟩ := zHc hA.1 hA.2
      obtain ⟨b,hb,hb2⟩ := zHc hB.1 hB.2
      rw [tQ hA,tQ hB]
      simp only [cQ,bQ,ha,hb,Zm]
      by_cases hab : a = b
      ·subst hab
       simp only [beq_self_eq_true,nQ,fQ,vQ k]
       exact skip fun lk' hlk' _ _ _ _ => by rw [hi] at hlk'; cases hlk'; rw [ha2,hb2]
      ·have : (!(a == b)) = true := by simpa using hab
       obtain ⟨a',ha'⟩ : ∃ c,idx (met.set lk.A.toNat true) lk.B = some c := by
        obtain ⟨c,hc,_⟩ := zHc (met := met.set lk.A.toNat true) hB.1 (by simpa using hB.2)
        exact ⟨c,hc⟩
       rw [this]
       simp only [cQ,bQ,ha',vQ k]
       obtain ⟨mo,met',e1,e2,e3,e4,e5,e8,e6,e7⟩ := zAM n x l hl hN hK m (k + 1) true ((met.set lk.A.toNat true).set lk.B.toNat true) (by omega) (by omega) (by simpa using h3)
       have hcnt : met.count true < ((met.set lk.A.toNat true).set lk.B.toNat true).count true := by
        obtain ⟨jA,eA⟩ := Int.eq_ofNat_of_zero_le hA.1
        obtain ⟨jB,eB⟩ := Int.eq_ofNat_of_zero_le hB.1
        have gA := (zF ha).2
        have gB := (zF hb).2
        rw [eA] at gA; rw [eB] at gB
        rw [eA,eB]
        simp only [Int.toNat_natCast] at gA gB ⊢
        cases a with
        | true =>
         cases b with
         | true => exact absurd rfl hab
         | false =>
          rw [zCN met jA gA,zBY met jB gB]; omega
        | false =>
         cases b with
         | false => exact absurd rfl hab
         | true =>
          have hne : jA ≠ jB := fun e => by subst e; rw [gA] at gB; cases gB
          rw [zCN _ jB (by rw [List.getElem?_set_ne hne]; exact gB),zBY met jA gA]; omega
       have hmem : ∀ z,qu met z → qu ((met.set lk.A.toNat true).set lk.B.toNat true) z := fun z hz => (zD1 hB.1 (by simpa using hB.2)).2 (.inr ((zD1 hA.1 hA.2).2 (.inr hz)))
       refine ⟨mo,met',e1,e2,fun z hz => e3 z (hmem z hz),fun S hS hy => e4 S (fun j z lk hj => hS j z lk (by omega)) (fun z hz => ?_),by omega,fun _ => e8 rfl,fun _ => .inr (by omega),fun hf => ?_⟩
       ·have hcl := hS k _ lk (Nat.le_refl _) hget hi hA.1 (by omega) hB.1 (by omega)
        have hany : S lk.A ∧ S lk.B := by
         cases a with
         | true => have := hy _ (ha2.2 rfl); exact ⟨this,hcl.1 this⟩
         | false =>
          cases b with
          | false => exact absurd rfl hab
          | true => have := hy _ (hb2.2 rfl); exact ⟨hcl.2 this,this⟩
        rcases (zD1 hB.1 (by simpa using hB.2)).1 hz with e | hz
        ·subst e; exact hany.2
        ·rcases (zD1 hA.1 hA.2).1 hz with e | hz
         ·subst e; exact hany.1
         ·exact hy z hz
       ·rw [e8 rfl] at hf; cases hf
     ·rw [tQ hA,dQ hB]
      simp only [cQ,fQ,bQ,Zm,vQ k]
      exact skip fun lk' hlk' _ _ b0 b1 => by rw [hi] at hlk'; cases hlk'; exact absurd ⟨b0,by omega⟩ hB
    ·rw [dQ hA]
     simp only [fQ,bQ,Zm,vQ k]
     exact skip fun lk' hlk' a0 a1 _ _ => by rw [hi] at hlk'; cases hlk'; exact absurd ⟨a0,by omega⟩ hA
   ·rw [dQ hr]
    simp only [Bool.not_false,cQ]
    exact skip fun lk hlk => by have := Yi hlk; exact absurd ⟨this.1,by omega⟩ hr
  ·have he : k = l.length := by omega
   subst he
   rw [zz]
   refine ⟨more,met,rfl,h3,fun z h => h,fun S _ h => h,Nat.le_refl _,fun h => h,fun h => .inl h,fun _ => ⟨rfl,fun j z lk hj hz => ?_⟩⟩
   rw [List.getElem?_eq_none (by omega)] at hz; cases hz
theorem zCQ (n : Nat) (x : Net) (l : List Int) (hl : l.length ≤ 1048590) (hn : 1048600 < n) (hN : x.Bs.length ≤ 1048576) (hK : x.Ls.length ≤ 1048600) : ∀ (m : Nat) (more : Bool) (met : List Bool),x.Bs.length + 2 ≤ m + met.count true + (if more then 0 else 1) → met.length = x.Bs.length → (more = false → Js x l 0 (qu met)) →
  ∃ met' : List Bool,Zp n m x l more met = some (.inl met') ∧ met'.length = x.Bs.length ∧ (∀ z,qu met z → qu met' z) ∧ (∀ S : Int → Prop,Js x l 0 S → (∀ z,qu met z → S z) → ∀ z,qu met' z → S z) ∧ Js x l 0 (qu met')
 | 0,more,met,h1,h2,h3 => by
  have := List.count_le_length (a := true) (l := met)
  split at h1 <;> omega
 | m + 1,more,met,h1,h2,h3 => by
  rw [Zp]
  cases more with
  | false => exact ⟨met,rfl,h2,fun z h => h,fun S _ h => h,h3 rfl⟩
  | true =>
   obtain ⟨mo,met',e1,e2,e3,e4,e5,e8,e6,e7⟩ := zAM n x l hl hN hK n 0 false met (by omega) (by omega) h2
   rw [cQ,show qZ n n x l 0 false met = _ from e1,bQ]
   simp only [JA]
   simp only [if_true] at h1
   obtain ⟨us,f1,f2,f3,f4,f5⟩ := zCQ n x l hl hn hN hK m mo met' (by
    cases mo with
    | true => have := (e6 rfl).resolve_left (by simp); simp only [if_true]; omega
    | false => simp only [Bool.false_eq_true,if_false]; omega) e2 (fun hf => by have := e7 hf; rw [this.1]; exact this.2)
   exact ⟨us,f1,f2,fun z hz => f3 z (e3 z hz),fun S hS hy => f4 S hS (e4 S hS hy),f5⟩
theorem Jw (n : Nat) (met : List Bool) (hN : met.length ≤ 1048576) : ∀ (m k : Nat) (acc : List Int),k ≤ met.length → met.length < m + k → acc.length ≤ k → Zo n m met k acc = some (.inl (acc ++ ((List.range' k (met.length - k)).filter fun j : Nat => met[j]? == some true).map fun j : Nat => (j : Int)))
 | 0,k,acc,h1,h2,h3 => by omega
 | m + 1,k,acc,h1,h2,h3 => by
  rw [Zo]
  by_cases hk : k < met.length
  ·have hr : List.range' k (met.length - k) = k :: List.range' (k + 1) (met.length - (k + 1)) := by
    rw [show met.length - k = (met.length - (k + 1)) + 1 by omega,List.range'_succ]
   rw [qH hk,cQ,zB hk,bQ,tQ (by simp; omega),cQ,vQ k,hr]
   cases hm : met[k] with
   | true =>
    rw [cQ,Jw n met hN m (k + 1) _ (by omega) (by omega) (by simp; omega)]
    simp [hm,hk]
   | false =>
    rw [fQ,Jw n met hN m (k + 1) _ (by omega) (by omega) (by omega)]
    simp [hm,hk]
  ·have he : k = met.length := by omega
   subst he
   rw [zz]; simp
def qC (b p : Int) (l : Link) : Bool := (l.A == b && l.P == p) || (l.B == b && l.Q == p)
def qO (b p : Int) (l : Link) : Nat := (bif l.A == b && l.P == p then 1 else 0) + (bif l.B == b && l.Q == p then 1 else 0)
theorem QE {b p : Int} {l : Link} : qC b p l = true ↔ (l.A = b ∧ l.P = p) ∨ (l.B = b ∧ l.Q = p) := by simp [qC]
theorem zBX {b p : Int} {l : Link} : qC b p l = true ↔ 0 < qO b p l := by
 unfold qC qO
 cases l.A == b <;> cases l.P == p <;> cases l.B == b <;> cases l.Q == p <;> simp
def qG {α : Type} (f : α → Nat) : List α → Nat
 | [] => 0
 | x :: xs => f x + qG f xs
theorem zBp {α : Type} (f : α → Nat) : ∀ (xs ys : List α),qG f (xs ++ ys) = qG f xs + qG f ys
 | [],ys => by simp [qG]
 | x :: xs,ys => by simp only [List.cons_append,qG,zBp f xs ys]; omega
theorem zFV {α : Type} (f : α → Nat) : ∀ (xs : List α),(∀ x ∈ xs,f x = 0) → qG f xs = 0
 | [],_ => rfl
 | x :: xs,h => by rw [qG,h x (by simp),zFV f xs (fun y hy => h y (by simp [hy]))]
theorem zEd {α : Type} (f : α → Nat) : ∀ (xs : List α) (x : α),x ∈ xs → f x ≤ qG f xs
 | y :: xs,x,h => by
  rcases List.mem_cons.1 h with e | h
  ·subst e; rw [qG]; omega
  ·have := zEd f xs x h; rw [qG]; omega
theorem zGe {α : Type} (f : α → Nat) (xs : List α) (i j : Nat) (hij : i < j) (hj : j < xs.length) : f (xs[i]'(by omega)) + f xs[j] ≤ qG f xs := by
 have e : xs = xs.take j ++ xs.drop j := (List.take_append_drop j xs).symm
 have h1 : f (xs[i]'(by omega)) ≤ qG f (xs.take j) := zEd f _ _ (by
  have : (xs.take j)[i]? = some (xs[i]'(by omega)) := by rw [List.getElem?_take,if_pos hij]; exact List.getElem?_eq_getElem _
  exact List.mem_of_getElem? this)
 have h2 : f xs[j] ≤ qG f (xs.drop j) := zEd f _ _ (List.drop_eq_getElem_cons hj ▸ List.mem_cons_self)
 have h3 := zBp f (xs.take j) (xs.drop j)
 rw [← e] at h3
 omega
theorem zLj {α : Type} (f : α → Nat) (xs : List α) (k : Nat) (hk : k < xs.length) (h : ∀ j (hj : j < xs.length),j ≠ k → f xs[j] = 0) : qG f xs = f xs[k] := by
 have e : xs = xs.take k ++ xs[k] :: xs.drop (k + 1) := by rw [← List.drop_eq_getElem_cons hk]; exact (List.take_append_drop k xs).symm
 have h1 : qG f (xs.take k) = 0 := zFV f _ fun x hx => by
  obtain ⟨i,hi,rfl⟩ := List.getElem_of_mem hx
  simp only [List.length_take] at hi
  rw [List.getElem_take]
  exact h i (by omega) (by omega)
 have h2 : qG f (xs.drop (k + 1)) = 0 := zFV f _ fun x hx => by
  obtain ⟨i,hi,rfl⟩ := List.getElem_of_mem hx
  simp only [List.length_drop] at hi
  rw [List.getElem_drop]
  exact h _ (by omega) (by omega)
 have h3 := zBp f (xs.take k) (xs[k] :: xs.drop (k + 1))
 rw [← e] at h3
 rw [qG,h1,h2] at h3
 omega
theorem zGt (xs : List Link) (hne : ∀ l ∈ xs,l.A ≠ l.B) : (∀ k (hk : k < xs.length),qG (qO xs[k].A xs[k].P) xs = 1 ∧ qG (qO xs[k].B xs[k].Q) xs = 1) ↔ (∀ k (hk : k < xs.length),(xs.take k).any (qC xs[k].A xs[k].P) = false ∧ (xs.take k).any (qC xs[k].B xs[k].Q) = false) := by
 have own1 : ∀ k (hk : k < xs.length),qO xs[k].A xs[k].P xs[k] = 1 := fun k hk => by
  have := hne xs[k] (List.getElem_mem hk)
  have h2 : (xs[k].B == xs[k].A) = false := by simpa using fun e => this e.symm
  simp [qO,h2]
 have own2 : ∀ k (hk : k < xs.length),qO xs[k].B xs[k].Q xs[k] = 1 := fun k hk => by
  have := hne xs[k] (List.getElem_mem hk)
  have h2 : (xs[k].A == xs[k].B) = false := by simpa using this
  simp [qO,h2]
 constructor
 ·intro h k hk
  have key : ∀ b p,qO b p xs[k] = 1 → qG (qO b p) xs = 1 → (xs.take k).any (qC b p) = false := fun b p h1 h2 => by
   rw [List.any_eq_false]
   intro l hl hu
   obtain ⟨i,hi,rfl⟩ := List.getElem_of_mem hl
   simp only [List.length_take] at hi
   rw [List.getElem_take] at hu
   have := zGe (qO b p) xs i k (by omega) hk
   have := zBX.1 hu
   omega
  exact ⟨key _ _ (own1 k hk) (h k hk).1,key _ _ (own2 k hk) (h k hk).2⟩
 ·intro h k hk
  have key : ∀ b p,qO b p xs[k] = 1 → qC b p xs[k] = true → (xs.take k).any (qC b p) = false → qG (qO b p) xs = 1 := fun b p h1 hu h2 => by
   rw [zLj (qO b p) xs k hk (fun j hj hjk => ?_),h1]
   rw [List.any_eq_false] at h2
   refine Classical.byContradiction fun hc => ?_
   have hpos := zBX.2 (show 0 < qO b p xs[j] by omega)
   by_cases hlt : j < k
   ·refine h2 xs[j] ?_ hpos
    have : (xs.take k)[j]? = some xs[j] := by rw [List.getElem?_take,if_pos hlt]; exact List.getElem?_eq_getElem _
    exact List.mem_of_getElem? this
   ·have hkj : k < j := by omega
    have hmem : xs[k] ∈ xs.take j := by
     have : (xs.take j)[k]? = some xs[k] := by rw [List.getElem?_take,if_pos hkj]; exact List.getElem?_eq_getElem _
     exact List.mem_of_getElem? this
    have hh := h j hj
    rw [List.any_eq_false,List.any_eq_false] at hh
    rcases QE.1 hpos with ⟨e1,e2⟩ | ⟨e1,e2⟩
    ·exact hh.1 _ hmem (by rw [e1,e2]; exact hu)
    ·exact hh.2 _ hmem (by rw [e1,e2]; exact hu)
  exact ⟨key _ _ (own1 k hk) (QE.2 (.inl ⟨rfl,rfl⟩)) (h k hk).1,key _ _ (own2 k hk) (QE.2 (.inr ⟨rfl,rfl⟩)) (h k hk).2⟩
theorem zC1 (n : Nat) (xs : List Link) (b p : Int) (h : xs.length ≤ 1048600) : ∀ (m k : Nat),k ≤ xs.length → xs.length < m + k → Qm n m xs b p k = some (if (xs.drop k).any (qC b p) then .inr true else .inl ())
 | 0,k,h1,h2 => by omega
 | m + 1,k,h1,h2 => by
  rw [Qm]
  by_cases hk : k < xs.length
  ·have ih := zC1 n xs b p h m (k + 1) (by omega) (by omega)
   rw [qH hk,cQ,zB hk,bQ,vQ k,ih,List.drop_eq_getElem_cons hk,List.any_cons]
   unfold qC
   cases xs[k].A == b <;> cases xs[k].P == p <;> cases xs[k].B == b <;> cases xs[k].Q == p <;> rfl
  ·have he : k = xs.length := by omega
   subst he
   rw [zz]; simp
theorem zDv (n : Nat) (xs : List Link) (b p : Int) (h : xs.length ≤ 1048600) (hn : xs.length < n) : zA5 n xs b p = some (xs.any (qC b p)) := by
 unfold zA5
 rw [show Qm n n xs b p 0 = _ from zC1 n xs b p h n 0 (by omega) (by omega),List.drop_zero]
 cases xs.any (qC b p) <;> rfl
theorem zBS (n : Nat) (x : Net) (b p : Int) (h : x.Ls.length ≤ 1048600) : ∀ (m k c : Nat),k ≤ x.Ls.length → x.Ls.length < m + k → c ≤ 2 * k → qn n m x b p k c = some (.inl ((c + qG (qO b p) (x.Ls.drop k) : Nat) : Int))
 | 0,k,c,h1,h2,h3 => by omega
 | m + 1,k,c,h1,h2,h3 => by
  rw [qn]
  by_cases hk : k < x.Ls.length
  ·have ih := fun c' h3' => zBS n x b p h m (k + 1) c' (by omega) (by omega) h3'
   have hw : ∀ z : Nat,z ≤ 4194304 → IntKind.wrap .i64 ((z : Int) + 1) = ((z + 1 : Nat) : Int) := fun z hz => zEe (by omega)
   rw [qH hk,cQ,zB hk,bQ,List.drop_eq_getElem_cons hk,qG]
   simp only [QY,hw k (by omega),hw c (by omega)]
   have hw2 := hw (c + 1) (by omega)
   simp only [hw2]
   unfold qO
   generalize (x.Ls[k].A == b) = qA
   generalize (x.Ls[k].P == p) = qP
   generalize (x.Ls[k].B == b) = qB
   generalize (x.Ls[k].Q == p) = qQ
   have z0 := ih c (by omega)
   have z1 := ih (c + 1) (by omega)
   have z2 := ih (c + 1 + 1) (by omega)
   unfold qO at z0 z1 z2
   cases qA <;> cases qP <;> cases qB <;> cases qQ <;> simp only [cQ,fQ,Bool.and_true,Bool.and_false,Bool.true_and,Bool.false_and,Nat.zero_add,Nat.add_zero,z0,z1,z2] <;> simp only [Nat.add_assoc,Nat.reduceAdd]
  ·have he : k = x.Ls.length := by omega
   subst he
   rw [zz]; simp [qG]
theorem Q9 (n : Nat) (x : Net) (b p : Int) (h : x.Ls.length ≤ 1048600) (hn : x.Ls.length < n) : Zh n x b p = some ((qG (qO b p) x.Ls : Nat) : Int) := by
 unfold Zh
 rw [show qn n n x b p 0 0 = _ from zBS n x b p h n 0 0 (by omega) (by omega) (by omega),List.drop_zero,Nat.zero_add]
 rfl
theorem zGf {b p : Int} : ∀ {xs : List Link},(qG (qO b p) xs = 0 ↔ xs.any (qC b p) = false)
 | [] => by simp [qG]
 | l :: xs => by
  have ih := zGf (b := b) (p := p) (xs := xs)
  have h := zBX (b := b) (p := p) (l := l)
  rw [qG,List.any_cons,Bool.or_eq_false_iff,← ih]
  cases hu : qC b p l with
  | true => have := h.1 hu; constructor <;> intro h' <;> first | omega | (exact absurd h'.1 (by simp))
  | false =>
   have : qO b p l = 0 := by
    refine Classical.byContradiction fun hc => ?_
    have := h.2 (by omega)
    rw [hu] at this; cases this
   constructor
   ·intro h'; exact ⟨rfl,by omega⟩
   ·intro h'; omega
theorem QU {α : Type} {L : Nat → Int → Option (α ⊕ Bool)} {N : Nat} {P : Nat → Prop} (hs : ∀ m (k : Nat),k < N → (P k ∧ L (m + 1) (k : Int) = L m ((k + 1 : Nat) : Int)) ∨ (¬ P k ∧ L (m + 1) (k : Int) = some (.inr false))) (he : ∀ m,∃ a,L (m + 1) (N : Int) = some (.inl a)) :
  ∀ (m k : Nat),k ≤ N → N < m + k → (∃ a,L m (k : Int) = some (.inl a) ∧ ∀ j,k ≤ j → j < N → P j) ∨ (L m (k : Int) = some (.inr false) ∧ ¬ ∀ j,k ≤ j → j < N → P j)
 | 0,k,h1,h2 => by omega
 | m + 1,k,h1,h2 => by
  by_cases hk : k < N
  ·rcases hs m k hk with ⟨hp,e⟩ | ⟨hp,e⟩
   ·rcases QU hs he m (k + 1) (by omega) (by omega) with ⟨a,h3,h4⟩ | ⟨h3,h4⟩
    ·refine .inl ⟨a,e.trans h3,fun j hj hj2 => ?_⟩
     by_cases hjk : j = k
     ·subst hjk; exact hp
     ·exact h4 j (by omega) hj2
    ·exact .inr ⟨e.trans h3,fun h => h4 fun j hj hj2 => h j (by omega) hj2⟩
   ·exact .inr ⟨e,fun h => hp (h k (Nat.le_refl _) hk)⟩
  ·have : k = N := by omega
   subst this
   obtain ⟨a,ha⟩ := he m
   exact .inl ⟨a,ha,fun j hj hj2 => by omega⟩
def BOk (n : Nat) (x : Net) (k : Nat) : Prop := ∀ hk : k < x.Bs.length,zN n x.Bs[k] = some true ∧ (∀ j (hj : j < k),(x.Bs[j]'(by omega)).Id ≠ x.Bs[k].Id) ∧ ∀ p (hp : p < x.Bs[k].Ps.length),x.Bs[k].Ps[p].Has = true → x.Ls.any (qC k p) = true
theorem zH5 {x : Net} (wx : x.wf) {k : Nat} (hk : k < x.Bs.length) : x.Bs[k].wf := wx.1.2 _ (List.getElem_mem hk)
def zm (x : Net) (b p : Int) : Option Pt := (idx x.Bs b).bind fun v => idx v.Ps p
theorem zA0 {α : Type} {xs : List α} {i : Int} : (∃ v,idx xs i = some v) ↔ 0 ≤ i ∧ i < xs.length := by
 constructor
 ·rintro ⟨v,hv⟩; exact Yi hv
 ·intro h
  obtain ⟨j,rfl⟩ := Int.eq_ofNat_of_zero_le h.1
  exact ⟨_,zB (by omega)⟩
theorem zBk {α : Type} {xs : List α} {i : Int} (h : ¬ (0 ≤ i ∧ i < xs.length)) : idx xs i = none := by
 cases hc : idx xs i with
 | none => rfl
 | some v => exact absurd (Yi hc) h
def LOk (x : Net) (l : Link) : Prop := l.A ≠ l.B ∧ ∃ p q,zm x l.A l.P = some p ∧ zm x l.B l.Q = some q ∧ p.Up = q.Up
theorem QR {x : Net} {b p : Int} {q : Pt} (h : zm x b p = some q) : ∃ v,idx x.Bs b = some v ∧ idx v.Ps p = some q := by
 unfold zm at h
 exact bind_some h
def zLp {α : Type} (xs : List α) (k : Nat) (ys : List (Option α)) : Prop := ys.length = xs.length ∧ ∀ j,k ≤ j → ys[j]? = (xs[j]?).map some
theorem zLp.start {α : Type} (xs : List α) : zLp xs 0 (xs.map some) := ⟨by simp,fun j _ => by simp⟩
theorem zGH {α β : Type} {L : Nat → Int → List α → Option (List α ⊕ β)} {f : α → Option α} (xs : List α) (hx : xs.length ≤ 268435455) (hf : ∀ v ∈ xs,f v = some v)
  (h : ∀ m k acc,L (m + 1) k acc = bif decide (k < (xs.length : Int)) then (idx xs k).bind fun v => (f v).bind fun r => bif decide (acc.length + [r].length ≤ 268435456) then L m (IntKind.wrap .i64 (k + 1)) (acc ++ [r]) else none else some (.inl acc)) : ∀ (m k : Nat),k ≤ xs.length → xs.length < m + k → L m k (xs.take k) = some (.inl xs)
 | 0,k,h1,h2 => by omega
 | m + 1,k,h1,h2 => by
  rw [h]
  by_cases hk : k < xs.length
  ·rw [qH hk,cQ,zB hk,bQ,hf _ (List.getElem_mem hk),bQ,tQ (by simp; omega),cQ,zEe (by omega),show xs.take k ++ [xs[k]] = xs.take (k + 1) by rw [List.take_add_one,List.getElem?_eq_getElem hk]; rfl]
   exact zGH xs hx hf h m (k + 1) (by omega) (by omega)
  ·have he : k = xs.length := by omega
   subst he
   rw [zz,fQ,List.take_length]
theorem zGb (n : Nat) (x : Net) (h : x.sz ≤ 268435455) (hn : x.sz < n) : Jb n x = some x := by
 have hs : (x.Bs.length + Jr zA.sz x.Bs) + x.Ls.length + x.Said.length = x.sz := rfl
 have := zGH (L := fun m k acc => Zw n m x k acc) (f := QD n) x.Bs (by omega) (fun v hv => by have := zDX (sz := zA.sz) hv; exact YR n v (by omega)) (fun m k acc => by rw [Zw]) n 0 (by omega) (by omega)
 unfold Jb
 rw [tQ (by simp; omega),tQ (by simp; omega),cQ,cQ,show Zw n n x 0 [] = _ from this]
 rfl
theorem zGL (n : Nat) (x : Net) (h : x.sz ≤ 268435455) (hn : x.sz < n) : zAe n x = some x := by
 have hs : (x.Bs.length + Jr zA.sz x.Bs) + x.Ls.length + x.Said.length = x.sz := rfl
 have := zGH (L := fun m k acc => Yl n m x k acc) (f := QG n) x.Bs (by omega) (fun v hv => by have := zDX (sz := zA.sz) hv; exact Qe n v (by omega)) (fun m k acc => by rw [Yl]) n 0 (by omega) (by omega)
 unfold zAe
 rw [tQ (by simp; omega),tQ (by simp; omega),cQ,cQ,show Yl n n x 0 [] = _ from this]
 rfl
theorem zD9 (n : Nat) (v : Vec) (h : zw n v = some true) : v.wf := by
 unfold zw at h
 simp only [zJ,bQ] at h
 cases h1 : (decide (1 ≤ v.Root) && decide (v.Root ≤ 99)) with
 | false => rw [h1] at h; cases h
 | true =>
  cases h2 : (decide (0 ≤ v.Co) && decide (v.Co ≤ 100000)) with
  | false => rw [h1,h2] at h; cases h
  | true =>
   cases h3 : (decide (0 ≤ v.Hops) && decide (v.Hops ≤ 10)) with
   | false => rw [h1,h2,h3] at h; cases h
   | true =>
    cases h4 : (decide (1 ≤ v.Bridge) && decide (v.Bridge ≤ 99)) with
    | false => rw [h1,h2,h3,h4] at h; cases h
    | true =>
     rw [h1,h2,h3,h4] at h
     simp only [cQ,Option.some.injEq,Bool.and_eq_true,decide_eq_true_eq] at h h1 h2 h3 h4
     exact ⟨qR (by omega) (by omega),qR (by omega) (by omega),qR (by omega) (by omega),qR (by omega) (by omega),qR (by omega) (by omega),trivial⟩
def HB (x : Net) (ys : List zA) : Prop := ys.length = x.Bs.length ∧ (∀ v ∈ ys,v.wf) ∧ Jr zA.sz ys ≤ Jr zA.sz x.Bs
theorem HB.self {x : Net} (wx : x.wf) : HB x x.Bs := ⟨rfl,wx.1.2,Nat.le_refl _⟩
def Big (x : Net) : Prop := x.Bs.length ≤ 1048576 ∧ (∀ a ∈ x.Bs,a.sz ≤ 1048576) ∧ x.Ls.length ≤ 1048576 ∧ x.Said.length ≤ 1048576
theorem zDB (n : Nat) (x : Net) (wx : x.wf) (h : Big x) (hn : 1048700 < n) (m k : Nat) (hk : k < x.Bs.length) : (BOk n x k ∧ zb n (m + 1) x k = zb n m x ((k + 1 : Nat) : Int)) ∨ (¬ BOk n x k ∧ zb n (m + 1) x k = some (.inr false)) := by
 have ⟨hl1,hl2,hl3,hl4⟩ := h
 have hps := hl2 _ (List.getElem_mem hk)
 have hs2 : x.Bs[k].Name.size + x.Bs[k].Ps.length + x.Bs[k].F.length + x.Bs[k].V.sz = x.Bs[k].sz := rfl
 obtain ⟨b,hb,_⟩ := Z4 n x.Bs[k] (zH5 wx hk) (by omega) (by omega)
 rw [zb,qH hk,cQ,zB hk,bQ,hb,bQ]
 cases b with
 | false => exact .inr ⟨fun hc => absurd ((hc hk).1.symm.trans hb) (by simp),rfl⟩
 | true =>
  simp only [nQ,fQ]
  have h6 := QU (L := fun m j => qk n m x k j) (N := k) (P := fun j => ∀ hj : j < k,(x.Bs[j]'(by omega)).Id ≠ x.Bs[k].Id) (fun m j hj => by
   simp only [qk]
   rw [qH hj,cQ,zB (show j < x.Bs.length by omega),bQ,zB hk,bQ,vQ j]
   by_cases he : (x.Bs[j]'(by omega)).Id = x.Bs[k].Id
   ·exact .inr ⟨fun hc => hc hj he,by rw [show ((x.Bs[j]'(by omega)).Id == x.Bs[k].Id) = true from by simpa using he]; rfl⟩
   ·exact .inl ⟨fun _ => he,by rw [show ((x.Bs[j]'(by omega)).Id == x.Bs[k].Id) = false from by simpa using he]; rfl⟩) (fun m => ⟨_,by simp only [qk]; rw [zz]; rfl⟩) n 0 (by omega) (by omega)
  rcases h6 with ⟨_,e6,p6⟩ | ⟨e6,p6⟩
  ·rw [show qk n n x k 0 = _ from e6,bQ]
   simp only [Qt]
   have h5 := QU (L := fun m j => qX n m x k j) (N := x.Bs[k].Ps.length) (P := fun j => ∀ hp : j < x.Bs[k].Ps.length,x.Bs[k].Ps[j].Has = true → x.Ls.any (qC k j) = true) (fun m j hj => by
    simp only [qX]
    rw [zB hk,bQ,qH hj,cQ,bQ,zB hj,bQ,vQ j]
    cases hh : x.Bs[k].Ps[j].Has with
    | false => exact .inl ⟨fun _ hc => absurd (hh.symm.trans hc) (by simp),rfl⟩
    | true =>
     rw [cQ,Q9 n x k j (by omega) (by omega),bQ]
     cases hu : x.Ls.any (qC k j) with
     | false => exact .inr ⟨fun hc => absurd (hc hj hh) (by simp),by rw [zGf.2 hu]; rfl⟩
     | true =>
      have : qG (qO k j) x.Ls ≠ 0 := fun e => by rw [zGf.1 e] at hu; cases hu
      exact .inl ⟨fun _ _ => rfl,by rw [show (((qG (qO k j) x.Ls : Nat) : Int) == 0) = false from by simpa using this]; rfl⟩) (fun m => ⟨_,by simp only [qX]; rw [zB hk,bQ,zz]; rfl⟩) n 0 (by omega) (by omega)
   rcases h5 with ⟨a,e5,p5⟩ | ⟨e5,p5⟩
   ·rw [show qX n n x k 0 = _ from e5,bQ]
    refine .inl ⟨fun _ => ⟨hb,fun j hj => p6 j (by omega) hj hj,fun p hp => p5 p (by omega) hp hp⟩,?_⟩
    simp only [Qu,vQ k]
   ·rw [show qX n n x k 0 = _ from e5,bQ]
    exact .inr ⟨fun hc => p5 fun j _ hj2 _ => (hc hk).2.2 j hj2,rfl⟩
  ·rw [show qk n n x k 0 = _ from e6,bQ]
   exact .inr ⟨fun hc => p6 fun j _ hj2 _ => (hc hk).2.1 j hj2,rfl⟩
theorem zEv (n : Nat) (x : Net) (wx : x.wf) (h : Big x) (hn : 1048700 < n) (m k : Nat) (hk : k < x.Bs.length) : (BOk n x k ∧ Zd n (m + 1) x k = Zd n m x ((k + 1 : Nat) : Int)) ∨ (¬ BOk n x k ∧ Zd n (m + 1) x k = some (.inr false)) := by
 have ⟨hl1,hl2,hl3,hl4⟩ := h
 have hps := hl2 _ (List.getElem_mem hk)
 have hs2 : x.Bs[k].Name.size + x.Bs[k].Ps.length + x.Bs[k].F.length + x.Bs[k].V.sz = x.Bs[k].sz := rfl
 obtain ⟨b,hb,hb2⟩ := Z4 n x.Bs[k] (zH5 wx hk) (by omega) (by omega)
 have hg : (decide ((0 : Int) ≤ 0) && (decide ((0 : Int) ≤ (k : Int)) && decide ((k : Int) ≤ (x.Bs.length : Int)))) = true := by
  rw [tQ (by omega),tQ (by omega),tQ (by omega)]; rfl
 rw [Zd,qH hk,cQ,zB hk,bQ,hb2,bQ]
 cases b with
 | false => exact .inr ⟨fun hc => absurd ((hc hk).1.symm.trans hb) (by simp),rfl⟩
 | true =>
  simp only [nQ,fQ,hg,cQ]
  have ht : (x.Bs.drop ((0 : Int)).toNat).take (((k : Int)).toNat - ((0 : Int)).toNat) = x.Bs.take k := by simp
  have hl : (x.Bs.take k).length = k := by simp; omega
  have h8 := QU (L := fun m j => Q3 n m x.Bs[k] x k j) (N := k) (P := fun j => ∀ hj : j < k,(x.Bs[j]'(by omega)).Id ≠ x.Bs[k].Id) (fun m j hj => by
   simp only [Q3,ht]
   rw [hl,qH hj,cQ,zB (show j < (x.Bs.take k).length by omega),bQ,List.getElem_take,vQ j]
   by_cases he : (x.Bs[j]'(by omega)).Id = x.Bs[k].Id
   ·exact .inr ⟨fun hc => hc hj he,by rw [show ((x.Bs[j]'(by omega)).Id == x.Bs[k].Id) = true from by simpa using he]; rfl⟩
   ·exact .inl ⟨fun _ => he,by rw [show ((x.Bs[j]'(by omega)).Id == x.Bs[k].Id) = false from by simpa using he]; rfl⟩) (fun m => ⟨_,by simp only [Q3,ht]; rw [hl,zz]; rfl⟩) n 0 (by omega) (by omega)
  rcases h8 with ⟨a1,e8,p8⟩ | ⟨e8,p8⟩
  ·rw [show Q3 n n x.Bs[k] x k 0 = _ from e8,bQ]
   simp only [zEh]
   have h7 := QU (L := fun m j => Qb n m x.Bs[k] x k j) (N := x.Bs[k].Ps.length) (P := fun j => ∀ hp : j < x.Bs[k].Ps.length,x.Bs[k].Ps[j].Has = true → x.Ls.any (qC k j) = true) (fun m j hj => by
    simp only [Qb]
    rw [qH hj,cQ,zB hj,bQ,vQ j]
    cases hh : x.Bs[k].Ps[j].Has with
    | false => exact .inl ⟨fun _ hc => absurd (hh.symm.trans hc) (by simp),rfl⟩
    | true =>
     rw [cQ,zDv n x.Ls k j (by omega) (by omega),bQ]
     cases hu : x.Ls.any (qC k j) with
     | false => exact .inr ⟨fun hc => absurd (hc hj hh) (by simp),rfl⟩
     | true => exact .inl ⟨fun _ _ => rfl,rfl⟩) (fun m => ⟨_,by simp only [Qb]; rw [zz]; rfl⟩) n 0 (by omega) (by omega)
   rcases h7 with ⟨a,e7,p7⟩ | ⟨e7,p7⟩
   ·rw [show Qb n n x.Bs[k] x k 0 = _ from e7,bQ]
    refine .inl ⟨fun _ => ⟨hb,fun j hj => p8 j (by omega) hj hj,fun p hp => p7 p (by omega) hp hp⟩,?_⟩
    simp only [zEi,vQ k]
   ·rw [show Qb n n x.Bs[k] x k 0 = _ from e7,bQ]
    exact .inr ⟨fun hc => p7 fun j _ hj2 _ => (hc hk).2.2 j hj2,rfl⟩
  ·rw [show Q3 n n x.Bs[k] x k 0 = _ from e8,bQ]
   exact .inr ⟨fun hc => p8 fun j _ hj2 _ => (hc hk).2.1 j hj2,rfl⟩
theorem zEA (n : Nat) (x : Net) (wx : x.wf) (h : Big x) (hn : 1048700 < n) : ∃ b,YT n x = some b ∧ (b = true ↔ (∀ k,k < x.Bs.length → BOk n x k) ∧ 1 ≤ x.Bs.length ∧ x.Bs.length ≤ 6) := by
 have ⟨hl1,hl2,hl3,hl4⟩ := h
 unfold YT
 rcases QU (L := fun m k => zb n m x k) (N := x.Bs.length) (P := BOk n x) (fun m k hk => zDB n x wx h hn m k hk) (fun m => ⟨(),by simp only [zb]; rw [zz]; rfl⟩) n 0 (by omega) (by omega) with ⟨a,e,p⟩ | ⟨e,p⟩
 ·rw [show zb n n x 0 = _ from e,bQ]
  simp only [Qs,zJ,bQ]
  refine ⟨_,rfl,?_⟩
  rw [Bool.and_eq_true,decide_eq_true_eq,decide_eq_true_eq]
  exact ⟨fun hc => ⟨fun k hk => p k (by omega) hk,by omega,by omega⟩,fun hc => ⟨by omega,by omega⟩⟩
 ·rw [show zb n n x 0 = _ from e,bQ]
  exact ⟨false,rfl,⟨fun hc => (by cases hc),fun hc => absurd (fun k _ hk => hc.1 k hk) p⟩⟩
theorem zCR (n : Nat) (x : Net) (h : Big x) (b p : Int) : ZZ n x b p = some (match zm x b p with | some q => (q,true) | none => (⟨false,0,false,⟨0,0,0,0,0⟩⟩,false)) := by
 have ⟨hl1,hl2,hl3,hl4⟩ := h
 unfold ZZ zm
 rw [qb,Qn n b _ (show x.Bs.length ≤ 1048600 by omega),bQ]
 by_cases hb : 0 ≤ b ∧ b < x.Bs.length
 ·obtain ⟨v,hv⟩ := zA0.2 hb
  have := hl2 _ (List.mem_of_getElem? (zF hv).2)
  have hs2 : v.Name.size + v.Ps.length + v.F.length + v.V.sz = v.sz := rfl
  rw [tQ hb,hv]
  simp only [nQ,fQ,cQ,bQ,Qn n p _ (show v.Ps.length ≤ 1048600 by omega)]
  by_cases hp : 0 ≤ p ∧ p < v.Ps.length
  ·obtain ⟨q,hq⟩ := zA0.2 hp
   simp [hp,hq,hv]
  ·simp [hp,zBk hp]
 ·simp [hb,zBk hb]
theorem zCU (n : Nat) (x : Net) (h : Big x) (hn : 1048700 < n) (b p : Int) : JH n x b p = some (match zm x b p with | some q => decide (qG (qO b p) x.Ls = 1) | none => false) := by
 have ⟨hl1,hl2,hl3,hl4⟩ := h
 unfold JH zm
 rw [Qn n b _ (show x.Bs.length ≤ 1048600 by omega),bQ]
 by_cases hb : 0 ≤ b ∧ b < x.Bs.length
 ·obtain ⟨v,hv⟩ := zA0.2 hb
  have := hl2 _ (List.mem_of_getElem? (zF hv).2)
  have hs2 : v.Name.size + v.Ps.length + v.F.length + v.V.sz = v.sz := rfl
  rw [tQ hb,hv]
  simp only [cQ,bQ,Qn n p _ (show v.Ps.length ≤ 1048600 by omega)]
  by_cases hp : 0 ≤ p ∧ p < v.Ps.length
  ·obtain ⟨q,hq⟩ := zA0.2 hp
   rw [tQ hp,hq,cQ,Q9 n x b p (by omega) (by omega),bQ]
   by_cases h1 : qG (qO b p) x.Ls = 1
   ·simp [h1]
   ·have : ((qG (qO b p) x.Ls : Nat) : Int) ≠ 1 := by omega
    simp [h1,this]
  ·simp [hp,zBk hp]
 ·simp [hb,zBk hb]
theorem zEw (n : Nat) (x : Net) (h : Big x) (hn : 1048700 < n) (m k : Nat) (hk : k < x.Ls.length) :
  ((∀ hk : k < x.Ls.length,LOk x x.Ls[k] ∧ qG (qO x.Ls[k].A x.Ls[k].P) x.Ls = 1 ∧ qG (qO x.Ls[k].B x.Ls[k].Q) x.Ls = 1) ∧ qv n (m + 1) x k = qv n m x ((k + 1 : Nat) : Int)) ∨
  (¬ (∀ hk : k < x.Ls.length,LOk x x.Ls[k] ∧ qG (qO x.Ls[k].A x.Ls[k].P) x.Ls = 1 ∧ qG (qO x.Ls[k].B x.Ls[k].Q) x.Ls = 1) ∧ qv n (m + 1) x k = some (.inr false)) := by
 have ⟨hl1,hl2,hl3,hl4⟩ := h
 rw [qv,qH hk,cQ,zB hk,bQ,zCU n x h hn,zCU n x h hn,vQ k]
 by_cases hab : x.Ls[k].A = x.Ls[k].B
 ·exact .inr ⟨fun hc => (hc hk).1.1 (hab),by rw [show (x.Ls[k].A == x.Ls[k].B) = true from by simpa using hab]; rfl⟩
 ·rw [show (x.Ls[k].A == x.Ls[k].B) = false from by simpa using hab]
  simp only [fQ,bQ]
  cases hp : zm x x.Ls[k].A x.Ls[k].P with
  | none => exact .inr ⟨fun hc => (by obtain ⟨p,q,e,_⟩ := (hc hk).1.2; rw [hp] at e; cases e),rfl⟩
  | some p =>
   by_cases h1 : qG (qO x.Ls[k].A x.Ls[k].P) x.Ls = 1
   ·simp only [tQ h1,nQ,fQ]
    cases hq : zm x x.Ls[k].B x.Ls[k].Q with
    | none => exact .inr ⟨fun hc => (by obtain ⟨p,q,_,e,_⟩ := (hc hk).1.2; rw [hq] at e; cases e),rfl⟩
    | some q =>
     by_cases h2 : qG (qO x.Ls[k].B x.Ls[k].Q) x.Ls = 1
     ·obtain ⟨v,v1,v2⟩ := QR hp
      obtain ⟨u,u1,u2⟩ := QR hq
      simp only [tQ h2,nQ,fQ,v1,v2,u1,u2,bQ]
      by_cases h3 : p.Up = q.Up
      ·exact .inl ⟨fun _ => ⟨⟨hab,p,q,hp,hq,h3⟩,h1,h2⟩,by rw [h3]; simp⟩
      ·refine .inr ⟨fun hc => ?_,by rw [show (p.Up == q.Up) = false from by simpa using h3]; rfl⟩
       obtain ⟨p',q',e1,e2,e3⟩ := (hc hk).1.2
       rw [hp] at e1; rw [hq] at e2
       cases e1; cases e2; exact h3 e3
     ·exact .inr ⟨fun hc => h2 (hc hk).2.2,by simp only [dQ h2]; rfl⟩
   ·exact .inr ⟨fun hc => h1 (hc hk).2.1,by simp only [dQ h1]; rfl⟩
theorem zDw (n : Nat) (x : Net) (h : Big x) (hn : 1048700 < n) (m k : Nat) (hk : k < x.Ls.length) :
  ((∀ hk : k < x.Ls.length,k < 9 ∧ LOk x x.Ls[k] ∧ (x.Ls.take k).any (qC x.Ls[k].A x.Ls[k].P) = false ∧ (x.Ls.take k).any (qC x.Ls[k].B x.Ls[k].Q) = false) ∧ ZA n (m + 1) x k = ZA n m x ((k + 1 : Nat) : Int)) ∨
  (¬ (∀ hk : k < x.Ls.length,k < 9 ∧ LOk x x.Ls[k] ∧ (x.Ls.take k).any (qC x.Ls[k].A x.Ls[k].P) = false ∧ (x.Ls.take k).any (qC x.Ls[k].B x.Ls[k].Q) = false) ∧ ZA n (m + 1) x k = some (.inr false)) := by
 have ⟨hl1,hl2,hl3,hl4⟩ := h
 have hg : (decide ((0 : Int) ≤ 0) && (decide ((0 : Int) ≤ (k : Int)) && decide ((k : Int) ≤ (x.Ls.length : Int)))) = true := by
  rw [tQ (by omega),tQ (by omega),tQ (by omega)]; rfl
 have ht : (x.Ls.drop ((0 : Int)).toNat).take (((k : Int)).toNat - ((0 : Int)).toNat) = x.Ls.take k := by simp
 have hlen : (x.Ls.take k).length ≤ 1048600 := by simp; omega
 rw [ZA,qH hk,cQ,zB hk,bQ,zCR n x h,bQ,zCR n x h,bQ]
 simp only [hg,cQ,ht,zDv n (x.Ls.take k) _ _ hlen (by omega),bQ,vQ k]
 by_cases h9 : k < 9
 ·rw [dQ (show ¬ ((k : Nat) : Int) ≥ 9 by omega),fQ]
  cases hp : zm x x.Ls[k].A x.Ls[k].P with
  | none => exact .inr ⟨fun hc => (by obtain ⟨p,q,e,_⟩ := (hc hk).2.1.2; rw [hp] at e; cases e),rfl⟩
  | some p =>
   cases hq : zm x x.Ls[k].B x.Ls[k].Q with
   | none => exact .inr ⟨fun hc => (by obtain ⟨p,q,_,e,_⟩ := (hc hk).2.1.2; rw [hq] at e; cases e),rfl⟩
   | some q =>
    simp only [nQ,fQ]
    by_cases hab : x.Ls[k].A = x.Ls[k].B
    ·exact .inr ⟨fun hc => (hc hk).2.1.1 (hab),by rw [show (x.Ls[k].A == x.Ls[k].B) = true from by simpa using hab]; rfl⟩
    ·rw [show (x.Ls[k].A == x.Ls[k].B) = false from by simpa using hab,fQ]
     by_cases h3 : p.Up = q.Up
     ·rw [show (!(p.Up == q.Up)) = false from by simp [h3],fQ]
      cases h1 : (x.Ls.take k).any (qC x.Ls[k].A x.Ls[k].P) with
      | true => exact .inr ⟨fun hc => (by have := (hc hk).2.2.1; rw [h1] at this; cases this),rfl⟩
      | false =>
       cases h2 : (x.Ls.take k).any (qC x.Ls[k].B x.Ls[k].Q) with
       | true => exact .inr ⟨fun hc => (by have := (hc hk).2.2.2; rw [h2] at this; cases this),rfl⟩
       | false => exact .inl ⟨fun _ => ⟨h9,⟨hab,p,q,hp,hq,h3⟩,h1,h2⟩,rfl⟩
     ·refine .inr ⟨fun hc => ?_,by rw [show (p.Up == q.Up) = false from by simpa using h3]; rfl⟩
      obtain ⟨p',q',e1,e2,e3⟩ := (hc hk).2.1.2
      rw [hp] at e1; rw [hq] at e2
      cases e1; cases e2; exact h3 e3
 ·exact .inr ⟨fun hc => h9 (hc hk).1,by rw [tQ (show ((k : Nat) : Int) ≥ 9 by omega)]; rfl⟩
def zE0 (n : Nat) (x : Net) : Prop := (∀ k,k < x.Bs.length → BOk n x k) ∧ (1 ≤ x.Bs.length ∧ x.Bs.length ≤ 6) ∧ x.Ls.length ≤ 9 ∧ x.Said.length ≤ 40 ∧ ∀ k (hk : k < x.Ls.length),LOk x x.Ls[k] ∧ qG (qO x.Ls[k].A x.Ls[k].P) x.Ls = 1 ∧ qG (qO x.Ls[k].B x.Ls[k].Q) x.Ls = 1
theorem zAP (n : Nat) (x : zA) (hn : x.Ps.length < n) (h1 : 1 ≤ x.Ps.length) (h2 : x.Ps.length ≤ 6) (h3 : 1 ≤ x.Id) (h4 : x.Id ≤ 99) (h5 : x.Name.size ≤ 10) (h6 : ZK n x.F = some true) (h7 : qW n x.V (x.Ps.length : Int) = some true) (h8 : 0 ≤ x.Tk ∧ x.Tk ≤ 1000000) (h9 : 0 ≤ x.Pa ∧ x.Pa ≤ 1000000) (h10 : 0 ≤ x.Wo ∧ x.Wo ≤ 1000000) (h11 : 0 ≤ x.Dr ∧ x.Dr ≤ 1000000) (h12 : 0 ≤ x.Ve ∧ x.Ve ≤ 1000000) (h13 : ∀ j (hj : j < x.Ps.length),qE n x.Ps[j] = some true) : zN n x = some true := by
 have two : ∀ {a b c : Int},a ≤ b → b ≤ c → (decide (a ≤ b) && decide (b ≤ c)) = true := fun h h' => by rw [tQ h,tQ h']; rfl
 unfold zN
 rcases QU (L := fun m k => zi n m x k) (N := x.Ps.length) (P := fun k => ∀ hk : k < x.Ps.length,qE n x.Ps[k] = some true) (fun m k hk => by
  simp only [zi]
  rw [qH hk,cQ,zB hk,bQ,h13 k hk,bQ,vQ k]
  exact .inl ⟨fun _ => h13 k hk,rfl⟩) (fun m => ⟨(),by simp only [zi]; rw [zz]; rfl⟩) n 0 (by omega) (by omega) with ⟨a,e,_⟩ | ⟨_,p⟩
 ·rw [show zi n n x 0 = _ from e]
  simp only [bQ,QI,Q1,zJ,two h3 h4,two h8.1 h8.2,two h9.1 h9.2,two h10.1 h10.2,two h11.1 h11.2,two h12.1 h12.2,two (show (1 : Int) ≤ (x.Ps.length : Int) by omega) (show (x.Ps.length : Int) ≤ 6 by omega),tQ (show (x.Name.size : Int) ≤ 10 by omega),h6,h7,cQ]
 ·exact absurd (fun j _ _ hj => h13 j hj) p
def dnP : Pt := ⟨false,1,false,⟨0,0,0,0,0⟩⟩
def upP : Pt := ⟨true,1,false,⟨0,0,0,0,0⟩⟩
def psK (p k : Nat) : List Pt := List.replicate k upP ++ List.replicate (p - k) dnP
theorem YG {p k : Nat} (h : k ≤ p) : (psK p k).length = p := by simp [psK]; omega
theorem zBd {p k j : Nat} (hj : j < (psK p k).length) : (psK p k)[j] = if j < k then upP else dnP := by
 unfold psK at hj ⊢
 by_cases h : j < k
 ·rw [List.getElem_append_left (by simpa using h),if_pos h]; simp
 ·rw [List.getElem_append_right (by simpa using h),if_neg h]; simp
theorem zMG {p k : Nat} (h : k < p) : (psK p k).set k upP = psK p (k + 1) := by
 refine List.ext_getElem (by rw [List.length_set,YG (by omega),YG (by omega)]) fun j h1 h2 => ?_
 rw [List.length_set] at h1
 rw [List.getElem_set,zBd,zBd]
 by_cases hj : k = j
 ·subst hj; rw [if_pos rfl,if_pos (by omega)]
 ·rw [if_neg hj]
  by_cases hk : j < k
  ·rw [if_pos hk,if_pos (by omega)]
  ·rw [if_neg hk,if_neg (by omega)]
def nbB (z : Int) (vt : zR) (ps : List Pt) (v : Int) : zA := ⟨z,⟨#[]⟩,ps,[],vt,0,0,0,0,v⟩
def noB : zA := ⟨0,⟨#[]⟩,[],[],⟨[],[]⟩,0,0,0,0,0⟩
theorem zI4 {z : Int} {vt : zR} {ps : List Pt} {v : Int} : (nbB z vt ps v).sz = ps.length + vt.sz := by
 show 0 + ps.length + 0 + vt.sz = _
 omega
theorem zG8 {z : Int} {vt : zR} {p k : Nat} {v : Int} (hz : 1 ≤ z ∧ z ≤ 99) (h1 : 1 ≤ p) (h6 : p ≤ 6) (hk : k ≤ p) (hv : qW 1048800 vt p = some true) (v0 : 0 ≤ v) (v1 : v ≤ 1000000) : zN 1048800 (nbB z vt (psK p k) v) = some true := by
 have hl := YG hk
 have d0 : (0 : Int) ≤ 0 ∧ (0 : Int) ≤ 1000000 := by decide
 refine zAP 1048800 (nbB z vt (psK p k) v) (by show (psK p k).length < _; omega) (by show 1 ≤ (psK p k).length; omega) (by show (psK p k).length ≤ 6; omega) hz.1 hz.2 (Nat.zero_le 10) (by kernel_rfl) (by show qW 1048800 vt ((psK p k).length : Int) = _; rw [hl]; exact hv) d0 d0 d0 d0 ⟨v0,v1⟩ (fun j hj => ?_)
 have e : (nbB z vt (psK p k) v).Ps[j] = if j < k then upP else dnP := zBd hj
 rw [e]
 split <;> rfl
theorem zI5 {z : Int} {vt : zR} {p k : Nat} {v : Int} (hz : 1 ≤ z ∧ z ≤ 99) (h6 : p ≤ 6) (hk : k ≤ p) (wv : vt.wf) (v0 : 0 ≤ v) (v1 : v ≤ 1000000) : (nbB z vt (psK p k) v).wf := by
 have hm : maxLen = 9223372036854775807 := by decide
 have z0 : zu 0 := qR (by omega) (by omega)
 have o1 : zu 1 := qR (by omega) (by omega)
 have wz : zu z := qR (by omega) (by omega)
 have wv' : zu v := qR (by omega) (by omega)
 refine ⟨wz,Nat.zero_le _,⟨by show (psK p k).length ≤ maxLen; rw [YG hk]; omega,fun q hq => ?_⟩,⟨Nat.zero_le _,fun q hq => by cases hq⟩,wv.1,wv.2.1,z0,z0,z0,z0,wv',trivial⟩
 obtain ⟨j,hj,rfl⟩ := List.getElem_of_mem hq
 have e : (nbB z vt (psK p k) v).Ps[j] = if j < k then upP else dnP := zBd hj
 rw [e]
 split <;> exact ⟨o1,z0,z0,z0,z0,z0,trivial⟩
theorem zK1 : noB.wf := by
 have z0 : zu 0 := qR (by omega) (by omega)
 exact ⟨z0,Nat.zero_le _,⟨Nat.zero_le _,fun q hq => by cases hq⟩,⟨Nat.zero_le _,fun q hq => by cases hq⟩,⟨Nat.zero_le _,fun q hq => by cases hq⟩,⟨Nat.zero_le _,fun q hq => by cases hq⟩,z0,z0,z0,z0,z0,trivial⟩
theorem zMr {z : Int} {vt : zR} {p k : Nat} {v : Int} (hz : 1 ≤ z ∧ z ≤ 99) (h1 : 1 ≤ p) (h6 : p ≤ 6) (hk : k < p) (hv : qW 1048800 vt p = some true) (hs : vt.sz ≤ 10) (wv : vt.wf) (v0 : 0 ≤ v) (v1 : v ≤ 1000000) : ∃ v',0 ≤ v' ∧ v' ≤ 1000000 ∧ QC 1048800 (nbB z vt (psK p k) v) k true = some (nbB z vt (psK p (k + 1)) v') ∧ Yc 1048800 (nbB z vt (psK p k) v) k true = some (nbB z vt (psK p (k + 1)) v') := by
 have hl : (nbB z vt (psK p k) v).Ps.length = p := YG (by omega)
 have hsz : (nbB z vt (psK p k) v).sz ≤ 16 := by rw [zI4,YG (by omega)]; omega
 have ok := zG8 (k := k) hz h1 h6 (by omega) hv v0 v1
 have wx := zI5 (v := v) hz h6 (show k ≤ p by omega) wv v0 v1
 obtain ⟨b,e1,e2⟩ := Z4 1048800 _ wx (by omega) (by omega)
 rw [ok] at e1
 cases e1
 have hk' : k < (nbB z vt (psK p k) v).Ps.length := by omega
 have hg : (nbB z vt (psK p k) v).Ps[k].Co = 1 := by
  have e : (nbB z vt (psK p k) v).Ps[k] = if k < k then upP else dnP := zBd hk'
  rw [e]; split <;> rfl
 obtain ⟨zs,v',bb,f1,f2,f3,f4,f5,f6,_⟩ := zEr 1048800 (nbB z vt (psK p k) v) (by omega) (by omega) ok ((nbB z vt (psK p k) v).Ps.set k upP) (by simp) [] (Nat.zero_le _) 0
 have hzs : zs = [] := List.eq_nil_of_length_eq_zero (Nat.le_zero.1 f3)
 subst hzs
 have hset : (nbB z vt (psK p k) v).Ps.set k upP = psK p (k + 1) := zMG hk
 rw [hset] at f1 f2
 have there : (true && (decide ((0 : Int) ≤ k) && decide ((k : Int) < (nbB z vt (psK p k) v).Ps.length))) = true := by
  rw [tQ (by omega),tQ (by omega)]; rfl
 refine ⟨v',f5,f6,?_,?_⟩
 ·unfold QC
  rw [YR 1048800 _ (by omega),bQ,J4 1048800 _ k true ok (by omega),bQ,there]
  simp only [nQ,fQ,zB hk',bQ,hg,Int.toNat_natCast]
  rw [show (⟨true,1,false,(⟨0,0,0,0,0⟩ : Vec)⟩ : Pt) = upP from rfl,hset]
  have : qm 1048800 ⟨(nbB z vt (psK p k) v).Id,(nbB z vt (psK p k) v).Name,psK p (k + 1),(nbB z vt (psK p k) v).F,(nbB z vt (psK p k) v).V,(nbB z vt (psK p k) v).Tk,(nbB z vt (psK p k) v).Pa,(nbB z vt (psK p k) v).Wo,(nbB z vt (psK p k) v).Dr,(nbB z vt (psK p k) v).Ve⟩ = some (nbB z vt (psK p (k + 1)) v') := f1
  rw [this]
  rfl
 ·unfold Yc
  rw [Qe 1048800 _ (by omega),bQ,zAo 1048800 _ k true e2 (by omega),bQ,there]
  simp only [cQ,zB hk',bQ,hg,Int.toNat_natCast]
  rw [show (⟨true,1,false,(⟨0,0,0,0,0⟩ : Vec)⟩ : Pt) = upP from rfl,hset]
  have : ZO 1048800 ⟨(nbB z vt (psK p k) v).Id,(nbB z vt (psK p k) v).Name,psK p (k + 1),(nbB z vt (psK p k) v).F,(nbB z vt (psK p k) v).V,(nbB z vt (psK p k) v).Tk,(nbB z vt (psK p k) v).Pa,(nbB z vt (psK p k) v).Wo,(nbB z vt (psK p k) v).Dr,(nbB z vt (psK p k) v).Ve⟩ = some (nbB z vt (psK p (k + 1)) v') := f2
  rw [this]
  rfl
def NU (q : Int) (y y' : zA) : Prop := (y = noB ∧ y' = noB) ∨ ∃ (z : Int) (p : Nat) (vt : zR) (w : Int),q = p ∧ (1 ≤ z ∧ z ≤ 99) ∧ 1 ≤ p ∧ p ≤ 6 ∧ vt.sz ≤ 10 ∧ vt.wf ∧ qW 1048800 vt p = some true ∧ 0 ≤ w ∧ w ≤ 1000000 ∧ y = nbB z vt (psK p 0) 0 ∧ y' = nbB z vt (psK p p) w ∧ ∀ (i : Nat) (zs : List zA) (hi : i < zs.length),zs[i] = y → Zr 1048800 1048800 q i 0 zs = some (.inl (zs.set i y'))
theorem NU.facts {q : Int} {y y' : zA} (h : NU q y y') : y.wf ∧ y'.wf ∧ y.sz ≤ 16 ∧ y'.sz ≤ 16 ∧ y.Id = y'.Id ∧ y.Ps.length = y'.Ps.length ∧ (zN 1048800 y = some true ↔ zN 1048800 y' = some true) ∧ (∀ j (hj : j < y.Ps.length),y.Ps[j].Up = false ∧ y.Ps[j].Has = false) ∧ (∀ j (hj : j < y'.Ps.length),y'.Ps[j].Up = true ∧ y'.Ps[j].Has = false) := by
 rcases h with ⟨rfl,rfl⟩ | ⟨z,p,vt,w,rfl,hz,h1,h6,hs,wv,hv,w0,w1,rfl,rfl,_⟩
 ·exact ⟨zK1,zK1,by decide,by decide,rfl,rfl,Iff.rfl,fun j hj => absurd hj (Nat.not_lt_zero j),fun j hj => absurd hj (Nat.not_lt_zero j)⟩
 ·refine ⟨zI5 hz h6 (by omega) wv (by omega) (by omega),zI5 hz h6 (by omega) wv w0 w1,?_,?_,rfl,?_,?_,fun j hj => ?_,fun j hj => ?_⟩
  ·rw [zI4,YG (by omega)]; omega
  ·rw [zI4,YG (by omega)]; omega
  ·show (psK p 0).length = (psK p p).length
   rw [YG (by omega),YG (by omega)]
  ·exact ⟨fun _ => zG8 hz h1 h6 (by omega) hv w0 w1,fun _ => zG8 hz h1 h6 (by omega) hv (by omega) (by omega)⟩
  ·have e : (nbB z vt (psK p 0) 0).Ps[j] = if j < 0 then upP else dnP := zBd hj
   rw [e,if_neg (by omega)]; exact ⟨rfl,rfl⟩
  ·have e : (nbB z vt (psK p p) w).Ps[j] = if j < p then upP else dnP := zBd hj
   have hl : (nbB z vt (psK p p) w).Ps.length = p := YG (by omega)
   rw [e,if_pos (by omega)]; exact ⟨rfl,rfl⟩
theorem zCT (q : Int) (ys ys' : List zA) (hl : ys'.length = ys.length) (h6 : ys.length ≤ 6) (hu : ∀ j (hj : j < ys.length) (hj' : j < ys'.length),NU q ys[j] ys'[j]) (hok : ∀ j (hj : j < ys.length),ys[j] ≠ noB) : ∀ (m k : Nat) (zs : List zA),k ≤ ys.length → ys.length < m + k → (hz : zs.length = ys.length) → (∀ j (hj : j < zs.length),zs[j] = if j < k then ys'[j]'(by omega) else ys[j]'(by omega)) → ZL 1048800 m q k zs = some (.inl ys')
 | 0,k,zs,h1,h2,hz,h3 => by omega
 | m + 1,k,zs,h1,h2,hz,h3 => by
  rw [ZL]
  by_cases hk : k < ys.length
  ·rcases hu k hk (by omega) with ⟨e,_⟩ | ⟨z,p,vt,w,rfl,_,_,_,_,_,_,_,_,_,_,f⟩
   ·exact absurd e (hok k hk)
   ·rw [tQ (show (k : Int) < (zs.length : Int) by omega),cQ,f k zs (by omega) (by rw [h3 k (by omega),if_neg (by omega)])]
    simp only [bQ,JE]
    rw [vQ k]
    refine zCT _ ys ys' hl h6 hu hok m (k + 1) _ (by omega) (by omega) (by simpa using hz) (fun j hj => ?_)
    rw [List.length_set] at hj
    rw [List.getElem_set]
    by_cases hjk : k = j
    ·subst hjk; rw [if_pos rfl,if_pos (by omega)]
    ·rw [if_neg hjk,h3 j hj]
     by_cases hlt : j < k
     ·rw [if_pos hlt,if_pos (by omega)]
     ·rw [if_neg hlt,if_neg (by omega)]
  ·obtain rfl : k = ys.length := by omega
   rw [dQ (show ¬ ((ys.length : Nat) : Int) < (zs.length : Int) by omega),fQ]
   congr 2
   refine List.ext_getElem (by omega) fun j a b => ?_
   rw [h3 j a,if_pos (by omega)]
theorem zLW (q : Int) (ls : List Link) (ys ys' : List zA) (hl : ys'.length = ys.length) (hu : ∀ j (hj : j < ys.length) (hj' : j < ys'.length),NU q ys[j] ys'[j]) : zE0 1048800 ⟨ys,ls,[]⟩ ↔ zE0 1048800 ⟨ys',ls,[]⟩ := by
 have bok : ∀ k,BOk 1048800 ⟨ys,ls,[]⟩ k ↔ BOk 1048800 ⟨ys',ls,[]⟩ k := fun k => by
  constructor
  ·intro h hk'
   have hk : k < ys.length := by simp only at hk'; omega
   have f := (hu k hk (by simp only at hk'; exact hk')).facts
   obtain ⟨a,b,_⟩ := h hk
   refine ⟨f.2.2.2.2.2.2.1.1 a,fun j hj => ?_,fun p hp hh => ?_⟩
   ·have g := (hu j (by omega) (by omega)).facts
    have := b j hj
    simp only at this ⊢
    rw [← g.2.2.2.2.1,← f.2.2.2.2.1]; exact this
   ·exact absurd (hh.symm.trans (f.2.2.2.2.2.2.2.2 p hp).2) (by simp)
  ·intro h hk
   have hk' : k < ys'.length := by simp only at hk; omega
   have f := (hu k (by simp only at hk; exact hk) hk').facts
   obtain ⟨a,b,_⟩ := h hk'
   refine ⟨f.2.2.2.2.2.2.1.2 a,fun j hj => ?_,fun p hp hh => ?_⟩
   ·have g := (hu j (by omega) (by omega)).facts
    have := b j hj
    simp only at this ⊢
    rw [g.2.2.2.2.1,f.2.2.2.2.1]; exact this
   ·exact absurd (hh.symm.trans (f.2.2.2.2.2.2.2.1 p hp).2) (by simp)
 have port : ∀ b p,(∃ v,zm ⟨ys,ls,[]⟩ b p = some v) ↔ ∃ v,zm ⟨ys',ls,[]⟩ b p = some v := fun b p => by
  constructor
  ·rintro ⟨v,hv⟩
   obtain ⟨a,h1,h2⟩ := QR hv
   obtain ⟨i0,i1⟩ := Yi h1
   obtain ⟨j0,j1⟩ := Yi h2
   obtain ⟨i,rfl⟩ := Int.eq_ofNat_of_zero_le i0
   obtain ⟨j,rfl⟩ := Int.eq_ofNat_of_zero_le j0
   have hi : i < ys.length := by simp only at i1; omega
   rw [zB hi] at h1
   obtain rfl := Option.some.inj h1
   have f := (hu i hi (by omega)).facts.2.2.2.2.2.1
   exact ⟨_,by unfold zm; rw [zB (show i < ys'.length by omega),bQ,zB (show j < ys'[i].Ps.length by omega)]⟩
  ·rintro ⟨v,hv⟩
   obtain ⟨a,h1,h2⟩ := QR hv
   obtain ⟨i0,i1⟩ := Yi h1
   obtain ⟨j0,j1⟩ := Yi h2
   obtain ⟨i,rfl⟩ := Int.eq_ofNat_of_zero_le i0
   obtain ⟨j,rfl⟩ := Int.eq_ofNat_of_zero_le j0
   have hi : i < ys'.length := by simp only at i1; omega
   rw [zB hi] at h1
   obtain rfl := Option.some.inj h1
   have f := (hu i (by omega) hi).facts.2.2.2.2.2.1
   exact ⟨_,by unfold zm; rw [zB (show i < ys.length by omega),bQ,zB (show j < ys[i].Ps.length by omega)]⟩
 have down : ∀ b p v,zm ⟨ys,ls,[]⟩ b p = some v → v.Up = false := fun b p v hv => by
  obtain ⟨a,h1,h2⟩ := QR hv
  obtain ⟨i0,i1⟩ := Yi h1
  obtain ⟨j0,j1⟩ := Yi h2
  obtain ⟨i,rfl⟩ := Int.eq_ofNat_of_zero_le i0
  obtain ⟨j,rfl⟩ := Int.eq_ofNat_of_zero_le j0
  have hi : i < ys.length := by simp only at i1; omega
  rw [zB hi] at h1
  obtain rfl := Option.some.inj h1
  have hj : j < ys[i].Ps.length := by omega
  rw [zB hj] at h2
  obtain rfl := Option.some.inj h2
  exact ((hu i hi (by omega)).facts.2.2.2.2.2.2.2.1 j hj).1
 have up : ∀ b p v,zm ⟨ys',ls,[]⟩ b p = some v → v.Up = true := fun b p v hv => by
  obtain ⟨a,h1,h2⟩ := QR hv
  obtain ⟨i0,i1⟩ := Yi h1
  obtain ⟨j0,j1⟩ := Yi h2
  obtain ⟨i,rfl⟩ := Int.eq_ofNat_of_zero_le i0
  obtain ⟨j,rfl⟩ := Int.eq_ofNat_of_zero_le j0
  have hi : i < ys'.length := by simp only at i1; omega
  rw [zB hi] at h1
  obtain rfl := Option.some.inj h1
  have hj : j < ys'[i].Ps.length := by omega
  rw [zB hj] at h2
  obtain rfl := Option.some.inj h2
  exact ((hu i (by omega) hi).facts.2.2.2.2.2.2.2.2 j hj).1
 have lok : ∀ l,LOk ⟨ys,ls,[]⟩ l ↔ LOk ⟨ys',ls,[]⟩ l := fun l => by
  constructor
  ·rintro ⟨hab,p,q,e1,e2,_⟩
   obtain ⟨p',e1'⟩ := (port _ _).1 ⟨p,e1⟩
   obtain ⟨q',e2'⟩ := (port _ _).1 ⟨q,e2⟩
   exact ⟨hab,p',q',e1',e2',(up _ _ _ e1').trans (up _ _ _ e2').symm⟩
  ·rintro ⟨hab,p,q,e1,e2,_⟩
   obtain ⟨p',e1'⟩ := (port _ _).2 ⟨p,e1⟩
   obtain ⟨q',e2'⟩ := (port _ _).2 ⟨q,e2⟩
   exact ⟨hab,p',q',e1',e2',(down _ _ _ e1').trans (down _ _ _ e2').symm⟩
 unfold zE0
 constructor
 ·rintro ⟨h1,h2,h3,h4,h5⟩
  exact ⟨fun k hk => (bok k).1 (h1 k (by simp only at hk ⊢; omega)),⟨by simp only at h2 ⊢; omega,by simp only at h2 ⊢; omega⟩,h3,h4,fun k hk => ⟨(lok _).1 (h5 k hk).1,(h5 k hk).2⟩⟩
 ·rintro ⟨h1,h2,h3,h4,h5⟩
  exact ⟨fun k hk => (bok k).2 (h1 k (by simp only at hk ⊢; omega)),⟨by simp only at h2 ⊢; omega,by simp only at h2 ⊢; omega⟩,h3,h4,fun k hk => ⟨(lok _).2 (h5 k hk).1,(h5 k hk).2⟩⟩
def zB0 (v : zC) (t a : Int) : Prop := v.Tag < t ∨ v.Tag = t ∧ v.Mac < a
instance (v : zC) (t a : Int) : Decidable (zB0 v t a) := inferInstanceAs (Decidable (_ ∨ _))
theorem zCX (n : Nat) (v : zC) (t a : Int) : Zj n v t a = some (decide (zB0 v t a)) := by
 unfold Zj
 by_cases h : v.Tag = t
 ·rw [show (v.Tag != t) = false from by simpa using h,fQ]
  congr 1
  rw [decide_eq_decide]
  unfold zB0
  constructor
  ·intro h2; exact .inr ⟨h,h2⟩
  ·rintro (h2 | h2)
   ·omega
   ·exact h2.2
 ·rw [show (v.Tag != t) = true from by simpa using h,cQ]
  congr 1
  rw [decide_eq_decide]
  unfold zB0
  constructor
  ·intro h2; exact .inl h2
  ·rintro (h2 | h2)
   ·exact h2
   ·exact absurd h2.1 h
theorem zFQ (n : Nat) (xs : List zC) (h : xs.length ≤ 1048580) (hok : ZK n xs = some true) : ∀ (j i : Nat) (hij : i < j) (hj : j < xs.length),zB0 (xs[i]'(by omega)) xs[j].Tag xs[j].Mac := by
 have hs := (zDS n xs h hok).2.2
 intro j
 induction j with
 | zero => intro i hij; omega
 | succ j ih =>
  intro i hij hj
  have h1 := hs j hj
  rw [zCX] at h1
  have h1 := of_decide_eq_true (Option.some.inj h1)
  by_cases e : i = j
  ·subst e; exact h1
  ·have := ih i (by omega) (by omega)
   unfold zB0 at this h1 ⊢
   omega
def zIw (v : zC) : Prop := (1 ≤ v.Tag ∧ v.Tag ≤ 99) ∧ (1 ≤ v.Mac ∧ v.Mac ≤ 9999) ∧ (0 ≤ v.Port ∧ v.Port ≤ 7) ∧ (0 ≤ v.Age ∧ v.Age ≤ 4) ∧ (v.Sc = true → v.Age = 0)
def zCp (xs : List zC) : Prop := xs.length ≤ 12 ∧ (∀ v ∈ xs,zIw v) ∧ xs.Pairwise fun a b => zB0 a b.Tag b.Mac
theorem zH0 (n : Nat) (v : zC) (h : zIw v) : Zk n v = some true := by
 obtain ⟨h1,h2,h3,h4,h5⟩ := h
 have two : ∀ {a b c : Int},a ≤ b → b ≤ c → (decide (a ≤ b) && decide (b ≤ c)) = true := fun h h' => by rw [tQ h,tQ h']; rfl
 unfold Zk
 simp only [zJ,bQ,two h1.1 h1.2,two h2.1 h2.2,two h3.1 h3.2,two h4.1 h4.2,cQ]
 cases hs : v.Sc with
 | false => rfl
 | true => rw [h5 hs]; rfl
theorem zHq (n : Nat) (xs : List zC) (hn : xs.length < n) (h : zCp xs) : ZK n xs = some true := by
 obtain ⟨h1,h2,h3⟩ := h
 rw [List.pairwise_iff_getElem] at h3
 unfold ZK
 rcases QU (L := fun m k => qN n m xs k) (N := xs.length) (P := fun _ => True) (fun m k hk => by
  refine .inl ⟨trivial,?_⟩
  simp only [qN]
  rw [qH hk,cQ,zB hk,bQ,zH0 n _ (h2 _ (List.getElem_mem hk)),bQ,vQ k,nQ,fQ]
  cases k with
  | zero => rfl
  | succ k =>
   have hw2 : IntKind.wrap .i64 (((k + 1 : Nat) : Int) - 1) = (k : Int) := by rw [wQ]; omega
   rw [tQ (show ((k + 1 : Nat) : Int) > 0 by omega),hw2,cQ,zB (show k < xs.length by omega),bQ,bQ,bQ,zCX,tQ (h3 k (k + 1) (by omega) hk (by omega))]
   rfl) (fun m => ⟨(),by simp only [qN]; rw [zz]; rfl⟩) n 0 (by omega) (by omega) with ⟨a,e,_⟩ | ⟨_,p⟩
 ·rw [show qN n n xs 0 = _ from e,bQ]
  simp only [Ja]
  rw [tQ (by omega)]
 ·exact absurd (fun _ _ _ => trivial) p
theorem zAg (n : Nat) (xs : List zC) (h : xs.length ≤ 1048580) (hok : ZK n xs = some true) : zCp xs := by
 obtain ⟨h1,h2,_⟩ := zDS n xs h hok
 refine ⟨h1,fun v hv => ?_,?_⟩
 ·obtain ⟨j,hj,rfl⟩ := List.getElem_of_mem hv
  exact zHO n _ (h2 j hj)
 ·rw [List.pairwise_iff_getElem]
  intro i j hi hj hij
  exact zFQ n xs h hok j i hij hj
theorem zCp.sub {xs ys : List zC} (h : zCp xs) (hs : ys.Sublist xs) : zCp ys := ⟨Nat.le_trans hs.length_le h.1,fun v hv => h.2.1 v (hs.subset hv),h.2.2.sublist hs⟩
theorem JG (n : Nat) (bits : Int) (x : zA) (h : x.Ps.length ≤ 6) : ∀ (m k : Nat) (ys zs : List zC),k ≤ x.Ps.length → ys.length ≤ 134217728 → ys.length < n → qJ n m bits x k ys = some (.inl zs) → zs.Sublist ys
 | 0,k,ys,zs,h1,h3,h4,e => by cases e
 | m + 1,k,ys,zs,h1,h3,h4,e => by
  rw [qJ] at e
  by_cases hk : k < x.Ps.length
  ·rw [qH hk,cQ,zBG n bits k (by omega),bQ,vQ k,Ji n ys _ h3 h4] at e
   cases hb : zCG bits k with
   | true =>
    rw [hb] at e
    exact JG n bits x h m (k + 1) ys zs (by omega) h3 h4 e
   | false =>
    rw [hb] at e
    have hle := List.length_filter_le (fun v : zC => v.Sc || v.Port != (k : Int)) ys
    exact (JG n bits x h m (k + 1) (ys.filter fun v => v.Sc || v.Port != (k : Int)) zs (by omega) (by omega) (by omega) e).trans List.filter_sublist
  ·have he : k = x.Ps.length := by omega
   subst he
   rw [zz] at e
   cases e
   exact List.Sublist.refl _
theorem zEx (n : Nat) (x y : zA) (h : x.Ps.length ≤ 6) (h3 : x.F.length ≤ 134217728) (h4 : x.F.length < n) (e : qm n x = some y) : y.F.Sublist x.F := by
 unfold qm at e
 obtain ⟨v,_,e⟩ := bind_some e
 obtain ⟨b,_,e⟩ := bind_some e
 obtain ⟨o,ho,e⟩ := bind_some e
 cases o with
 | inl zs =>
  have hz := JG n b x h n 0 x.F zs (by omega) h3 h4 ho
  cases e
  exact hz
 | inr r =>
  exfalso
  have key : ∀ (m k : Nat) (ys : List zC),k ≤ x.Ps.length → ys.length ≤ 134217728 → ys.length < n → ∀ r,qJ n m b x k ys ≠ some (.inr r) := by
   intro m
   induction m with
   | zero => intro k ys h1 h3 h4 r e; cases e
   | succ m ih =>
    intro k ys h1 h3 h4 r e
    rw [qJ] at e
    by_cases hk : k < x.Ps.length
    ·rw [qH hk,cQ,zBG n b k (by omega),bQ,vQ k,Ji n ys _ h3 h4] at e
     have hle := List.length_filter_le (fun v : zC => v.Sc || v.Port != (k : Int)) ys
     cases hb : zCG b k with
     | true => rw [hb] at e; exact ih (k + 1) ys (by omega) h3 h4 r e
     | false => rw [hb] at e; exact ih (k + 1) _ (by omega) (by omega) (by omega) r e
    ·have he : k = x.Ps.length := by omega
     subst he
     rw [zz] at e
     cases e
  exact key n 0 x.F (by omega) h3 h4 r ho
def zBV (v : zC) : Option zC := if v.Sc then some v else if v.Age < 4 then some ⟨v.Tag,v.Mac,v.Port,v.Age + 1,false⟩ else none
theorem zCA (n : Nat) (xs : List zC) (h : xs.length ≤ 134217728) (ha : ∀ v ∈ xs,0 ≤ v.Age ∧ v.Age ≤ 1000) : ∀ (m k : Nat) (acc : List zC),k ≤ xs.length → xs.length < m + k → acc.length ≤ k → ql n m xs k acc = some (.inl (acc ++ (xs.drop k).filterMap zBV))
 | 0,k,acc,h1,h2,h3 => by omega
 | m + 1,k,acc,h1,h2,h3 => by
  rw [ql]
  by_cases hk : k < xs.length
  ·rw [qH hk,cQ,zB hk,bQ,vQ k]
   have hg : ∀ v : zC,decide (acc.length + [v].length ≤ 268435456) = true := fun v => tQ (by simp; omega)
   simp only [hg,cQ]
   have ih := fun acc' h3' => zCA n xs h ha m (k + 1) acc' (by omega) (by omega) h3'
   rw [List.drop_eq_getElem_cons hk,List.filterMap_cons]
   cases hs : xs[k].Sc with
   | true =>
    have e : zBV xs[k] = some xs[k] := by unfold zBV; rw [if_pos hs]
    rw [cQ,ih (acc ++ [xs[k]]) (by simp; omega),e]
    simp
   | false =>
    have hw : IntKind.wrap .i64 (xs[k].Age + 1) = xs[k].Age + 1 := by
     have := ha _ (List.getElem_mem hk)
     exact wQ
    by_cases hl : xs[k].Age < 4
    ·have e : zBV xs[k] = some ⟨xs[k].Tag,xs[k].Mac,xs[k].Port,xs[k].Age + 1,false⟩ := by unfold zBV; rw [if_neg (by simp [hs]),if_pos hl]
     rw [fQ,tQ hl,cQ,ih _ (by simp; omega),e,hw]
     simp
    ·have e : zBV xs[k] = none := by unfold zBV; rw [if_neg (by simp [hs]),if_neg hl]
     rw [fQ,dQ hl,fQ,ih _ (by omega),e]
  ·have he : k = xs.length := by omega
   subst he
   rw [zz]
   simp
theorem zE2 {v w : zC} (h : zBV v = some w) : w.Tag = v.Tag ∧ w.Mac = v.Mac ∧ (zIw v → zIw w) := by
 unfold zBV at h
 split at h
 ·cases h; exact ⟨rfl,rfl,id⟩
 ·split at h
  ·rename_i h1 h2
   cases h
   refine ⟨rfl,rfl,fun ⟨a,b,c,d,e⟩ => ⟨a,b,c,⟨by simp only; omega,by simp only; omega⟩,fun hs => by cases hs⟩⟩
  ·cases h
theorem zCp.age {xs : List zC} (h : zCp xs) : zCp (xs.filterMap zBV) := by
 obtain ⟨h1,h2,h3⟩ := h
 refine ⟨Nat.le_trans (List.length_filterMap_le _ _) h1,fun v hv => ?_,?_⟩
 ·obtain ⟨u,hu,e⟩ := List.mem_filterMap.1 hv
  exact (zE2 e).2.2 (h2 u hu)
 ·rw [List.pairwise_filterMap]
  refine h3.imp fun {a b} hab a' ha b' hb => ?_
  obtain ⟨p1,p2,_⟩ := zE2 ha
  obtain ⟨q1,q2,_⟩ := zE2 hb
  unfold zB0 at hab ⊢
  rw [p1,p2,q1,q2]
  exact hab
theorem zC6 (n : Nat) (xs : List zC) (h : zCp xs) (hn : 12 < n) : YP n xs = some (xs.filterMap zBV) := by
 have h1 := h.1
 unfold YP
 rw [show ql n n xs 0 [] = _ from zCA n xs (by omega) (fun v hv => by have := (h.2.1 v hv).2.2.2.1; omega) n 0 [] (by omega) (by omega) (by simp)]
 rfl
theorem zKF {v : zC} (h : zIw v) : v.wf := by
 obtain ⟨h1,h2,h3,h4,_⟩ := h
 exact ⟨qR (by omega) (by omega),qR (by omega) (by omega),qR (by omega) (by omega),qR (by omega) (by omega),trivial⟩
theorem zH2 (n : Nat) (x : zA) (hn : 1048577 < n) (wx : x.wf) (hx : x.sz ≤ 1048576) (hb : zN n x = some true) (ps : List Pt) (hp : ps.length = x.Ps.length) (hps : ∀ j (hj : j < ps.length),qE n ps[j] = some true) (wps : Q7 Pt.wf ps) (fs : List zC) (hf : fs.length ≤ x.F.length) (hfs : zCp fs) (t : Int) (t0 : 0 ≤ t) (t1 : t ≤ 1000000) :
  ∃ (zs : List zC) (v b : Int),qm n ⟨x.Id,x.Name,ps,fs,x.V,t,x.Pa,x.Wo,x.Dr,x.Ve⟩ = some ⟨x.Id,x.Name,ps,zs,x.V,t,x.Pa,x.Wo,x.Dr,v⟩ ∧ ZO n ⟨x.Id,x.Name,ps,fs,x.V,t,x.Pa,x.Wo,x.Dr,x.Ve⟩ = some ⟨x.Id,x.Name,ps,zs,x.V,t,x.Pa,x.Wo,x.Dr,v⟩ ∧
   zN n ⟨x.Id,x.Name,ps,zs,x.V,t,x.Pa,x.Wo,x.Dr,v⟩ = some true ∧ (⟨x.Id,x.Name,ps,zs,x.V,t,x.Pa,x.Wo,x.Dr,v⟩ : zA).wf ∧ (⟨x.Id,x.Name,ps,zs,x.V,t,x.Pa,x.Wo,x.Dr,v⟩ : zA).sz ≤ x.sz ∧ Zf n x.Id ps = some b ∧ (∀ u ∈ zs,u.Sc = true ∨ ∀ j : Nat,j < ps.length → zCG b j = false → u.Port ≠ j) ∧ zs.Sublist fs := by
 have hs : x.Name.size + x.Ps.length + x.F.length + x.V.sz = x.sz := rfl
 obtain ⟨p1,p2,p3,p4,p5,p6,p7,p8,p9,p10,p11,p12,p13⟩ := zt n x (by omega) hb
 obtain ⟨zs,v,b,e1,e2,e3,e4,e5,e6,e7,e8⟩ := zEr n x hn hx hb ps hp fs hf t
 have hsub := zEx n _ _ (by simp only; omega) (by simp only; omega) (by simp only; omega) e1
 have hz : zCp zs := hfs.sub hsub
 have hz1 := hz.1
 obtain ⟨w1,w2,w3,w4,w5,w6,w7,w8,w9,w10,w11,w12⟩ := wx
 refine ⟨zs,v,b,e1,e2,?_,⟨w1,w2,wps,⟨Nat.le_trans hz1 (by decide),fun u hu => zKF (hz.2.1 u hu)⟩,w5,w6,iQ (z := t),w8,w9,w10,iQ (z := v),trivial⟩,?_,e7,e8,hsub⟩
 ·exact zAP n ⟨x.Id,x.Name,ps,zs,x.V,t,x.Pa,x.Wo,x.Dr,v⟩ (by simp only; omega) (by simp only; omega) (by simp only; omega) p3 p4 p5 (zHq n zs (by omega) hz) (by simp only [hp]; exact p7) ⟨t0,t1⟩ p9 p10 p11 ⟨e5,e6⟩ hps
 ·show x.Name.size + ps.length + zs.length + x.V.sz ≤ x.sz
  omega
theorem zED : (⟨0,0,0,0,0⟩ : Vec).wf := by
 have z0 : zu 0 := qR (by omega) (by omega)
 exact ⟨z0,z0,z0,z0,z0,trivial⟩
theorem Yq (n : Nat) (p : Pt) (h : qE n p = some true) : (1 ≤ p.Co ∧ p.Co ≤ 1000) ∧ (p.Has = true → p.Up = true ∧ zw n p.Hd = some true) ∧ (p.Has = false → p.Hd = ⟨0,0,0,0,0⟩) := by
 unfold qE at h
 rw [zJ,bQ] at h
 cases hc : (decide (1 ≤ p.Co) && decide (p.Co ≤ 1000)) with
 | false => rw [hc] at h; cases h
 | true =>
  have h0 : ∀ {v : Vec},some ((v.Root == 0) && ((v.Co == 0) && ((v.Hops == 0) && ((v.Bridge == 0) && ((v.Port == 0) && true))))) = some true → v = ⟨0,0,0,0,0⟩ := fun {v} e => by
   have e := Option.some.inj e
   simp only [Bool.and_eq_true,beq_iff_eq] at e
   obtain ⟨a,b,c,d,f,_⟩ := e
   cases v
   simp_all
  simp only [Bool.and_eq_true,decide_eq_true_eq] at hc
  rw [tQ hc.1,tQ hc.2] at h
  simp only [Bool.and_self,nQ,fQ] at h
  cases hu : p.Up with
  | false =>
   rw [hu] at h
   simp only [Bool.not_false,cQ] at h
   cases hh : p.Has with
   | true => rw [hh] at h; cases h
   | false => rw [hh] at h; exact ⟨hc,fun e => (by cases e),fun _ => h0 h⟩
  | true =>
   rw [hu] at h
   simp only [nQ,fQ] at h
   cases hh : p.Has with
   | false => rw [hh] at h; exact ⟨hc,fun e => (by cases e),fun _ => h0 h⟩
   | true =>
    rw [hh] at h
    simp only [nQ,fQ] at h
    obtain ⟨b,hb,h⟩ := bind_some h
    cases h
    exact ⟨hc,fun _ => ⟨rfl,hb⟩,fun e => (by cases e)⟩
theorem zD6 (n : Nat) (c : Int) (up : Bool) (h : 1 ≤ c ∧ c ≤ 1000) : qE n ⟨up,c,false,⟨0,0,0,0,0⟩⟩ = some true := by
 unfold qE
 rw [zJ,bQ,tQ h.1,tQ h.2]
 cases up <;> rfl
theorem zD7 (n : Nat) (c : Int) (v : Vec) (h : 1 ≤ c ∧ c ≤ 1000) (hv : zw n v = some true) : qE n ⟨true,c,true,v⟩ = some true := by
 unfold qE
 rw [zJ,bQ,tQ h.1,tQ h.2]
 simp only [Bool.and_self,nQ,fQ,hv,bQ]
theorem zHm {α : Type} {P : α → Prop} {xs : List α} {k : Nat} {v : α} (h : ∀ j (hj : j < xs.length),P xs[j]) (hv : P v) : ∀ j (hj : j < (xs.set k v).length),P (xs.set k v)[j] := fun j hj => by
 rw [List.getElem_set]
 split
 ·exact hv
 ·exact h j (by simpa using hj)
theorem zC8 (n : Nat) (x : zA) (k : Nat) (up : Bool) (wx : x.wf) (hx : x.sz ≤ 1048576) (hn : 1048577 < n) (hb : zN n x = some true) (hk : k < x.Ps.length) : ∃ y : zA,QC n x k up = some y ∧ Yc n x k up = some y ∧ zN n y = some true ∧ y.wf ∧ y.sz ≤ x.sz ∧ y.Id = x.Id ∧ y.Ps = x.Ps.set k ⟨up,x.Ps[k].Co,false,⟨0,0,0,0,0⟩⟩ ∧ ∃ b,Zf n y.Id y.Ps = some b ∧ (∀ u ∈ y.F,u.Sc = true ∨ ∀ j : Nat,j < y.Ps.length → zCG b j = false → u.Port ≠ j) ∧ y.F.Sublist x.F := by
 have hs : x.Name.size + x.Ps.length + x.F.length + x.V.sz = x.sz := rfl
 obtain ⟨b,h1,h2⟩ := Z4 n x wx (by omega) (by omega)
 rw [hb] at h1
 obtain rfl := Option.some.inj h1
 obtain ⟨p1,p2,p3,p4,p5,p6,p7,p8,p9,p10,p11,p12,p13⟩ := zt n x (by omega) hb
 have hc := (Yq n _ (p13 k hk)).1
 have wk := (wx.2.2.1.2 _ (List.getElem_mem hk))
 obtain ⟨zs,v,bb,e1,e2,e3,e4,e5,e6,e7,e8⟩ := zH2 n x hn wx hx hb (x.Ps.set k ⟨up,x.Ps[k].Co,false,⟨0,0,0,0,0⟩⟩) (by simp) (zHm (P := fun q => qE n q = some true) p13 (zD6 n _ up hc)) (zEP wx.2.2.1 ⟨wk.1,zED.1,zED.2.1,zED.2.2.1,zED.2.2.2.1,zED.2.2.2.2.1,trivial⟩) x.F (Nat.le_refl _) (zAg n x.F (by omega) p6) x.Tk p8.1 p8.2
 have there : (true && (decide ((0 : Int) ≤ k) && decide ((k : Int) < x.Ps.length))) = true := by
  rw [tQ (by omega),tQ (by omega)]; rfl
 refine ⟨_,?_,?_,e3,e4,e5,rfl,rfl,bb,e6,e7,e8⟩
 ·unfold QC
  rw [YR n x (by omega),bQ,J4 n x k true hb (by omega),bQ,there]
  simp only [nQ,fQ,zB hk,bQ,Int.toNat_natCast,e1]
 ·unfold Yc
  rw [Qe n x (by omega),bQ,zAo n x k true h2 (by omega),bQ,there]
  simp only [cQ,zB hk,bQ,Int.toNat_natCast,e2]
theorem zGW (n : Nat) (x : zA) (k : Nat) (u : Vec) (wx : x.wf) (hx : x.sz ≤ 1048576) (hn : 1048577 < n) (hb : zN n x = some true) (hk : k < x.Ps.length) (hu : x.Ps[k].Up = true) (hv : zw n u = some true) : ∃ y : zA,QB n x k u = some y ∧ Yb n x k u = some y ∧ zN n y = some true ∧ y.wf ∧ y.sz ≤ x.sz ∧ y.Id = x.Id ∧ y.Ps = x.Ps.set k ⟨true,x.Ps[k].Co,true,u⟩ ∧ ∃ b,Zf n y.Id y.Ps = some b ∧ (∀ u ∈ y.F,u.Sc = true ∨ ∀ j : Nat,j < y.Ps.length → zCG b j = false → u.Port ≠ j) ∧ y.F.Sublist x.F := by
 have hs : x.Name.size + x.Ps.length + x.F.length + x.V.sz = x.sz := rfl
 obtain ⟨b,h1,h2⟩ := Z4 n x wx (by omega) (by omega)
 rw [hb] at h1
 obtain rfl := Option.some.inj h1
 obtain ⟨p1,p2,p3,p4,p5,p6,p7,p8,p9,p10,p11,p12,p13⟩ := zt n x (by omega) hb
 have hc := (Yq n _ (p13 k hk)).1
 have wk := (wx.2.2.1.2 _ (List.getElem_mem hk))
 have wu := zD9 n u hv
 obtain ⟨zs,v,bb,e1,e2,e3,e4,e5,e6,e7,e8⟩ := zH2 n x hn wx hx hb (x.Ps.set k ⟨true,x.Ps[k].Co,true,u⟩) (by simp) (zHm (P := fun q => qE n q = some true) p13 (zD7 n _ u hc hv)) (zEP wx.2.2.1 ⟨wk.1,wu.1,wu.2.1,wu.2.2.1,wu.2.2.2.1,wu.2.2.2.2.1,trivial⟩) x.F (Nat.le_refl _) (zAg n x.F (by omega) p6) x.Tk p8.1 p8.2
 have there : (true && (decide ((0 : Int) ≤ k) && decide ((k : Int) < x.Ps.length))) = true := by
  rw [tQ (by omega),tQ (by omega)]; rfl
 have hi : idx (x.Ps.set k ⟨x.Ps[k].Up,x.Ps[k].Co,true,x.Ps[k].Hd⟩) (k : Int) = some ⟨x.Ps[k].Up,x.Ps[k].Co,true,x.Ps[k].Hd⟩ := by
  rw [zB (by simpa using hk)]; simp
 have hi' : idx (x.Ps.set k ⟨true,x.Ps[k].Co,true,x.Ps[k].Hd⟩) (k : Int) = some ⟨true,x.Ps[k].Co,true,x.Ps[k].Hd⟩ := by
  rw [zB (by simpa using hk)]; simp
 refine ⟨_,?_,?_,e3,e4,e5,rfl,rfl,bb,e6,e7,e8⟩
 ·unfold QB
  rw [YR n x (by omega),bQ,J4 n x k true hb (by omega),bQ,there]
  simp only [nQ,fQ,zB hk,bQ,Int.toNat_natCast,hu,hv,hi,hi',List.set_set,e1]
 ·unfold Yb
  rw [Qe n x (by omega),bQ,zAo n x k true h2 (by omega),bQ,there]
  simp only [Jj,zBb,cQ,zB hk,bQ,Int.toNat_natCast,hu,hv,hi,hi',List.set_set,e2]
theorem zIZ (n : Nat) (x : zA) (wx : x.wf) (hx : x.sz ≤ 1048576) (hn : 1048577 < n) (hb : zN n x = some true) : ∃ y : zA,zAG n x = some y ∧ zCb n x = some y ∧ zN n y = some true ∧ y.wf ∧ y.sz ≤ x.sz ∧ y.Id = x.Id ∧ y.Ps = x.Ps ∧ (x.Tk < 1000000 → y.Tk = x.Tk + 1) ∧ ∃ b,Zf n y.Id y.Ps = some b ∧ (∀ u ∈ y.F,u.Sc = true ∨ ∀ j : Nat,j < y.Ps.length → zCG b j = false → u.Port ≠ j) ∧ y.F.Sublist (x.F.filterMap zBV) := by
 have hs : x.Name.size + x.Ps.length + x.F.length + x.V.sz = x.sz := rfl
 obtain ⟨b,h1,h2⟩ := Z4 n x wx (by omega) (by omega)
 rw [hb] at h1
 obtain rfl := Option.some.inj h1
 obtain ⟨p1,p2,p3,p4,p5,p6,p7,p8,p9,p10,p11,p12,p13⟩ := zt n x (by omega) hb
 have hf := zAg n x.F (by omega) p6
 obtain ⟨fs,a1,a2,a3⟩ := zFm n x.F (by omega) (by omega) (fun v hv => by have := (hf.2.1 v hv).2.2.2.1; omega)
 rw [zC6 n x.F hf (by omega)] at a1
 obtain rfl := Option.some.inj a1
 obtain ⟨t,t1,t2,t3,t4⟩ := zEm n x.Tk p8.1 p8.2
 obtain ⟨zs,v,bb,e1,e2,e3,e4,e5,e6,e7,e8⟩ := zH2 n x hn wx hx hb x.Ps rfl p13 wx.2.2.1 (x.F.filterMap zBV) a3 hf.age t t3 t4
 refine ⟨_,?_,?_,e3,e4,e5,rfl,rfl,fun hlt => ?_,bb,e6,e7,e8⟩
 ·unfold zAG
  simp only [YR n x (show x.sz ≤ 268435456 by omega),hb,zC6 n x.F hf (show 12 < n by omega),t1,bQ,nQ,fQ,e1]
 ·unfold zCb
  simp only [Qe n x (show x.sz ≤ 268435456 by omega),h2,a2,t2,bQ,cQ,e2]
 ·unfold YS at t1
  rw [dQ (by omega),fQ,wQ] at t1
  exact (Option.some.inj t1).symm
def zCm (n : Nat) (x : Net) (s : Say) : Prop := (0 ≤ s.Link ∧ s.Link < x.Ls.length) ∧ zw n s.V = some true
def zJ8 (n : Nat) (x : Net) : Prop := ∀ s ∈ x.Said,zCm n x s
theorem zAp (n : Nat) (x : Net) (wx : x.wf) (h : Big x) (hn : 1048700 < n) : ∃ b,QS n x = some b ∧ Yy n x = some b ∧ (b = true ↔ zE0 n x ∧ zJ8 n x) := by
 have ⟨hl1,hl2,hl3,hl4⟩ := h
 obtain ⟨bB,eB,iB⟩ := zEA n x wx h hn
 have hsaid : ∃ bS : Bool,(∃ o,q4 n n x 0 = some o ∧ Z8 n n x 0 = some o ∧ (o = .inl () ∧ bS = true ∨ o = .inr false ∧ bS = false)) ∧ (bS = true ↔ zJ8 n x) := by
  have step : ∀ m (k : Nat) (hk : k < x.Said.length),∃ b : Bool,q4 n (m + 1) x k = (bif b then q4 n m x ((k + 1 : Nat) : Int) else some (.inr false)) ∧ Z8 n (m + 1) x k = (bif b then Z8 n m x ((k + 1 : Nat) : Int) else some (.inr false)) ∧ (b = true ↔ zCm n x x.Said[k]) := fun m k hk => by
   obtain ⟨c,hc⟩ := zBD n x.Said[k].V
   rw [q4,Z8,qH hk,zB hk]
   simp only [cQ,bQ,qb,Qn n _ _ (show x.Ls.length ≤ 1048600 by omega),zBb,hc,vQ k]
   by_cases hr : 0 ≤ x.Said[k].Link ∧ x.Said[k].Link < x.Ls.length
   ·rw [tQ hr]
    cases c with
    | false => exact ⟨false,rfl,rfl,⟨fun e => (by cases e),fun e => absurd (hc.symm.trans e.2) (by simp)⟩⟩
    | true => exact ⟨true,rfl,rfl,⟨fun _ => ⟨hr,hc⟩,fun _ => rfl⟩⟩
   ·rw [dQ hr]; exact ⟨false,rfl,rfl,⟨fun e => (by cases e),fun e => absurd e.1 hr⟩⟩
  have all : ∀ (m k : Nat),k ≤ x.Said.length → x.Said.length < m + k → ∃ o,q4 n m x k = some o ∧ Z8 n m x k = some o ∧ ((o = .inl () ∧ ∀ j (hj : j < x.Said.length),k ≤ j → zCm n x x.Said[j]) ∨ (o = .inr false ∧ ∃ j,∃ hj : j < x.Said.length,¬ zCm n x x.Said[j])) := by
   intro m
   induction m with
   | zero => intro k h1 h2; omega
   | succ m ih =>
    intro k h1 h2
    by_cases hk : k < x.Said.length
    ·obtain ⟨b,e1,e2,e3⟩ := step m k hk
     rw [e1,e2]
     cases b with
     | true =>
      obtain ⟨o,f1,f2,f3⟩ := ih (k + 1) (by omega) (by omega)
      refine ⟨o,f1,f2,f3.imp (fun f => ⟨f.1,fun j hj hkj => ?_⟩) id⟩
      by_cases hjk : j = k
      ·subst hjk; exact e3.1 rfl
      ·exact f.2 j hj (by omega)
     | false => exact ⟨_,rfl,rfl,.inr ⟨rfl,k,hk,fun hc => (by have := e3.2 hc; cases this)⟩⟩
    ·have he : k = x.Said.length := by omega
     subst he
     rw [q4,Z8,zz]
     exact ⟨_,rfl,rfl,.inl ⟨rfl,fun j hj hkj => by omega⟩⟩
  obtain ⟨o,e1,e2,e3⟩ := all n 0 (by omega) (by omega)
  rcases e3 with ⟨e3,e4⟩ | ⟨e3,j,hj,e4⟩
  ·refine ⟨true,⟨o,e1,e2,.inl ⟨e3,rfl⟩⟩,⟨fun _ s hs => ?_,fun _ => rfl⟩⟩
   obtain ⟨j,hj,rfl⟩ := List.getElem_of_mem hs
   exact e4 j hj (by omega)
  ·exact ⟨false,⟨o,e1,e2,.inr ⟨e3,rfl⟩⟩,⟨fun e => (by cases e),fun hc => absurd (hc _ (List.getElem_mem hj)) e4⟩⟩
 obtain ⟨bS,⟨oS,s1,s2,s3⟩,iS⟩ := hsaid
 have s1' : q4 n n x 0 = some oS := s1
 have s2' : Z8 n n x 0 = some oS := s2
 have l4 := QU (L := fun m k => qv n m x k) (N := x.Ls.length) (P := fun k => ∀ hk : k < x.Ls.length,LOk x x.Ls[k] ∧ qG (qO x.Ls[k].A x.Ls[k].P) x.Ls = 1 ∧ qG (qO x.Ls[k].B x.Ls[k].Q) x.Ls = 1) (fun m k hk => zEw n x h hn m k hk) (fun m => ⟨(),by simp only [qv]; rw [zz]; rfl⟩) n 0 (by omega) (by omega)
 have l2 := QU (L := fun m k => ZA n m x k) (N := x.Ls.length) (P := fun k => ∀ hk : k < x.Ls.length,k < 9 ∧ LOk x x.Ls[k] ∧ (x.Ls.take k).any (qC x.Ls[k].A x.Ls[k].P) = false ∧ (x.Ls.take k).any (qC x.Ls[k].B x.Ls[k].Q) = false) (fun m k hk => zDw n x h hn m k hk) (fun m => ⟨(),by simp only [ZA]; rw [zz]; rfl⟩) n 0 (by omega) (by omega)
 have lB := QU (L := fun m k => Zd n m x k) (N := x.Bs.length) (P := BOk n x) (fun m k hk => zEv n x wx h hn m k hk) (fun m => ⟨(),by simp only [Zd]; rw [zz]; rfl⟩) n 0 (by omega) (by omega)
 have hiff : (x.Ls.length ≤ 9 ∧ ∀ j,0 ≤ j → j < x.Ls.length → ∀ hk : j < x.Ls.length,LOk x x.Ls[j] ∧ qG (qO x.Ls[j].A x.Ls[j].P) x.Ls = 1 ∧ qG (qO x.Ls[j].B x.Ls[j].Q) x.Ls = 1) ↔
   (∀ j,0 ≤ j → j < x.Ls.length → ∀ hk : j < x.Ls.length,j < 9 ∧ LOk x x.Ls[j] ∧ (x.Ls.take j).any (qC x.Ls[j].A x.Ls[j].P) = false ∧ (x.Ls.take j).any (qC x.Ls[j].B x.Ls[j].Q) = false) := by
  constructor
  ·rintro ⟨h9,hc⟩ j _ hj hj'
   have hne : ∀ l ∈ x.Ls,l.A ≠ l.B := fun l hl => by
    obtain ⟨i,hi,rfl⟩ := List.getElem_of_mem hl
    exact (hc i (by omega) hi hi).1.1
   exact ⟨by omega,(hc j (by omega) hj hj).1,(zGt x.Ls hne).1 (fun k hk => (hc k (by omega) hk hk).2) j hj⟩
  ·intro hc
   have hne : ∀ l ∈ x.Ls,l.A ≠ l.B := fun l hl => by
    obtain ⟨i,hi,rfl⟩ := List.getElem_of_mem hl
    exact (hc i (by omega) hi hi).2.1.1
   refine ⟨?_,fun j _ hj _ => ⟨(hc j (by omega) hj hj).2.1,(zGt x.Ls hne).2 (fun k hk => (hc k (by omega) hk hk).2.2) j hj⟩⟩
   by_cases h0 : x.Ls.length = 0
   ·omega
   ·have := (hc (x.Ls.length - 1) (by omega) (by omega) (by omega)).1
    omega
 have hS : ∀ (bb : Bool),(bif decide ((x.Said.length : Int) > 40) then (some false : Option Bool) else some bb) = some (decide (x.Said.length ≤ 40) && bb) := fun bb => by
  by_cases h40 : x.Said.length ≤ 40
  ·rw [dQ (by omega),tQ h40]; cases bb <;> rfl
  ·rw [tQ (by omega),dQ h40]; rfl
 have hn6 : (decide ((1 : Int) ≤ (x.Bs.length : Int)) && decide ((x.Bs.length : Int) ≤ 6)) = decide (1 ≤ x.Bs.length ∧ x.Bs.length ≤ 6) := by
  by_cases h6 : 1 ≤ x.Bs.length ∧ x.Bs.length ≤ 6
  ·rw [tQ h6,tQ (by omega),tQ (by omega)]; rfl
  ·rw [dQ h6]; simp only [Bool.and_eq_false_iff,decide_eq_false_iff_not]; omega
 have hL : ∀ (b' : Bool),(bif decide ((x.Ls.length : Int) > 9) then (some false : Option Bool) else some b') = some (decide (x.Ls.length ≤ 9) && b') := fun b' => by
  by_cases h9 : x.Ls.length ≤ 9
  ·rw [dQ (by omega),tQ h9]; cases b' <;> rfl
  ·rw [tQ (by omega),dQ h9]; rfl
 have hN : ∀ (c b' : Bool),(bif !c then (some false : Option Bool) else some b') = some (c && b') := fun c b' => by cases c <;> rfl
 have hJ1 : Ye n x = some bS := by
  unfold Ye
  rw [s1']
  rcases s3 with ⟨rfl,rfl⟩ | ⟨rfl,rfl⟩ <;> rfl
 have hspec : ∃ b4 : Bool,QS n x = some (bB && (decide (x.Ls.length ≤ 9) && (decide (x.Said.length ≤ 40) && (b4 && bS)))) ∧ (b4 = true ↔ ∀ j,0 ≤ j → j < x.Ls.length → ∀ hk : j < x.Ls.length,LOk x x.Ls[j] ∧ qG (qO x.Ls[j].A x.Ls[j].P) x.Ls = 1 ∧ qG (qO x.Ls[j].B x.Ls[j].Q) x.Ls = 1) := by
  unfold QS
  rw [eB,bQ]
  rcases l4 with ⟨a,e,p⟩ | ⟨e,p⟩
  ·rw [show qv n n x 0 = _ from e]
   refine ⟨true,?_,⟨fun _ => p,fun _ => rfl⟩⟩
   simp only [bQ,hJ1,hS,hL,hN,Bool.true_and]
  ·rw [show qv n n x 0 = _ from e]
   refine ⟨false,?_,⟨fun hc => (by cases hc),fun hc => absurd hc p⟩⟩
   simp only [bQ,hS,hL,hN,Bool.false_and]
 have hlk : ∃ b2 : Bool,zCK n x = some b2 ∧ (b2 = true ↔ (∀ j,0 ≤ j → j < x.Ls.length → ∀ hk : j < x.Ls.length,j < 9 ∧ LOk x x.Ls[j] ∧ (x.Ls.take j).any (qC x.Ls[j].A x.Ls[j].P) = false ∧ (x.Ls.take j).any (qC x.Ls[j].B x.Ls[j].Q) = false)) := by
  unfold zCK
  rcases l2 with ⟨a,e,p⟩ | ⟨e,p⟩
  ·rw [show ZA n n x 0 = _ from e]; exact ⟨true,rfl,⟨fun _ => p,fun _ => rfl⟩⟩
  ·rw [show ZA n n x 0 = _ from e]; exact ⟨false,rfl,⟨fun hc => (by cases hc),fun hc => absurd hc p⟩⟩
 obtain ⟨b2,e2,i2⟩ := hlk
 have hJ2 : zCI n x = some (bS && b2) := by
  unfold zCI
  rw [s2']
  rcases s3 with ⟨rfl,rfl⟩ | ⟨rfl,rfl⟩
  ·simp only [bQ,zEg,e2,Bool.true_and]
  ·rfl
 have himpl : ∃ bb : Bool,Yy n x = some (decide (1 ≤ x.Bs.length ∧ x.Bs.length ≤ 6) && (decide (x.Said.length ≤ 40) && (bb && (bS && b2)))) ∧ (bb = true ↔ ∀ j,0 ≤ j → j < x.Bs.length → BOk n x j) := by
  unfold Yy
  rw [qb,zJ,bQ,hn6]
  rcases lB with ⟨a,e,p⟩ | ⟨e,p⟩
  ·rw [show Zd n n x 0 = _ from e]
   refine ⟨true,?_,⟨fun _ => p,fun _ => rfl⟩⟩
   simp only [bQ,hJ2,hS,hN,Bool.true_and]
  ·rw [show Zd n n x 0 = _ from e]
   refine ⟨false,?_,⟨fun hc => (by cases hc),fun hc => absurd hc p⟩⟩
   simp only [bQ,hS,hN,Bool.false_and]
 obtain ⟨b4,e4,i4⟩ := hspec
 obtain ⟨bb,eb,ib⟩ := himpl
 have heq : (bB && (decide (x.Ls.length ≤ 9) && (decide (x.Said.length ≤ 40) && (b4 && bS)))) = (decide (1 ≤ x.Bs.length ∧ x.Bs.length ≤ 6) && (decide (x.Said.length ≤ 40) && (bb && (bS && b2)))) := by
  rw [Bool.eq_iff_iff]
  simp only [Bool.and_eq_true,decide_eq_true_eq,iB,i4,ib,i2]
  constructor
  ·rintro ⟨⟨h1,h2⟩,h3,h4,h5,h6⟩
   exact ⟨h2,h4,fun j _ hj => h1 j hj,h6,hiff.1 ⟨h3,h5⟩⟩
  ·rintro ⟨h2,h4,h1,h6,h7⟩
   obtain ⟨h3,h5⟩ := hiff.2 h7
   exact ⟨⟨fun k hk => h1 k (by omega) hk,h2⟩,h3,h4,h5,h6⟩
 refine ⟨_,e4,by rw [heq]; exact eb,⟨fun hc => ?_,fun ⟨⟨h1,h2,h3,h4,h5⟩,h6⟩ => ?_⟩⟩
 ·simp only [Bool.and_eq_true,decide_eq_true_eq,iB,i4,iS] at hc
  obtain ⟨⟨h1,h2⟩,h3,h4,h5,h6⟩ := hc
  exact ⟨⟨h1,h2,h3,h4,fun k hk => h5 k (by omega) hk hk⟩,h6⟩
 ·simp only [Bool.and_eq_true,decide_eq_true_eq,iB,i4,iS]
  exact ⟨⟨h1,h2⟩,h3,h4,fun j _ hj hk => h5 j hk,h6⟩
theorem zEp (n : Nat) (v : Vec) : zw n v = some true ↔ (1 ≤ v.Root ∧ v.Root ≤ 99) ∧ (0 ≤ v.Co ∧ v.Co ≤ 100000) ∧ (0 ≤ v.Hops ∧ v.Hops ≤ 10) ∧ (1 ≤ v.Bridge ∧ v.Bridge ≤ 99) ∧ (0 ≤ v.Port ∧ v.Port ≤ 7) := by
 have two : ∀ {a b c : Int},(decide (a ≤ b) && decide (b ≤ c)) = true ↔ a ≤ b ∧ b ≤ c := fun {a b c} => by rw [Bool.and_eq_true,decide_eq_true_eq,decide_eq_true_eq]
 unfold zw
 simp only [zJ,bQ]
 constructor
 ·intro h
  obtain ⟨h1,h⟩ := Jt h
  obtain ⟨h2,h⟩ := Jt h
  obtain ⟨h3,h⟩ := Jt h
  obtain ⟨h4,h⟩ := Jt h
  have h5 := Option.some.inj h
  exact ⟨two.1 h1,two.1 h2,two.1 h3,two.1 h4,two.1 h5⟩
 ·rintro ⟨h1,h2,h3,h4,h5⟩
  rw [two.2 h1,two.2 h2,two.2 h3,two.2 h4,two.2 h5]
  rfl
end Go.Proofs.Ytajadnlejdpceaa.Tw
