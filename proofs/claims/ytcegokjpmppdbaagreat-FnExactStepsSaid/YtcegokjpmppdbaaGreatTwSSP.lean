import Derived.Test.YtcegokjpmppdbaaGreatTwSS
import Derived.Test.YtcegokjpmppdbaaGreatTlPlain
set_option linter.unusedVariables false
set_option linter.unusedSimpArgs false
set_option maxRecDepth 100000
set_option maxHeartbeats 1000000
namespace Go.Proofs.YtcegokjpmppdbaaGreat.Tw
open Go Go.TL Go.Proofs
def zF.sz (x : zF) : Nat := x.Rows.length + x.Pv.length
theorem zII (n : Nat) {xs : List Int} {b : Int} (h0 : 0 ≤ b) (h1 : b ≤ 1048576) (hl : xs.length ≤ maxLen) : ∃ r,zCN n xs b = some r ∧ Lft b xs.length r := zCD h0 h1 hl
theorem zHZ (n : Nat) {xs : List zC} {b : Int} (h0 : 0 ≤ b) (h1 : b ≤ 1048576) (hl : xs.length ≤ maxLen) : ∃ r,zBs n xs b = some r ∧ Lft b xs.length r := zCD h0 h1 hl
theorem zIK (n : Nat) {x : zF} {b : Int} (h0 : 0 ≤ b) (h1 : b ≤ 1048576) (hl : zF.wf x) : ∃ r,zAu n x b = some r ∧ Lft b x.sz r := by
 obtain ⟨r1,e1,k1⟩ := zHZ n h0 h1 hl.1.1
 simp only [zAu,e1,Option.bind_some]
 rcases k1.neg with ⟨c1,c2⟩ | ⟨c1,c2,c3⟩
 ·rw [c1]; exact ⟨_,rfl,.inl (by decide)⟩
 ·rw [c1]
  obtain ⟨r2,e2,k2⟩ := zII n c2 (by omega) hl.2.1.1
  simp only [e2,Option.bind_some,cond_false]
  rcases k2.neg with ⟨d1,d2⟩ | ⟨d1,d2,d3⟩
  ·rw [d1]; exact ⟨_,rfl,.inl (by decide)⟩
  ·rw [d1]; exact ⟨_,rfl,.inr ⟨d2,by unfold zF.sz; omega⟩⟩
theorem zIL (n : Nat) (xs : List Int) (h : xs.length ≤ 268435456) (hn : xs.length < n) : zAv n xs = some xs := by
 unfold zAv
 rw [decide_eq_true (by omega : (0 : Int) ≤ (xs.length : Int)),decide_eq_true (by omega : (xs.length : Int) ≤ 268435456)]
 have := zDD (L := Qd n) (fun m xs i ys => rfl) xs (by omega) n 0 (List.replicate ((xs.length : Int)).toNat 0) (by omega) (by omega) (by simp) rfl
 simp only [Bool.and_self,cond_true]
 rw [show (Qd n n xs 0 (List.replicate ((xs.length : Int)).toNat 0)) = _ from this]
 rfl
theorem zHc (n : Nat) (xs : List zC) (h : xs.length ≤ 1048576) (hn : xs.length < n) : zAG n xs = some xs := by
 unfold zAG
 rw [decide_eq_true (by omega : (0 : Int) ≤ (xs.length : Int)),decide_eq_true (by omega : (xs.length : Int) ≤ 268435456)]
 have := zDD (L := QR n) (fun m xs i ys => rfl) xs (by omega) n 0 (List.replicate ((xs.length : Int)).toNat (⟨0,0,0⟩ : zC)) (by omega) (by omega) (by simp) rfl
 simp only [Bool.and_self,cond_true]
 rw [show (QR n n xs 0 (List.replicate ((xs.length : Int)).toNat (⟨0,0,0⟩ : zC))) = _ from this]
 rfl
theorem zIO (n : Nat) (x : zF) (h : x.sz ≤ 1048576) (hn : x.sz < n) : zAx n x = some x := by
 unfold zF.sz at h hn
 unfold zAx
 rw [zHc n x.Rows (by omega) (by omega),zIL n x.Pv (by omega) (by omega)]
 rfl
theorem zGg (n : Nat) (xs : List Int) (h : xs.length ≤ 268435456) (hn : xs.length < n) : zAr n xs xs = some true := by
 unfold zAr
 have := zA6 (L := Qb n) (f := fun a b => some (a == b)) (fun m xs ys i => rfl) xs (by omega) (fun v _ => by simp) n 0 (by omega) (by omega)
 simp only [bne_self_eq_false,cond_false]
 rw [show (Qb n n xs xs 0) = _ from this]
 rfl
theorem zGj (n : Nat) (v : zC) : JY n v v = some true := by simp [JY]
theorem zFx (n : Nat) (xs : List zC) (h : xs.length ≤ 268435456) (hn : xs.length < n) : zAB n xs xs = some true := by
 unfold zAB
 have := zA6 (L := QO n) (f := JY n) (fun m xs ys i => rfl) xs (by omega) (fun v _ => zGj n v) n 0 (by omega) (by omega)
 simp only [bne_self_eq_false,cond_false]
 rw [show (QO n n xs xs 0) = _ from this]
 rfl
theorem zGk (n : Nat) (x : zF) (h : x.sz ≤ 268435456) (hn : x.sz < n) : zAt n x x = some true := by
 unfold zF.sz at h hn
 unfold zAt
 rw [zFx n x.Rows (by omega) (by omega),zGg n x.Pv (by omega) (by omega)]
 rfl
theorem zHO (n : Nat) : Qs n = ZZ n := by
 funext m
 induction m with
 | zero => rfl
 | succ m ih => funext x i y; simp only [Qs,ZZ,ih]
theorem zIu (n : Nat) : zBU n = JA n := by
 funext x i; simp only [zBU,JA,zHO]; rfl
theorem zJK (n : Nat) (x : zF) (id : Int) (h : x.Rows.length ≤ 1048580) (hn : x.Rows.length < n) : ∃ r,JA n x id = some r ∧ (r = -1 ∧ (∀ v ∈ x.Rows,v.Id ≠ id) ∨ ∃ v,0 ≤ r ∧ idx x.Rows r = some v ∧ v.Id = id) := by
 unfold JA
 have hf := zJd (L := fun m xs i => ZZ n m ⟨xs,x.Pv⟩ id i) (p := fun i v => bif v.Id == id then some i else none) (fun m xs i => by
  show (bif _ then _ else _) = _
  congr 1
  congr 1
  funext v
  cases (v.Id == id) <;> rfl) x.Rows (by omega) n 0 (by omega) (by omega)
 rcases hf with ⟨e1,e2⟩ | ⟨j,hj,r,e1,e2,e3,e4⟩
 ·rw [show ZZ n n x id 0 = _ from e1]
  refine ⟨-1,rfl,.inl ⟨rfl,fun v hv => ?_⟩⟩
  obtain ⟨j,hj,rfl⟩ := List.getElem_of_mem hv
  have := e2 j hj (by omega)
  intro hid
  simp [hid] at this
 ·rw [show ZZ n n x id 0 = _ from e4]
  have hid : (x.Rows[j].Id == id) = true := by
   cases hc : (x.Rows[j].Id == id) with
   | true => rfl
   | false => rw [hc] at e2; cases e2
  rw [hid] at e2
  cases e2
  exact ⟨_,rfl,.inr ⟨_,by omega,zK hj,by simpa using hid⟩⟩
theorem zI7 (n : Nat) {xs : List Pt} {b : Int} (h0 : 0 ≤ b) (h1 : b ≤ 1048576) (hl : xs.length ≤ maxLen) : ∃ r,zCs n xs b = some r ∧ Lft b xs.length r := zCD h0 h1 hl
theorem zJA (n : Nat) (xs : List Pt) (h : xs.length ≤ 1048576) (hn : xs.length < n) : zBZ n xs = some xs := by
 unfold zBZ
 rw [decide_eq_true (by omega : (0 : Int) ≤ (xs.length : Int)),decide_eq_true (by omega : (xs.length : Int) ≤ 268435456)]
 have := zDD (L := Qu n) (fun m xs i ys => rfl) xs (by omega) n 0 (List.replicate ((xs.length : Int)).toNat (⟨false,0,false,(⟨0,0,0,0,0⟩ : Vec)⟩ : Pt)) (by omega) (by omega) (by simp) rfl
 simp only [Bool.and_self,cond_true]
 rw [show (Qu n n xs 0 (List.replicate ((xs.length : Int)).toNat (⟨false,0,false,(⟨0,0,0,0,0⟩ : Vec)⟩ : Pt))) = _ from this]
 rfl
theorem zD8 (n : Nat) (v : Vec) : zAN n v v = some true := by simp [zAN]
theorem zIF (n : Nat) (v : Pt) : zBE n v v = some true := by simp [zBE,zD8]
theorem zHR (n : Nat) (xs : List Pt) (h : xs.length ≤ 268435456) (hn : xs.length < n) : zBX n xs xs = some true := by
 unfold zBX
 have := zA6 (L := Qt n) (f := zBE n) (fun m xs ys i => rfl) xs (by omega) (fun v _ => zIF n v) n 0 (by omega) (by omega)
 simp only [bne_self_eq_false,cond_false]
 rw [show (Qt n n xs xs 0) = _ from this]
 rfl
theorem Jj (n : Nat) (a b c : Int) : Tot (zP n a b c) := Tot.bif (fun _ => .of) (fun _ => .of)
theorem zCk (n : Nat) : Q5 n = zq n := rfl
theorem zCV (n : Nat) (v : Vec) : Tot (zq n v) := by
 unfold zq
 repeat' first | exact Tot.of | refine Tot.bind (Jj _ _ _ _) fun _ _ => ?_ | refine Tot.bif (fun _ => ?_) (fun _ => ?_)
theorem zHP (n : Nat) : zBl n = QV n := rfl
theorem zGy (n : Nat) (v : Vec) (c : Int) : Tot (QV n v c) := by
 unfold QV
 repeat' first | exact Tot.of | refine Tot.bind (Jj _ _ _ _) fun _ _ => ?_ | refine Tot.bind (zCV _ _) fun _ _ => ?_ | refine Tot.bif (fun _ => ?_) (fun _ => ?_)
theorem zD4 (n : Nat) : J2 n = Qw n := rfl
theorem zDZ (n : Nat) (v u : Vec) : Tot (Qw n v u) := by
 unfold Qw
 repeat' first | exact Tot.of | refine Tot.bif (fun _ => ?_) (fun _ => ?_)
theorem zCd (n : Nat) (x0 : Int) (x1 : List Pt) (h : x1.length ≤ 1048576) : ∀ (m k : Nat) (y2 y3 y4 y5 y6 y7 y8 y9 y10 : Int),k ≤ x1.length → x1.length < m + k → Tot (zp n m x0 x1 k y2 y3 y4 y5 y6 y7 y8 y9 y10)
 | 0,k,y2,y3,y4,y5,y6,y7,y8,y9,y10,h1,h2 => by omega
 | m + 1,k,y2,y3,y4,y5,y6,y7,y8,y9,y10,h1,h2 => by
  rw [zp]
  refine Tot.step (fun hk => ?_) .of
  have ih := fun y2 y3 y4 y5 y6 y7 y8 y9 y10 => zCd n x0 x1 h m (k + 1) y2 y3 y4 y5 y6 y7 y8 y9 y10 (by omega) (by omega)
  simp only [ZS,zS (by omega : k ≤ 1099511627776)]
  repeat' first | exact ih _ _ _ _ _ _ _ _ _ | exact Tot.of | refine Tot.bind (zLw hk) fun _ _ => ?_ | refine Tot.bind (zGy _ _ _) fun _ _ => ?_ | refine Tot.bind (zDZ _ _ _) fun _ _ => ?_ | refine Tot.bif (fun _ => ?_) (fun _ => ?_)
theorem zBP (n : Nat) (x0 : Int) (x1 : List Pt) (h : x1.length ≤ 1048576) (hn : x1.length < n) : Tot (Z3 n x0 x1) := by
 unfold Z3
 refine Tot.bind (zCd n x0 x1 h n 0 _ _ _ _ _ _ _ _ _ (by omega) (by omega)) fun o _ => ?_
 cases o <;> exact Tot.of
theorem zFp (n : Nat) : qD n = zp n := by
 funext m
 induction m with
 | zero => rfl
 | succ m ih =>
  funext x0 x1 y1 y2 y3 y4 y5 y6 y7 y8 y9 y10
  simp only [qD,zp,ih,Zq,ZS,zHP,zD4]
  cases idx x1 y1 <;> rfl
theorem zD3 (n : Nat) : Yb n = Z3 n := by
 funext x i; simp only [Yb,Z3,zFp]; rfl
theorem zEP (n : Nat) : JR n = qI n := by
 funext x i y; simp only [JR,qI,zD3]
theorem zHl (n : Nat) (x0 : Int) (x1 : List Pt) (x2 : Int) (h : x1.length ≤ 1048576) (hn : x1.length < n) : Tot (qI n x0 x1 x2) := Tot.bind (zBP n x0 x1 h hn) fun _ _ => .of
theorem zIA (n : Nat) : zAl n = YS n := by
 funext x i y; simp only [zAl,YS,zD3,zEP,zD4]; rfl
theorem zIa (n : Nat) (x0 : Int) (x1 : List Pt) (x2 : Int) (h : x1.length ≤ 1048576) (hn : x1.length < n) : ∃ r,YS n x0 x1 x2 = some r ∧ 1 ≤ r ∧ r ≤ 4 := by
 unfold YS zP
 rw [wrap64 (by omega) (by omega)]
 obtain ⟨b,hb⟩ := zBP n x0 x1 h hn
 obtain ⟨s,hs⟩ := zHl n x0 x1 x2 h hn
 by_cases h1 : x2 ≥ 0
 ·by_cases h2 : x2 ≤ (x1.length : Int) - 1
  ·obtain ⟨v,hv,_⟩ := zH8 (xs := x1) h1 (by omega)
   obtain ⟨l,hl⟩ := zDZ n s v.Hd
   simp only [decide_eq_true h1,decide_eq_true h2,cond_true,Option.bind_some,Bool.not_true,cond_false,hb,hs,hv,hl]
   cases v.Up <;> cases (b.2 == x2) <;> cases v.Has <;> cases l <;> exact ⟨_,rfl,by decide,by decide⟩
  ·simp only [decide_eq_true h1,decide_eq_false h2,cond_true,Option.bind_some,Bool.not_false]
   exact ⟨_,rfl,by decide,by decide⟩
 ·simp only [decide_eq_false h1,cond_false,Option.bind_some,Bool.not_false,cond_true]
  exact ⟨_,rfl,by decide,by decide⟩
theorem zNp {k : Nat} (h : k ≤ 1099511627776) : IntKind.wrap .u64 (k : Int) = k := by
 show ((k : Int) % 18446744073709551616) = k
 omega
theorem zDN (n : Nat) (x0 : Int) (x1 : List Pt) (h : x1.length ≤ 1048576) (hn : x1.length < n) : ∀ (m k : Nat) (y2 : Int),k ≤ x1.length → x1.length < m + k → ZX n m x0 x1 k y2 = Zb n m x0 x1 k y2 ∧ Tot (Zb n m x0 x1 k y2)
 | 0,k,y2,h1,h2 => by omega
 | m + 1,k,y2,h1,h2 => by
  rw [Zb,ZX]
  by_cases hk : k < x1.length
  ·have ih := fun y2 => zDN n x0 x1 h hn m (k + 1) y2 (by omega) (by omega)
   obtain ⟨r,hr,r1,r2⟩ := zIa n x0 x1 k h hn
   have hk' : decide ((k : Int) < (x1.length : Int)) = true := decide_eq_true (by omega)
   have h0 : decide ((0 : Int) ≤ (k : Int)) = true := decide_eq_true (by omega)
   simp only [hk',zS (by omega : k ≤ 1099511627776),zNp (by omega : k ≤ 1099511627776),zIA,hr,Option.bind_some,h0,cond_true,(ih _).1,true_and]
   have hc : r = 1 ∨ r = 2 ∨ r = 3 ∨ r = 4 := by omega
   rcases hc with rfl | rfl | rfl | rfl <;> cases (decide ((k : Int) < 6)) <;> first | exact ⟨rfl,(ih _).2⟩ | exact ⟨by trivial,Tot.of⟩
  ·have hk' : decide ((k : Int) < (x1.length : Int)) = false := decide_eq_false (by omega)
   rw [hk']
   exact ⟨by trivial,Tot.of⟩
theorem zHm (n : Nat) (x0 : Int) (x1 : List Pt) (h : x1.length ≤ 1048576) (hn : x1.length < n) : zBV n x0 x1 = Za n x0 x1 ∧ Tot (Za n x0 x1) := by
 obtain ⟨h1,o,h2⟩ := zDN n x0 x1 h hn n 0 0 (by omega) (by omega)
 unfold zBV Za
 have e1 : ZX n n x0 x1 0 0 = some o := h1.trans h2
 have e2 : Zb n n x0 x1 0 0 = some o := h2
 rw [e1,e2]
 cases o <;> exact ⟨by trivial,Tot.of⟩
theorem qe (n : Nat) : zw n = zP n := rfl
theorem zQ (n : Nat) (a b c : Int) : zP n a b c = some (decide (b ≤ a) && decide (a ≤ c)) := by
 unfold zP
 by_cases h : a ≥ b
 ·rw [decide_eq_true h]; rfl
 ·rw [decide_eq_false h]; rfl
theorem zEE {p : Int} (h0 : 1 ≤ p) (h1 : p ≤ 6) : ∃ a : Int,0 ≤ a ∧ a < 9223372036854775808 ∧ (IntKind.wrap .i64 ((IntKind.wrap .i64 (1 * 2 ^ min ((IntKind.wrap .u64 p)).toNat (IntKind.bits .i64))) - 1)) = a ∧ (IntKind.wrap .i64 ((IntKind.wrap .i64 (1 * 2 ^ min (p).toNat (IntKind.bits .i64))) - 1)) = a ∧ decide (0 ≤ (IntKind.wrap .u64 p)) = true ∧ decide (0 ≤ p) = true := by
 have hc : p = 1 ∨ p = 2 ∨ p = 3 ∨ p = 4 ∨ p = 5 ∨ p = 6 := by omega
 rcases hc with rfl | rfl | rfl | rfl | rfl | rfl
 ·exact ⟨1,by decide,by decide,by decide,by decide,by decide,by decide⟩
 ·exact ⟨3,by decide,by decide,by decide,by decide,by decide,by decide⟩
 ·exact ⟨7,by decide,by decide,by decide,by decide,by decide,by decide⟩
 ·exact ⟨15,by decide,by decide,by decide,by decide,by decide,by decide⟩
 ·exact ⟨31,by decide,by decide,by decide,by decide,by decide,by decide⟩
 ·exact ⟨63,by decide,by decide,by decide,by decide,by decide,by decide⟩
theorem zCf (n : Nat) (x0 : zF) (w0 : x0.wf) (x1 : Int) (hp0 : 1 ≤ x1) (hp1 : x1 ≤ 6) (h : x0.Rows.length ≤ 1048580) : ∀ (m k : Nat),k ≤ x0.Rows.length → x0.Rows.length < m + k → Zg n m x0 x1 k = ZM n m x0 x1 k ∧ Tot (ZM n m x0 x1 k)
 | 0,k,h1,h2 => by omega
 | m + 1,k,h1,h2 => by
  rw [ZM,Zg]
  by_cases hk : k < x0.Rows.length
  ·obtain ⟨ih1,o,ih2⟩ := zCf n x0 w0 x1 hp0 hp1 h m (k + 1) (by omega) (by omega)
   obtain ⟨a,ha0,ha1,ha2,ha3,ha4,ha5⟩ := zEE hp0 hp1
   have hk' : decide ((k : Int) < (x0.Rows.length : Int)) = true := decide_eq_true (by omega)
   have hv : x0.Rows[k] ∈ x0.Rows := List.getElem_mem hk
   have hi := zK hk
   generalize x0.Rows[k] = v at hv hi
   have hw := w0.1.2 v hv
   have hin : QH n x1 = some a := by unfold QH; rw [ha5,ha3]; rfl
   simp only [hk',zS (by omega : k ≤ 1099511627776),hi,Option.bind_some,cond_true,ih1,ih2,hin,qe,zQ,ha2]
   have hbits := fun hm0 hm1 => zNr (B := v.Bare) (M := v.Members) hw.2.2.1 hm0 hm1
   by_cases hm : 0 ≤ v.Members ∧ v.Members ≤ a
   ·have hb := hbits hm.1 (by omega)
    simp only [decide_eq_true hm.1,decide_eq_true hm.2,Bool.and_self,Bool.not_true,cond_false]
    by_cases hz : IntKind.wrap .i64 (BitVec.ofInt (IntKind.bits .i64) v.Bare &&& ~~~BitVec.ofInt (IntKind.bits .i64) v.Members).toNat = 0
    ·have h3 := hb.1 hz
     have hz' : ((IntKind.wrap .i64 (BitVec.ofInt (IntKind.bits .i64) v.Bare &&& ~~~BitVec.ofInt (IntKind.bits .i64) v.Members).toNat) != 0) = false := by rw [hz]; rfl
     have hy' : ((IntKind.wrap .i64 (BitVec.ofInt (IntKind.bits .i64) v.Bare &&& BitVec.ofInt (IntKind.bits .i64) v.Members).toNat) != v.Bare) = false := by rw [h3.2.2]; simp
     simp only [hz',hy',decide_eq_true h3.1,decide_eq_true (show v.Bare ≤ a by omega),Bool.and_self,Bool.not_true,cond_false]
     cases k with
     | zero => cases (decide (1 ≤ v.Id) && decide (v.Id ≤ 99)) <;> exact ⟨by trivial,Tot.of⟩
     | succ k =>
      have hw2 : IntKind.wrap .i64 (((k + 1 : Nat) : Int) - 1) = (k : Int) := by rw [wrap64 (by omega) (by omega)]; omega
      have hpos : decide (((k + 1 : Nat) : Int) > 0) = true := decide_eq_true (by omega)
      simp only [hw2,hpos,cond_true,zK (show k < x0.Rows.length by omega),Option.bind_some]
      cases (decide (1 ≤ v.Id) && decide (v.Id ≤ 99)) <;> cases (decide ((x0.Rows[k]'(by omega)).Id ≥ v.Id)) <;> exact ⟨by trivial,Tot.of⟩
    ·have hz' : ((IntKind.wrap .i64 (BitVec.ofInt (IntKind.bits .i64) v.Bare &&& ~~~BitVec.ofInt (IntKind.bits .i64) v.Members).toNat) != 0) = true := by simpa using hz
     have h3 : (decide (0 ≤ v.Bare) && decide (v.Bare ≤ a)) = false ∨ ((IntKind.wrap .i64 (BitVec.ofInt (IntKind.bits .i64) v.Bare &&& BitVec.ofInt (IntKind.bits .i64) v.Members).toNat) != v.Bare) = true := by
      by_cases hq : ((IntKind.wrap .i64 (BitVec.ofInt (IntKind.bits .i64) v.Bare &&& BitVec.ofInt (IntKind.bits .i64) v.Members).toNat) != v.Bare) = true
      ·exact .inr hq
      ·left
       simp at hq
       by_cases hr : 0 ≤ v.Bare ∧ v.Bare ≤ a
       ·have hle := zNs hw.2.2.1 hm.1 (by omega) hq
        exact absurd (hb.2 ⟨hle.1,hle.2,hq⟩) hz
       ·simp only [Bool.and_eq_false_iff,decide_eq_false_iff_not]; omega
     simp only [hz',cond_true]
     have hspec : (bif !(decide (0 ≤ v.Bare) && decide (v.Bare ≤ a)) then some (Sum.inr false) else bif ((IntKind.wrap .i64 (BitVec.ofInt (IntKind.bits .i64) v.Bare &&& BitVec.ofInt (IntKind.bits .i64) v.Members).toNat) != v.Bare) then some (Sum.inr false) else (bif decide ((k : Int) > 0) then (idx x0.Rows (IntKind.wrap .i64 ((k : Int) - 1))).bind fun v13 => bif decide (v13.Id ≥ v.Id) then some (Sum.inr false) else some o else some o)) = (some (Sum.inr false) : Option (Unit ⊕ Bool)) := by
      rcases h3 with h3 | h3
      ·rw [h3]; rfl
      ·rw [h3]; cases (decide (0 ≤ v.Bare) && decide (v.Bare ≤ a)) <;> rfl
     rw [hspec]
     cases k with
     | zero => cases (decide (1 ≤ v.Id) && decide (v.Id ≤ 99)) <;> exact ⟨by trivial,Tot.of⟩
     | succ k =>
      have hw2 : IntKind.wrap .i64 (((k + 1 : Nat) : Int) - 1) = (k : Int) := by rw [wrap64 (by omega) (by omega)]; omega
      have hpos : decide (((k + 1 : Nat) : Int) > 0) = true := decide_eq_true (by omega)
      simp only [hw2,hpos,cond_true,zK (show k < x0.Rows.length by omega),Option.bind_some]
      cases (decide (1 ≤ v.Id) && decide (v.Id ≤ 99)) <;> cases (decide ((x0.Rows[k]'(by omega)).Id ≥ v.Id)) <;> exact ⟨by trivial,Tot.of⟩
   ·have hm' : (decide (0 ≤ v.Members) && decide (v.Members ≤ a)) = false := by
     simp only [Bool.and_eq_false_iff,decide_eq_false_iff_not]; omega
    simp only [hm',Bool.not_false,cond_true]
    cases k with
    | zero => cases (decide (1 ≤ v.Id) && decide (v.Id ≤ 99)) <;> exact ⟨by trivial,Tot.of⟩
    | succ k =>
     have hw2 : IntKind.wrap .i64 (((k + 1 : Nat) : Int) - 1) = (k : Int) := by rw [wrap64 (by omega) (by omega)]; omega
     have hpos : decide (((k + 1 : Nat) : Int) > 0) = true := decide_eq_true (by omega)
     simp only [hw2,hpos,cond_true,zK (show k < x0.Rows.length by omega),Option.bind_some]
     cases (decide (1 ≤ v.Id) && decide (v.Id ≤ 99)) <;> cases (decide ((x0.Rows[k]'(by omega)).Id ≥ v.Id)) <;> exact ⟨by trivial,Tot.of⟩
  ·have hk' : decide ((k : Int) < (x0.Rows.length : Int)) = false := decide_eq_false (by omega)
   rw [hk']
   exact ⟨by trivial,Tot.of⟩
theorem zCe (n : Nat) (x0 : zF) (h : x0.Rows.length ≤ 1048580) (hn : x0.Rows.length < n) (hq : x0.Pv.length ≤ 1048580) : ∀ (m k : Nat),k ≤ x0.Pv.length → x0.Pv.length < m + k → QG n m x0 k = Zh n m x0 k ∧ Tot (Zh n m x0 k)
 | 0,k,h1,h2 => by omega
 | m + 1,k,h1,h2 => by
  rw [Zh,QG]
  by_cases hk : k < x0.Pv.length
  ·obtain ⟨ih1,o,ih2⟩ := zCe n x0 h hn hq m (k + 1) (by omega) (by omega)
   have hk' : decide ((k : Int) < (x0.Pv.length : Int)) = true := decide_eq_true (by omega)
   obtain ⟨r,hr,_⟩ := zJK n x0 x0.Pv[k] h hn
   simp only [hk',zS (by omega : k ≤ 1099511627776),zK hk,Option.bind_some,cond_true,ih1,ih2,zIu,hr]
   cases decide (r < 0) <;> exact ⟨by trivial,Tot.of⟩
  ·have hk' : decide ((k : Int) < (x0.Pv.length : Int)) = false := decide_eq_false (by omega)
   rw [hk']
   exact ⟨by trivial,Tot.of⟩
theorem zGz (n : Nat) (x0 : zF) (w0 : x0.wf) (x1 : Int) (h : x0.sz ≤ 1048580) (hn : x0.sz < n) : zAm n x0 x1 = Zx n x0 x1 ∧ Tot (Zx n x0 x1) := by
 have hs : x0.Rows.length + x0.Pv.length = x0.sz := rfl
 unfold zAm Zx
 simp only [qe,zQ,Option.bind_some]
 by_cases hp : 1 ≤ x1 ∧ x1 ≤ 6
 ·obtain ⟨a,ha0,ha1,ha2,ha3,ha4,ha5⟩ := zEE hp.1 hp.2
  obtain ⟨e1,o,e2⟩ := zCf n x0 w0 x1 hp.1 hp.2 (by omega) n 0 (by omega) (by omega)
  obtain ⟨f1,q,f2⟩ := zCe n x0 (by omega) (by omega) (by omega) n 0 (by omega) (by omega)
  have e1' : Zg n n x0 x1 0 = some o := e1.trans e2
  have e2' : ZM n n x0 x1 0 = some o := e2
  have f1' : QG n n x0 0 = some q := f1.trans f2
  have f2' : Zh n n x0 0 = some q := f2
  simp only [decide_eq_true hp.1,decide_eq_true hp.2,Bool.and_self,Bool.not_true,cond_false,ha4,cond_true,e1',e2',Option.bind_some]
  cases o with
  | inl u =>
   simp only [JS,Jf,f1',f2',Option.bind_some]
   cases q <;> exact ⟨rfl,Tot.bif (fun _ => .of) fun _ => Tot.bif (fun _ => .of) fun _ => .of⟩
  | inr r => exact ⟨rfl,Tot.bif (fun _ => .of) fun _ => Tot.bif (fun _ => .of) fun _ => .of⟩
 ·have hp' : (decide (1 ≤ x1) && decide (x1 ≤ 6)) = false := by
   simp only [Bool.and_eq_false_iff,decide_eq_false_iff_not]; omega
  rw [hp']
  exact ⟨by trivial,Tot.of⟩
theorem zF5 (n : Nat) (xs : List zC) (b : Int) (h : xs.length ≤ 268435456) (hn : xs.length < n) (h0 : 0 ≤ b) (h1 : b + (3 : Nat) * xs.length ≤ 1099511627776) : Y0 n xs b = some (b + (3 : Nat) * xs.length,q5 (fun _ b => (⟨b,b + 1,b + 2⟩ : zC)) 3 xs b) := by
 have := Jl (L := qy n) (f := fun _ b => (⟨b,b + 1,b + 2⟩ : zC)) (c := 3) (fun m k ys b v hk hl hv h0 h1 => by
  rw [qy,zo hk,Qf hv]
  simp only [cond_true,Option.bind_some,zLv hk,wrap64 (show -9223372036854775808 ≤ b + 1 by omega) (by omega),wrap64 (show -9223372036854775808 ≤ b + 1 + 1 by omega) (by omega),wrap64 (show -9223372036854775808 ≤ b + 1 + 1 + 1 by omega) (by omega),zS (show k ≤ 1099511627776 by omega)]
  rw [zLv (by simpa using hk)]
  simp only [Option.bind_some,List.set_set,Int.toNat_natCast]
  rw [show b + 1 + 1 = b + 2 by omega,show b + 2 + 1 = b + (3 : Nat) by omega])
  (fun m ys b => by rw [qy,zZ]; rfl) xs n [] b (by simpa using h) h0 h1 hn
 unfold Y0
 simp only [List.length_nil,List.nil_append] at this
 rw [show qy n n 0 xs b = _ from this]
 rfl
theorem zF1 (n : Nat) (xs : List zC) (b : Int) (h : xs.length ≤ 268435456) (hn : xs.length < n) (h0 : 0 ≤ b) (h1 : b + (3 : Nat) * xs.length ≤ 1099511627776) : Yw n (q5 (fun _ b => (⟨b,b + 1,b + 2⟩ : zC)) 3 xs b) b = some (b + (3 : Nat) * xs.length) := by
 have := zAj (L := qv n) (f := fun _ b => (⟨b,b + 1,b + 2⟩ : zC)) (c := 3) (fun m k ys b v hk hl hv h0 h1 => by
  rw [qv,zo hk,Qf hv]
  simp only [cond_true,Option.bind_some,bne_self_eq_false,cond_false,wrap64 (show -9223372036854775808 ≤ b + 1 by omega) (by omega),wrap64 (show -9223372036854775808 ≤ b + 1 + 1 by omega) (by omega),wrap64 (show -9223372036854775808 ≤ b + 1 + 1 + 1 by omega) (by omega),zS (show k ≤ 1099511627776 by omega)]
  rw [show b + 1 + 1 = b + 2 by omega,show b + 2 + 1 = b + (3 : Nat) by omega]
  simp only [bne_self_eq_false,cond_false])
  (fun m ys b => by rw [qv,zZ]; rfl) xs n [] b (by simpa using h) h0 h1 hn
 unfold Yw
 simp only [List.length_nil,List.nil_append] at this
 rw [show qv n n (q5 (fun _ b => (⟨b,b + 1,b + 2⟩ : zC)) 3 xs b) 0 b = _ from this]
 rfl
theorem zGn (n : Nat) (xs : List Int) (b : Int) (h : xs.length ≤ 268435456) (hn : xs.length < n) (h0 : 0 ≤ b) (h1 : b + (1 : Nat) * xs.length ≤ 1099511627776) : Jb n xs b = some (b + (1 : Nat) * xs.length,q5 (fun _ b => b) 1 xs b) := by
 have := Jl (L := ZA n) (f := fun _ b => b) (c := 1) (fun m k ys b v hk hl hv h0 h1 => by
  rw [ZA,zo hk,Qf hv]
  simp only [cond_true,Option.bind_some,wrap64 (show -9223372036854775808 ≤ b + 1 by omega) (by omega),zS (show k ≤ 1099511627776 by omega),Int.toNat_natCast]
  rfl)
  (fun m ys b => by rw [ZA,zZ]; rfl) xs n [] b (by simpa using h) h0 h1 hn
 unfold Jb
 simp only [List.length_nil,List.nil_append] at this
 rw [show ZA n n 0 xs b = _ from this]
 rfl
theorem zGl (n : Nat) (xs : List Int) (b : Int) (h : xs.length ≤ 268435456) (hn : xs.length < n) (h0 : 0 ≤ b) (h1 : b + (1 : Nat) * xs.length ≤ 1099511627776) : JZ n (q5 (fun _ b => b) 1 xs b) b = some (b + (1 : Nat) * xs.length) := by
 have := zAj (L := q8 n) (f := fun _ b => b) (c := 1) (fun m k ys b v hk hl hv h0 h1 => by
  rw [q8,zo hk,Qf hv]
  simp only [cond_true,Option.bind_some,bne_self_eq_false,cond_false,wrap64 (show -9223372036854775808 ≤ b + 1 by omega) (by omega),zS (show k ≤ 1099511627776 by omega)]
  rfl)
  (fun m ys b => by rw [q8,zZ]; rfl) xs n [] b (by simpa using h) h0 h1 hn
 unfold JZ
 simp only [List.length_nil,List.nil_append] at this
 rw [show q8 n n (q5 (fun _ b => b) 1 xs b) 0 b = _ from this]
 rfl
theorem zIi (n : Nat) (x : zF) (h : x.sz ≤ 268435456) : zA2 n x = some x := by
 have hs : x.Rows.length + x.Pv.length = x.sz := rfl
 unfold zA2
 simp only [List.length_nil,Nat.zero_add,decide_eq_true (show x.Rows.length ≤ 268435456 by omega),decide_eq_true (show x.Pv.length ≤ 268435456 by omega),cond_true,List.nil_append]
theorem zGc (n : Nat) (x : zF) (h : x.sz ≤ 268435456) : JT n x = some x := by
 have hs : x.Rows.length + x.Pv.length = x.sz := rfl
 unfold JT zBA
 simp only [List.length_nil,Nat.zero_add,decide_eq_true (show x.Rows.length ≤ 268435456 by omega),decide_eq_true (show x.Pv.length ≤ 268435456 by omega),cond_true,List.nil_append,Option.bind_some]
theorem zIP {α : Type} {wf : α → Prop} {xs : List α} {i : Nat} {v : α} (h : YP wf xs) (hv : wf v) : YP wf (xs.set i v) := ⟨by rw [List.length_set]; exact h.1,fun y hy => by
 rcases List.mem_or_eq_of_mem_set hy with h1 | h1
 ·exact h.2 y h1
 ·rw [h1]; exact hv⟩
theorem zHX (n : Nat) {xs : List zB} {b : Int} (h0 : 0 ≤ b) (h1 : b ≤ 1048576) (hl : xs.length ≤ maxLen) : ∃ r,zBq n xs b = some r ∧ Lft b xs.length r := zCD h0 h1 hl
theorem zHa (n : Nat) (xs : List zB) (h : xs.length ≤ 1048576) (hn : xs.length < n) : zAE n xs = some xs := by
 unfold zAE
 rw [decide_eq_true (by omega : (0 : Int) ≤ (xs.length : Int)),decide_eq_true (by omega : (xs.length : Int) ≤ 268435456)]
 have := zDD (L := QP n) (fun m xs i ys => rfl) xs (by omega) n 0 (List.replicate ((xs.length : Int)).toNat (⟨0,0,0,0,false⟩ : zB)) (by omega) (by omega) (by simp) rfl
 simp only [Bool.and_self,cond_true]
 rw [show (QP n n xs 0 (List.replicate ((xs.length : Int)).toNat (⟨0,0,0,0,false⟩ : zB))) = _ from this]
 rfl
theorem zGf (n : Nat) (v : zB) : JW n v v = some true := by simp [JW]
theorem zFv (n : Nat) (xs : List zB) (h : xs.length ≤ 268435456) (hn : xs.length < n) : J9 n xs xs = some true := by
 unfold J9
 have := zA6 (L := QM n) (f := JW n) (fun m xs ys i => rfl) xs (by omega) (fun v _ => zGf n v) n 0 (by omega) (by omega)
 simp only [bne_self_eq_false,cond_false]
 rw [show (QM n n xs xs 0) = _ from this]
 rfl
def zA.sz (x : zA) : Nat := x.Name.size + x.Ps.length + x.F.length + x.V.sz
theorem zGq (n : Nat) {x : zA} {b : Int} (h0 : 0 ≤ b) (h1 : b ≤ 1048576) (hl : zA.wf x) : ∃ r,YD n x b = some r ∧ Lft b x.sz r := by
 have hm : maxLen = 9223372036854775807 := by decide
 have hn := hl.2.1
 unfold YD
 rw [wrap64 (by omega) (by omega)]
 by_cases h : b - (x.Name.size : Int) < 0
 ·rw [decide_eq_true h]; exact ⟨_,rfl,.inl (by decide)⟩
 ·rw [decide_eq_false h]
  obtain ⟨r1,e1,k1⟩ := zI7 n (xs := x.Ps) (b := b - x.Name.size) (by omega) (by omega) hl.2.2.1.1
  simp only [cond_false,e1,Option.bind_some]
  rcases k1.neg with ⟨c1,c2⟩ | ⟨c1,c2,c3⟩
  ·rw [c1]; exact ⟨_,rfl,.inl (by decide)⟩
  ·rw [c1]
   obtain ⟨r2,e2,k2⟩ := zHX n (xs := x.F) c2 (by omega) hl.2.2.2.1.1
   simp only [cond_false,e2,Option.bind_some]
   rcases k2.neg with ⟨d1,d2⟩ | ⟨d1,d2,d3⟩
   ·rw [d1]; exact ⟨_,rfl,.inl (by decide)⟩
   ·rw [d1]
    obtain ⟨r3,e3,k3⟩ := zIK n (x := x.V) d2 (by omega) ⟨hl.2.2.2.2.1,hl.2.2.2.2.2.1,trivial⟩
    simp only [cond_false,e3,Option.bind_some]
    rcases k3.neg with ⟨f1,f2⟩ | ⟨f1,f2,f3⟩
    ·rw [f1]; exact ⟨_,rfl,.inl (by decide)⟩
    ·rw [f1]; exact ⟨_,rfl,.inr ⟨f2,by unfold zA.sz; omega⟩⟩
theorem zGs (n : Nat) (x : zA) (h : x.sz ≤ 1048576) (hn : x.sz < n) : YE n x = some x := by
 unfold zA.sz at h hn
 unfold YE
 rw [zJA n x.Ps (by omega) (by omega),zHa n x.F (by omega) (by omega),zIO n x.V (by omega) (by omega)]
 rfl
theorem zFc (n : Nat) (x : zA) (h : x.sz ≤ 268435456) (hn : x.sz < n) : YB n x x = some true := by
 unfold zA.sz at h hn
 unfold YB
 rw [zHR n x.Ps (by omega) (by omega),zFv n x.F (by omega) (by omega),zGk n x.V (by omega) (by omega)]
 simp
theorem zHW (n : Nat) (xs : List Pt) (b : Int) (h : xs.length ≤ 268435456) (hn : xs.length < n) (h0 : 0 ≤ b) (h1 : b + (8 : Nat) * xs.length ≤ 1099511627776) : zAD n xs b = some (b + (8 : Nat) * xs.length,q5 (fun _ b => (⟨Int.tmod b 3 == 0,b + 1,Int.tmod (b + 2) 3 == 0,⟨b + 3,b + 4,b + 5,b + 6,b + 7⟩⟩ : Pt)) 8 xs b) := by
 have := Jl (L := ZR n) (f := fun _ b => (⟨Int.tmod b 3 == 0,b + 1,Int.tmod (b + 2) 3 == 0,⟨b + 3,b + 4,b + 5,b + 6,b + 7⟩⟩ : Pt)) (c := 8) (fun m k ys b v hk hl hv h0 h1 => by
  rw [ZR,zo hk,Qf hv]
  simp (disch := omega) only [cond_true,Option.bind_some,List.set_set,zCj hk,wrap64,zS,Int.toNat_natCast,show decide ((3 : Int) ≠ 0) = true from rfl]
  simp only [Int.add_assoc,Int.reduceAdd,show ((8 : Nat) : Int) = 8 from rfl]
  rfl)
  (fun m ys b => by rw [ZR,zZ]; rfl) xs n [] b (by simpa using h) h0 h1 hn
 unfold zAD
 simp only [List.length_nil,List.nil_append] at this
 rw [show ZR n n 0 xs b = _ from this]
 rfl
theorem zHU (n : Nat) (xs : List Pt) (b : Int) (h : xs.length ≤ 268435456) (hn : xs.length < n) (h0 : 0 ≤ b) (h1 : b + (8 : Nat) * xs.length ≤ 1099511627776) : zAC n (q5 (fun _ b => (⟨Int.tmod b 3 == 0,b + 1,Int.tmod (b + 2) 3 == 0,⟨b + 3,b + 4,b + 5,b + 6,b + 7⟩⟩ : Pt)) 8 xs b) b = some (b + (8 : Nat) * xs.length) := by
 have := zAj (L := ZQ n) (f := fun _ b => (⟨Int.tmod b 3 == 0,b + 1,Int.tmod (b + 2) 3 == 0,⟨b + 3,b + 4,b + 5,b + 6,b + 7⟩⟩ : Pt)) (c := 8) (fun m k ys b v hk hl hv h0 h1 => by
  rw [ZQ,zo hk,Qf hv]
  simp (disch := omega) only [cond_true,Option.bind_some,wrap64,zS,Int.toNat_natCast,show decide ((3 : Int) ≠ 0) = true from rfl]
  simp only [Int.add_assoc,Int.reduceAdd,show ((8 : Nat) : Int) = 8 from rfl,bne_self_eq_false,beq_self_eq_true,Bool.not_true,cond_false]
  rfl)
  (fun m ys b => by rw [ZQ,zZ]; rfl) xs n [] b (by simpa using h) h0 h1 hn
 unfold zAC
 simp only [List.length_nil,List.nil_append] at this
 rw [show ZQ n n (q5 _ 8 xs b) 0 b = _ from this]
 rfl
theorem zF2 (n : Nat) (xs : List zB) (b : Int) (h : xs.length ≤ 268435456) (hn : xs.length < n) (h0 : 0 ≤ b) (h1 : b + (5 : Nat) * xs.length ≤ 1099511627776) : Yy n xs b = some (b + (5 : Nat) * xs.length,q5 (fun _ b => (⟨b,b + 1,b + 2,b + 3,Int.tmod (b + 4) 3 == 0⟩ : zB)) 5 xs b) := by
 have := Jl (L := qw n) (f := fun _ b => (⟨b,b + 1,b + 2,b + 3,Int.tmod (b + 4) 3 == 0⟩ : zB)) (c := 5) (fun m k ys b v hk hl hv h0 h1 => by
  rw [qw,zo hk,Qf hv]
  simp (disch := omega) only [cond_true,Option.bind_some,List.set_set,zCj hk,wrap64,zS,Int.toNat_natCast,show decide ((3 : Int) ≠ 0) = true from rfl]
  simp only [Int.add_assoc,Int.reduceAdd,show ((5 : Nat) : Int) = 5 from rfl]
  rfl)
  (fun m ys b => by rw [qw,zZ]; rfl) xs n [] b (by simpa using h) h0 h1 hn
 unfold Yy
 simp only [List.length_nil,List.nil_append] at this
 rw [show qw n n 0 xs b = _ from this]
 rfl
theorem zFy (n : Nat) (xs : List zB) (b : Int) (h : xs.length ≤ 268435456) (hn : xs.length < n) (h0 : 0 ≤ b) (h1 : b + (5 : Nat) * xs.length ≤ 1099511627776) : Yu n (q5 (fun _ b => (⟨b,b + 1,b + 2,b + 3,Int.tmod (b + 4) 3 == 0⟩ : zB)) 5 xs b) b = some (b + (5 : Nat) * xs.length) := by
 have := zAj (L := qt n) (f := fun _ b => (⟨b,b + 1,b + 2,b + 3,Int.tmod (b + 4) 3 == 0⟩ : zB)) (c := 5) (fun m k ys b v hk hl hv h0 h1 => by
  rw [qt,zo hk,Qf hv]
  simp (disch := omega) only [cond_true,Option.bind_some,wrap64,zS,Int.toNat_natCast,show decide ((3 : Int) ≠ 0) = true from rfl]
  simp only [Int.add_assoc,Int.reduceAdd,show ((5 : Nat) : Int) = 5 from rfl,bne_self_eq_false,beq_self_eq_true,Bool.not_true,cond_false]
  rfl)
  (fun m ys b => by rw [qt,zZ]; rfl) xs n [] b (by simpa using h) h0 h1 hn
 unfold Yu
 simp only [List.length_nil,List.nil_append] at this
 rw [show qt n n (q5 _ 5 xs b) 0 b = _ from this]
 rfl
theorem zJu (n : Nat) : zCJ n = qF n := by
 funext v
 unfold zCJ qF
 rw [qe,zCk]
 obtain ⟨b,hb⟩ := Jj n v.Co 1 1000
 rw [hb]
 cases b <;> cases v.Up <;> cases v.Has <;> rfl
theorem zEy (n : Nat) (v : Pt) : Tot (qF n v) := by
 unfold qF
 repeat' first | exact Tot.of | refine Tot.bind (Jj _ _ _ _) fun _ _ => ?_ | refine Tot.bind (zCV _ _) fun _ _ => ?_ | refine Tot.bif (fun _ => ?_) (fun _ => ?_)
theorem zEY (n : Nat) (v : zB) : Tot (Ze n v) := by
 unfold Ze
 repeat' first | exact Tot.of | refine Tot.bind (Jj _ _ _ _) fun _ _ => ?_ | refine Tot.bif (fun _ => ?_) (fun _ => ?_)
theorem zID (n : Nat) : zCM n = Ze n := rfl
theorem zIC (n : Nat) (v u : zB) : zAn n u v.Tag v.Mac = Zd n v u.Tag u.Mac := by
 unfold zAn Zd
 by_cases h1 : v.Tag = u.Tag
 ·simp [h1]
 ·have e1 : (v.Tag != u.Tag) = true := by simpa using h1
  have e2 : (u.Tag == v.Tag) = false := by simpa using fun e : u.Tag = v.Tag => h1 e.symm
  rw [e1,e2]
  by_cases h2 : v.Tag < u.Tag
  ·rw [decide_eq_true h2]; rfl
  ·rw [decide_eq_false h2]; rfl
theorem zDc (n : Nat) (v : zB) (a b : Int) : Tot (Zd n v a b) := Tot.bif (fun _ => .of) (fun _ => .of)
theorem zDM (n : Nat) (xs : List zB) (h : xs.length ≤ 1048580) : ∀ (m k : Nat),k ≤ xs.length → xs.length < m + k → Zz n m xs k = qC n m xs k ∧ Tot (qC n m xs k)
 | 0,k,h1,h2 => by omega
 | m + 1,k,h1,h2 => by
  rw [qC,Zz]
  by_cases hk : k < xs.length
  ·obtain ⟨ih1,o,ih2⟩ := zDM n xs h m (k + 1) (by omega) (by omega)
   rw [zo hk]
   obtain ⟨a,ha⟩ := zEY n xs[k]
   simp only [zS (by omega : k ≤ 1099511627776),zK hk,Option.bind_some,cond_true,ih1,ih2,zID,ha]
   cases k with
   | zero => cases a <;> exact ⟨by trivial,Tot.of⟩
   | succ k =>
    have hw2 : IntKind.wrap .i64 (((k + 1 : Nat) : Int) - 1) = (k : Int) := by rw [wrap64 (by omega) (by omega)]; omega
    have hpos : decide (((k + 1 : Nat) : Int) > 0) = true := decide_eq_true (by omega)
    obtain ⟨b,hb⟩ := zDc n (xs[k]'(by omega)) xs[k + 1].Tag xs[k + 1].Mac
    simp only [hw2,hpos,cond_true,zK (show k < xs.length by omega),Option.bind_some,zIC,hb]
    cases a <;> cases b <;> exact ⟨by trivial,Tot.of⟩
  ·have he : k = xs.length := by omega
   rw [he,zZ]
   exact ⟨rfl,Tot.of⟩
theorem zHj (n : Nat) (xs : List zB) (h : xs.length ≤ 1048580) (hn : xs.length < n) : ∃ b,ZL n xs = some b ∧ zBT n xs = some b := by
 obtain ⟨e1,o,e2⟩ := zDM n xs h n 0 (by omega) (by omega)
 have e1' : Zz n n xs 0 = some o := e1.trans e2
 have e2' : qC n n xs 0 = some o := e2
 unfold ZL zBT
 rw [e1',e2']
 cases o <;> exact ⟨_,rfl,rfl⟩
theorem zFZ (n : Nat) : Z7 n = zn n := by
 funext m
 induction m with
 | zero => rfl
 | succ m ih => funext x i; simp only [Z7,zn,ih,zJu]
theorem zCT (n : Nat) (x : zA) (h : x.Ps.length ≤ 1048580) : ∀ (m k : Nat),k ≤ x.Ps.length → x.Ps.length < m + k → Tot (zn n m x k)
 | 0,k,h1,h2 => by omega
 | m + 1,k,h1,h2 => by
  rw [zn]
  refine Tot.step (fun hk => ?_) .of
  have ih := zCT n x h m (k + 1) (by omega) (by omega)
  rw [zS (by omega : k ≤ 1099511627776)]
  exact Tot.bind (zLw hk) fun _ _ => Tot.bind (zEy _ _) fun _ _ => Tot.bif (fun _ => .of) fun _ => ih
theorem QY (n : Nat) (x : zA) (wx : x.wf) (h : x.sz ≤ 1048580) (hn : x.sz < n) : ∃ b,zT n x = some b ∧ QF n x = some b := by
 have hs : x.Name.size + x.Ps.length + x.F.length + x.V.sz = x.sz := rfl
 obtain ⟨o,ho⟩ := zCT n x (by omega) n 0 (by omega) (by omega)
 have ho' : zn n n x 0 = some o := ho
 obtain ⟨f,hf1,hf2⟩ := zHj n x.F (by omega) (by omega)
 obtain ⟨g,v,hv⟩ := zGz n x.V ⟨wx.2.2.2.2.1,wx.2.2.2.2.2.1,trivial⟩ (x.Ps.length : Int) (by omega) (by omega)
 unfold zT QF
 rw [zFZ,ho',Option.bind_some,Option.bind_some]
 cases o with
 | inr r => exact ⟨_,rfl,rfl⟩
 | inl u =>
  simp only [QC,YL,qe,QU,Qq,zQ,hf1,hf2,g,hv,Option.bind_some]
  have hname : decide ((x.Name.size : Int) > 10) = !decide ((x.Name.size : Int) ≤ 10) := by
   by_cases h : (x.Name.size : Int) ≤ 10
   ·rw [decide_eq_true h,decide_eq_false (by omega)]; rfl
   ·rw [decide_eq_false h,decide_eq_true (by omega)]; rfl
  rw [hname]
  generalize decide ((x.Name.size : Int) ≤ 10) = b1
  generalize (decide (1 ≤ x.Id) && decide (x.Id ≤ 99)) = b2
  generalize (decide (1 ≤ (x.Ps.length : Int)) && decide ((x.Ps.length : Int) ≤ 6)) = b3
  generalize (decide (0 ≤ x.Tk) && decide (x.Tk ≤ 1000000)) = b4
  generalize (decide (0 ≤ x.Pa) && decide (x.Pa ≤ 1000000)) = b5
  generalize (decide (0 ≤ x.Wo) && decide (x.Wo ≤ 1000000)) = b6
  generalize (decide (0 ≤ x.Dr) && decide (x.Dr ≤ 1000000)) = b7
  generalize (decide (0 ≤ x.Ve) && decide (x.Ve ≤ 1000000)) = b8
  clear hf1 hf2 g hv hname
  revert f v b1 b2 b3 b4 b5 b6 b7 b8
  decide +kernel
theorem zHY (n : Nat) {xs : List Link} {b : Int} (h0 : 0 ≤ b) (h1 : b ≤ 1048576) (hl : xs.length ≤ maxLen) : ∃ r,zBr n xs b = some r ∧ Lft b xs.length r := zCD h0 h1 hl
theorem zIJ (n : Nat) {xs : List Say} {b : Int} (h0 : 0 ≤ b) (h1 : b ≤ 1048576) (hl : xs.length ≤ maxLen) : ∃ r,zCO n xs b = some r ∧ Lft b xs.length r := zCD h0 h1 hl
theorem zF6 (n : Nat) {xs : List zA} {b : Int} (h0 : 0 ≤ b) (h1 : b ≤ 1048576) (hn : 1048576 < n) (hl : YP zA.wf xs) : ∃ r,Y1 n xs b = some r ∧ Lft b (xs.length + qn zA.sz xs) r := by
 obtain ⟨r0,e0,k0⟩ := zCD h0 h1 hl.1
 unfold Y1
 have hm : maxLen = 9223372036854775807 := by decide
 have hlen := hl.1
 rw [wrap64 (by omega) (by omega)] at e0 ⊢
 by_cases h : b - (xs.length : Int) < 0
 ·rw [decide_eq_true h]; exact ⟨_,rfl,.inl (by decide)⟩
 ·rw [decide_eq_false h]
  obtain ⟨o,f1,f2⟩ := zL5 (L := fun m xs i b => Zm n m xs i b) (g := fun v b => YD n v b) (sz := zA.sz) (fun m xs i b => rfl) xs (by omega) (fun v hv b h0 h1 => zGq n h0 h1 (hl.2 v hv)) n 0 (b - xs.length) (by omega) (by omega) (by omega) (by omega)
  simp only [cond_false]
  rw [show Zm n n xs 0 (b - (xs.length : Int)) = _ from f1]
  rcases f2 with rfl | ⟨r,rfl,f3,f4⟩
  ·exact ⟨_,rfl,.inl (by decide)⟩
  ·exact ⟨_,rfl,.inr ⟨f3,by simp only [List.drop_zero] at f4; omega⟩⟩
def Net.sz (x : Net) : Nat := (x.Bs.length + qn zA.sz x.Bs) + x.Ls.length + x.Said.length
theorem zI6 (n : Nat) {x : Net} {b : Int} (h0 : 0 ≤ b) (h1 : b ≤ 1048576) (hn : 1048576 < n) (hl : Net.wf x) : ∃ r,zBY n x b = some r ∧ Lft b x.sz r := by
 obtain ⟨r1,e1,k1⟩ := zF6 n h0 h1 hn hl.1
 simp only [zBY,e1,Option.bind_some]
 rcases k1.neg with ⟨c1,c2⟩ | ⟨c1,c2,c3⟩
 ·rw [c1]; exact ⟨_,rfl,.inl (by decide)⟩
 ·rw [c1]
  obtain ⟨r2,e2,k2⟩ := zHY n (xs := x.Ls) c2 (by omega) hl.2.1.1
  simp only [e2,Option.bind_some,cond_false]
  rcases k2.neg with ⟨d1,d2⟩ | ⟨d1,d2,d3⟩
  ·rw [d1]; exact ⟨_,rfl,.inl (by decide)⟩
  ·rw [d1]
   obtain ⟨r3,e3,k3⟩ := zIJ n (xs := x.Said) d2 (by omega) hl.2.2.1.1
   simp only [e3,Option.bind_some,cond_false]
   rcases k3.neg with ⟨f1,f2⟩ | ⟨f1,f2,f3⟩
   ·rw [f1]; exact ⟨_,rfl,.inl (by decide)⟩
   ·rw [f1]; exact ⟨_,rfl,.inr ⟨f2,by unfold Net.sz; omega⟩⟩
theorem zHb (n : Nat) (xs : List Link) (h : xs.length ≤ 1048576) (hn : xs.length < n) : zAF n xs = some xs := by
 unfold zAF
 rw [decide_eq_true (by omega : (0 : Int) ≤ (xs.length : Int)),decide_eq_true (by omega : (xs.length : Int) ≤ 268435456)]
 have := zCG (L := QQ n) (f := zCP n) (fun m xs i ys => rfl) xs (by omega) (fun v _ => rfl) n 0 (List.replicate ((xs.length : Int)).toNat (⟨0,0,0,0⟩ : Link)) (by omega) (by omega) (by simp) rfl
 simp only [Bool.and_self,cond_true]
 rw [show (QQ n n xs 0 (List.replicate ((xs.length : Int)).toNat (⟨0,0,0,0⟩ : Link))) = _ from this]
 rfl
theorem zIM (n : Nat) (xs : List Say) (h : xs.length ≤ 1048576) (hn : xs.length < n) : zAw n xs = some xs := by
 unfold zAw
 rw [decide_eq_true (by omega : (0 : Int) ≤ (xs.length : Int)),decide_eq_true (by omega : (xs.length : Int) ≤ 268435456)]
 have := zCG (L := Qe n) (f := zCt n) (fun m xs i ys => rfl) xs (by omega) (fun v _ => rfl) n 0 (List.replicate ((xs.length : Int)).toNat (⟨0,false,(⟨0,0,0,0,0⟩ : Vec)⟩ : Say)) (by omega) (by omega) (by simp) rfl
 simp only [Bool.and_self,cond_true]
 rw [show (Qe n n xs 0 (List.replicate ((xs.length : Int)).toNat (⟨0,false,(⟨0,0,0,0,0⟩ : Vec)⟩ : Say))) = _ from this]
 rfl
theorem zF7 (n : Nat) (xs : List zA) (h : xs.length + qn zA.sz xs ≤ 1048576) (hn : 1048576 < n) : Y2 n xs = some xs := by
 unfold Y2
 rw [decide_eq_true (by omega : (0 : Int) ≤ (xs.length : Int)),decide_eq_true (by omega : (xs.length : Int) ≤ 268435456)]
 have := zCG (L := Zo n) (f := YE n) (fun m xs i ys => rfl) xs (by omega) (fun v hv => by have := zA3 (sz := zA.sz) hv; exact zGs n v (by omega) (by omega)) n 0 (List.replicate ((xs.length : Int)).toNat (⟨0,(⟨#[]⟩ : ByteArray),([] : List Pt),([] : List zB),(⟨([] : List zC),([] : List Int)⟩ : zF),0,0,0,0,0⟩ : zA)) (by omega) (by omega) (by simp) rfl
 simp only [Bool.and_self,cond_true]
 rw [show (Zo n n xs 0 (List.replicate ((xs.length : Int)).toNat (⟨0,(⟨#[]⟩ : ByteArray),([] : List Pt),([] : List zB),(⟨([] : List zC),([] : List Int)⟩ : zF),0,0,0,0,0⟩ : zA))) = _ from this]
 rfl
theorem zI9 (n : Nat) (x : Net) (h : x.sz ≤ 1048576) (hn : 1048576 < n) : Q7 n x = some x := by
 unfold Net.sz at h
 unfold Q7
 rw [zF7 n x.Bs (by omega) (by omega),zHb n x.Ls (by omega) (by omega),zIM n x.Said (by omega) (by omega)]
 rfl
theorem zGh (n : Nat) (v : Link) : JX n v v = some true := by simp [JX]
theorem zFw (n : Nat) (xs : List Link) (h : xs.length ≤ 268435456) (hn : xs.length < n) : zAA n xs xs = some true := by
 unfold zAA
 have := zA6 (L := QN n) (f := JX n) (fun m xs ys i => rfl) xs (by omega) (fun v _ => zGh n v) n 0 (by omega) (by omega)
 simp only [bne_self_eq_false,cond_false]
 rw [show (QN n n xs xs 0) = _ from this]
 rfl
theorem zHS (n : Nat) (v : Say) : zAM n v v = some true := by simp [zAM,zD8]
theorem zGi (n : Nat) (xs : List Say) (h : xs.length ≤ 268435456) (hn : xs.length < n) : zAs n xs xs = some true := by
 unfold zAs
 have := zA6 (L := Qc n) (f := zAM n) (fun m xs ys i => rfl) xs (by omega) (fun v _ => zHS n v) n 0 (by omega) (by omega)
 simp only [bne_self_eq_false,cond_false]
 rw [show (Qc n n xs xs 0) = _ from this]
 rfl
theorem zFE (n : Nat) (xs : List zA) (h : xs.length + qn zA.sz xs ≤ 268435456) (hn : xs.length + qn zA.sz xs < n) : Yt n xs xs = some true := by
 unfold Yt
 have := zA6 (L := Zl n) (f := YB n) (fun m xs ys i => rfl) xs (by omega) (fun v hv => by have := zA3 (sz := zA.sz) hv; exact zFc n v (by omega) (by omega)) n 0 (by omega) (by omega)
 simp only [bne_self_eq_false,cond_false]
 rw [show (Zl n n xs xs 0) = _ from this]
 rfl
theorem zD7 (n : Nat) (x : Net) (h : x.sz ≤ 268435456) (hn : x.sz < n) : Q6 n x x = some true := by
 unfold Net.sz at h hn
 unfold Q6
 rw [zFE n x.Bs (by omega) (by omega),zFw n x.Ls (by omega) (by omega),zGi n x.Said (by omega) (by omega)]
 rfl
theorem zER (n : Nat) (x : Net) (i j : Int) (wx : x.wf) (h : x.Bs.length ≤ 1048580) : ∃ p b,Zu n x i j = some (p,b) ∧ YA n x i j = some (b && p.Up) := by
 have hw : IntKind.wrap .i64 ((x.Bs.length : Int) - 1) = (x.Bs.length : Int) - 1 := wrap64 (by omega) (by omega)
 unfold Zu YA
 simp only [qe,zQ,hw,Option.bind_some]
 by_cases hi : 0 ≤ i ∧ i ≤ (x.Bs.length : Int) - 1
 ·obtain ⟨v,hv,hm⟩ := zH8 (xs := x.Bs) hi.1 (by omega)
  have hl := (wx.1.2 v hm).2.2.1.1
  have hmx : maxLen = 9223372036854775807 := by decide
  have hw2 : IntKind.wrap .i64 ((v.Ps.length : Int) - 1) = (v.Ps.length : Int) - 1 := wrap64 (by omega) (by omega)
  simp only [decide_eq_true hi.1,decide_eq_true hi.2,Bool.and_self,Bool.not_true,cond_false,cond_true,hv,Option.bind_some,hw2]
  by_cases hj : 0 ≤ j ∧ j ≤ (v.Ps.length : Int) - 1
  ·obtain ⟨p,hp,_⟩ := zH8 (xs := v.Ps) hj.1 (by omega)
   simp only [decide_eq_true hj.1,decide_eq_true hj.2,Bool.and_self,Bool.not_true,cond_false,cond_true,hp,Option.bind_some]
   exact ⟨p,true,rfl,by simp⟩
  ·have hj' : (decide (0 ≤ j) && decide (j ≤ (v.Ps.length : Int) - 1)) = false := by
    simp only [Bool.and_eq_false_iff,decide_eq_false_iff_not]; omega
   simp only [hj',Bool.not_false,cond_true,cond_false]
   exact ⟨_,false,rfl,rfl⟩
 ·have hi' : (decide (0 ≤ i) && decide (i ≤ (x.Bs.length : Int) - 1)) = false := by
   simp only [Bool.and_eq_false_iff,decide_eq_false_iff_not]; omega
  simp only [hi',Bool.not_false,cond_true,cond_false]
  exact ⟨_,false,rfl,rfl⟩
theorem zGw (n : Nat) (x : Net) (i : Int) (wx : x.wf) (h : x.sz ≤ 1048580) : ∃ b,ZG n x i = some b ∧ Zt n x i = some b := by
 unfold Net.sz at h
 have hw : IntKind.wrap .i64 ((x.Ls.length : Int) - 1) = (x.Ls.length : Int) - 1 := wrap64 (by omega) (by omega)
 unfold ZG Zt
 simp only [qe,zQ,hw,Option.bind_some]
 by_cases hi : 0 ≤ i ∧ i ≤ (x.Ls.length : Int) - 1
 ·obtain ⟨v,hv,hm⟩ := zH8 (xs := x.Ls) hi.1 (by omega)
  obtain ⟨p,b,h1,h2⟩ := zER n x v.A v.P wx (by omega)
  obtain ⟨p',b',h1',h2'⟩ := zER n x v.B v.Q wx (by omega)
  simp only [decide_eq_true hi.1,decide_eq_true hi.2,Bool.and_self,Bool.not_true,cond_false,hv,Option.bind_some,h1,h2,h1',h2']
  cases b <;> cases b' <;> cases p.Up <;> cases p'.Up <;> exact ⟨_,rfl,rfl⟩
 ·have hi' : (decide (0 ≤ i) && decide (i ≤ (x.Ls.length : Int) - 1)) = false := by
   simp only [Bool.and_eq_false_iff,decide_eq_false_iff_not]; omega
  simp only [hi',Bool.not_false,cond_true]
  exact ⟨_,rfl,rfl⟩
theorem zHp (n : Nat) (x : zF) (p : Int) (hok : Zx n x p = some true) : x.Rows.length ≤ 6 ∧ (x.Pv.length : Int) = p := by
 unfold Zx at hok
 simp only [zQ,Option.bind_some] at hok
 revert hok
 cases (decide (1 ≤ p) && decide (p ≤ 6)) with
 | false => intro h; cases h
 | true =>
  simp only [Bool.not_true,cond_false]
  by_cases hp : (x.Pv.length : Int) = p
  ·have : ((x.Pv.length : Int) != p) = false := by simp [hp]
   rw [this,cond_false]
   by_cases hr : (x.Rows.length : Int) > 6
   ·rw [decide_eq_true hr]; intro h; cases h
   ·exact fun _ => ⟨by omega,hp⟩
  ·have : ((x.Pv.length : Int) != p) = true := by simp [hp]
   rw [this]; intro h; cases h
theorem ZK {z : Int} (h0 : -1000000 ≤ z) (h1 : z ≤ 1000000) : z6 z := by
 show (Lit.int .i64 z).wf = true
 simp [Lit.wf,show IntKind.wrap .i64 z = z from wrap64 (by omega) (by omega)]
 exact ⟨by show (-9223372036854775808 : Int) ≤ z; omega,by omega⟩
def zDS (a : Int) (i : Nat) : Bool := (IntKind.wrap .i64 (BitVec.ofInt (IntKind.bits .i64) (Int.fdiv a (2 ^ min ((i : Int)).toNat (IntKind.bits .i64))) &&& BitVec.ofInt (IntKind.bits .i64) 1).toNat == 1)
theorem zGd (n : Nat) (a : Int) (i : Nat) (h : i ≤ 62) : J6 n a i = some (zDS a i) := by
 unfold J6
 simp only [qe,zQ,Option.bind_some,decide_eq_true (show (0 : Int) ≤ (i : Int) by omega),decide_eq_true (show (i : Int) ≤ 62 by omega),Bool.and_self,cond_true]
 rfl
theorem zCY (n : Nat) (a : Int) (i : Nat) (h : i ≤ 7) : zBe n a i = some (zDS a i) := by
 unfold zBe
 have hu : IntKind.wrap .u64 (i : Int) = i := zNp (by omega)
 simp only [zQ,Option.bind_some,decide_eq_true (show (0 : Int) ≤ (i : Int) by omega),decide_eq_true (show (i : Int) ≤ 7 by omega),Bool.and_self,cond_true,hu]
 rfl
theorem zEG (n : Nat) (x : Net) (i j : Int) (h : YA n x i j = some true) : ∃ v p,idx x.Bs i = some v ∧ idx v.Ps j = some p ∧ p.Up = true ∧ i ≤ (IntKind.wrap .i64 ((x.Bs.length : Int) - 1)) ∧ j ≤ (IntKind.wrap .i64 ((v.Ps.length : Int) - 1)) ∧ 0 ≤ i ∧ 0 ≤ j := by
 unfold YA at h
 simp only [zQ,Option.bind_some] at h
 cases hc : (decide (0 ≤ i) && decide (i ≤ IntKind.wrap .i64 ((x.Bs.length : Int) - 1))) with
 | false => rw [hc] at h; cases h
 | true =>
  simp only [hc,cond_true] at h
  obtain ⟨v,hv,h⟩ := bind_some h
  cases hd : (decide (0 ≤ j) && decide (j ≤ IntKind.wrap .i64 ((v.Ps.length : Int) - 1))) with
  | false => rw [hd] at h; cases h
  | true =>
   simp only [hd,cond_true,hv,Option.bind_some] at h
   obtain ⟨p,hp,h⟩ := bind_some h
   simp only [Bool.and_eq_true,decide_eq_true_eq] at hc hd
   exact ⟨v,p,hv,hp,Option.some.inj h,hc.2,hd.2,hc.1,hd.1⟩
theorem zGx (n : Nat) (x : Net) (k : Int) (h : ZG n x k = some true) : ∃ l a b p q,idx x.Ls k = some l ∧ idx x.Bs l.A = some a ∧ idx a.Ps l.P = some p ∧ p.Up = true ∧ idx x.Bs l.B = some b ∧ idx b.Ps l.Q = some q ∧ q.Up = true := by
 unfold ZG at h
 simp only [zQ,Option.bind_some] at h
 cases hc : (decide (0 ≤ k) && decide (k ≤ IntKind.wrap .i64 ((x.Ls.length : Int) - 1))) with
 | false => rw [hc] at h; cases h
 | true =>
  simp only [hc,Bool.not_true,cond_false] at h
  obtain ⟨l,hl,h⟩ := bind_some h
  obtain ⟨u,hu,h⟩ := bind_some h
  cases u with
  | false => cases h
  | true =>
   simp only [cond_true] at h
   obtain ⟨u',hu',h⟩ := bind_some h
   have : u' = true := Option.some.inj h
   subst this
   obtain ⟨a,p,a1,a2,a3,_⟩ := zEG n x _ _ hu
   obtain ⟨b,q,b1,b2,b3,_⟩ := zEG n x _ _ hu'
   exact ⟨l,a,b,p,q,hl,a1,a2,a3,b1,b2,b3⟩
theorem zFn {α : Type} {xs : List α} {i : Int} {v : α} (h : idx xs i = some v) : 0 ≤ i ∧ i < xs.length := by
 obtain ⟨g1,g2⟩ := zI h
 have := (List.getElem?_eq_some_iff.1 g2).1
 omega
theorem zAh {c : Bool} {x : Option Bool} (h : (bif c then x else some false) = some true) : c = true ∧ x = some true := by
 cases c with
 | true => exact ⟨rfl,h⟩
 | false => cases h
theorem zHi {L : Nat → Int → Option (Unit ⊕ Bool)} {N : Nat} {P : Nat → Prop} (h0 : ∀ k,L 0 k = none) (hs : ∀ m (k : Nat) o,k < N → L (m + 1) (k : Int) = some o → o = .inr false ∨ (P k ∧ L m ((k + 1 : Nat) : Int) = some o)) (he : ∀ m o,L (m + 1) (N : Int) = some o → o = .inl ()) :
  ∀ (m k : Nat) o,k ≤ N → L m (k : Int) = some o → o = .inr false ∨ (o = .inl () ∧ ∀ j,k ≤ j → j < N → P j)
 | 0,k,o,_,h => by rw [h0] at h; cases h
 | m + 1,k,o,hk,h => by
  by_cases hlt : k < N
  ·rcases hs m k o hlt h with e | ⟨hp,h⟩
   ·exact .inl e
   ·rcases zHi h0 hs he m (k + 1) o (by omega) h with e | ⟨e,h2⟩
    ·exact .inl e
    ·refine .inr ⟨e,fun j hj hj2 => ?_⟩
     by_cases hjk : j = k
     ·subst hjk; exact hp
     ·exact h2 j (by omega) hj2
  ·have : k = N := by omega
   subst this
   exact .inr ⟨he m o h,fun j hj hj2 => by omega⟩
theorem zFN (n : Nat) (x : zA) (hl : x.Ps.length ≤ 1048580) {o : Unit ⊕ Bool} (h : zn n n x 0 = some o) : o = .inr false ∨ (o = .inl () ∧ ∀ j (hj : j < x.Ps.length),qF n x.Ps[j] = some true) := by
 rcases zHi (L := fun m k => zn n m x k) (N := x.Ps.length) (P := fun j => ∀ hj : j < x.Ps.length,qF n x.Ps[j] = some true) (fun k => rfl) (fun m k o hk h => by
  simp only [zn] at h
  rw [zo hk,cond_true,zK hk,Option.bind_some,zS (by omega : k ≤ 1099511627776)] at h
  obtain ⟨b,hb⟩ := zEy n x.Ps[k]
  rw [hb,Option.bind_some] at h
  cases b with
  | true => exact .inr ⟨fun _ => hb,h⟩
  | false => cases h; exact .inl rfl) (fun m o h => by
  simp only [zn] at h
  rw [zZ] at h; cases h; rfl) n 0 o (by omega) h with e | ⟨e,h2⟩
 ·exact .inl e
 ·exact .inr ⟨e,fun j hj => h2 j (by omega) hj hj⟩
theorem qT (n : Nat) (x : zA) (hl : x.Ps.length ≤ 1048580) (h : zT n x = some true) : 1 ≤ x.Ps.length ∧ x.Ps.length ≤ 6 ∧ 1 ≤ x.Id ∧ x.Id ≤ 99 ∧ x.Name.size ≤ 10 ∧ ZL n x.F = some true ∧ Zx n x.V (x.Ps.length : Int) = some true ∧
  (0 ≤ x.Tk ∧ x.Tk ≤ 1000000) ∧ (0 ≤ x.Pa ∧ x.Pa ≤ 1000000) ∧ (0 ≤ x.Wo ∧ x.Wo ≤ 1000000) ∧ (0 ≤ x.Dr ∧ x.Dr ≤ 1000000) ∧ (0 ≤ x.Ve ∧ x.Ve ≤ 1000000) ∧ ∀ j (hj : j < x.Ps.length),qF n x.Ps[j] = some true := by
 unfold zT at h
 obtain ⟨o,ho,h⟩ := bind_some h
 rcases zFN n x hl ho with rfl | ⟨rfl,hp⟩
 ·cases h
 ·simp only [QC,Qq,zQ,Option.bind_some] at h
  obtain ⟨h1,h⟩ := zAh h
  obtain ⟨h2,h⟩ := zAh h
  obtain ⟨h3,h⟩ := zAh h
  obtain ⟨b4,h4,h⟩ := bind_some h
  obtain ⟨rfl,h⟩ := zAh h
  obtain ⟨b5,h5,h⟩ := bind_some h
  obtain ⟨rfl,h⟩ := zAh h
  obtain ⟨b6,h6,h⟩ := bind_some h
  cases h
  obtain ⟨h7,h6⟩ := zAh h6
  obtain ⟨h8,h6⟩ := zAh h6
  obtain ⟨h9,h6⟩ := zAh h6
  obtain ⟨h10,h6⟩ := zAh h6
  have h11 := Option.some.inj h6
  simp only [Bool.and_eq_true,decide_eq_true_eq] at h1 h2 h3 h7 h8 h9 h10 h11
  exact ⟨by omega,by omega,h1.1,h1.2,by omega,h4,h5,h7,h8,h9,h10,h11,hp⟩
theorem zFU (n : Nat) (z : Int) (h0 : 0 ≤ z) (h1 : z ≤ 1000000) : ∃ y,YT n z = some y ∧ zBB n z = some y ∧ 0 ≤ y ∧ y ≤ 1000000 := by
 unfold YT zBB
 rw [wrap64 (by omega) (by omega)]
 by_cases h : z ≥ 1000000
 ·rw [decide_eq_true h,if_pos (by omega)]; exact ⟨z,rfl,by rw [show z = 1000000 by omega],h0,h1⟩
 ·rw [decide_eq_false h,if_neg (by omega)]; exact ⟨_,rfl,rfl,by omega,by omega⟩
theorem zFk {α β : Type} {p : α → Bool} {L : Nat → Int → List α → Option (List α ⊕ β)} (xs : List α) (hx : xs.length ≤ 134217728)
  (h : ∀ m (k : Nat) (acc : List α) (hk : k < xs.length),acc.length ≤ k → L (m + 1) k acc = L m ((k + 1 : Nat) : Int) (acc ++ if p xs[k] then [xs[k]] else [])) (he : ∀ m (acc : List α),L (m + 1) (xs.length : Int) acc = some (.inl acc)) :
  ∀ (m k : Nat) (acc : List α),k ≤ xs.length → xs.length < m + k → acc.length ≤ k → L m k acc = some (.inl (acc ++ (xs.drop k).filter p))
 | 0,k,acc,h1,h2,h3 => by omega
 | m + 1,k,acc,h1,h2,h3 => by
  by_cases hk : k < xs.length
  ·rw [h m k acc hk h3,zFk xs hx h he m (k + 1) _ (by omega) (by omega) (by split <;> simp <;> omega),List.drop_eq_getElem_cons hk,List.filter_cons,List.append_assoc]
   split <;> simp
  ·have : k = xs.length := by omega
   subst this
   rw [he m acc]
   simp
theorem zAQ (n : Nat) (xs : List zB) (p : Int) (h : xs.length ≤ 134217728) (hn : xs.length < n) : Y5 n xs p = some (xs.filter fun v => v.Sc || v.Port != p) := by
 have := zFk (p := fun v : zB => v.Sc || v.Port != p) (L := fun m k acc => qO n m xs p k acc) xs h (fun m k acc hk ha => by
  simp only [qO]
  rw [zo hk,cond_true,zK hk,Option.bind_some,zS (by omega : k ≤ 1099511627776)]
  have hg : ∀ v : zB,decide (acc.length + [v].length ≤ 268435456) = true := fun v => decide_eq_true (by simp; omega)
  simp only [Option.bind_some,hg,cond_true]
  cases hs : xs[k].Sc <;> cases hq : (xs[k].Port != p) <;> simp [hs,hq]) (fun m acc => by simp only [qO]; rw [zZ]; rfl) n 0 [] (by omega) (by omega) (by simp)
 unfold Y5
 rw [show qO n n xs p 0 [] = _ from this]
 simp [Q0]
theorem zFa (n : Nat) (xs : List zB) (p : Int) (h : xs.length ≤ 134217728) (hn : xs.length < n) : Yo n xs p = some (xs.filter fun v => v.Sc || v.Port != p) := by
 have := zFk (p := fun v : zB => v.Sc || v.Port != p) (L := fun m k acc => qN n m xs p k acc) xs h (fun m k acc hk ha => by
  simp only [qN]
  rw [zo hk,cond_true,zK hk,Option.bind_some,zS (by omega : k ≤ 1099511627776)]
  have hg : ∀ v : zB,decide (acc.length + [v].length ≤ 268435456) = true := fun v => decide_eq_true (by simp; omega)
  simp only [Option.bind_some,hg,cond_true]
  cases hs : xs[k].Sc <;> cases hq : (xs[k].Port != p) <;> simp [hs,hq]) (fun m acc => by simp only [qN]; rw [zZ]; rfl) n 0 [] (by omega) (by omega) (by simp)
 unfold Yo
 rw [show qN n n xs p 0 [] = _ from this]
 simp [Qx]
theorem J1 (n : Nat) (bits : Int) (x : zA) (h : x.Ps.length ≤ 6) : ∀ (m k : Nat) (ys : List zB),k ≤ x.Ps.length → x.Ps.length < m + k → ys.length ≤ 134217728 → ys.length < n → ∃ zs : List zB,z4 n m bits x k ys = some (.inl zs) ∧ qa n m bits x k ys = some (.inl zs) ∧ zs.length ≤ ys.length ∧ (∀ v ∈ zs,v ∈ ys) ∧ ∀ v ∈ zs,v.Sc = true ∨ ∀ j : Nat,k ≤ j → j < x.Ps.length → zDS bits j = false → v.Port ≠ j
 | 0,k,ys,h1,h2,h3,h4 => by omega
 | m + 1,k,ys,h1,h2,h3,h4 => by
  rw [z4,qa]
  by_cases hk : k < x.Ps.length
  ·rw [zo hk,cond_true,cond_true,zCY n bits k (by omega),zGd n bits k (by omega),Option.bind_some,Option.bind_some,zS (by omega : k ≤ 1099511627776),zAQ n ys _ h3 h4,zFa n ys _ h3 h4]
   cases hb : zDS bits k with
   | true =>
    simp only [Bool.not_true,cond_false]
    obtain ⟨zs,e1,e2,e3,e4,e5⟩ := J1 n bits x h m (k + 1) ys (by omega) (by omega) h3 h4
    refine ⟨zs,e1,e2,e3,e4,fun v hv => (e5 v hv).imp id fun h5 j hj hj2 hj3 => ?_⟩
    by_cases hjk : j = k
    ·subst hjk; rw [hb] at hj3; cases hj3
    ·exact h5 j (by omega) hj2 hj3
   | false =>
    simp only [Bool.not_false,cond_true,Option.bind_some]
    have hle := List.length_filter_le (fun v : zB => v.Sc || v.Port != (k : Int)) ys
    obtain ⟨zs,e1,e2,e3,e4,e5⟩ := J1 n bits x h m (k + 1) (ys.filter fun v => v.Sc || v.Port != (k : Int)) (by omega) (by omega) (by omega) (by omega)
    refine ⟨zs,e1,e2,by omega,fun v hv => (List.mem_filter.1 (e4 v hv)).1,fun v hv => ?_⟩
    have hf := (List.mem_filter.1 (e4 v hv)).2
    rcases e5 v hv with h5 | h5
    ·exact .inl h5
    ·cases hs : v.Sc with
     | true => exact .inl rfl
     | false =>
      refine .inr fun j hj hj2 hj3 => ?_
      by_cases hjk : j = k
      ·subst hjk; rw [hs] at hf; simpa using hf
      ·exact h5 j (by omega) hj2 hj3
  ·have he : k = x.Ps.length := by omega
   subst he
   rw [zZ]
   exact ⟨ys,rfl,rfl,Nat.le_refl _,fun v hv => hv,fun v hv => .inr fun j hj hj2 => by omega⟩
theorem zFP (n : Nat) (x : zA) (h : x.Ps.length ≤ 6) (hf : x.F.length ≤ 134217728) (hn : x.F.length < n) (hn6 : 6 < n) (hv0 : 0 ≤ x.Ve) (hv1 : x.Ve ≤ 1000000) : ∃ (zs : List zB) (v b : Int),qm n x = some ⟨x.Id,x.Name,x.Ps,zs,x.V,x.Tk,x.Pa,x.Wo,x.Dr,v⟩ ∧ qr n x = some ⟨x.Id,x.Name,x.Ps,zs,x.V,x.Tk,x.Pa,x.Wo,x.Dr,v⟩ ∧
  zs.length ≤ x.F.length ∧ (∀ u ∈ zs,u ∈ x.F) ∧ 0 ≤ v ∧ v ≤ 1000000 ∧ Za n x.Id x.Ps = some b ∧ ∀ u ∈ zs,u.Sc = true ∨ ∀ j : Nat,j < x.Ps.length → zDS b j = false → u.Port ≠ j := by
 obtain ⟨v,h1,h2,h3,h4⟩ := zFU n x.Ve hv0 hv1
 obtain ⟨e,b,hb⟩ := zHm n x.Id x.Ps (by omega) (by omega)
 obtain ⟨zs,k1,k2,k3,k4,k5⟩ := J1 n b x h n 0 x.F (by omega) (by omega) hf hn
 refine ⟨zs,v,b,?_,?_,k3,k4,h3,h4,hb,fun u hu => (k5 u hu).imp id fun h5 j hj => h5 j (by omega) hj⟩
 ·unfold qm
  rw [h1,Option.bind_some,hb,Option.bind_some,show z4 n n b x 0 x.F = _ from k1]
  rfl
 ·unfold qr
  rw [h2,Option.bind_some,e,hb,Option.bind_some,show qa n n b x 0 x.F = _ from k2]
  rfl
theorem J0 (n : Nat) (x : zA) (h : x.sz ≤ 268435456) : Z5 n x = some x := by
 have hs : x.Name.size + x.Ps.length + x.F.length + x.V.sz = x.sz := rfl
 unfold Z5 zCX
 rw [zIi n x.V (by omega),decide_eq_true (by simp; omega),decide_eq_true (by simp; omega)]
 rfl
theorem YW (n : Nat) (x : zA) (h : x.sz ≤ 268435456) : q7 n x = some x := by
 have hs : x.Name.size + x.Ps.length + x.F.length + x.V.sz = x.sz := rfl
 unfold q7 zBo
 rw [zGc n x.V (by omega),decide_eq_true (by simp; omega),decide_eq_true (by simp; omega)]
 rfl
theorem zDP (n : Nat) (x : zA) (p : Int) (b : Bool) (hb : zT n x = some b) (hl : x.Ps.length ≤ 1048580) : YF n x p = some (b && (decide (0 ≤ p) && decide (p < x.Ps.length))) := by
 unfold YF
 rw [hb,Option.bind_some,zQ,wrap64 (by omega) (by omega)]
 have : decide (p ≤ (x.Ps.length : Int) - 1) = decide (p < x.Ps.length) := by
  by_cases h : p < x.Ps.length
  ·rw [decide_eq_true h,decide_eq_true (by omega)]
  ·rw [decide_eq_false h,decide_eq_false (by omega)]
 rw [this]
 cases b <;> rfl
theorem zD6 (n : Nat) (x : zA) (p : Int) (b : Bool) (hb : QF n x = some b) (hl : x.Ps.length ≤ 1048580) : JU n x p = some (b && (decide (0 ≤ p) && decide (p < x.Ps.length))) := by
 unfold JU
 rw [hb,Option.bind_some,qe,zQ,wrap64 (by omega) (by omega)]
 have : decide (p ≤ (x.Ps.length : Int) - 1) = decide (p < x.Ps.length) := by
  by_cases h : p < x.Ps.length
  ·rw [decide_eq_true h,decide_eq_true (by omega)]
  ·rw [decide_eq_false h,decide_eq_false (by omega)]
 rw [this]
 cases b <;> rfl
theorem zKB (n : Nat) (x : zA) (hn : 1048577 < n) (hx : x.sz ≤ 1048576) (hb : zT n x = some true) (ps : List Pt) (hp : ps.length = x.Ps.length) (fs : List zB) (hf : fs.length ≤ x.F.length) (t : Int) : ∃ (zs : List zB) (v b : Int),qm n ⟨x.Id,x.Name,ps,fs,x.V,t,x.Pa,x.Wo,x.Dr,x.Ve⟩ = some ⟨x.Id,x.Name,ps,zs,x.V,t,x.Pa,x.Wo,x.Dr,v⟩ ∧
  qr n ⟨x.Id,x.Name,ps,fs,x.V,t,x.Pa,x.Wo,x.Dr,x.Ve⟩ = some ⟨x.Id,x.Name,ps,zs,x.V,t,x.Pa,x.Wo,x.Dr,v⟩ ∧ zs.length ≤ fs.length ∧ (∀ u ∈ zs,u ∈ fs) ∧ 0 ≤ v ∧ v ≤ 1000000 ∧ Za n x.Id ps = some b ∧ ∀ u ∈ zs,u.Sc = true ∨ ∀ j : Nat,j < ps.length → zDS b j = false → u.Port ≠ j := by
 have hs : x.Name.size + x.Ps.length + x.F.length + x.V.sz = x.sz := rfl
 obtain ⟨p1,p2,p3,p4,p5,p6,p7,p8,p9,p10,p11,p12,p13⟩ := qT n x (by omega) hb
 exact zFP n ⟨x.Id,x.Name,ps,fs,x.V,t,x.Pa,x.Wo,x.Dr,x.Ve⟩ (by simp only; omega) (by simp only; omega) (by simp only; omega) (by omega) p12.1 p12.2
theorem zCb (n : Nat) (xs : List zB) (h : xs.length ≤ 134217728) (ha : ∀ v ∈ xs,0 ≤ v.Age ∧ v.Age ≤ 1000) : ∀ (m k : Nat) (acc : List zB),k ≤ xs.length → xs.length < m + k → acc.length ≤ k → ∃ zs,qW n m xs k acc = some (.inl zs) ∧ ZJ n m xs k acc = some (.inl zs) ∧ zs.length ≤ xs.length
 | 0,k,acc,h1,h2,h3 => by omega
 | m + 1,k,acc,h1,h2,h3 => by
  rw [qW,ZJ]
  by_cases hk : k < xs.length
  ·rw [zo hk,cond_true,cond_true,zK hk,Option.bind_some,Option.bind_some,zS (by omega : k ≤ 1099511627776)]
   have hg : ∀ v : zB,decide (acc.length + [v].length ≤ 268435456) = true := fun v => decide_eq_true (by simp; omega)
   simp only [hg,cond_true]
   have ih := fun acc' h3' => zCb n xs h ha m (k + 1) acc' (by omega) (by omega) h3'
   cases hs : xs[k].Sc with
   | true =>
    simp only [Bool.not_true,cond_true,cond_false]
    exact ih (acc ++ [xs[k]]) (by simp; omega)
   | false =>
    simp only [Bool.not_false,cond_true,cond_false]
    by_cases hl : xs[k].Age < 4
    ·rw [decide_eq_true hl,decide_eq_false (by omega : ¬ xs[k].Age ≥ 4)]
     exact ih _ (by simp; omega)
    ·rw [decide_eq_false hl,decide_eq_true (by omega : xs[k].Age ≥ 4)]
     exact ih _ (by omega)
  ·have he : k = xs.length := by omega
   subst he
   rw [zZ]
   exact ⟨acc,rfl,rfl,by omega⟩
theorem zGu (n : Nat) (xs : List zB) (h : xs.length ≤ 134217728) (hn : xs.length < n) (ha : ∀ v ∈ xs,0 ≤ v.Age ∧ v.Age ≤ 1000) : ∃ zs,YR n xs = some zs ∧ zAk n xs = some zs ∧ zs.length ≤ xs.length := by
 obtain ⟨zs,h1,h2,h3⟩ := zCb n xs h ha n 0 [] (by omega) (by omega) (by simp)
 refine ⟨zs,?_,?_,h3⟩
 ·unfold YR; rw [show qW n n xs 0 [] = _ from h1]; rfl
 ·unfold zAk; rw [show ZJ n n xs 0 [] = _ from h2]; rfl
theorem zEW (n : Nat) (xs : List zB) (h : xs.length ≤ 1048580) (hok : ZL n xs = some true) : xs.length ≤ 12 ∧ (∀ j (hj : j < xs.length),Ze n xs[j] = some true) ∧ ∀ j (hj : j + 1 < xs.length),Zd n xs[j] xs[j + 1].Tag xs[j + 1].Mac = some true := by
 unfold ZL at hok
 obtain ⟨o,ho,hok⟩ := bind_some hok
 rcases zHi (L := fun m k => qC n m xs k) (N := xs.length) (P := fun k => ∀ hk : k < xs.length,Ze n xs[k] = some true ∧ ∀ j (e : k = j + 1),Zd n (xs[j]'(by omega)) xs[k].Tag xs[k].Mac = some true) (fun k => rfl) (fun m k o hk h => by
  simp only [qC] at h
  rw [zo hk,cond_true,zK hk,Option.bind_some,zS (by omega : k ≤ 1099511627776)] at h
  obtain ⟨b,hb⟩ := zEY n xs[k]
  rw [hb,Option.bind_some] at h
  cases b with
  | false => cases h; exact .inl rfl
  | true =>
   simp only [Bool.not_true,cond_false] at h
   cases k with
   | zero => exact .inr ⟨fun _ => ⟨hb,fun j e => by omega⟩,h⟩
   | succ k =>
    have hw2 : IntKind.wrap .i64 (((k + 1 : Nat) : Int) - 1) = (k : Int) := by rw [wrap64 (by omega) (by omega)]; omega
    have hpos : decide (((k + 1 : Nat) : Int) > 0) = true := decide_eq_true (by omega)
    rw [hpos,hw2,cond_true,zK (show k < xs.length by omega),Option.bind_some,Option.bind_some,Option.bind_some] at h
    obtain ⟨c,hc⟩ := zDc n (xs[k]'(by omega)) xs[k + 1].Tag xs[k + 1].Mac
    rw [hc,Option.bind_some] at h
    cases c with
    | false => cases h; exact .inl rfl
    | true => exact .inr ⟨fun _ => ⟨hb,fun j e => (show k = j by omega) ▸ hc⟩,h⟩) (fun m o h => by
  simp only [qC] at h
  rw [zZ] at h; cases h; rfl) n 0 o (by omega) ho with rfl | ⟨rfl,hp⟩
 ·cases hok
 ·have h12 := of_decide_eq_true (Option.some.inj hok)
  exact ⟨by omega,fun j hj => (hp j (by omega) hj hj).1,fun j hj => (hp (j + 1) (by omega) hj hj).2 j rfl⟩
theorem zIh (n : Nat) (v : zB) (h : Ze n v = some true) : (1 ≤ v.Tag ∧ v.Tag ≤ 99) ∧ (1 ≤ v.Mac ∧ v.Mac ≤ 9999) ∧ (0 ≤ v.Port ∧ v.Port ≤ 7) ∧ (0 ≤ v.Age ∧ v.Age ≤ 4) ∧ (v.Sc = true → v.Age = 0) := by
 unfold Ze at h
 simp only [zQ,Option.bind_some] at h
 obtain ⟨h1,h⟩ := zAh h
 obtain ⟨h2,h⟩ := zAh h
 obtain ⟨h3,h⟩ := zAh h
 obtain ⟨h4,h⟩ := zAh h
 simp only [Bool.and_eq_true,decide_eq_true_eq] at h1 h2 h3 h4
 refine ⟨h1,h2,h3,h4,fun hs => ?_⟩
 rw [hs] at h
 simpa using h
theorem zJs (z : Int) : (strOf [z]).size = 1 := rfl
theorem zCa (n : Nat) : ∀ (d m : Nat) (y1 : ByteArray) (y2 : Int),0 ≤ y2 → y2 < 10 ^ d → d < m → y1.size + d ≤ 1000 → y2 ≤ 1099511627776 → ∃ t,Z9 n m y1 y2 = some (.inl t) ∧ t.size ≤ 1000
 | d,0,y1,y2,h0,h1,h2,h3,h4 => by omega
 | d,m + 1,y1,y2,h0,h1,h2,h3,h4 => by
  rw [Z9]
  by_cases hp : y2 > 0
  ·cases d with
   | zero => simp at h1; omega
   | succ d =>
    have hq : Int.tdiv y2 10 = y2 / 10 := Int.tdiv_eq_ediv_of_nonneg h0
    have hw : IntKind.wrap .i64 (y2 / 10) = y2 / 10 := wrap64 (by omega) (by omega)
    rw [decide_eq_true hp,cond_true,show decide ((10 : Int) ≠ 0) = true from rfl,cond_true,cond_true,zJs,decide_eq_true (by omega),cond_true,hq,hw]
    refine zCa n d m _ _ (by omega) ?_ (by omega) ?_ (by omega)
    ·have : (10 : Int) ^ (d + 1) = 10 ^ d * 10 := Int.pow_succ ..
     omega
    ·rw [ByteArray.size_append,zJs]; omega
  ·rw [decide_eq_false hp]
   exact ⟨y1,rfl,by omega⟩
theorem zGp (n : Nat) (hn : 1000 < n) (b : Int) (h0 : 0 < b) (h1 : b ≤ 1099511627776) : ∃ t,YC n b = some t := by
 unfold YC
 rw [decide_eq_false (by omega)]
 obtain ⟨t,ht,hs⟩ := zCa n 20 n ⟨#[]⟩ b (by omega) (by omega) (by omega) (by decide) h1
 rw [ht]
 simp only [cond_false,Option.bind_some,YO]
 have : (⟨#[109]⟩ : ByteArray).size = 1 := rfl
 rw [this,decide_eq_true (by omega)]
 exact ⟨_,rfl⟩
theorem zF3 (n : Nat) (xs : List Link) (b : Int) (h : xs.length ≤ 268435456) (hn : xs.length < n) (h0 : 0 ≤ b) (h1 : b + (4 : Nat) * xs.length ≤ 1099511627776) : Yz n xs b = some (b + (4 : Nat) * xs.length,q5 (fun _ b => (⟨b,b + 1,b + 2,b + 3⟩ : Link)) 4 xs b) := by
 have := Jl (L := qx n) (f := fun _ b => (⟨b,b + 1,b + 2,b + 3⟩ : Link)) (c := 4) (fun m k ys b v hk hl hv h0 h1 => by
  rw [qx,zo hk,Qf hv]
  simp (disch := omega) only [cond_true,Option.bind_some,List.set_set,zCj hk,wrap64,zS,Int.toNat_natCast]
  simp only [Int.add_assoc,Int.reduceAdd,show ((4 : Nat) : Int) = 4 from rfl]
  rfl)
  (fun m ys b => by rw [qx,zZ]; rfl) xs n [] b (by simpa using h) h0 h1 hn
 unfold Yz
 simp only [List.length_nil,List.nil_append] at this
 rw [show qx n n 0 xs b = _ from this]
 rfl
theorem zGo (n : Nat) (xs : List Say) (b : Int) (h : xs.length ≤ 268435456) (hn : xs.length < n) (h0 : 0 ≤ b) (h1 : b + (7 : Nat) * xs.length ≤ 1099511627776) : Jc n xs b = some (b + (7 : Nat) * xs.length,q5 (fun _ b => (⟨b,Int.tmod (b + 1) 3 == 0,⟨b + 2,b + 3,b + 4,b + 5,b + 6⟩⟩ : Say)) 7 xs b) := by
 have := Jl (L := ZB n) (f := fun _ b => (⟨b,Int.tmod (b + 1) 3 == 0,⟨b + 2,b + 3,b + 4,b + 5,b + 6⟩⟩ : Say)) (c := 7) (fun m k ys b v hk hl hv h0 h1 => by
  rw [ZB,zo hk,Qf hv]
  simp (disch := omega) only [cond_true,Option.bind_some,List.set_set,zCj hk,wrap64,zS,Int.toNat_natCast,show decide ((3 : Int) ≠ 0) = true from rfl]
  simp only [Int.add_assoc,Int.reduceAdd,show ((7 : Nat) : Int) = 7 from rfl]
  rfl)
  (fun m ys b => by rw [ZB,zZ]; rfl) xs n [] b (by simpa using h) h0 h1 hn
 unfold Jc
 simp only [List.length_nil,List.nil_append] at this
 rw [show ZB n n 0 xs b = _ from this]
 rfl
theorem zAp (n : Nat) (z : Int) (N : Nat) (h : N ≤ 1048600) : zP n z 0 (IntKind.wrap .i64 ((N : Int) - 1)) = some (decide (0 ≤ z ∧ z < N)) := by
 rw [zQ,wrap64 (by omega) (by omega)]
 by_cases h : 0 ≤ z ∧ z < N
 ·rw [decide_eq_true h,decide_eq_true h.1,decide_eq_true (by omega)]; rfl
 ·rw [decide_eq_false h]
  congr 1
  simp only [Bool.and_eq_false_iff,decide_eq_false_iff_not]; omega
def zx (b p : Int) (l : Link) : Bool := (l.A == b && l.P == p) || (l.B == b && l.Q == p)
def qo (b p : Int) (l : Link) : Nat := (bif l.A == b && l.P == p then 1 else 0) + (bif l.B == b && l.Q == p then 1 else 0)
theorem Q1 {b p : Int} {l : Link} : zx b p l = true ↔ (l.A = b ∧ l.P = p) ∨ (l.B = b ∧ l.Q = p) := by simp [zx]
theorem zDz {b p : Int} {l : Link} : zx b p l = true ↔ 0 < qo b p l := by
 unfold zx qo
 cases l.A == b <;> cases l.P == p <;> cases l.B == b <;> cases l.Q == p <;> simp
def qU {α : Type} (f : α → Nat) : List α → Nat
 | [] => 0
 | x :: xs => f x + qU f xs
theorem zEk {α : Type} (f : α → Nat) : ∀ (xs ys : List α),qU f (xs ++ ys) = qU f xs + qU f ys
 | [],ys => by simp [qU]
 | x :: xs,ys => by simp only [List.cons_append,qU,zEk f xs ys]; omega
theorem zGP {α : Type} (f : α → Nat) : ∀ (xs : List α),(∀ x ∈ xs,f x = 0) → qU f xs = 0
 | [],_ => rfl
 | x :: xs,h => by rw [qU,h x (by simp),zGP f xs (fun y hy => h y (by simp [hy]))]
theorem zHr {α : Type} (f : α → Nat) : ∀ (xs : List α) (x : α),x ∈ xs → f x ≤ qU f xs
 | y :: xs,x,h => by
  rcases List.mem_cons.1 h with e | h
  ·subst e; rw [qU]; omega
  ·have := zHr f xs x h; rw [qU]; omega
theorem zHs {α : Type} (f : α → Nat) (xs : List α) (i j : Nat) (hij : i < j) (hj : j < xs.length) : f (xs[i]'(by omega)) + f xs[j] ≤ qU f xs := by
 have e : xs = xs.take j ++ xs.drop j := (List.take_append_drop j xs).symm
 have h1 : f (xs[i]'(by omega)) ≤ qU f (xs.take j) := zHr f _ _ (by
  have : (xs.take j)[i]? = some (xs[i]'(by omega)) := by rw [List.getElem?_take,if_pos hij]; exact List.getElem?_eq_getElem _
  exact List.mem_of_getElem? this)
 have h2 : f xs[j] ≤ qU f (xs.drop j) := zHr f _ _ (List.drop_eq_getElem_cons hj ▸ List.mem_cons_self)
 have h3 := zEk f (xs.take j) (xs.drop j)
 rw [← e] at h3
 omega
theorem zNe {α : Type} (f : α → Nat) (xs : List α) (k : Nat) (hk : k < xs.length) (h : ∀ j (hj : j < xs.length),j ≠ k → f xs[j] = 0) : qU f xs = f xs[k] := by
 have e : xs = xs.take k ++ xs[k] :: xs.drop (k + 1) := by rw [← List.drop_eq_getElem_cons hk]; exact (List.take_append_drop k xs).symm
 have h1 : qU f (xs.take k) = 0 := zGP f _ fun x hx => by
  obtain ⟨i,hi,rfl⟩ := List.getElem_of_mem hx
  simp only [List.length_take] at hi
  rw [List.getElem_take]
  exact h i (by omega) (by omega)
 have h2 : qU f (xs.drop (k + 1)) = 0 := zGP f _ fun x hx => by
  obtain ⟨i,hi,rfl⟩ := List.getElem_of_mem hx
  simp only [List.length_drop] at hi
  rw [List.getElem_drop]
  exact h _ (by omega) (by omega)
 have h3 := zEk f (xs.take k) (xs[k] :: xs.drop (k + 1))
 rw [← e] at h3
 rw [qU,h1,h2] at h3
 omega
theorem zH6 (xs : List Link) (hne : ∀ l ∈ xs,l.A ≠ l.B) : (∀ k (hk : k < xs.length),qU (qo xs[k].A xs[k].P) xs = 1 ∧ qU (qo xs[k].B xs[k].Q) xs = 1) ↔ (∀ k (hk : k < xs.length),(xs.take k).any (zx xs[k].A xs[k].P) = false ∧ (xs.take k).any (zx xs[k].B xs[k].Q) = false) := by
 have own1 : ∀ k (hk : k < xs.length),qo xs[k].A xs[k].P xs[k] = 1 := fun k hk => by
  have := hne xs[k] (List.getElem_mem hk)
  have h2 : (xs[k].B == xs[k].A) = false := by simpa using fun e => this e.symm
  simp [qo,h2]
 have own2 : ∀ k (hk : k < xs.length),qo xs[k].B xs[k].Q xs[k] = 1 := fun k hk => by
  have := hne xs[k] (List.getElem_mem hk)
  have h2 : (xs[k].A == xs[k].B) = false := by simpa using this
  simp [qo,h2]
 constructor
 ·intro h k hk
  have key : ∀ b p,qo b p xs[k] = 1 → qU (qo b p) xs = 1 → (xs.take k).any (zx b p) = false := fun b p h1 h2 => by
   rw [List.any_eq_false]
   intro l hl hu
   obtain ⟨i,hi,rfl⟩ := List.getElem_of_mem hl
   simp only [List.length_take] at hi
   rw [List.getElem_take] at hu
   have := zHs (qo b p) xs i k (by omega) hk
   have := zDz.1 hu
   omega
  exact ⟨key _ _ (own1 k hk) (h k hk).1,key _ _ (own2 k hk) (h k hk).2⟩
 ·intro h k hk
  have key : ∀ b p,qo b p xs[k] = 1 → zx b p xs[k] = true → (xs.take k).any (zx b p) = false → qU (qo b p) xs = 1 := fun b p h1 hu h2 => by
   rw [zNe (qo b p) xs k hk (fun j hj hjk => ?_),h1]
   rw [List.any_eq_false] at h2
   refine Classical.byContradiction fun hc => ?_
   have hpos := zDz.2 (show 0 < qo b p xs[j] by omega)
   by_cases hlt : j < k
   ·refine h2 xs[j] ?_ hpos
    have : (xs.take k)[j]? = some xs[j] := by rw [List.getElem?_take,if_pos hlt]; exact List.getElem?_eq_getElem _
    exact List.mem_of_getElem? this
   ·have hkj : k < j := by omega
    have hmem : xs[k] ∈ xs.take j := by
     have : (xs.take j)[k]? = some xs[k] := by rw [List.getElem?_take,if_pos hkj]; exact List.getElem?_eq_getElem _
     exact List.mem_of_getElem? this
    have hh := h j hj
    rw [List.any_eq_false,List.any_eq_false] at hh
    rcases Q1.1 hpos with ⟨e1,e2⟩ | ⟨e1,e2⟩
    ·exact hh.1 _ hmem (by rw [e1,e2]; exact hu)
    ·exact hh.2 _ hmem (by rw [e1,e2]; exact hu)
  exact ⟨key _ _ (own1 k hk) (Q1.2 (.inl ⟨rfl,rfl⟩)) (h k hk).1,key _ _ (own2 k hk) (Q1.2 (.inr ⟨rfl,rfl⟩)) (h k hk).2⟩
theorem zD5 (n : Nat) (xs : List Link) (b p : Int) (h : xs.length ≤ 1048600) : ∀ (m k : Nat),k ≤ xs.length → xs.length < m + k → ZV n m xs b p k = some (if (xs.drop k).any (zx b p) then .inr true else .inl ())
 | 0,k,h1,h2 => by omega
 | m + 1,k,h1,h2 => by
  rw [ZV]
  by_cases hk : k < xs.length
  ·have ih := zD5 n xs b p h m (k + 1) (by omega) (by omega)
   rw [zo hk,cond_true,zK hk,Option.bind_some,zS (by omega : k ≤ 1099511627776),ih,List.drop_eq_getElem_cons hk,List.any_cons]
   unfold zx
   cases xs[k].A == b <;> cases xs[k].P == p <;> cases xs[k].B == b <;> cases xs[k].Q == p <;> rfl
  ·have he : k = xs.length := by omega
   subst he
   rw [zZ]; simp
theorem zEs (n : Nat) (xs : List Link) (b p : Int) (h : xs.length ≤ 1048600) (hn : xs.length < n) : Js n xs b p = some (xs.any (zx b p)) := by
 unfold Js
 rw [show ZV n n xs b p 0 = _ from zD5 n xs b p h n 0 (by omega) (by omega),List.drop_zero]
 cases xs.any (zx b p) <;> rfl
theorem zCg (n : Nat) (x : Net) (b p : Int) (h : x.Ls.length ≤ 1048600) : ∀ (m k c : Nat),k ≤ x.Ls.length → x.Ls.length < m + k → c ≤ 2 * k → qX n m x b p k c = some (.inl ((c + qU (qo b p) (x.Ls.drop k) : Nat) : Int))
 | 0,k,c,h1,h2,h3 => by omega
 | m + 1,k,c,h1,h2,h3 => by
  rw [qX]
  by_cases hk : k < x.Ls.length
  ·have ih := fun c' h3' => zCg n x b p h m (k + 1) c' (by omega) (by omega) h3'
   have hw : ∀ z : Nat,z ≤ 4194304 → IntKind.wrap .i64 ((z : Int) + 1) = ((z + 1 : Nat) : Int) := fun z hz => zS (by omega)
   rw [zo hk,cond_true,zK hk,Option.bind_some,List.drop_eq_getElem_cons hk,qU]
   simp only [QS,hw k (by omega),hw c (by omega)]
   have hw2 := hw (c + 1) (by omega)
   simp only [hw2]
   unfold qo
   generalize (x.Ls[k].A == b) = qA
   generalize (x.Ls[k].P == p) = qP
   generalize (x.Ls[k].B == b) = qB
   generalize (x.Ls[k].Q == p) = qQ
   have z0 := ih c (by omega)
   have z1 := ih (c + 1) (by omega)
   have z2 := ih (c + 1 + 1) (by omega)
   unfold qo at z0 z1 z2
   cases qA <;> cases qP <;> cases qB <;> cases qQ <;> simp only [cond_true,cond_false,Bool.and_true,Bool.and_false,Bool.true_and,Bool.false_and,Nat.zero_add,Nat.add_zero,z0,z1,z2] <;> simp only [Nat.add_assoc,Nat.reduceAdd]
  ·have he : k = x.Ls.length := by omega
   subst he
   rw [zZ]; simp [qU]
theorem zDb (n : Nat) (x : Net) (b p : Int) (h : x.Ls.length ≤ 1048600) (hn : x.Ls.length < n) : Yk n x b p = some ((qU (qo b p) x.Ls : Nat) : Int) := by
 unfold Yk
 rw [show qX n n x b p 0 0 = _ from zCg n x b p h n 0 0 (by omega) (by omega) (by omega),List.drop_zero,Nat.zero_add]
 rfl
theorem zHt {b p : Int} : ∀ {xs : List Link},(qU (qo b p) xs = 0 ↔ xs.any (zx b p) = false)
 | [] => by simp [qU]
 | l :: xs => by
  have ih := zHt (b := b) (p := p) (xs := xs)
  have h := zDz (b := b) (p := p) (l := l)
  rw [qU,List.any_cons,Bool.or_eq_false_iff,← ih]
  cases hu : zx b p l with
  | true => have := h.1 hu; constructor <;> intro h' <;> first | omega | (exact absurd h'.1 (by simp))
  | false =>
   have : qo b p l = 0 := by
    refine Classical.byContradiction fun hc => ?_
    have := h.2 (by omega)
    rw [hu] at this; cases this
   constructor
   ·intro h'; exact ⟨rfl,by omega⟩
   ·intro h'; omega
theorem QK {α : Type} {L : Nat → Int → Option (α ⊕ Bool)} {N : Nat} {P : Nat → Prop} (hs : ∀ m (k : Nat),k < N → (P k ∧ L (m + 1) (k : Int) = L m ((k + 1 : Nat) : Int)) ∨ (¬ P k ∧ L (m + 1) (k : Int) = some (.inr false))) (he : ∀ m,∃ a,L (m + 1) (N : Int) = some (.inl a)) :
  ∀ (m k : Nat),k ≤ N → N < m + k → (∃ a,L m (k : Int) = some (.inl a) ∧ ∀ j,k ≤ j → j < N → P j) ∨ (L m (k : Int) = some (.inr false) ∧ ¬ ∀ j,k ≤ j → j < N → P j)
 | 0,k,h1,h2 => by omega
 | m + 1,k,h1,h2 => by
  by_cases hk : k < N
  ·rcases hs m k hk with ⟨hp,e⟩ | ⟨hp,e⟩
   ·rcases QK hs he m (k + 1) (by omega) (by omega) with ⟨a,h3,h4⟩ | ⟨h3,h4⟩
    ·refine .inl ⟨a,e.trans h3,fun j hj hj2 => ?_⟩
     by_cases hjk : j = k
     ·subst hjk; exact hp
     ·exact h4 j (by omega) hj2
    ·exact .inr ⟨e.trans h3,fun h => h4 fun j hj hj2 => h j (by omega) hj2⟩
   ·exact .inr ⟨e,fun h => hp (h k (Nat.le_refl _) hk)⟩
  ·have : k = N := by omega
   subst this
   obtain ⟨a,ha⟩ := he m
   exact .inl ⟨a,ha,fun j hj hj2 => by omega⟩
def BOk (n : Nat) (x : Net) (k : Nat) : Prop := ∀ hk : k < x.Bs.length,zT n x.Bs[k] = some true ∧ (∀ j (hj : j < k),(x.Bs[j]'(by omega)).Id ≠ x.Bs[k].Id) ∧ ∀ p (hp : p < x.Bs[k].Ps.length),x.Bs[k].Ps[p].Has = true → x.Ls.any (zx k p) = true
theorem zJW {x : Net} (wx : x.wf) {k : Nat} (hk : k < x.Bs.length) : x.Bs[k].wf := wx.1.2 _ (List.getElem_mem hk)
def Zw (x : Net) (b p : Int) : Option Pt := (idx x.Bs b).bind fun v => idx v.Ps p
theorem zCI {α : Type} {xs : List α} {i : Int} : (∃ v,idx xs i = some v) ↔ 0 ≤ i ∧ i < xs.length := by
 constructor
 ·rintro ⟨v,hv⟩; exact zFn hv
 ·intro h
  obtain ⟨j,rfl⟩ := Int.eq_ofNat_of_zero_le h.1
  exact ⟨_,zK (by omega)⟩
theorem zCr {α : Type} {xs : List α} {i : Int} (h : ¬ (0 ≤ i ∧ i < xs.length)) : idx xs i = none := by
 cases hc : idx xs i with
 | none => rfl
 | some v => exact absurd (zFn hc) h
def LOk (x : Net) (l : Link) : Prop := l.A ≠ l.B ∧ ∃ p q,Zw x l.A l.P = some p ∧ Zw x l.B l.Q = some q ∧ p.Up = q.Up
theorem zBb {x : Net} {b p : Int} {q : Pt} (h : Zw x b p = some q) : ∃ v,idx x.Bs b = some v ∧ idx v.Ps p = some q := by
 unfold Zw at h
 exact bind_some h
theorem zIQ {α β γ : Type} {L : Nat → Int → List α → Int → Option ((List α × Int) ⊕ β)} {H : Nat → List α → Int → Int → Option (Int ⊕ γ)} (w : α → Nat) (good : α → Prop)
  (h : ∀ (k : Nat) (ys : List α) (b : Int) (v : α),k < ys.length → ys.length ≤ 268435456 → ys[k]? = some v → good v → 0 < b → b ≤ 274877906944 → ∃ v' c,b ≤ c ∧ c ≤ b + 16 * w v ∧ (∀ m,L (m + 1) k ys b = L m ((k + 1 : Nat) : Int) (ys.set k v') c) ∧ ∀ m (ys' : List α),ys'.length ≤ 268435456 → k < ys'.length → ys'[k]? = some v' → H (m + 1) ys' k b = H m ys' ((k + 1 : Nat) : Int) c)
  (hend : ∀ m (ys : List α) b,L (m + 1) (ys.length : Int) ys b = some (.inl (ys,b))) (hendH : ∀ m (ys : List α) b,H (m + 1) ys (ys.length : Int) b = some (.inl b)) : ∀ (post pre : List α) (b : Int),(pre ++ post).length ≤ 268435456 → (∀ v ∈ post,good v) → 0 < b → b + 16 * qn w post ≤ 274877906944 →
   ∃ (zs : List α) (c : Int),zs.length = post.length ∧ b ≤ c ∧ c ≤ b + 16 * qn w post ∧ (∀ m,post.length < m → L m (pre.length : Int) (pre ++ post) b = some (.inl (pre ++ zs,c))) ∧ ∀ m,post.length < m → H m (pre ++ zs) (pre.length : Int) b = some (.inl c)
 | [],pre,b,h1,h2,h3,h4 => by
  refine ⟨[],b,rfl,by omega,by simp only [qn]; omega,fun m hm => ?_,fun m hm => ?_⟩
  ·obtain ⟨m,rfl⟩ : ∃ m',m = m' + 1 := ⟨m - 1,by have : 0 < m := hm; omega⟩
   rw [List.append_nil,hend m pre b]
  ·obtain ⟨m,rfl⟩ : ∃ m',m = m' + 1 := ⟨m - 1,by have : 0 < m := hm; omega⟩
   rw [List.append_nil,hendH m pre b]
 | v :: post,pre,b,h1,h2,h3,h4 => by
  simp only [qn] at h4
  obtain ⟨v',c,k1,k2,k3,k4⟩ := h pre.length (pre ++ v :: post) b v (by simp) h1 (by simp) (h2 v (by simp)) h3 (by omega)
  obtain ⟨zs,c',e0,e1,e2,e3,e4⟩ := zIQ w good h hend hendH post (pre ++ [v']) c (by simpa using h1) (fun u hu => h2 u (by simp [hu])) (by omega) (by omega)
  refine ⟨v' :: zs,c',by simp [e0],by omega,by simp only [qn]; omega,fun m hm => ?_,fun m hm => ?_⟩
  ·obtain ⟨m,rfl⟩ : ∃ m',m = m' + 1 := ⟨m - 1,by simp only [List.length_cons] at hm; omega⟩
   rw [k3 m,zEx]
   have := e3 m (by simp only [List.length_cons] at hm; omega)
   simpa using this
  ·obtain ⟨m,rfl⟩ : ∃ m',m = m' + 1 := ⟨m - 1,by simp only [List.length_cons] at hm; omega⟩
   have hlen : (pre ++ v' :: zs).length ≤ 268435456 := by simp only [List.length_append,List.length_cons,e0] at h1 ⊢; omega
   rw [k4 m (pre ++ v' :: zs) hlen (by simp) (by simp)]
   have := e4 m (by simp only [List.length_cons] at hm; omega)
   simpa using this
theorem zFz (n : Nat) (xs : List Link) (b : Int) (h : xs.length ≤ 268435456) (hn : xs.length < n) (h0 : 0 ≤ b) (h1 : b + (4 : Nat) * xs.length ≤ 1099511627776) : Yv n (q5 (fun _ b => (⟨b,b + 1,b + 2,b + 3⟩ : Link)) 4 xs b) b = some (b + (4 : Nat) * xs.length) := by
 have := zAj (L := qu n) (f := fun _ b => (⟨b,b + 1,b + 2,b + 3⟩ : Link)) (c := 4) (fun m k ys b v hk hl hv h0 h1 => by
  rw [qu,zo hk,Qf hv]
  simp (disch := omega) only [cond_true,Option.bind_some,wrap64,zS,Int.add_assoc,Int.reduceAdd,bne_self_eq_false,cond_false,show ((4 : Nat) : Int) = 4 from rfl]
  rfl)
  (fun m ys b => by rw [qu,zZ]; rfl) xs n [] b (by simpa using h) h0 h1 hn
 unfold Yv
 simp only [List.length_nil,List.nil_append] at this
 rw [show qu n n (q5 _ 4 xs b) 0 b = _ from this]
 rfl
theorem zGm (n : Nat) (xs : List Say) (b : Int) (h : xs.length ≤ 268435456) (hn : xs.length < n) (h0 : 0 ≤ b) (h1 : b + (7 : Nat) * xs.length ≤ 1099511627776) : Ja n (q5 (fun _ b => (⟨b,Int.tmod (b + 1) 3 == 0,⟨b + 2,b + 3,b + 4,b + 5,b + 6⟩⟩ : Say)) 7 xs b) b = some (b + (7 : Nat) * xs.length) := by
 have := zAj (L := q9 n) (f := fun _ b => (⟨b,Int.tmod (b + 1) 3 == 0,⟨b + 2,b + 3,b + 4,b + 5,b + 6⟩⟩ : Say)) (c := 7) (fun m k ys b v hk hl hv h0 h1 => by
  rw [q9,zo hk,Qf hv]
  simp (disch := omega) only [cond_true,Option.bind_some,wrap64,zS,Int.add_assoc,Int.reduceAdd,bne_self_eq_false,beq_self_eq_true,Bool.not_true,cond_false,show ((7 : Nat) : Int) = 7 from rfl,show decide ((3 : Int) ≠ 0) = true from rfl]
  rfl)
  (fun m ys b => by rw [q9,zZ]; rfl) xs n [] b (by simpa using h) h0 h1 hn
 unfold Ja
 simp only [List.length_nil,List.nil_append] at this
 rw [show q9 n n (q5 _ 7 xs b) 0 b = _ from this]
 rfl
theorem zEe (n : Nat) (xs : List zA) (b : Int) (h : xs.length + qn zA.sz xs ≤ 1048576) (hn : 1048577 < n) (h0 : 0 < b) (h1 : b ≤ 1048576) : ∃ (zs : List zA) (c : Int),b ≤ c ∧ c ≤ b + 16 * qn (fun v => v.sz + 1) xs ∧ Qz n xs b = some (c,zs) ∧ Qy n zs b = some c := by
 have hsum : ∀ ys : List zA,qn (fun v => v.sz + 1) ys = ys.length + qn zA.sz ys := fun ys => by
  induction ys with
  | nil => rfl
  | cons y ys ih => simp only [qn,List.length_cons,ih]; omega
 obtain ⟨zs,c,e0,e1,e2,e3,e4⟩ := zIQ (L := qc n) (H := qb n) (fun v : zA => v.sz + 1) (fun v => v.sz ≤ 1048576) (fun k ys b v hk hl hv hg h0 h1 => by
  have hs : v.Name.size + v.Ps.length + v.F.length + v.V.sz = v.sz := rfl
  have hs2 : v.V.Rows.length + v.V.Pv.length = v.V.sz := rfl
  obtain ⟨t,ht⟩ := zGp n (by omega) (b + 1) (by omega) (by omega)
  have hP := zHW n v.Ps (b + 1 + 1) (by omega) (by omega) (by omega) (by omega)
  have hF := zF2 n v.F (b + 1 + 1 + (8 : Nat) * v.Ps.length) (by omega) (by omega) (by omega) (by omega)
  have hR := zF5 n v.V.Rows (b + 1 + 1 + (8 : Nat) * v.Ps.length + (5 : Nat) * v.F.length) (by omega) (by omega) (by omega) (by omega)
  have hQ := zGn n v.V.Pv (b + 1 + 1 + (8 : Nat) * v.Ps.length + (5 : Nat) * v.F.length + (3 : Nat) * v.V.Rows.length) (by omega) (by omega) (by omega) (by omega)
  have hP' := zHU n v.Ps (b + 1 + 1) (by omega) (by omega) (by omega) (by omega)
  have hF' := zFy n v.F (b + 1 + 1 + (8 : Nat) * v.Ps.length) (by omega) (by omega) (by omega) (by omega)
  have hR' := zF1 n v.V.Rows (b + 1 + 1 + (8 : Nat) * v.Ps.length + (5 : Nat) * v.F.length) (by omega) (by omega) (by omega) (by omega)
  have hQ' := zGl n v.V.Pv (b + 1 + 1 + (8 : Nat) * v.Ps.length + (5 : Nat) * v.F.length + (3 : Nat) * v.V.Rows.length) (by omega) (by omega) (by omega) (by omega)
  refine ⟨?v,?c,?a1,?a2,?a3,?a4⟩
  case a3 =>
   intro m
   rw [qc,zo hk,Qf hv]
   simp (disch := omega) only [cond_true,Option.bind_some,List.set_set,zCj hk,wrap64,zS,Int.toNat_natCast,ht,hP,hF,hR,hQ]
   exact rfl
  case a1 => omega
  case a2 => omega
  case a4 =>
   intro m ys' hl' hk' hv'
   rw [qb,zo hk',Qf hv']
   simp (disch := omega) only [cond_true,Option.bind_some,wrap64,zS,ht,hP',hF',hR',hQ',decide_eq_false,bne_self_eq_false,beq_self_eq_true,Bool.not_true,cond_false]
   rfl)
  (fun m ys b => by rw [qc,zZ]; rfl) (fun m ys b => by rw [qb,zZ]; rfl) xs [] b (by simp; omega) (fun v hv => by have := zA3 (sz := zA.sz) hv; omega) h0 (by rw [hsum]; omega)
 refine ⟨zs,c,e1,e2,?_,?_⟩
 ·unfold Qz
  have := e3 n (by omega)
  simp only [List.length_nil,List.nil_append] at this
  rw [show qc n n 0 xs b = _ from this]
  rfl
 ·unfold Qy
  have := e4 n (by omega)
  simp only [List.length_nil,List.nil_append] at this
  rw [show qb n n zs 0 b = _ from this]
  rfl
theorem zDG (n : Nat) (x : Net) (h : x.sz ≤ 1048576) (hn : 1048577 < n) : ∃ (y : Net) (c : Int),1 ≤ c ∧ c ≤ 100000000 ∧ Yg n x 1 = some (c,y) ∧ Yf n y 1 = some c := by
 have hs : (x.Bs.length + qn zA.sz x.Bs) + x.Ls.length + x.Said.length = x.sz := rfl
 have hsum : ∀ ys : List zA,qn (fun v => v.sz + 1) ys = ys.length + qn zA.sz ys := fun ys => by
  induction ys with
  | nil => rfl
  | cons y ys ih => simp only [qn,List.length_cons,ih]; omega
 obtain ⟨zs,c,e1,e2,e3,e4⟩ := zEe n x.Bs 1 (by omega) hn (by omega) (by omega)
 have := hsum x.Bs
 refine ⟨_,_,?_,?_,by unfold Yg; rw [e3,Option.bind_some,zF3 n x.Ls _ (by omega) (by omega) (by omega) (by omega),Option.bind_some,zGo n x.Said _ (by omega) (by omega) (by simp only; omega) (by simp only; omega)]; exact rfl,?_⟩
 ·simp only; omega
 ·simp only; omega
 ·unfold Yf
  rw [e4,Option.bind_some,zFz n x.Ls _ (by omega) (by omega) (by omega) (by omega),Option.bind_some,zGm n x.Said _ (by omega) (by omega) (by simp only; omega) (by simp only; omega),Option.bind_some,decide_eq_false (by omega),decide_eq_false (by simp only; omega),decide_eq_false (by simp only; omega)]
  rfl
theorem zHN {α β : Type} {L : Nat → Int → List α → Option (List α ⊕ β)} {f : α → Option α} (xs : List α) (hx : xs.length ≤ 268435455) (hf : ∀ v ∈ xs,f v = some v)
  (h : ∀ m k acc,L (m + 1) k acc = bif decide (k < (xs.length : Int)) then (idx xs k).bind fun v => (f v).bind fun r => bif decide (acc.length + [r].length ≤ 268435456) then L m (IntKind.wrap .i64 (k + 1)) (acc ++ [r]) else none else some (.inl acc)) : ∀ (m k : Nat),k ≤ xs.length → xs.length < m + k → L m k (xs.take k) = some (.inl xs)
 | 0,k,h1,h2 => by omega
 | m + 1,k,h1,h2 => by
  rw [h]
  by_cases hk : k < xs.length
  ·rw [zo hk,cond_true,zK hk,Option.bind_some,hf _ (List.getElem_mem hk),Option.bind_some,decide_eq_true (by simp; omega),cond_true,zS (by omega),show xs.take k ++ [xs[k]] = xs.take (k + 1) by rw [List.take_add_one,List.getElem?_eq_getElem hk]; rfl]
   exact zHN xs hx hf h m (k + 1) (by omega) (by omega)
  ·have he : k = xs.length := by omega
   subst he
   rw [zZ,cond_false,List.take_length]
theorem zB7 (n : Nat) (x : Net) (h : x.sz ≤ 268435455) (hn : x.sz < n) : Yj n x = some x := by
 have hs : (x.Bs.length + qn zA.sz x.Bs) + x.Ls.length + x.Said.length = x.sz := rfl
 have := zHN (L := fun m k acc => Zs n m x k acc) (f := Z5 n) x.Bs (by omega) (fun v hv => by have := zA3 (sz := zA.sz) hv; exact J0 n v (by omega)) (fun m k acc => by rw [Zs]) n 0 (by omega) (by omega)
 unfold Yj
 rw [decide_eq_true (by simp; omega),decide_eq_true (by simp; omega),cond_true,cond_true,show Zs n n x 0 [] = _ from this]
 rfl
theorem zB4 (n : Nat) (x : Net) (h : x.sz ≤ 268435455) (hn : x.sz < n) : Ye n x = some x := by
 have hs : (x.Bs.length + qn zA.sz x.Bs) + x.Ls.length + x.Said.length = x.sz := rfl
 have := zHN (L := fun m k acc => Zr n m x k acc) (f := q7 n) x.Bs (by omega) (fun v hv => by have := zA3 (sz := zA.sz) hv; exact YW n v (by omega)) (fun m k acc => by rw [Zr]) n 0 (by omega) (by omega)
 unfold Ye
 rw [decide_eq_true (by simp; omega),decide_eq_true (by simp; omega),cond_true,cond_true,show Zr n n x 0 [] = _ from this]
 rfl
theorem zEz (n : Nat) (v : Vec) (h : zq n v = some true) : v.wf := by
 unfold zq at h
 simp only [zQ,Option.bind_some] at h
 cases h1 : (decide (1 ≤ v.Root) && decide (v.Root ≤ 99)) with
 | false => rw [h1] at h; cases h
 | true =>
  cases h2 : (decide (0 ≤ v.Co) && decide (v.Co ≤ 100000)) with
  | false => rw [h1,h2] at h; cases h
  | true =>
   cases h3 : (decide (0 ≤ v.Hops) && decide (v.Hops ≤ 10)) with
   | false => rw [h1,h2,h3] at h; cases h
   | true =>
    cases h4 : (decide (1 ≤ v.Bridge) && decide (v.Bridge ≤ 99)) with
    | false => rw [h1,h2,h3,h4] at h; cases h
    | true =>
     rw [h1,h2,h3,h4] at h
     simp only [cond_true,Option.some.injEq,Bool.and_eq_true,decide_eq_true_eq] at h h1 h2 h3 h4
     exact ⟨ZK (by omega) (by omega),ZK (by omega) (by omega),ZK (by omega) (by omega),ZK (by omega) (by omega),ZK (by omega) (by omega),trivial⟩
def HB (x : Net) (ys : List zA) : Prop := ys.length = x.Bs.length ∧ (∀ v ∈ ys,v.wf) ∧ qn zA.sz ys ≤ qn zA.sz x.Bs
theorem HB.self {x : Net} (wx : x.wf) : HB x x.Bs := ⟨rfl,wx.1.2,Nat.le_refl _⟩
def Big (x : Net) : Prop := x.Bs.length ≤ 1048576 ∧ (∀ a ∈ x.Bs,a.sz ≤ 1048576) ∧ x.Ls.length ≤ 1048576 ∧ x.Said.length ≤ 1048576
theorem zEF (n : Nat) (x : Net) (wx : x.wf) (h : Big x) (hn : 1048700 < n) (m k : Nat) (hk : k < x.Bs.length) : (BOk n x k ∧ zc n (m + 1) x k = zc n m x ((k + 1 : Nat) : Int)) ∨ (¬ BOk n x k ∧ zc n (m + 1) x k = some (.inr false)) := by
 have ⟨hl1,hl2,hl3,hl4⟩ := h
 have hps := hl2 _ (List.getElem_mem hk)
 have hs2 : x.Bs[k].Name.size + x.Bs[k].Ps.length + x.Bs[k].F.length + x.Bs[k].V.sz = x.Bs[k].sz := rfl
 obtain ⟨b,hb,_⟩ := QY n x.Bs[k] (zJW wx hk) (by omega) (by omega)
 rw [zc,zo hk,cond_true,zK hk,Option.bind_some,hb,Option.bind_some]
 cases b with
 | false => exact .inr ⟨fun hc => absurd ((hc hk).1.symm.trans hb) (by simp),rfl⟩
 | true =>
  simp only [Bool.not_true,cond_false]
  have h6 := QK (L := fun m j => qV n m x k j) (N := k) (P := fun j => ∀ hj : j < k,(x.Bs[j]'(by omega)).Id ≠ x.Bs[k].Id) (fun m j hj => by
   simp only [qV]
   rw [zo hj,cond_true,zK (show j < x.Bs.length by omega),Option.bind_some,zK hk,Option.bind_some,zS (by omega : j ≤ 1099511627776)]
   by_cases he : (x.Bs[j]'(by omega)).Id = x.Bs[k].Id
   ·exact .inr ⟨fun hc => hc hj he,by rw [show ((x.Bs[j]'(by omega)).Id == x.Bs[k].Id) = true from by simpa using he]; rfl⟩
   ·exact .inl ⟨fun _ => he,by rw [show ((x.Bs[j]'(by omega)).Id == x.Bs[k].Id) = false from by simpa using he]; rfl⟩) (fun m => ⟨_,by simp only [qV]; rw [zZ]; rfl⟩) n 0 (by omega) (by omega)
  rcases h6 with ⟨_,e6,p6⟩ | ⟨e6,p6⟩
  ·rw [show qV n n x k 0 = _ from e6,Option.bind_some]
   simp only [Qk]
   have h5 := QK (L := fun m j => qJ n m x k j) (N := x.Bs[k].Ps.length) (P := fun j => ∀ hp : j < x.Bs[k].Ps.length,x.Bs[k].Ps[j].Has = true → x.Ls.any (zx k j) = true) (fun m j hj => by
    simp only [qJ]
    rw [zK hk,Option.bind_some,zo hj,cond_true,Option.bind_some,zK hj,Option.bind_some,zS (by omega : j ≤ 1099511627776)]
    cases hh : x.Bs[k].Ps[j].Has with
    | false => exact .inl ⟨fun _ hc => absurd (hh.symm.trans hc) (by simp),rfl⟩
    | true =>
     rw [cond_true,zDb n x k j (by omega) (by omega),Option.bind_some]
     cases hu : x.Ls.any (zx k j) with
     | false => exact .inr ⟨fun hc => absurd (hc hj hh) (by simp),by rw [zHt.2 hu]; rfl⟩
     | true =>
      have : qU (qo k j) x.Ls ≠ 0 := fun e => by rw [zHt.1 e] at hu; cases hu
      exact .inl ⟨fun _ _ => rfl,by rw [show (((qU (qo k j) x.Ls : Nat) : Int) == 0) = false from by simpa using this]; rfl⟩) (fun m => ⟨_,by simp only [qJ]; rw [zK hk,Option.bind_some,zZ]; rfl⟩) n 0 (by omega) (by omega)
   rcases h5 with ⟨a,e5,p5⟩ | ⟨e5,p5⟩
   ·rw [show qJ n n x k 0 = _ from e5,Option.bind_some]
    refine .inl ⟨fun _ => ⟨hb,fun j hj => p6 j (by omega) hj hj,fun p hp => p5 p (by omega) hp hp⟩,?_⟩
    simp only [Ql,zS (by omega : k ≤ 1099511627776)]
   ·rw [show qJ n n x k 0 = _ from e5,Option.bind_some]
    exact .inr ⟨fun hc => p5 fun j _ hj2 _ => (hc hk).2.2 j hj2,rfl⟩
  ·rw [show qV n n x k 0 = _ from e6,Option.bind_some]
   exact .inr ⟨fun hc => p6 fun j _ hj2 _ => (hc hk).2.1 j hj2,rfl⟩
theorem zFb (n : Nat) (x : Net) (wx : x.wf) (h : Big x) (hn : 1048700 < n) (m k : Nat) (hk : k < x.Bs.length) : (BOk n x k ∧ z7 n (m + 1) x k = z7 n m x ((k + 1 : Nat) : Int)) ∨ (¬ BOk n x k ∧ z7 n (m + 1) x k = some (.inr false)) := by
 have ⟨hl1,hl2,hl3,hl4⟩ := h
 have hps := hl2 _ (List.getElem_mem hk)
 have hs2 : x.Bs[k].Name.size + x.Bs[k].Ps.length + x.Bs[k].F.length + x.Bs[k].V.sz = x.Bs[k].sz := rfl
 obtain ⟨b,hb,hb2⟩ := QY n x.Bs[k] (zJW wx hk) (by omega) (by omega)
 have hg : (decide ((0 : Int) ≤ 0) && (decide ((0 : Int) ≤ (k : Int)) && decide ((k : Int) ≤ (x.Bs.length : Int)))) = true := by
  rw [decide_eq_true (by omega),decide_eq_true (by omega),decide_eq_true (by omega)]; rfl
 rw [z7,zo hk,cond_true,zK hk,Option.bind_some,hb2,Option.bind_some]
 cases b with
 | false => exact .inr ⟨fun hc => absurd ((hc hk).1.symm.trans hb) (by simp),rfl⟩
 | true =>
  simp only [Bool.not_true,cond_false,hg,cond_true]
  have ht : (x.Bs.drop ((0 : Int)).toNat).take (((k : Int)).toNat - ((0 : Int)).toNat) = x.Bs.take k := by simp
  have hl : (x.Bs.take k).length = k := by simp; omega
  have h8 := QK (L := fun m j => ZW n m x.Bs[k] x k j) (N := k) (P := fun j => ∀ hj : j < k,(x.Bs[j]'(by omega)).Id ≠ x.Bs[k].Id) (fun m j hj => by
   simp only [ZW,ht]
   rw [hl,zo hj,cond_true,zK (show j < (x.Bs.take k).length by omega),Option.bind_some,List.getElem_take,zS (by omega : j ≤ 1099511627776)]
   by_cases he : (x.Bs[j]'(by omega)).Id = x.Bs[k].Id
   ·exact .inr ⟨fun hc => hc hj he,by rw [show ((x.Bs[j]'(by omega)).Id == x.Bs[k].Id) = true from by simpa using he]; rfl⟩
   ·exact .inl ⟨fun _ => he,by rw [show ((x.Bs[j]'(by omega)).Id == x.Bs[k].Id) = false from by simpa using he]; rfl⟩) (fun m => ⟨_,by simp only [ZW,ht]; rw [hl,zZ]; rfl⟩) n 0 (by omega) (by omega)
  rcases h8 with ⟨a1,e8,p8⟩ | ⟨e8,p8⟩
  ·rw [show ZW n n x.Bs[k] x k 0 = _ from e8,Option.bind_some]
   simp only [J4]
   have h7 := QK (L := fun m j => ZD n m x.Bs[k] x k j) (N := x.Bs[k].Ps.length) (P := fun j => ∀ hp : j < x.Bs[k].Ps.length,x.Bs[k].Ps[j].Has = true → x.Ls.any (zx k j) = true) (fun m j hj => by
    simp only [ZD]
    rw [zo hj,cond_true,zK hj,Option.bind_some,zS (by omega : j ≤ 1099511627776)]
    cases hh : x.Bs[k].Ps[j].Has with
    | false => exact .inl ⟨fun _ hc => absurd (hh.symm.trans hc) (by simp),rfl⟩
    | true =>
     rw [cond_true,zEs n x.Ls k j (by omega) (by omega),Option.bind_some]
     cases hu : x.Ls.any (zx k j) with
     | false => exact .inr ⟨fun hc => absurd (hc hj hh) (by simp),rfl⟩
     | true => exact .inl ⟨fun _ _ => rfl,rfl⟩) (fun m => ⟨_,by simp only [ZD]; rw [zZ]; rfl⟩) n 0 (by omega) (by omega)
   rcases h7 with ⟨a,e7,p7⟩ | ⟨e7,p7⟩
   ·rw [show ZD n n x.Bs[k] x k 0 = _ from e7,Option.bind_some]
    refine .inl ⟨fun _ => ⟨hb,fun j hj => p8 j (by omega) hj hj,fun p hp => p7 p (by omega) hp hp⟩,?_⟩
    simp only [J5,zS (by omega : k ≤ 1099511627776)]
   ·rw [show ZD n n x.Bs[k] x k 0 = _ from e7,Option.bind_some]
    exact .inr ⟨fun hc => p7 fun j _ hj2 _ => (hc hk).2.2 j hj2,rfl⟩
  ·rw [show ZW n n x.Bs[k] x k 0 = _ from e8,Option.bind_some]
   exact .inr ⟨fun hc => p8 fun j _ hj2 _ => (hc hk).2.1 j hj2,rfl⟩
theorem zE0 (n : Nat) (x : Net) (wx : x.wf) (h : Big x) (hn : 1048700 < n) : ∃ b,YU n x = some b ∧ (b = true ↔ (∀ k,k < x.Bs.length → BOk n x k) ∧ 1 ≤ x.Bs.length ∧ x.Bs.length ≤ 6) := by
 have ⟨hl1,hl2,hl3,hl4⟩ := h
 unfold YU
 rcases QK (L := fun m k => zc n m x k) (N := x.Bs.length) (P := BOk n x) (fun m k hk => zEF n x wx h hn m k hk) (fun m => ⟨(),by simp only [zc]; rw [zZ]; rfl⟩) n 0 (by omega) (by omega) with ⟨a,e,p⟩ | ⟨e,p⟩
 ·rw [show zc n n x 0 = _ from e,Option.bind_some]
  simp only [Qj,zQ,Option.bind_some]
  refine ⟨_,rfl,?_⟩
  rw [Bool.and_eq_true,decide_eq_true_eq,decide_eq_true_eq]
  exact ⟨fun hc => ⟨fun k hk => p k (by omega) hk,by omega,by omega⟩,fun hc => ⟨by omega,by omega⟩⟩
 ·rw [show zc n n x 0 = _ from e,Option.bind_some]
  exact ⟨false,rfl,⟨fun hc => (by cases hc),fun hc => absurd (fun k _ hk => hc.1 k hk) p⟩⟩
theorem zDY (n : Nat) (x : Net) (h : Big x) (b p : Int) : Zu n x b p = some (match Zw x b p with | some q => (q,true) | none => (⟨false,0,false,⟨0,0,0,0,0⟩⟩,false)) := by
 have ⟨hl1,hl2,hl3,hl4⟩ := h
 unfold Zu Zw
 rw [qe,zAp n b _ (show x.Bs.length ≤ 1048600 by omega),Option.bind_some]
 by_cases hb : 0 ≤ b ∧ b < x.Bs.length
 ·obtain ⟨v,hv⟩ := zCI.2 hb
  have := hl2 _ (List.mem_of_getElem? (zI hv).2)
  have hs2 : v.Name.size + v.Ps.length + v.F.length + v.V.sz = v.sz := rfl
  rw [decide_eq_true hb,hv]
  simp only [Bool.not_true,cond_false,cond_true,Option.bind_some,zAp n p _ (show v.Ps.length ≤ 1048600 by omega)]
  by_cases hp : 0 ≤ p ∧ p < v.Ps.length
  ·obtain ⟨q,hq⟩ := zCI.2 hp
   simp [hp,hq,hv]
  ·simp [hp,zCr hp]
 ·simp [hb,zCr hb]
theorem zDa (n : Nat) (x : Net) (h : Big x) (hn : 1048700 < n) (b p : Int) : Jh n x b p = some (match Zw x b p with | some q => decide (qU (qo b p) x.Ls = 1) | none => false) := by
 have ⟨hl1,hl2,hl3,hl4⟩ := h
 unfold Jh Zw
 rw [zAp n b _ (show x.Bs.length ≤ 1048600 by omega),Option.bind_some]
 by_cases hb : 0 ≤ b ∧ b < x.Bs.length
 ·obtain ⟨v,hv⟩ := zCI.2 hb
  have := hl2 _ (List.mem_of_getElem? (zI hv).2)
  have hs2 : v.Name.size + v.Ps.length + v.F.length + v.V.sz = v.sz := rfl
  rw [decide_eq_true hb,hv]
  simp only [cond_true,Option.bind_some,zAp n p _ (show v.Ps.length ≤ 1048600 by omega)]
  by_cases hp : 0 ≤ p ∧ p < v.Ps.length
  ·obtain ⟨q,hq⟩ := zCI.2 hp
   rw [decide_eq_true hp,hq,cond_true,zDb n x b p (by omega) (by omega),Option.bind_some]
   by_cases h1 : qU (qo b p) x.Ls = 1
   ·simp [h1]
   ·have : ((qU (qo b p) x.Ls : Nat) : Int) ≠ 1 := by omega
    simp [h1,this]
  ·simp [hp,zCr hp]
 ·simp [hb,zCr hb]
theorem zFf (n : Nat) (x : Net) (h : Big x) (hn : 1048700 < n) (m k : Nat) (hk : k < x.Ls.length) :
  ((∀ hk : k < x.Ls.length,LOk x x.Ls[k] ∧ qU (qo x.Ls[k].A x.Ls[k].P) x.Ls = 1 ∧ qU (qo x.Ls[k].B x.Ls[k].Q) x.Ls = 1) ∧ qg n (m + 1) x k = qg n m x ((k + 1 : Nat) : Int)) ∨
  (¬ (∀ hk : k < x.Ls.length,LOk x x.Ls[k] ∧ qU (qo x.Ls[k].A x.Ls[k].P) x.Ls = 1 ∧ qU (qo x.Ls[k].B x.Ls[k].Q) x.Ls = 1) ∧ qg n (m + 1) x k = some (.inr false)) := by
 have ⟨hl1,hl2,hl3,hl4⟩ := h
 rw [qg,zo hk,cond_true,zK hk,Option.bind_some,zDa n x h hn,zDa n x h hn,zS (by omega : k ≤ 1099511627776)]
 by_cases hab : x.Ls[k].A = x.Ls[k].B
 ·exact .inr ⟨fun hc => (hc hk).1.1 (hab),by rw [show (x.Ls[k].A == x.Ls[k].B) = true from by simpa using hab]; rfl⟩
 ·rw [show (x.Ls[k].A == x.Ls[k].B) = false from by simpa using hab]
  simp only [cond_false,Option.bind_some]
  cases hp : Zw x x.Ls[k].A x.Ls[k].P with
  | none => exact .inr ⟨fun hc => (by obtain ⟨p,q,e,_⟩ := (hc hk).1.2; rw [hp] at e; cases e),rfl⟩
  | some p =>
   by_cases h1 : qU (qo x.Ls[k].A x.Ls[k].P) x.Ls = 1
   ·simp only [decide_eq_true h1,Bool.not_true,cond_false]
    cases hq : Zw x x.Ls[k].B x.Ls[k].Q with
    | none => exact .inr ⟨fun hc => (by obtain ⟨p,q,_,e,_⟩ := (hc hk).1.2; rw [hq] at e; cases e),rfl⟩
    | some q =>
     by_cases h2 : qU (qo x.Ls[k].B x.Ls[k].Q) x.Ls = 1
     ·obtain ⟨v,v1,v2⟩ := zBb hp
      obtain ⟨u,u1,u2⟩ := zBb hq
      simp only [decide_eq_true h2,Bool.not_true,cond_false,v1,v2,u1,u2,Option.bind_some]
      by_cases h3 : p.Up = q.Up
      ·exact .inl ⟨fun _ => ⟨⟨hab,p,q,hp,hq,h3⟩,h1,h2⟩,by rw [h3]; simp⟩
      ·refine .inr ⟨fun hc => ?_,by rw [show (p.Up == q.Up) = false from by simpa using h3]; rfl⟩
       obtain ⟨p',q',e1,e2,e3⟩ := (hc hk).1.2
       rw [hp] at e1; rw [hq] at e2
       cases e1; cases e2; exact h3 e3
     ·exact .inr ⟨fun hc => h2 (hc hk).2.2,by simp only [decide_eq_false h2]; rfl⟩
   ·exact .inr ⟨fun hc => h1 (hc hk).2.1,by simp only [decide_eq_false h1]; rfl⟩
theorem zEt (n : Nat) (x : Net) (h : Big x) (hn : 1048700 < n) (m k : Nat) (hk : k < x.Ls.length) :
  ((∀ hk : k < x.Ls.length,k < 9 ∧ LOk x x.Ls[k] ∧ (x.Ls.take k).any (zx x.Ls[k].A x.Ls[k].P) = false ∧ (x.Ls.take k).any (zx x.Ls[k].B x.Ls[k].Q) = false) ∧ qM n (m + 1) x k = qM n m x ((k + 1 : Nat) : Int)) ∨
  (¬ (∀ hk : k < x.Ls.length,k < 9 ∧ LOk x x.Ls[k] ∧ (x.Ls.take k).any (zx x.Ls[k].A x.Ls[k].P) = false ∧ (x.Ls.take k).any (zx x.Ls[k].B x.Ls[k].Q) = false) ∧ qM n (m + 1) x k = some (.inr false)) := by
 have ⟨hl1,hl2,hl3,hl4⟩ := h
 have hg : (decide ((0 : Int) ≤ 0) && (decide ((0 : Int) ≤ (k : Int)) && decide ((k : Int) ≤ (x.Ls.length : Int)))) = true := by
  rw [decide_eq_true (by omega),decide_eq_true (by omega),decide_eq_true (by omega)]; rfl
 have ht : (x.Ls.drop ((0 : Int)).toNat).take (((k : Int)).toNat - ((0 : Int)).toNat) = x.Ls.take k := by simp
 have hlen : (x.Ls.take k).length ≤ 1048600 := by simp; omega
 rw [qM,zo hk,cond_true,zK hk,Option.bind_some,zDY n x h,Option.bind_some,zDY n x h,Option.bind_some]
 simp only [hg,cond_true,ht,zEs n (x.Ls.take k) _ _ hlen (by omega),Option.bind_some,zS (by omega : k ≤ 1099511627776)]
 by_cases h9 : k < 9
 ·rw [decide_eq_false (show ¬ ((k : Nat) : Int) ≥ 9 by omega),cond_false]
  cases hp : Zw x x.Ls[k].A x.Ls[k].P with
  | none => exact .inr ⟨fun hc => (by obtain ⟨p,q,e,_⟩ := (hc hk).2.1.2; rw [hp] at e; cases e),rfl⟩
  | some p =>
   cases hq : Zw x x.Ls[k].B x.Ls[k].Q with
   | none => exact .inr ⟨fun hc => (by obtain ⟨p,q,_,e,_⟩ := (hc hk).2.1.2; rw [hq] at e; cases e),rfl⟩
   | some q =>
    simp only [Bool.not_true,cond_false]
    by_cases hab : x.Ls[k].A = x.Ls[k].B
    ·exact .inr ⟨fun hc => (hc hk).2.1.1 (hab),by rw [show (x.Ls[k].A == x.Ls[k].B) = true from by simpa using hab]; rfl⟩
    ·rw [show (x.Ls[k].A == x.Ls[k].B) = false from by simpa using hab,cond_false]
     by_cases h3 : p.Up = q.Up
     ·rw [show (!(p.Up == q.Up)) = false from by simp [h3],cond_false]
      cases h1 : (x.Ls.take k).any (zx x.Ls[k].A x.Ls[k].P) with
      | true => exact .inr ⟨fun hc => (by have := (hc hk).2.2.1; rw [h1] at this; cases this),rfl⟩
      | false =>
       cases h2 : (x.Ls.take k).any (zx x.Ls[k].B x.Ls[k].Q) with
       | true => exact .inr ⟨fun hc => (by have := (hc hk).2.2.2; rw [h2] at this; cases this),rfl⟩
       | false => exact .inl ⟨fun _ => ⟨h9,⟨hab,p,q,hp,hq,h3⟩,h1,h2⟩,rfl⟩
     ·refine .inr ⟨fun hc => ?_,by rw [show (p.Up == q.Up) = false from by simpa using h3]; rfl⟩
      obtain ⟨p',q',e1,e2,e3⟩ := (hc hk).2.1.2
      rw [hp] at e1; rw [hq] at e2
      cases e1; cases e2; exact h3 e3
 ·exact .inr ⟨fun hc => h9 (hc hk).1,by rw [decide_eq_true (show ((k : Nat) : Int) ≥ 9 by omega)]; rfl⟩
def zOG (n : Nat) (x : Net) : Prop := (∀ k,k < x.Bs.length → BOk n x k) ∧ (1 ≤ x.Bs.length ∧ x.Bs.length ≤ 6) ∧ x.Ls.length ≤ 9 ∧ x.Said.length ≤ 40 ∧ ∀ k (hk : k < x.Ls.length),LOk x x.Ls[k] ∧ qU (qo x.Ls[k].A x.Ls[k].P) x.Ls = 1 ∧ qU (qo x.Ls[k].B x.Ls[k].Q) x.Ls = 1
theorem zGv (n : Nat) (x : zA) (hn : x.Ps.length < n) (h1 : 1 ≤ x.Ps.length) (h2 : x.Ps.length ≤ 6) (h3 : 1 ≤ x.Id) (h4 : x.Id ≤ 99) (h5 : x.Name.size ≤ 10) (h6 : ZL n x.F = some true) (h7 : Zx n x.V (x.Ps.length : Int) = some true) (h8 : 0 ≤ x.Tk ∧ x.Tk ≤ 1000000) (h9 : 0 ≤ x.Pa ∧ x.Pa ≤ 1000000) (h10 : 0 ≤ x.Wo ∧ x.Wo ≤ 1000000) (h11 : 0 ≤ x.Dr ∧ x.Dr ≤ 1000000) (h12 : 0 ≤ x.Ve ∧ x.Ve ≤ 1000000) (h13 : ∀ j (hj : j < x.Ps.length),qF n x.Ps[j] = some true) : zT n x = some true := by
 have two : ∀ {a b c : Int},a ≤ b → b ≤ c → (decide (a ≤ b) && decide (b ≤ c)) = true := fun h h' => by rw [decide_eq_true h,decide_eq_true h']; rfl
 unfold zT
 rcases QK (L := fun m k => zn n m x k) (N := x.Ps.length) (P := fun k => ∀ hk : k < x.Ps.length,qF n x.Ps[k] = some true) (fun m k hk => by
  simp only [zn]
  rw [zo hk,cond_true,zK hk,Option.bind_some,h13 k hk,Option.bind_some,zS (by omega : k ≤ 1099511627776)]
  exact .inl ⟨fun _ => h13 k hk,rfl⟩) (fun m => ⟨(),by simp only [zn]; rw [zZ]; rfl⟩) n 0 (by omega) (by omega) with ⟨a,e,_⟩ | ⟨_,p⟩
 ·rw [show zn n n x 0 = _ from e]
  simp only [Option.bind_some,QC,Qq,zQ,two h3 h4,two h8.1 h8.2,two h9.1 h9.2,two h10.1 h10.2,two h11.1 h11.2,two h12.1 h12.2,two (show (1 : Int) ≤ (x.Ps.length : Int) by omega) (show (x.Ps.length : Int) ≤ 6 by omega),decide_eq_true (show (x.Name.size : Int) ≤ 10 by omega),h6,h7,cond_true]
 ·exact absurd (fun j _ _ hj => h13 j hj) p
def zDC (v : zB) (t a : Int) : Prop := v.Tag < t ∨ v.Tag = t ∧ v.Mac < a
instance (v : zB) (t a : Int) : Decidable (zDC v t a) := inferInstanceAs (Decidable (_ ∨ _))
theorem zDd (n : Nat) (v : zB) (t a : Int) : Zd n v t a = some (decide (zDC v t a)) := by
 unfold Zd
 by_cases h : v.Tag = t
 ·rw [show (v.Tag != t) = false from by simpa using h,cond_false]
  congr 1
  rw [decide_eq_decide]
  unfold zDC
  constructor
  ·intro h2; exact .inr ⟨h,h2⟩
  ·rintro (h2 | h2)
   ·omega
   ·exact h2.2
 ·rw [show (v.Tag != t) = true from by simpa using h,cond_true]
  congr 1
  rw [decide_eq_decide]
  unfold zDC
  constructor
  ·intro h2; exact .inl h2
  ·rintro (h2 | h2)
   ·exact h2
   ·exact absurd h2.1 h
theorem zGI (n : Nat) (xs : List zB) (h : xs.length ≤ 1048580) (hok : ZL n xs = some true) : ∀ (j i : Nat) (hij : i < j) (hj : j < xs.length),zDC (xs[i]'(by omega)) xs[j].Tag xs[j].Mac := by
 have hs := (zEW n xs h hok).2.2
 intro j
 induction j with
 | zero => intro i hij; omega
 | succ j ih =>
  intro i hij hj
  have h1 := hs j hj
  rw [zDd] at h1
  have h1 := of_decide_eq_true (Option.some.inj h1)
  by_cases e : i = j
  ·subst e; exact h1
  ·have := ih i (by omega) (by omega)
   unfold zDC at this h1 ⊢
   omega
def zKS (v : zB) : Prop := (1 ≤ v.Tag ∧ v.Tag ≤ 99) ∧ (1 ≤ v.Mac ∧ v.Mac ≤ 9999) ∧ (0 ≤ v.Port ∧ v.Port ≤ 7) ∧ (0 ≤ v.Age ∧ v.Age ≤ 4) ∧ (v.Sc = true → v.Age = 0)
def zD1 (xs : List zB) : Prop := xs.length ≤ 12 ∧ (∀ v ∈ xs,zKS v) ∧ xs.Pairwise fun a b => zDC a b.Tag b.Mac
theorem zJQ (n : Nat) (v : zB) (h : zKS v) : Ze n v = some true := by
 obtain ⟨h1,h2,h3,h4,h5⟩ := h
 have two : ∀ {a b c : Int},a ≤ b → b ≤ c → (decide (a ≤ b) && decide (b ≤ c)) = true := fun h h' => by rw [decide_eq_true h,decide_eq_true h']; rfl
 unfold Ze
 simp only [zQ,Option.bind_some,two h1.1 h1.2,two h2.1 h2.2,two h3.1 h3.2,two h4.1 h4.2,cond_true]
 cases hs : v.Sc with
 | false => rfl
 | true => rw [h5 hs]; rfl
theorem zJG (n : Nat) (xs : List zB) (hn : xs.length < n) (h : zD1 xs) : ZL n xs = some true := by
 obtain ⟨h1,h2,h3⟩ := h
 rw [List.pairwise_iff_getElem] at h3
 unfold ZL
 rcases QK (L := fun m k => qC n m xs k) (N := xs.length) (P := fun _ => True) (fun m k hk => by
  refine .inl ⟨trivial,?_⟩
  simp only [qC]
  rw [zo hk,cond_true,zK hk,Option.bind_some,zJQ n _ (h2 _ (List.getElem_mem hk)),Option.bind_some,zS (by omega : k ≤ 1099511627776),Bool.not_true,cond_false]
  cases k with
  | zero => rfl
  | succ k =>
   have hw2 : IntKind.wrap .i64 (((k + 1 : Nat) : Int) - 1) = (k : Int) := by rw [wrap64 (by omega) (by omega)]; omega
   rw [decide_eq_true (show ((k + 1 : Nat) : Int) > 0 by omega),hw2,cond_true,zK (show k < xs.length by omega),Option.bind_some,Option.bind_some,Option.bind_some,zDd,decide_eq_true (h3 k (k + 1) (by omega) hk (by omega))]
   rfl) (fun m => ⟨(),by simp only [qC]; rw [zZ]; rfl⟩) n 0 (by omega) (by omega) with ⟨a,e,_⟩ | ⟨_,p⟩
 ·rw [show qC n n xs 0 = _ from e,Option.bind_some]
  simp only [zAH]
  rw [decide_eq_true (by omega)]
 ·exact absurd (fun _ _ _ => trivial) p
theorem zBw (n : Nat) (xs : List zB) (h : xs.length ≤ 1048580) (hok : ZL n xs = some true) : zD1 xs := by
 obtain ⟨h1,h2,_⟩ := zEW n xs h hok
 refine ⟨h1,fun v hv => ?_,?_⟩
 ·obtain ⟨j,hj,rfl⟩ := List.getElem_of_mem hv
  exact zIh n _ (h2 j hj)
 ·rw [List.pairwise_iff_getElem]
  intro i j hi hj hij
  exact zGI n xs h hok j i hij hj
theorem zD1.sub {xs ys : List zB} (h : zD1 xs) (hs : ys.Sublist xs) : zD1 ys := ⟨Nat.le_trans hs.length_le h.1,fun v hv => h.2.1 v (hs.subset hv),h.2.2.sublist hs⟩
theorem Jg (n : Nat) (bits : Int) (x : zA) (h : x.Ps.length ≤ 6) : ∀ (m k : Nat) (ys zs : List zB),k ≤ x.Ps.length → ys.length ≤ 134217728 → ys.length < n → z4 n m bits x k ys = some (.inl zs) → zs.Sublist ys
 | 0,k,ys,zs,h1,h3,h4,e => by cases e
 | m + 1,k,ys,zs,h1,h3,h4,e => by
  rw [z4] at e
  by_cases hk : k < x.Ps.length
  ·rw [zo hk,cond_true,zCY n bits k (by omega),Option.bind_some,zS (by omega : k ≤ 1099511627776),zAQ n ys _ h3 h4] at e
   cases hb : zDS bits k with
   | true =>
    rw [hb] at e
    exact Jg n bits x h m (k + 1) ys zs (by omega) h3 h4 e
   | false =>
    rw [hb] at e
    have hle := List.length_filter_le (fun v : zB => v.Sc || v.Port != (k : Int)) ys
    exact (Jg n bits x h m (k + 1) (ys.filter fun v => v.Sc || v.Port != (k : Int)) zs (by omega) (by omega) (by omega) e).trans List.filter_sublist
  ·have he : k = x.Ps.length := by omega
   subst he
   rw [zZ] at e
   cases e
   exact List.Sublist.refl _
theorem zFg (n : Nat) (x y : zA) (h : x.Ps.length ≤ 6) (h3 : x.F.length ≤ 134217728) (h4 : x.F.length < n) (e : qm n x = some y) : y.F.Sublist x.F := by
 unfold qm at e
 obtain ⟨v,_,e⟩ := bind_some e
 obtain ⟨b,_,e⟩ := bind_some e
 obtain ⟨o,ho,e⟩ := bind_some e
 cases o with
 | inl zs =>
  have hz := Jg n b x h n 0 x.F zs (by omega) h3 h4 ho
  cases e
  exact hz
 | inr r =>
  exfalso
  have key : ∀ (m k : Nat) (ys : List zB),k ≤ x.Ps.length → ys.length ≤ 134217728 → ys.length < n → ∀ r,z4 n m b x k ys ≠ some (.inr r) := by
   intro m
   induction m with
   | zero => intro k ys h1 h3 h4 r e; cases e
   | succ m ih =>
    intro k ys h1 h3 h4 r e
    rw [z4] at e
    by_cases hk : k < x.Ps.length
    ·rw [zo hk,cond_true,zCY n b k (by omega),Option.bind_some,zS (by omega : k ≤ 1099511627776),zAQ n ys _ h3 h4] at e
     have hle := List.length_filter_le (fun v : zB => v.Sc || v.Port != (k : Int)) ys
     cases hb : zDS b k with
     | true => rw [hb] at e; exact ih (k + 1) ys (by omega) h3 h4 r e
     | false => rw [hb] at e; exact ih (k + 1) _ (by omega) (by omega) (by omega) r e
    ·have he : k = x.Ps.length := by omega
     subst he
     rw [zZ] at e
     cases e
  exact key n 0 x.F (by omega) h3 h4 r ho
def zDR (v : zB) : Option zB := if v.Sc then some v else if v.Age < 4 then some ⟨v.Tag,v.Mac,v.Port,v.Age + 1,false⟩ else none
theorem zDL (n : Nat) (xs : List zB) (h : xs.length ≤ 134217728) (ha : ∀ v ∈ xs,0 ≤ v.Age ∧ v.Age ≤ 1000) : ∀ (m k : Nat) (acc : List zB),k ≤ xs.length → xs.length < m + k → acc.length ≤ k → qW n m xs k acc = some (.inl (acc ++ (xs.drop k).filterMap zDR))
 | 0,k,acc,h1,h2,h3 => by omega
 | m + 1,k,acc,h1,h2,h3 => by
  rw [qW]
  by_cases hk : k < xs.length
  ·rw [zo hk,cond_true,zK hk,Option.bind_some,zS (by omega : k ≤ 1099511627776)]
   have hg : ∀ v : zB,decide (acc.length + [v].length ≤ 268435456) = true := fun v => decide_eq_true (by simp; omega)
   simp only [hg,cond_true]
   have ih := fun acc' h3' => zDL n xs h ha m (k + 1) acc' (by omega) (by omega) h3'
   rw [List.drop_eq_getElem_cons hk,List.filterMap_cons]
   cases hs : xs[k].Sc with
   | true =>
    have e : zDR xs[k] = some xs[k] := by unfold zDR; rw [if_pos hs]
    rw [cond_true,ih (acc ++ [xs[k]]) (by simp; omega),e]
    simp
   | false =>
    have hw : IntKind.wrap .i64 (xs[k].Age + 1) = xs[k].Age + 1 := by
     have := ha _ (List.getElem_mem hk)
     exact wrap64 (by omega) (by omega)
    by_cases hl : xs[k].Age < 4
    ·have e : zDR xs[k] = some ⟨xs[k].Tag,xs[k].Mac,xs[k].Port,xs[k].Age + 1,false⟩ := by unfold zDR; rw [if_neg (by simp [hs]),if_pos hl]
     rw [cond_false,decide_eq_true hl,cond_true,ih _ (by simp; omega),e,hw]
     simp
    ·have e : zDR xs[k] = none := by unfold zDR; rw [if_neg (by simp [hs]),if_neg hl]
     rw [cond_false,decide_eq_false hl,cond_false,ih _ (by omega),e]
  ·have he : k = xs.length := by omega
   subst he
   rw [zZ]
   simp
theorem zFi {v w : zB} (h : zDR v = some w) : w.Tag = v.Tag ∧ w.Mac = v.Mac ∧ (zKS v → zKS w) := by
 unfold zDR at h
 split at h
 ·cases h; exact ⟨rfl,rfl,id⟩
 ·split at h
  ·rename_i h1 h2
   cases h
   refine ⟨rfl,rfl,fun ⟨a,b,c,d,e⟩ => ⟨a,b,c,⟨by simp only; omega,by simp only; omega⟩,fun hs => by cases hs⟩⟩
  ·cases h
theorem zD1.age {xs : List zB} (h : zD1 xs) : zD1 (xs.filterMap zDR) := by
 obtain ⟨h1,h2,h3⟩ := h
 refine ⟨Nat.le_trans (List.length_filterMap_le _ _) h1,fun v hv => ?_,?_⟩
 ·obtain ⟨u,hu,e⟩ := List.mem_filterMap.1 hv
  exact (zFi e).2.2 (h2 u hu)
 ·rw [List.pairwise_filterMap]
  refine h3.imp fun {a b} hab a' ha b' hb => ?_
  obtain ⟨p1,p2,_⟩ := zFi ha
  obtain ⟨q1,q2,_⟩ := zFi hb
  unfold zDC at hab ⊢
  rw [p1,p2,q1,q2]
  exact hab
theorem zEC (n : Nat) (xs : List zB) (h : zD1 xs) (hn : 12 < n) : YR n xs = some (xs.filterMap zDR) := by
 have h1 := h.1
 unfold YR
 rw [show qW n n xs 0 [] = _ from zDL n xs (by omega) (fun v hv => by have := (h.2.1 v hv).2.2.2.1; omega) n 0 [] (by omega) (by omega) (by simp)]
 rfl
theorem zMC {v : zB} (h : zKS v) : v.wf := by
 obtain ⟨h1,h2,h3,h4,_⟩ := h
 exact ⟨ZK (by omega) (by omega),ZK (by omega) (by omega),ZK (by omega) (by omega),ZK (by omega) (by omega),trivial⟩
theorem zJT (n : Nat) (x : zA) (hn : 1048577 < n) (wx : x.wf) (hx : x.sz ≤ 1048576) (hb : zT n x = some true) (ps : List Pt) (hp : ps.length = x.Ps.length) (hps : ∀ j (hj : j < ps.length),qF n ps[j] = some true) (wps : YP Pt.wf ps) (fs : List zB) (hf : fs.length ≤ x.F.length) (hfs : zD1 fs) (t : Int) (t0 : 0 ≤ t) (t1 : t ≤ 1000000) :
  ∃ (zs : List zB) (v b : Int),qm n ⟨x.Id,x.Name,ps,fs,x.V,t,x.Pa,x.Wo,x.Dr,x.Ve⟩ = some ⟨x.Id,x.Name,ps,zs,x.V,t,x.Pa,x.Wo,x.Dr,v⟩ ∧ qr n ⟨x.Id,x.Name,ps,fs,x.V,t,x.Pa,x.Wo,x.Dr,x.Ve⟩ = some ⟨x.Id,x.Name,ps,zs,x.V,t,x.Pa,x.Wo,x.Dr,v⟩ ∧
   zT n ⟨x.Id,x.Name,ps,zs,x.V,t,x.Pa,x.Wo,x.Dr,v⟩ = some true ∧ (⟨x.Id,x.Name,ps,zs,x.V,t,x.Pa,x.Wo,x.Dr,v⟩ : zA).wf ∧ (⟨x.Id,x.Name,ps,zs,x.V,t,x.Pa,x.Wo,x.Dr,v⟩ : zA).sz ≤ x.sz ∧ Za n x.Id ps = some b ∧ ∀ u ∈ zs,u.Sc = true ∨ ∀ j : Nat,j < ps.length → zDS b j = false → u.Port ≠ j := by
 have hs : x.Name.size + x.Ps.length + x.F.length + x.V.sz = x.sz := rfl
 obtain ⟨p1,p2,p3,p4,p5,p6,p7,p8,p9,p10,p11,p12,p13⟩ := qT n x (by omega) hb
 obtain ⟨zs,v,b,e1,e2,e3,e4,e5,e6,e7,e8⟩ := zKB n x hn hx hb ps hp fs hf t
 have hsub := zFg n _ _ (by simp only; omega) (by simp only; omega) (by simp only; omega) e1
 have hz : zD1 zs := hfs.sub hsub
 have hz1 := hz.1
 obtain ⟨w1,w2,w3,w4,w5,w6,w7,w8,w9,w10,w11,w12⟩ := wx
 refine ⟨zs,v,b,e1,e2,?_,⟨w1,w2,wps,⟨Nat.le_trans hz1 (by decide),fun u hu => zMC (hz.2.1 u hu)⟩,w5,w6,ZK (z := t) (by omega) (by omega),w8,w9,w10,ZK (z := v) (by omega) (by omega),trivial⟩,?_,e7,e8⟩
 ·exact zGv n ⟨x.Id,x.Name,ps,zs,x.V,t,x.Pa,x.Wo,x.Dr,v⟩ (by simp only; omega) (by simp only; omega) (by simp only; omega) p3 p4 p5 (zJG n zs (by omega) hz) (by simp only [hp]; exact p7) ⟨t0,t1⟩ p9 p10 p11 ⟨e5,e6⟩ hps
 ·show x.Name.size + ps.length + zs.length + x.V.sz ≤ x.sz
  omega
theorem zE3 : (⟨0,0,0,0,0⟩ : Vec).wf := by
 have z0 : z6 0 := ZK (by omega) (by omega)
 exact ⟨z0,z0,z0,z0,z0,trivial⟩
theorem zEX (n : Nat) (p : Pt) (h : qF n p = some true) : (1 ≤ p.Co ∧ p.Co ≤ 1000) ∧ (p.Has = true → p.Up = true ∧ zq n p.Hd = some true) ∧ (p.Has = false → p.Hd = ⟨0,0,0,0,0⟩) := by
 unfold qF at h
 rw [zQ,Option.bind_some] at h
 cases hc : (decide (1 ≤ p.Co) && decide (p.Co ≤ 1000)) with
 | false => rw [hc] at h; cases h
 | true =>
  have h0 : ∀ {v : Vec},some ((v.Root == 0) && ((v.Co == 0) && ((v.Hops == 0) && ((v.Bridge == 0) && ((v.Port == 0) && true))))) = some true → v = ⟨0,0,0,0,0⟩ := fun {v} e => by
   have e := Option.some.inj e
   simp only [Bool.and_eq_true,beq_iff_eq] at e
   obtain ⟨a,b,c,d,f,_⟩ := e
   cases v
   simp_all
  simp only [Bool.and_eq_true,decide_eq_true_eq] at hc
  rw [decide_eq_true hc.1,decide_eq_true hc.2] at h
  simp only [Bool.and_self,Bool.not_true,cond_false] at h
  cases hu : p.Up with
  | false =>
   rw [hu] at h
   simp only [Bool.not_false,cond_true] at h
   cases hh : p.Has with
   | true => rw [hh] at h; cases h
   | false => rw [hh] at h; exact ⟨hc,fun e => (by cases e),fun _ => h0 h⟩
  | true =>
   rw [hu] at h
   simp only [Bool.not_true,cond_false] at h
   cases hh : p.Has with
   | false => rw [hh] at h; exact ⟨hc,fun e => (by cases e),fun _ => h0 h⟩
   | true =>
    rw [hh] at h
    simp only [Bool.not_true,cond_false] at h
    obtain ⟨b,hb,h⟩ := bind_some h
    cases h
    exact ⟨hc,fun _ => ⟨rfl,hb⟩,fun e => (by cases e)⟩
theorem zJI (n : Nat) (c : Int) (up : Bool) (h : 1 ≤ c ∧ c ≤ 1000) : qF n ⟨up,c,false,⟨0,0,0,0,0⟩⟩ = some true := by
 unfold qF
 rw [zQ,Option.bind_some,decide_eq_true h.1,decide_eq_true h.2]
 cases up <;> rfl
theorem zJJ (n : Nat) (c : Int) (v : Vec) (h : 1 ≤ c ∧ c ≤ 1000) (hv : zq n v = some true) : qF n ⟨true,c,true,v⟩ = some true := by
 unfold qF
 rw [zQ,Option.bind_some,decide_eq_true h.1,decide_eq_true h.2]
 simp only [Bool.and_self,Bool.not_true,cond_false,hv,Option.bind_some]
theorem zL4 {α : Type} {P : α → Prop} {xs : List α} {k : Nat} {v : α} (h : ∀ j (hj : j < xs.length),P xs[j]) (hv : P v) : ∀ j (hj : j < (xs.set k v).length),P (xs.set k v)[j] := fun j hj => by
 rw [List.getElem_set]
 split
 ·exact hv
 ·exact h j (by simpa using hj)
theorem zED (n : Nat) (x : zA) (k : Nat) (up : Bool) (wx : x.wf) (hx : x.sz ≤ 1048576) (hn : 1048577 < n) (hb : zT n x = some true) (hk : k < x.Ps.length) : ∃ y : zA,Yh n x k up = some y ∧ Yc n x k up = some y ∧ zT n y = some true ∧ y.wf ∧ y.sz ≤ x.sz ∧ y.Id = x.Id ∧ y.Ps = x.Ps.set k ⟨up,x.Ps[k].Co,false,⟨0,0,0,0,0⟩⟩ ∧ ∃ b,Za n y.Id y.Ps = some b ∧ ∀ u ∈ y.F,u.Sc = true ∨ ∀ j : Nat,j < y.Ps.length → zDS b j = false → u.Port ≠ j := by
 have hs : x.Name.size + x.Ps.length + x.F.length + x.V.sz = x.sz := rfl
 obtain ⟨b,h1,h2⟩ := QY n x wx (by omega) (by omega)
 rw [hb] at h1
 obtain rfl := Option.some.inj h1
 obtain ⟨p1,p2,p3,p4,p5,p6,p7,p8,p9,p10,p11,p12,p13⟩ := qT n x (by omega) hb
 have hc := (zEX n _ (p13 k hk)).1
 have wk := (wx.2.2.1.2 _ (List.getElem_mem hk))
 obtain ⟨zs,v,bb,e1,e2,e3,e4,e5,e6,e7⟩ := zJT n x hn wx hx hb (x.Ps.set k ⟨up,x.Ps[k].Co,false,⟨0,0,0,0,0⟩⟩) (by simp) (zL4 (P := fun q => qF n q = some true) p13 (zJI n _ up hc)) (zIP wx.2.2.1 ⟨wk.1,zE3.1,zE3.2.1,zE3.2.2.1,zE3.2.2.2.1,zE3.2.2.2.2.1,trivial⟩) x.F (Nat.le_refl _) (zBw n x.F (by omega) p6) x.Tk p8.1 p8.2
 have there : (true && (decide ((0 : Int) ≤ k) && decide ((k : Int) < x.Ps.length))) = true := by
  rw [decide_eq_true (by omega),decide_eq_true (by omega)]; rfl
 refine ⟨_,?_,?_,e3,e4,e5,rfl,rfl,bb,e6,e7⟩
 ·unfold Yh
  rw [J0 n x (by omega),Option.bind_some,zDP n x k true hb (by omega),Option.bind_some,there]
  simp only [Bool.not_true,cond_false,zK hk,Option.bind_some,Int.toNat_natCast,e1]
 ·unfold Yc
  rw [YW n x (by omega),Option.bind_some,zD6 n x k true h2 (by omega),Option.bind_some,there]
  simp only [cond_true,zK hk,Option.bind_some,Int.toNat_natCast,e2]
theorem zHk (n : Nat) (x : zA) (k : Nat) (u : Vec) (wx : x.wf) (hx : x.sz ≤ 1048576) (hn : 1048577 < n) (hb : zT n x = some true) (hk : k < x.Ps.length) (hu : x.Ps[k].Up = true) (hv : zq n u = some true) : ∃ y : zA,Z4 n x k u = some y ∧ QT n x k u = some y ∧ zT n y = some true ∧ y.wf ∧ y.sz ≤ x.sz ∧ y.Id = x.Id ∧ y.Ps = x.Ps.set k ⟨true,x.Ps[k].Co,true,u⟩ ∧ ∃ b,Za n y.Id y.Ps = some b ∧ ∀ u ∈ y.F,u.Sc = true ∨ ∀ j : Nat,j < y.Ps.length → zDS b j = false → u.Port ≠ j := by
 have hs : x.Name.size + x.Ps.length + x.F.length + x.V.sz = x.sz := rfl
 obtain ⟨b,h1,h2⟩ := QY n x wx (by omega) (by omega)
 rw [hb] at h1
 obtain rfl := Option.some.inj h1
 obtain ⟨p1,p2,p3,p4,p5,p6,p7,p8,p9,p10,p11,p12,p13⟩ := qT n x (by omega) hb
 have hc := (zEX n _ (p13 k hk)).1
 have wk := (wx.2.2.1.2 _ (List.getElem_mem hk))
 have wu := zEz n u hv
 obtain ⟨zs,v,bb,e1,e2,e3,e4,e5,e6,e7⟩ := zJT n x hn wx hx hb (x.Ps.set k ⟨true,x.Ps[k].Co,true,u⟩) (by simp) (zL4 (P := fun q => qF n q = some true) p13 (zJJ n _ u hc hv)) (zIP wx.2.2.1 ⟨wk.1,wu.1,wu.2.1,wu.2.2.1,wu.2.2.2.1,wu.2.2.2.2.1,trivial⟩) x.F (Nat.le_refl _) (zBw n x.F (by omega) p6) x.Tk p8.1 p8.2
 have there : (true && (decide ((0 : Int) ≤ k) && decide ((k : Int) < x.Ps.length))) = true := by
  rw [decide_eq_true (by omega),decide_eq_true (by omega)]; rfl
 have hi : idx (x.Ps.set k ⟨x.Ps[k].Up,x.Ps[k].Co,true,x.Ps[k].Hd⟩) (k : Int) = some ⟨x.Ps[k].Up,x.Ps[k].Co,true,x.Ps[k].Hd⟩ := by
  rw [zK (by simpa using hk)]; simp
 have hi' : idx (x.Ps.set k ⟨true,x.Ps[k].Co,true,x.Ps[k].Hd⟩) (k : Int) = some ⟨true,x.Ps[k].Co,true,x.Ps[k].Hd⟩ := by
  rw [zK (by simpa using hk)]; simp
 refine ⟨_,?_,?_,e3,e4,e5,rfl,rfl,bb,e6,e7⟩
 ·unfold Z4
  rw [J0 n x (by omega),Option.bind_some,zDP n x k true hb (by omega),Option.bind_some,there]
  simp only [Bool.not_true,cond_false,zK hk,Option.bind_some,Int.toNat_natCast,hu,hv,hi,hi',List.set_set,e1]
 ·unfold QT
  rw [YW n x (by omega),Option.bind_some,zD6 n x k true h2 (by omega),Option.bind_some,there]
  simp only [QL,zCk,cond_true,zK hk,Option.bind_some,Int.toNat_natCast,hu,hv,hi,hi',List.set_set,e2]
theorem zKA (n : Nat) (x : zA) (wx : x.wf) (hx : x.sz ≤ 1048576) (hn : 1048577 < n) (hb : zT n x = some true) : ∃ y : zA,zBL n x = some y ∧ zA8 n x = some y ∧ zT n y = some true ∧ y.wf ∧ y.sz ≤ x.sz ∧ y.Id = x.Id ∧ y.Ps = x.Ps ∧ (x.Tk < 1000000 → y.Tk = x.Tk + 1) ∧ ∃ b,Za n y.Id y.Ps = some b ∧ ∀ u ∈ y.F,u.Sc = true ∨ ∀ j : Nat,j < y.Ps.length → zDS b j = false → u.Port ≠ j := by
 have hs : x.Name.size + x.Ps.length + x.F.length + x.V.sz = x.sz := rfl
 obtain ⟨b,h1,h2⟩ := QY n x wx (by omega) (by omega)
 rw [hb] at h1
 obtain rfl := Option.some.inj h1
 obtain ⟨p1,p2,p3,p4,p5,p6,p7,p8,p9,p10,p11,p12,p13⟩ := qT n x (by omega) hb
 have hf := zBw n x.F (by omega) p6
 obtain ⟨fs,a1,a2,a3⟩ := zGu n x.F (by omega) (by omega) (fun v hv => by have := (hf.2.1 v hv).2.2.2.1; omega)
 rw [zEC n x.F hf (by omega)] at a1
 obtain rfl := Option.some.inj a1
 obtain ⟨t,t1,t2,t3,t4⟩ := zFU n x.Tk p8.1 p8.2
 obtain ⟨zs,v,bb,e1,e2,e3,e4,e5,e6,e7⟩ := zJT n x hn wx hx hb x.Ps rfl p13 wx.2.2.1 (x.F.filterMap zDR) a3 hf.age t t3 t4
 refine ⟨_,?_,?_,e3,e4,e5,rfl,rfl,fun hlt => ?_,bb,e6,e7⟩
 ·unfold zBL
  simp only [J0 n x (show x.sz ≤ 268435456 by omega),hb,zEC n x.F hf (show 12 < n by omega),t1,Option.bind_some,Bool.not_true,cond_false,e1]
 ·unfold zA8
  simp only [YW n x (show x.sz ≤ 268435456 by omega),h2,a2,t2,Option.bind_some,cond_true,e2]
 ·unfold YT at t1
  rw [decide_eq_false (by omega),cond_false,wrap64 (by omega) (by omega)] at t1
  exact (Option.some.inj t1).symm
def zDx (n : Nat) (x : Net) (s : Say) : Prop := (0 ≤ s.Link ∧ s.Link < x.Ls.length) ∧ zq n s.V = some true
def zL7 (n : Nat) (x : Net) : Prop := ∀ s ∈ x.Said,zDx n x s
theorem zB6 (n : Nat) (x : Net) (wx : x.wf) (h : Big x) (hn : 1048700 < n) : ∃ b,Q9 n x = some b ∧ Y9 n x = some b ∧ (b = true ↔ zOG n x ∧ zL7 n x) := by
 have ⟨hl1,hl2,hl3,hl4⟩ := h
 obtain ⟨bB,eB,iB⟩ := zE0 n x wx h hn
 have hsaid : ∃ bS : Bool,(∃ o,q4 n n x 0 = some o ∧ qz n n x 0 = some o ∧ (o = .inl () ∧ bS = true ∨ o = .inr false ∧ bS = false)) ∧ (bS = true ↔ zL7 n x) := by
  have step : ∀ m (k : Nat) (hk : k < x.Said.length),∃ b : Bool,q4 n (m + 1) x k = (bif b then q4 n m x ((k + 1 : Nat) : Int) else some (.inr false)) ∧ qz n (m + 1) x k = (bif b then qz n m x ((k + 1 : Nat) : Int) else some (.inr false)) ∧ (b = true ↔ zDx n x x.Said[k]) := fun m k hk => by
   obtain ⟨c,hc⟩ := zCV n x.Said[k].V
   rw [q4,qz,zo hk,zK hk]
   simp only [cond_true,Option.bind_some,qe,zAp n _ _ (show x.Ls.length ≤ 1048600 by omega),zCk,hc,zS (by omega : k ≤ 1099511627776)]
   by_cases hr : 0 ≤ x.Said[k].Link ∧ x.Said[k].Link < x.Ls.length
   ·rw [decide_eq_true hr]
    cases c with
    | false => exact ⟨false,rfl,rfl,⟨fun e => (by cases e),fun e => absurd (hc.symm.trans e.2) (by simp)⟩⟩
    | true => exact ⟨true,rfl,rfl,⟨fun _ => ⟨hr,hc⟩,fun _ => rfl⟩⟩
   ·rw [decide_eq_false hr]; exact ⟨false,rfl,rfl,⟨fun e => (by cases e),fun e => absurd e.1 hr⟩⟩
  have all : ∀ (m k : Nat),k ≤ x.Said.length → x.Said.length < m + k → ∃ o,q4 n m x k = some o ∧ qz n m x k = some o ∧ ((o = .inl () ∧ ∀ j (hj : j < x.Said.length),k ≤ j → zDx n x x.Said[j]) ∨ (o = .inr false ∧ ∃ j,∃ hj : j < x.Said.length,¬ zDx n x x.Said[j])) := by
   intro m
   induction m with
   | zero => intro k h1 h2; omega
   | succ m ih =>
    intro k h1 h2
    by_cases hk : k < x.Said.length
    ·obtain ⟨b,e1,e2,e3⟩ := step m k hk
     rw [e1,e2]
     cases b with
     | true =>
      obtain ⟨o,f1,f2,f3⟩ := ih (k + 1) (by omega) (by omega)
      refine ⟨o,f1,f2,f3.imp (fun f => ⟨f.1,fun j hj hkj => ?_⟩) id⟩
      by_cases hjk : j = k
      ·subst hjk; exact e3.1 rfl
      ·exact f.2 j hj (by omega)
     | false => exact ⟨_,rfl,rfl,.inr ⟨rfl,k,hk,fun hc => (by have := e3.2 hc; cases this)⟩⟩
    ·have he : k = x.Said.length := by omega
     subst he
     rw [q4,qz,zZ]
     exact ⟨_,rfl,rfl,.inl ⟨rfl,fun j hj hkj => by omega⟩⟩
  obtain ⟨o,e1,e2,e3⟩ := all n 0 (by omega) (by omega)
  rcases e3 with ⟨e3,e4⟩ | ⟨e3,j,hj,e4⟩
  ·refine ⟨true,⟨o,e1,e2,.inl ⟨e3,rfl⟩⟩,⟨fun _ s hs => ?_,fun _ => rfl⟩⟩
   obtain ⟨j,hj,rfl⟩ := List.getElem_of_mem hs
   exact e4 j hj (by omega)
  ·exact ⟨false,⟨o,e1,e2,.inr ⟨e3,rfl⟩⟩,⟨fun e => (by cases e),fun hc => absurd (hc _ (List.getElem_mem hj)) e4⟩⟩
 obtain ⟨bS,⟨oS,s1,s2,s3⟩,iS⟩ := hsaid
 have s1' : q4 n n x 0 = some oS := s1
 have s2' : qz n n x 0 = some oS := s2
 have l4 := QK (L := fun m k => qg n m x k) (N := x.Ls.length) (P := fun k => ∀ hk : k < x.Ls.length,LOk x x.Ls[k] ∧ qU (qo x.Ls[k].A x.Ls[k].P) x.Ls = 1 ∧ qU (qo x.Ls[k].B x.Ls[k].Q) x.Ls = 1) (fun m k hk => zFf n x h hn m k hk) (fun m => ⟨(),by simp only [qg]; rw [zZ]; rfl⟩) n 0 (by omega) (by omega)
 have l2 := QK (L := fun m k => qM n m x k) (N := x.Ls.length) (P := fun k => ∀ hk : k < x.Ls.length,k < 9 ∧ LOk x x.Ls[k] ∧ (x.Ls.take k).any (zx x.Ls[k].A x.Ls[k].P) = false ∧ (x.Ls.take k).any (zx x.Ls[k].B x.Ls[k].Q) = false) (fun m k hk => zEt n x h hn m k hk) (fun m => ⟨(),by simp only [qM]; rw [zZ]; rfl⟩) n 0 (by omega) (by omega)
 have lB := QK (L := fun m k => z7 n m x k) (N := x.Bs.length) (P := BOk n x) (fun m k hk => zFb n x wx h hn m k hk) (fun m => ⟨(),by simp only [z7]; rw [zZ]; rfl⟩) n 0 (by omega) (by omega)
 have hiff : (x.Ls.length ≤ 9 ∧ ∀ j,0 ≤ j → j < x.Ls.length → ∀ hk : j < x.Ls.length,LOk x x.Ls[j] ∧ qU (qo x.Ls[j].A x.Ls[j].P) x.Ls = 1 ∧ qU (qo x.Ls[j].B x.Ls[j].Q) x.Ls = 1) ↔
   (∀ j,0 ≤ j → j < x.Ls.length → ∀ hk : j < x.Ls.length,j < 9 ∧ LOk x x.Ls[j] ∧ (x.Ls.take j).any (zx x.Ls[j].A x.Ls[j].P) = false ∧ (x.Ls.take j).any (zx x.Ls[j].B x.Ls[j].Q) = false) := by
  constructor
  ·rintro ⟨h9,hc⟩ j _ hj hj'
   have hne : ∀ l ∈ x.Ls,l.A ≠ l.B := fun l hl => by
    obtain ⟨i,hi,rfl⟩ := List.getElem_of_mem hl
    exact (hc i (by omega) hi hi).1.1
   exact ⟨by omega,(hc j (by omega) hj hj).1,(zH6 x.Ls hne).1 (fun k hk => (hc k (by omega) hk hk).2) j hj⟩
  ·intro hc
   have hne : ∀ l ∈ x.Ls,l.A ≠ l.B := fun l hl => by
    obtain ⟨i,hi,rfl⟩ := List.getElem_of_mem hl
    exact (hc i (by omega) hi hi).2.1.1
   refine ⟨?_,fun j _ hj _ => ⟨(hc j (by omega) hj hj).2.1,(zH6 x.Ls hne).2 (fun k hk => (hc k (by omega) hk hk).2.2) j hj⟩⟩
   by_cases h0 : x.Ls.length = 0
   ·omega
   ·have := (hc (x.Ls.length - 1) (by omega) (by omega) (by omega)).1
    omega
 have hS : ∀ (bb : Bool),(bif decide ((x.Said.length : Int) > 40) then (some false : Option Bool) else some bb) = some (decide (x.Said.length ≤ 40) && bb) := fun bb => by
  by_cases h40 : x.Said.length ≤ 40
  ·rw [decide_eq_false (by omega),decide_eq_true h40]; cases bb <;> rfl
  ·rw [decide_eq_true (by omega),decide_eq_false h40]; rfl
 have hn6 : (decide ((1 : Int) ≤ (x.Bs.length : Int)) && decide ((x.Bs.length : Int) ≤ 6)) = decide (1 ≤ x.Bs.length ∧ x.Bs.length ≤ 6) := by
  by_cases h6 : 1 ≤ x.Bs.length ∧ x.Bs.length ≤ 6
  ·rw [decide_eq_true h6,decide_eq_true (by omega),decide_eq_true (by omega)]; rfl
  ·rw [decide_eq_false h6]; simp only [Bool.and_eq_false_iff,decide_eq_false_iff_not]; omega
 have hL : ∀ (b' : Bool),(bif decide ((x.Ls.length : Int) > 9) then (some false : Option Bool) else some b') = some (decide (x.Ls.length ≤ 9) && b') := fun b' => by
  by_cases h9 : x.Ls.length ≤ 9
  ·rw [decide_eq_false (by omega),decide_eq_true h9]; cases b' <;> rfl
  ·rw [decide_eq_true (by omega),decide_eq_false h9]; rfl
 have hN : ∀ (c b' : Bool),(bif !c then (some false : Option Bool) else some b') = some (c && b') := fun c b' => by cases c <;> rfl
 have hJ1 : Yi n x = some bS := by
  unfold Yi
  rw [s1']
  rcases s3 with ⟨rfl,rfl⟩ | ⟨rfl,rfl⟩ <;> rfl
 have hspec : ∃ b4 : Bool,Q9 n x = some (bB && (decide (x.Ls.length ≤ 9) && (decide (x.Said.length ≤ 40) && (b4 && bS)))) ∧ (b4 = true ↔ ∀ j,0 ≤ j → j < x.Ls.length → ∀ hk : j < x.Ls.length,LOk x x.Ls[j] ∧ qU (qo x.Ls[j].A x.Ls[j].P) x.Ls = 1 ∧ qU (qo x.Ls[j].B x.Ls[j].Q) x.Ls = 1) := by
  unfold Q9
  rw [eB,Option.bind_some]
  rcases l4 with ⟨a,e,p⟩ | ⟨e,p⟩
  ·rw [show qg n n x 0 = _ from e]
   refine ⟨true,?_,⟨fun _ => p,fun _ => rfl⟩⟩
   simp only [Option.bind_some,hJ1,hS,hL,hN,Bool.true_and]
  ·rw [show qg n n x 0 = _ from e]
   refine ⟨false,?_,⟨fun hc => (by cases hc),fun hc => absurd hc p⟩⟩
   simp only [Option.bind_some,hS,hL,hN,Bool.false_and]
 have hlk : ∃ b2 : Bool,J7 n x = some b2 ∧ (b2 = true ↔ (∀ j,0 ≤ j → j < x.Ls.length → ∀ hk : j < x.Ls.length,j < 9 ∧ LOk x x.Ls[j] ∧ (x.Ls.take j).any (zx x.Ls[j].A x.Ls[j].P) = false ∧ (x.Ls.take j).any (zx x.Ls[j].B x.Ls[j].Q) = false)) := by
  unfold J7
  rcases l2 with ⟨a,e,p⟩ | ⟨e,p⟩
  ·rw [show qM n n x 0 = _ from e]; exact ⟨true,rfl,⟨fun _ => p,fun _ => rfl⟩⟩
  ·rw [show qM n n x 0 = _ from e]; exact ⟨false,rfl,⟨fun hc => (by cases hc),fun hc => absurd hc p⟩⟩
 obtain ⟨b2,e2,i2⟩ := hlk
 have hJ2 : Yd n x = some (bS && b2) := by
  unfold Yd
  rw [s2']
  rcases s3 with ⟨rfl,rfl⟩ | ⟨rfl,rfl⟩
  ·simp only [Option.bind_some,J3,e2,Bool.true_and]
  ·rfl
 have himpl : ∃ bb : Bool,Y9 n x = some (decide (1 ≤ x.Bs.length ∧ x.Bs.length ≤ 6) && (decide (x.Said.length ≤ 40) && (bb && (bS && b2)))) ∧ (bb = true ↔ ∀ j,0 ≤ j → j < x.Bs.length → BOk n x j) := by
  unfold Y9
  rw [qe,zQ,Option.bind_some,hn6]
  rcases lB with ⟨a,e,p⟩ | ⟨e,p⟩
  ·rw [show z7 n n x 0 = _ from e]
   refine ⟨true,?_,⟨fun _ => p,fun _ => rfl⟩⟩
   simp only [Option.bind_some,hJ2,hS,hN,Bool.true_and]
  ·rw [show z7 n n x 0 = _ from e]
   refine ⟨false,?_,⟨fun hc => (by cases hc),fun hc => absurd hc p⟩⟩
   simp only [Option.bind_some,hS,hN,Bool.false_and]
 obtain ⟨b4,e4,i4⟩ := hspec
 obtain ⟨bb,eb,ib⟩ := himpl
 have heq : (bB && (decide (x.Ls.length ≤ 9) && (decide (x.Said.length ≤ 40) && (b4 && bS)))) = (decide (1 ≤ x.Bs.length ∧ x.Bs.length ≤ 6) && (decide (x.Said.length ≤ 40) && (bb && (bS && b2)))) := by
  rw [Bool.eq_iff_iff]
  simp only [Bool.and_eq_true,decide_eq_true_eq,iB,i4,ib,i2]
  constructor
  ·rintro ⟨⟨h1,h2⟩,h3,h4,h5,h6⟩
   exact ⟨h2,h4,fun j _ hj => h1 j hj,h6,hiff.1 ⟨h3,h5⟩⟩
  ·rintro ⟨h2,h4,h1,h6,h7⟩
   obtain ⟨h3,h5⟩ := hiff.2 h7
   exact ⟨⟨fun k hk => h1 k (by omega) hk,h2⟩,h3,h4,h5,h6⟩
 refine ⟨_,e4,by rw [heq]; exact eb,⟨fun hc => ?_,fun ⟨⟨h1,h2,h3,h4,h5⟩,h6⟩ => ?_⟩⟩
 ·simp only [Bool.and_eq_true,decide_eq_true_eq,iB,i4,iS] at hc
  obtain ⟨⟨h1,h2⟩,h3,h4,h5,h6⟩ := hc
  exact ⟨⟨h1,h2,h3,h4,fun k hk => h5 k (by omega) hk hk⟩,h6⟩
 ·simp only [Bool.and_eq_true,decide_eq_true_eq,iB,i4,iS]
  exact ⟨⟨h1,h2⟩,h3,h4,fun j _ hj hk => h5 j hk,h6⟩
theorem zFX (n : Nat) (v : Vec) : zq n v = some true ↔ (1 ≤ v.Root ∧ v.Root ≤ 99) ∧ (0 ≤ v.Co ∧ v.Co ≤ 100000) ∧ (0 ≤ v.Hops ∧ v.Hops ≤ 10) ∧ (1 ≤ v.Bridge ∧ v.Bridge ≤ 99) ∧ (0 ≤ v.Port ∧ v.Port ≤ 7) := by
 have two : ∀ {a b c : Int},(decide (a ≤ b) && decide (b ≤ c)) = true ↔ a ≤ b ∧ b ≤ c := fun {a b c} => by rw [Bool.and_eq_true,decide_eq_true_eq,decide_eq_true_eq]
 unfold zq
 simp only [zQ,Option.bind_some]
 constructor
 ·intro h
  obtain ⟨h1,h⟩ := zAh h
  obtain ⟨h2,h⟩ := zAh h
  obtain ⟨h3,h⟩ := zAh h
  obtain ⟨h4,h⟩ := zAh h
  have h5 := Option.some.inj h
  exact ⟨two.1 h1,two.1 h2,two.1 h3,two.1 h4,two.1 h5⟩
 ·rintro ⟨h1,h2,h3,h4,h5⟩
  rw [two.2 h1,two.2 h2,two.2 h3,two.2 h4,two.2 h5]
  rfl
theorem zHn (n : Nat) (v w : Vec) (c : Int) (h : QV n v c = some (w,true)) : zq n w = some true := by
 unfold QV at h
 obtain ⟨b1,h1,h⟩ := bind_some h
 cases b1 with
 | false => cases h
 | true =>
  obtain ⟨b2,h2,h⟩ := bind_some h
  cases b2 with
  | false => cases h
  | true =>
   obtain ⟨b3,h3,h⟩ := bind_some h
   cases b3 with
   | false => cases h
   | true => cases h; exact h3
def zNJ (a b c : Int) : Prop := (1 ≤ a ∧ a ≤ 99) ∧ (0 ≤ b ∧ b ≤ 100000) ∧ (0 ≤ c ∧ c ≤ 10)
theorem zCc (n : Nat) (x0 : Int) (x1 : List Pt) : ∀ (m : Nat) (y1 y2 y3 y4 y5 y6 y7 y8 y9 y10 : Int) (o : (Int × Int × Int × Int) ⊕ (Vec × Int)),zNJ y8 y9 y10 → zp n m x0 x1 y1 y2 y3 y4 y5 y6 y7 y8 y9 y10 = some o → ∃ z2 z8 z9 z10,o = .inl (z2,z8,z9,z10) ∧ zNJ z8 z9 z10
 | 0,y1,y2,y3,y4,y5,y6,y7,y8,y9,y10,o,hr,e => by cases e
 | m + 1,y1,y2,y3,y4,y5,y6,y7,y8,y9,y10,o,hr,e => by
  have ih := zCc n x0 x1 m
  rw [zp] at e
  cases hl : decide (y1 < (x1.length : Int)) with
  | false => rw [hl] at e; cases e; exact ⟨_,_,_,_,rfl,hr⟩
  | true =>
   rw [hl,cond_true] at e
   obtain ⟨v,_,e⟩ := bind_some e
   cases hu : (!v.Up) with
   | true => rw [hu] at e; exact ih _ _ _ _ _ _ _ _ _ _ _ hr e
   | false =>
    rw [hu,cond_false] at e
    obtain ⟨v1,_,e⟩ := bind_some e
    cases hh : (!v1.Has) with
    | true => rw [hh] at e; exact ih _ _ _ _ _ _ _ _ _ _ _ hr e
    | false =>
     rw [hh,cond_false] at e
     obtain ⟨v2,_,e⟩ := bind_some e
     obtain ⟨v3,_,e⟩ := bind_some e
     obtain ⟨⟨w,ok⟩,hw,e⟩ := bind_some e
     simp only at e
     cases ok with
     | false => exact ih _ _ _ _ _ _ _ _ _ _ _ hr e
     | true =>
      have hv := (zFX n w).1 (zHn n _ _ _ hw)
      have hr' : zNJ w.Root w.Co w.Hops := ⟨hv.1,hv.2.1,hv.2.2.1⟩
      rw [cond_true] at e
      cases hd : decide (w.Root < x0) with
      | false => rw [hd] at e; exact ih _ _ _ _ _ _ _ _ _ _ _ hr e
      | true =>
       rw [hd,cond_true] at e
       cases hd2 : decide (y2 < 0) with
       | true => rw [hd2] at e; exact ih _ _ _ _ _ _ _ _ _ _ _ hr' e
       | false =>
        rw [hd2,cond_false] at e
        obtain ⟨c,_,e⟩ := bind_some e
        cases c with
        | true => exact ih _ _ _ _ _ _ _ _ _ _ _ hr' e
        | false => exact ih _ _ _ _ _ _ _ _ _ _ _ hr e
theorem zIb (n : Nat) (id : Int) (l : List Pt) (p : Int) (h0 : 1 ≤ id) (h1 : id ≤ 99) (hl : l.length ≤ 1048576) (hn : l.length < n) (p0 : 0 ≤ p) (p7 : p ≤ 7) : ∃ v,qI n id l p = some v ∧ zq n v = some true ∧ v.wf := by
 obtain ⟨⟨v,q⟩,e⟩ := zBP n id l hl hn
 have e' := e
 unfold Z3 at e'
 obtain ⟨o,ho,e'⟩ := bind_some e'
 obtain ⟨z2,z8,z9,z10,rfl,hr⟩ := zCc n id l n _ _ _ _ _ _ _ _ _ _ o ⟨⟨h0,h1⟩,⟨by omega,by omega⟩,⟨by omega,by omega⟩⟩ ho
 cases e'
 have hok : zq n (⟨z8,z9,z10,id,p⟩ : Vec) = some true := (zFX n _).2 ⟨hr.1,hr.2.1,hr.2.2,⟨h0,h1⟩,⟨p0,p7⟩⟩
 refine ⟨⟨z8,z9,z10,id,p⟩,?_,hok,zEz n _ hok⟩
 unfold qI
 rw [e]
 rfl
theorem zFO (n : Nat) (x : zA) (hx : x.sz ≤ 1048576) (h : zT n x = some true) : x.sz ≤ 40 := by
 have hs : x.Name.size + x.Ps.length + x.F.length + x.V.sz = x.sz := rfl
 have hs2 : x.V.Rows.length + x.V.Pv.length = x.V.sz := rfl
 obtain ⟨p1,p2,p3,p4,p5,p6,p7,_⟩ := qT n x (by omega) h
 have h1 := (zBw n x.F (by omega) p6).1
 have h2 := zHp n x.V _ p7
 omega
def qG (n : Nat) (x : Net) : Prop := x.wf ∧ Big x ∧ zOG n x ∧ zL7 n x
theorem qG.ok {n : Nat} {x : Net} (hn : 1048700 < n) (h : qG n x) : Q9 n x = some true ∧ Y9 n x = some true := by
 obtain ⟨b,e1,e2,e3⟩ := zB6 n x h.1 h.2.1 hn
 rw [e3.2 ⟨h.2.2.1,h.2.2.2⟩] at e1 e2
 exact ⟨e1,e2⟩
theorem Big.of {x : Net} (h : x.sz ≤ 1048576) : Big x := by
 have hs : (x.Bs.length + qn zA.sz x.Bs) + x.Ls.length + x.Said.length = x.sz := rfl
 exact ⟨by omega,fun a ha => by have := zA3 (sz := zA.sz) ha; omega,by omega,by omega⟩
theorem qG.of {n : Nat} {x : Net} (hn : 1048700 < n) (wx : x.wf) (h : Big x) (e : Q9 n x = some true) : qG n x := by
 obtain ⟨b,e1,_,e3⟩ := zB6 n x wx h hn
 rw [e] at e1
 have := e3.1 (Option.some.inj e1).symm
 exact ⟨wx,h,this.1,this.2⟩
theorem qG.br {n : Nat} {x : Net} (h : qG n x) {i : Nat} (hi : i < x.Bs.length) : zT n x.Bs[i] = some true ∧ x.Bs[i].wf ∧ x.Bs[i].sz ≤ 40 := by
 have hok := (h.2.2.1.1 i hi hi).1
 exact ⟨hok,h.1.1.2 _ (List.getElem_mem hi),zFO n _ (h.2.1.2.1 _ (List.getElem_mem hi)) hok⟩
theorem zLC {α : Type} {sz : α → Nat} {c : Nat} : ∀ (xs : List α),(∀ v ∈ xs,sz v ≤ c) → qn sz xs ≤ c * xs.length
 | [],_ => Nat.zero_le _
 | x :: xs,h => by
  have h1 := h x (by simp)
  have h2 := zLC xs fun v hv => h v (by simp [hv])
  simp only [qn,List.length_cons,Nat.mul_succ]
  omega
theorem qG.sz {n : Nat} {x : Net} (h : qG n x) : x.sz ≤ 400 := by
 have hs : (x.Bs.length + qn zA.sz x.Bs) + x.Ls.length + x.Said.length = x.sz := rfl
 have h1 := zLC (sz := zA.sz) (c := 40) x.Bs fun v hv => by
  obtain ⟨i,hi,rfl⟩ := List.getElem_of_mem hv
  exact (h.br hi).2.2
 have h2 := h.2.2.1.2.1
 have h3 := h.2.2.1.2.2.1
 have h4 := h.2.2.1.2.2.2.1
 omega
theorem zDh {α : Type} {xs : List α} {i : Nat} (hi : i < xs.length) (v : α) (b : Int) : idx (xs.set i v) b = if b = (i : Int) then some v else idx xs b := by
 by_cases hb : b = (i : Int)
 ·subst hb
  rw [if_pos rfl,zK (by simpa using hi)]
  simp
 ·rw [if_neg hb]
  unfold idx
  by_cases h0 : 0 ≤ b
  ·rw [if_pos h0,if_pos h0,List.getElem?_set_ne (by omega)]
  ·rw [if_neg h0,if_neg h0]
theorem zFJ {bs : List zA} {ls : List Link} {ss ss' : List Say} {i : Nat} (hi : i < bs.length) (v : zA) (b p : Int) : Zw ⟨bs.set i v,ls,ss⟩ b p = if b = (i : Int) then idx v.Ps p else Zw ⟨bs,ls,ss'⟩ b p := by
 unfold Zw
 rw [zDh hi]
 split <;> rfl
def zBQ (x : Net) (b p : Int) : Option Bool := (Zw x b p).map (·.Up)
theorem zJC {n : Nat} {x : Net} (hx : qG n x) (bs : List zA) (ss : List Say) (hb : bs.length = x.Bs.length)
  (each : ∀ i (hi : i < x.Bs.length) (hi' : i < bs.length),zT n bs[i] = some true ∧ bs[i].wf ∧ bs[i].sz ≤ 1048576 ∧ bs[i].Id = x.Bs[i].Id ∧ bs[i].Ps.length = x.Bs[i].Ps.length ∧ ∀ p (hp : p < bs[i].Ps.length),bs[i].Ps[p].Has = true → x.Ls.any (zx i p) = true)
  (up : ∀ l ∈ x.Ls,zBQ ⟨bs,x.Ls,ss⟩ l.A l.P = zBQ ⟨bs,x.Ls,ss⟩ l.B l.Q) (s40 : ss.length ≤ 40) (said : ∀ s ∈ ss,zDx n x s ∧ s.wf) : qG n ⟨bs,x.Ls,ss⟩ := by
 obtain ⟨wx,⟨g1,g2,g3,g4⟩,⟨c1,c2,c3,c4,c5⟩,c6⟩ := hx
 have hm : maxLen = 9223372036854775807 := by decide
 refine ⟨⟨⟨by simp only; omega,fun v hv => ?_⟩,wx.2.1,⟨by simp only; omega,fun s hs => (said s hs).2⟩,trivial⟩,⟨by simp only; omega,fun v hv => ?_,g3,by simp only; omega⟩,⟨fun k hk hk' => ?_,by simp only; omega,c3,s40,fun k hk => ?_⟩,fun s hs => (said s hs).1⟩
 ·obtain ⟨i,hi,rfl⟩ := List.getElem_of_mem hv
  have hi : i < bs.length := hi
  exact (each i (by omega) hi).2.1
 ·obtain ⟨i,hi,rfl⟩ := List.getElem_of_mem hv
  have hi : i < bs.length := hi
  exact (each i (by omega) hi).2.2.1
 ·have hk' : k < bs.length := hk'
  obtain ⟨e1,e2,e3,e4,e5,e6⟩ := each k (by omega) hk'
  refine ⟨e1,fun j hj => ?_,fun p hp hh => e6 p hp hh⟩
  have := (c1 k (by omega) (by omega)).2.1 j hj
  have f := (each j (by omega) (by omega)).2.2.2.1
  simp only at this ⊢
  rw [f,e4]; exact this
 ·obtain ⟨⟨d1,p,q,d2,d3,d4⟩,d5⟩ := c5 k hk
  have u := up x.Ls[k] (List.getElem_mem hk)
  have ex : ∀ {b p : Int} {v : Pt},Zw x b p = some v → ∃ w,Zw ⟨bs,x.Ls,ss⟩ b p = some w := fun {b p v} h => by
   obtain ⟨a,h1,h2⟩ := zBb h
   obtain ⟨i0,i1⟩ := zFn h1
   obtain ⟨i,rfl⟩ := Int.eq_ofNat_of_zero_le i0
   have hi : i < x.Bs.length := Int.ofNat_lt.1 i1
   rw [zK hi] at h1
   obtain rfl := Option.some.inj h1
   obtain ⟨j0,j1⟩ := zFn h2
   obtain ⟨j,rfl⟩ := Int.eq_ofNat_of_zero_le j0
   have := (each i hi (by omega)).2.2.2.2.1
   exact ⟨_,by unfold Zw; simp only; rw [zK (show i < bs.length by omega),Option.bind_some,zK (show j < bs[i].Ps.length by omega)]⟩
  obtain ⟨p',e1⟩ := ex d2
  obtain ⟨q',e2⟩ := ex d3
  refine ⟨⟨d1,p',q',e1,e2,?_⟩,d5⟩
  unfold zBQ at u
  rw [e1,e2] at u
  exact Option.some.inj u
theorem qG.up {n : Nat} {x : Net} (hx : qG n x) : ∀ l ∈ x.Ls,zBQ x l.A l.P = zBQ x l.B l.Q := fun l hl => by
 obtain ⟨k,hk,rfl⟩ := List.getElem_of_mem hl
 obtain ⟨_,p,q,e1,e2,e3⟩ := (hx.2.2.1.2.2.2.2 k hk).1
 unfold zBQ
 rw [e1,e2]
 simp [e3]
theorem qG.says {n : Nat} {x : Net} (hx : qG n x) : ∀ s ∈ x.Said,zDx n x s ∧ s.wf := fun s hs => ⟨hx.2.2.2 s hs,hx.1.2.2.1.2 s hs⟩
theorem qG.self {n : Nat} {x : Net} (hx : qG n x) : ∀ i (hi : i < x.Bs.length) (hi' : i < x.Bs.length),zT n x.Bs[i] = some true ∧ x.Bs[i].wf ∧ x.Bs[i].sz ≤ 1048576 ∧ x.Bs[i].Id = x.Bs[i].Id ∧ x.Bs[i].Ps.length = x.Bs[i].Ps.length ∧ ∀ p (hp : p < x.Bs[i].Ps.length),x.Bs[i].Ps[p].Has = true → x.Ls.any (zx i p) = true := fun i hi _ =>
 ⟨(hx.br hi).1,(hx.br hi).2.1,by have := (hx.br hi).2.2; omega,rfl,rfl,(hx.2.2.1.1 i hi hi).2.2⟩
theorem zJk {n : Nat} {x : Net} (hx : qG n x) (ss : List Say) (s40 : ss.length ≤ 40) (said : ∀ s ∈ ss,zDx n x s ∧ s.wf) : qG n ⟨x.Bs,x.Ls,ss⟩ :=
 zJC hx x.Bs ss rfl hx.self (fun l hl => hx.up l hl) s40 said
theorem zKt {n : Nat} {x : Net} (hx : qG n x) {i : Nat} (hi : i < x.Bs.length) (v : zA) (ok : zT n v = some true) (wv : v.wf) (sv : v.sz ≤ 1048576) (hid : v.Id = x.Bs[i].Id) (hl : v.Ps.length = x.Bs[i].Ps.length) (has : ∀ p (hp : p < v.Ps.length),v.Ps[p].Has = true → x.Ls.any (zx i p) = true) (hup : ∀ p : Int,(idx v.Ps p).map (·.Up) = (idx x.Bs[i].Ps p).map (·.Up))
  (ss : List Say) (s40 : ss.length ≤ 40) (said : ∀ s ∈ ss,zDx n x s ∧ s.wf) : qG n ⟨x.Bs.set i v,x.Ls,ss⟩ := by
 refine zJC hx _ ss (by simp) (fun j hj hj' => ?_) (fun l hl => ?_) s40 said
 ·rw [List.getElem_set]
  by_cases h : i = j
  ·subst h
   simp only [if_true]
   exact ⟨ok,wv,sv,hid,hl,has⟩
  ·simp only [if_neg h]
   have := hx.self j hj hj
   exact ⟨this.1,this.2.1,this.2.2.1,trivial,trivial,this.2.2.2.2.2⟩
 ·have key : ∀ b p,zBQ ⟨x.Bs.set i v,x.Ls,ss⟩ b p = zBQ x b p := fun b p => by
   unfold zBQ
   rw [zFJ hi v b p (ss' := x.Said)]
   split
   ·rename_i hb
    subst hb
    rw [hup p]
    unfold Zw
    rw [zK hi,Option.bind_some]
   ·rfl
  rw [key,key]
  exact hx.up l hl
theorem zFV (n : Nat) (x : Net) (b : Int) (p : Int) : zBC n x b p = (idx x.Bs b).bind fun v => (qI n v.Id v.Ps p) := by
 unfold zBC
 cases idx x.Bs b with
 | none => rfl
 | some v =>
  simp only [Option.bind_some,zEP]
  cases qI n v.Id v.Ps p <;> rfl
theorem zEH (n : Nat) (x : Net) {k : Nat} (hk : k < x.Ls.length) (back : Bool) : Ji n x k back = bif back then (idx x.Bs x.Ls[k].B).bind fun v => qI n v.Id v.Ps x.Ls[k].Q else (idx x.Bs x.Ls[k].A).bind fun v => qI n v.Id v.Ps x.Ls[k].P := by
 unfold Ji
 rw [zK hk,Option.bind_some]
 cases back with
 | true =>
  simp only [cond_true]
  cases idx x.Bs x.Ls[k].B with
  | none => rfl
  | some v => simp only [Option.bind_some]; cases qI n v.Id v.Ps x.Ls[k].Q <;> rfl
 | false =>
  simp only [cond_false]
  cases idx x.Bs x.Ls[k].A with
  | none => rfl
  | some v => simp only [Option.bind_some]; cases qI n v.Id v.Ps x.Ls[k].P <;> rfl
theorem zFC {α : Type} {xs : List α} {b : Int} {v : α} (h : idx xs b = some v) : ∃ i : Nat,b = i ∧ ∃ hi : i < xs.length,xs[i] = v := by
 obtain ⟨i0,i1⟩ := zFn h
 obtain ⟨i,rfl⟩ := Int.eq_ofNat_of_zero_le i0
 have hi : i < xs.length := Int.ofNat_lt.1 i1
 rw [zK hi] at h
 exact ⟨i,rfl,hi,Option.some.inj h⟩
theorem qG.ends {n : Nat} {x : Net} (hx : qG n x) {k : Nat} (hk : k < x.Ls.length) : ∃ (a p b q : Nat) (ha : a < x.Bs.length) (hb : b < x.Bs.length),x.Ls[k].A = a ∧ x.Ls[k].P = p ∧ x.Ls[k].B = b ∧ x.Ls[k].Q = q ∧ a ≠ b ∧ p < x.Bs[a].Ps.length ∧ q < x.Bs[b].Ps.length ∧ p < 6 ∧ q < 6 := by
 obtain ⟨hne,p,q,e1,e2,_⟩ := (hx.2.2.1.2.2.2.2 k hk).1
 obtain ⟨v,h1,h2⟩ := zBb e1
 obtain ⟨w,h3,h4⟩ := zBb e2
 obtain ⟨a,ea,ha,rfl⟩ := zFC h1
 obtain ⟨p',ep,hp,_⟩ := zFC h2
 obtain ⟨b,eb,hb,rfl⟩ := zFC h3
 obtain ⟨q',eq,hq,_⟩ := zFC h4
 have := (qT n _ (by have := (hx.br ha).2.2; have hs : x.Bs[a].Name.size + x.Bs[a].Ps.length + x.Bs[a].F.length + x.Bs[a].V.sz = x.Bs[a].sz := rfl; omega) (hx.br ha).1).2.1
 have := (qT n _ (by have := (hx.br hb).2.2; have hs : x.Bs[b].Name.size + x.Bs[b].Ps.length + x.Bs[b].F.length + x.Bs[b].V.sz = x.Bs[b].sz := rfl; omega) (hx.br hb).1).2.1
 exact ⟨a,p',b,q',ha,hb,ea,ep,eb,eq,fun h => hne (by rw [ea,eb,h]),hp,hq,by omega,by omega⟩
theorem qG.say {n : Nat} {x : Net} (hn : 1048700 < n) (hx : qG n x) {i : Nat} (hi : i < x.Bs.length) (p : Nat) (hp : p < 6) : ∃ v,qI n x.Bs[i].Id x.Bs[i].Ps p = some v ∧ zq n v = some true ∧ v.wf := by
 have hs : x.Bs[i].Name.size + x.Bs[i].Ps.length + x.Bs[i].F.length + x.Bs[i].V.sz = x.Bs[i].sz := rfl
 have h40 := (hx.br hi).2.2
 obtain ⟨p1,p2,p3,p4,_⟩ := qT n _ (by omega) (hx.br hi).1
 exact zIb n _ _ p p3 p4 (by omega) (by omega) (by omega) (by omega)
theorem qG.link {n : Nat} {x : Net} (hx : qG n x) (ss : List Say) (k : Int) : ∃ b,ZG n ⟨x.Bs,x.Ls,ss⟩ k = some b ∧ Zt n ⟨x.Bs,x.Ls,ss⟩ k = some b := by
 have h := hx.sz
 obtain ⟨b,e1,e2⟩ := zGw n x k hx.1 (by omega)
 exact ⟨b,e1,e2⟩
theorem zIZ {n : Nat} (hn : 1048700 < n) {x : Net} (hx : qG n x) (b : Int) : ∀ (m k : Nat) (ss : List Say),k ≤ x.Ls.length → x.Ls.length < m + k → ss.length ≤ 40 → (∀ s ∈ ss,zDx n x s ∧ s.wf) → ∃ zs,z5 n m x b k ss = some (.inl zs) ∧ qE n m x b k ss = some (.inl zs) ∧ zs.length ≤ 40 ∧ ∀ s ∈ zs,zDx n x s ∧ s.wf
 | 0,k,ss,h1,h2,h3,h4 => by omega
 | m + 1,k,ss,h1,h2,h3,h4 => by
  rw [z5,qE]
  by_cases hk : k < x.Ls.length
  ·have h9 := hx.2.2.1.2.2.1
   have ih := fun ss h3 h4 => zIZ hn hx b m (k + 1) ss (by omega) (by omega) h3 h4
   obtain ⟨u,u1,u2⟩ := hx.link ss k
   obtain ⟨a,p,c,q,ha,hc,ea,ep,ec,eq,hac,hp,hq,hp6,hq6⟩ := hx.ends hk
   rw [zo hk,cond_true,cond_true,zK hk,Option.bind_some,u1,u2,Option.bind_some,Option.bind_some,zS (by omega : k ≤ 1099511627776)]
   cases u with
   | false => exact ih ss h3 h4
   | true =>
    simp only [Bool.not_true,cond_false]
    by_cases h40 : (ss.length : Int) ≥ 40
    ·rw [decide_eq_true h40,cond_true,cond_true]; exact ih ss h3 h4
    ·rw [decide_eq_false h40,cond_false,cond_false,Option.bind_some]
     have hg : ∀ s : Say,decide (ss.length + [s].length ≤ 268435456) = true := fun s => decide_eq_true (by simp; omega)
     have one : ∀ (bk : Bool) (v : Vec),zq n v = some true → v.wf → ∀ s ∈ ss ++ [(⟨k,bk,v⟩ : Say)],zDx n x s ∧ s.wf := fun bk v hv wv s hs => by
      rcases List.mem_append.1 hs with hs | hs
      ·exact h4 s hs
      ·rw [List.mem_singleton] at hs
       subst hs
       exact ⟨⟨⟨by simp only; omega,by simp only; omega⟩,hv⟩,ZK (z := (k : Int)) (by omega) (by omega),wv.1,wv.2.1,wv.2.2.1,wv.2.2.2.1,wv.2.2.2.2.1,trivial⟩
     by_cases hA : x.Ls[k].A = b
     ·obtain ⟨v,v1,v2,v3⟩ := hx.say hn ha p hp6
      have hB : (x.Ls[k].B == b) = false := by
       rw [beq_eq_false_iff_ne]
       intro h
       rw [← hA,ea,ec] at h
       omega
      rw [show (x.Ls[k].A == b) = true from by simpa using hA,cond_true,cond_true,zEH n ⟨x.Bs,x.Ls,ss⟩ hk false,cond_false,zFV]
      simp only [← hA,ea,ep,zK ha,Option.bind_some,v1,hg,cond_true,Zp,zK hk,hA,hB,cond_false,zS (by omega : k ≤ 1099511627776)]
      rw [ea] at hA
      have hB' : (x.Ls[k].B == (a : Int)) = false := by rw [beq_eq_false_iff_ne,ec]; omega
      simp only [hB',hA,hB,cond_false,Bool.not_true]
      exact ih _ (by simp; omega) (one false v v2 v3)
     ·rw [show (x.Ls[k].A == b) = false from by simpa using hA,cond_false,cond_false]
      simp only [Zp,zK hk,Option.bind_some,zS (by omega : k ≤ 1099511627776)]
      by_cases hB : x.Ls[k].B = b
      ·obtain ⟨v,v1,v2,v3⟩ := hx.say hn hc q hq6
       rw [show (x.Ls[k].B == b) = true from by simpa using hB,cond_true,cond_true,zEH n ⟨x.Bs,x.Ls,ss⟩ hk true,cond_true,zFV]
       simp only [← hB,ec,eq,zK hc,Option.bind_some,v1,hg,cond_true]
       rw [ec] at hB
       rw [hB]
       exact ih _ (by simp; omega) (one true v v2 v3)
      ·rw [show (x.Ls[k].B == b) = false from by simpa using hB,cond_false,cond_false]
       exact ih ss h3 h4
  ·obtain rfl : k = x.Ls.length := by omega
   rw [zZ]
   exact ⟨ss,rfl,rfl,h3,h4⟩
theorem zMd {n : Nat} (hn : 1048700 < n) {x : Net} (hx : qG n x) (b : Int) : ∃ y,Y7 n x b = some y ∧ Yp n x b = some y ∧ qG n y ∧ y.Bs = x.Bs ∧ y.Ls = x.Ls := by
 have h9 := hx.2.2.1.2.2.1
 obtain ⟨zs,e1,e2,e3,e4⟩ := zIZ hn hx b n 0 x.Said (by omega) (by omega) hx.2.2.1.2.2.2.1 hx.says
 refine ⟨⟨x.Bs,x.Ls,zs⟩,?_,?_,zJk hx zs e3 e4,rfl,rfl⟩
 ·unfold Y7; rw [show z5 n n x b 0 x.Said = _ from e1]; rfl
 ·unfold Yp; rw [show qE n n x b 0 x.Said = _ from e2]; rfl
theorem zMF (ps : List Pt) (k : Nat) (hk : k < ps.length) (c : Int) (h : Bool) (v : Vec) (p : Int) : (idx (ps.set k ⟨ps[k].Up,c,h,v⟩) p).map (·.Up) = (idx ps p).map (·.Up) := by
 rw [zDh hk]
 split
 ·rename_i e
  subst e
  rw [zK hk]; rfl
 ·rfl
theorem zJr {n : Nat} (hn : 1048700 < n) {x : Net} (hx : qG n x) {i p : Nat} (hi : i < x.Bs.length) (hp : p < x.Bs[i].Ps.length) (hup : x.Bs[i].Ps[p].Up = true) (hend : x.Ls.any (zx i p) = true) (v : Vec) (hv : zq n v = some true) : ∃ y,Z4 n x.Bs[i] p v = some y ∧ QT n x.Bs[i] p v = some y ∧ qG n ⟨x.Bs.set i y,x.Ls,x.Said⟩ ∧ y.Id = x.Bs[i].Id ∧ y.Ps = x.Bs[i].Ps.set p ⟨true,x.Bs[i].Ps[p].Co,true,v⟩ := by
 obtain ⟨b1,b2,b3⟩ := hx.br hi
 obtain ⟨y,e1,e2,e3,e4,e5,e6,e7,_⟩ := zHk n x.Bs[i] p v b2 (by omega) (by omega) b1 hp hup hv
 refine ⟨y,e1,e2,zKt hx hi y e3 e4 (by omega) e6 (by rw [e7]; simp) (fun j hj hh => ?_) (fun j => ?_) x.Said hx.2.2.1.2.2.2.1 hx.says,e6,e7⟩
 ·by_cases hjp : p = j
  ·subst hjp; exact hend
  ·have hj' : j < x.Bs[i].Ps.length := by rw [e7] at hj; simpa using hj
   have hg : y.Ps[j] = x.Bs[i].Ps[j] := by
    simp only [e7]
    exact List.getElem_set_ne hjp _
   rw [hg] at hh
   exact (hx.2.2.1.1 i hi hi).2.2 j hj' hh
 ·rw [e7,← zMF x.Bs[i].Ps p hp x.Bs[i].Ps[p].Co true v j,hup]
theorem zNF {n : Nat} (hn : 1048700 < n) {x : Net} (hx : qG n x) {i : Nat} (hi : i < x.Bs.length) : ∃ y,zBL n x.Bs[i] = some y ∧ zA8 n x.Bs[i] = some y ∧ qG n ⟨x.Bs.set i y,x.Ls,x.Said⟩ := by
 obtain ⟨b1,b2,b3⟩ := hx.br hi
 obtain ⟨y,e1,e2,e3,e4,e5,e6,e7,_⟩ := zKA n x.Bs[i] b2 (by omega) (by omega) b1
 refine ⟨y,e1,e2,zKt hx hi y e3 e4 (by omega) e6 (by rw [e7]) (fun j hj hh => ?_) (fun j => by rw [e7]) x.Said hx.2.2.1.2.2.2.1 hx.says⟩
 have hj' : j < x.Bs[i].Ps.length := by rw [e7] at hj; exact hj
 have hg : y.Ps[j] = x.Bs[i].Ps[j] := by congr 1
 rw [hg] at hh
 exact (hx.2.2.1.1 i hi hi).2.2 j hj' hh
def JO (ss : List Say) (i : Nat) : List Say := ss.take i ++ ss.drop (i + 1)
theorem zLp (ss : List Say) (i : Nat) (hi : i < ss.length) (h40 : ss.length ≤ 40) : (([] : List Say) ++ ((ss.drop ((0 : Int)).toNat).take (((i : Int)).toNat - ((0 : Int)).toNat))) ++ ((ss.drop ((((i + 1 : Nat) : Int) : Int)).toNat).take ((((ss.length : Int) : Int)).toNat - ((((i + 1 : Nat) : Int)) : Int).toNat)) = JO ss i := by
 unfold JO
 rw [List.nil_append,Int.toNat_natCast,Int.toNat_natCast,Int.toNat_natCast,show (0 : Int).toNat = 0 from rfl,Nat.sub_zero,List.drop_zero,show (ss.drop (i + 1)).take (ss.length - (i + 1)) = ss.drop (i + 1) from List.take_of_length_le (by rw [List.length_drop]; omega)]
theorem zNO {ss : List Say} {i : Nat} : ∀ s ∈ JO ss i,s ∈ ss := fun s hs => by
 rcases List.mem_append.1 hs with h | h
 ·exact List.mem_of_mem_take h
 ·exact List.mem_of_mem_drop h
theorem zNN {ss : List Say} {i : Nat} (hi : i < ss.length) : (JO ss i).length + 1 = ss.length := by
 unfold JO
 rw [List.length_append,List.length_take,List.length_drop]
 omega
theorem zJZ (ss : List Say) (i : Nat) (hi : i < ss.length) (h40 : ss.length ≤ 40) :
  (decide ((0 : Int) ≤ 0) && (decide ((0 : Int) ≤ (i : Int)) && decide ((i : Int) ≤ (ss.length : Int)))) = true ∧
  (decide ((0 : Int) ≤ ((i + 1 : Nat) : Int)) && (decide (((i + 1 : Nat) : Int) ≤ (ss.length : Int)) && decide ((ss.length : Int) ≤ (ss.length : Int)))) = true ∧
  decide (([] : List Say).length + ((ss.drop ((0 : Int)).toNat).take (((i : Int)).toNat - ((0 : Int)).toNat)).length ≤ 268435456) = true ∧
  decide ((([] : List Say) ++ ((ss.drop ((0 : Int)).toNat).take (((i : Int)).toNat - ((0 : Int)).toNat))).length + ((ss.drop ((((i + 1 : Nat) : Int) : Int)).toNat).take ((((ss.length : Int) : Int)).toNat - ((((i + 1 : Nat) : Int)) : Int).toNat)).length ≤ 268435456) = true := by
 refine ⟨?_,?_,?_,?_⟩
 ·rw [Bool.and_eq_true,Bool.and_eq_true]
  exact ⟨rfl,decide_eq_true (by omega),decide_eq_true (by omega)⟩
 ·rw [Bool.and_eq_true,Bool.and_eq_true]
  exact ⟨decide_eq_true (by omega),decide_eq_true (by omega),decide_eq_true (by omega)⟩
 ·refine decide_eq_true ?_
  rw [List.length_take,List.length_drop,List.length_nil]
  omega
 ·refine decide_eq_true ?_
  rw [List.length_append,List.length_take,List.length_drop,List.length_take,List.length_drop,List.length_nil]
  omega
theorem zG0 (n : Nat) (x : Net) (z : Event) {i : Nat} (hi : i < x.Said.length) (h40 : x.Said.length ≤ 40) (he : z.At = i) : Ym n x z = bif z.Ki == 2 then (ZG n ⟨x.Bs,x.Ls,JO x.Said i⟩ x.Said[i].Link).bind fun u => bif u then Yl n ⟨x.Bs,x.Ls,JO x.Said i⟩ x.Said[i].Link x.Said[i].Back x.Said[i].V else some ⟨x.Bs,x.Ls,JO x.Said i⟩ else some ⟨x.Bs,x.Ls,JO x.Said i⟩ := by
 obtain ⟨c1,c2,c3,c4⟩ := zJZ x.Said i hi h40
 unfold Ym
 rw [he,zS (by omega : i ≤ 1099511627776),zK hi,Option.bind_some,c1,c2,c3,c4,zLp x.Said i hi h40]
 simp only [cond_true]
 congr 1
 congr 1
 funext u
 cases u with
 | false => rfl
 | true => simp only [cond_true]; cases Yl n ⟨x.Bs,x.Ls,JO x.Said i⟩ x.Said[i].Link x.Said[i].Back x.Said[i].V <;> rfl
theorem zFD (n : Nat) (x : Net) (b : Bool) {i : Nat} (hi : i < x.Said.length) (h40 : x.Said.length ≤ 40) : Qa n x i b = bif !b then some ⟨x.Bs,x.Ls,JO x.Said i⟩ else (Zt n ⟨x.Bs,x.Ls,JO x.Said i⟩ x.Said[i].Link).bind fun u => bif !u then some ⟨x.Bs,x.Ls,JO x.Said i⟩ else (idx x.Ls x.Said[i].Link).bind fun l => bif x.Said[i].Back then Zf n ⟨x.Bs,x.Ls,JO x.Said i⟩ l.A l.P x.Said[i].V else Zf n ⟨x.Bs,x.Ls,JO x.Said i⟩ l.B l.Q x.Said[i].V := by
 obtain ⟨c1,c2,c3,c4⟩ := zJZ x.Said i hi h40
 unfold Qa
 rw [zS (by omega : i ≤ 1099511627776),zK hi,Option.bind_some,c1,c2,c3,c4,zLp x.Said i hi h40]
 simp only [cond_true]
 congr 1
 congr 1
 funext u
 congr 1
 congr 1
 funext l
 congr 1
 ·cases Zf n ⟨x.Bs,x.Ls,JO x.Said i⟩ l.A l.P x.Said[i].V <;> rfl
 ·cases Zf n ⟨x.Bs,x.Ls,JO x.Said i⟩ l.B l.Q x.Said[i].V <;> rfl
theorem zNE {n : Nat} (hn : 1048700 < n) {x : Net} (hx : qG n x) {i : Nat} (hi : i < x.Said.length) (z : Event) (he : z.At = i) : ∃ y,Ym n x z = some y ∧ Qa n x i (z.Ki == 2) = some y ∧ qG n y := by
 have h40 := hx.2.2.1.2.2.2.1
 rw [zG0 n x z hi h40 he,zFD n x _ hi h40]
 have hc : qG n ⟨x.Bs,x.Ls,JO x.Said i⟩ := zJk hx _ (by have := zNN hi; omega) fun s hs => hx.says s (zNO s hs)
 cases z.Ki == 2 with
 | false => exact ⟨_,rfl,rfl,hc⟩
 | true =>
  simp only [Bool.not_true,cond_false,cond_true]
  obtain ⟨⟨⟨l0,l1⟩,hv⟩,_⟩ := hx.says x.Said[i] (List.getElem_mem hi)
  obtain ⟨k,hk0⟩ := Int.eq_ofNat_of_zero_le l0
  have hk : k < x.Ls.length := by omega
  obtain ⟨u,u1,u2⟩ := hx.link (JO x.Said i) x.Said[i].Link
  rw [u1,u2,Option.bind_some,Option.bind_some]
  cases u with
  | false => exact ⟨_,rfl,rfl,hc⟩
  | true =>
   obtain ⟨a,p,c,q,ha,hcc,ea,ep,ec,eq,hac,hp,hq,hp6,hq6⟩ := hx.ends hk
   obtain ⟨l,va,vb,pp,qq,g1,g2,g3,g4,g5,g6,g7⟩ := zGx n _ _ u1
   rw [hk0] at g1 ⊢
   rw [show idx (⟨x.Bs,x.Ls,JO x.Said i⟩ : Net).Ls (k : Int) = _ from zK hk] at g1
   obtain rfl := Option.some.inj g1
   simp only [ea,ep,ec,eq,zK ha,zK hcc] at g2 g3 g5 g6
   obtain rfl := Option.some.inj g2
   obtain rfl := Option.some.inj g5
   rw [zK hp] at g3
   rw [zK hq] at g6
   obtain rfl := Option.some.inj g3
   obtain rfl := Option.some.inj g6
   unfold Yl Zf
   simp only [Bool.not_true,cond_false,cond_true,zK hk,Option.bind_some,ea,ep,ec,eq,zK ha,zK hcc,Int.toNat_natCast]
   have hm : x.Ls[k] ∈ x.Ls := List.getElem_mem hk
   cases x.Said[i].Back with
   | true =>
    obtain ⟨y,e1,e2,e3,_⟩ := zJr hn hc ha hp g4 (List.any_eq_true.2 ⟨_,hm,Q1.2 (.inl ⟨ea,ep⟩)⟩) _ hv
    simp only [cond_true,show Z4 n x.Bs[a] p x.Said[i].V = _ from e1,show QT n x.Bs[a] p x.Said[i].V = _ from e2,Option.bind_some]
    exact ⟨_,rfl,rfl,e3⟩
   | false =>
    obtain ⟨y,e1,e2,e3,_⟩ := zJr hn hc hcc hq g7 (List.any_eq_true.2 ⟨_,hm,Q1.2 (.inr ⟨ec,eq⟩)⟩) _ hv
    simp only [cond_false,show Z4 n x.Bs[c] q x.Said[i].V = _ from e1,show QT n x.Bs[c] q x.Said[i].V = _ from e2,Option.bind_some]
    exact ⟨_,rfl,rfl,e3⟩
theorem zNg {bs : List zA} {ls : List Link} {ss : List Say} {a c : Nat} (ha : a < bs.length) (hc : c < bs.length) (hac : a ≠ c) (v w : zA) (b p : Int) : zBQ ⟨(bs.set a v).set c w,ls,ss⟩ b p = if b = (c : Int) then (idx w.Ps p).map (·.Up) else if b = (a : Int) then (idx v.Ps p).map (·.Up) else zBQ ⟨bs,ls,ss⟩ b p := by
 unfold zBQ
 rw [zFJ (bs := bs.set a v) (ss' := ss) (by simpa using hc),zFJ (ss' := ss) ha]
 split
 ·rfl
 ·split <;> rfl
theorem zG5 (ps : List Pt) (k : Nat) (hk : k < ps.length) (v : Pt) (p : Int) : (idx (ps.set k v) p).map (·.Up) = if p = (k : Int) then some v.Up else (idx ps p).map (·.Up) := by
 rw [zDh hk]
 split <;> rfl
theorem qG.other {n : Nat} {x : Net} (hx : qG n x) {k j : Nat} (hk : k < x.Ls.length) (hj : j < x.Ls.length) (hkj : k ≠ j) : zx x.Ls[k].A x.Ls[k].P x.Ls[j] = false ∧ zx x.Ls[k].B x.Ls[k].Q x.Ls[j] = false := by
 obtain ⟨_,s1,s2⟩ := hx.2.2.1.2.2.2.2 k hk
 have key : ∀ b p : Int,zx b p x.Ls[k] = true → qU (qo b p) x.Ls = 1 → zx b p x.Ls[j] = false := fun b p h1 h2 => by
  rw [Bool.eq_false_iff]
  intro h3
  have c1 := zDz.1 h1
  have c2 := zDz.1 h3
  rcases Nat.lt_or_gt_of_ne hkj with h | h
  ·have := zHs (qo b p) x.Ls k j h hj
   omega
  ·have := zHs (qo b p) x.Ls j k h hk
   omega
 exact ⟨key _ _ (Q1.2 (.inl ⟨rfl,rfl⟩)) s1,key _ _ (Q1.2 (.inr ⟨rfl,rfl⟩)) s2⟩
theorem zND {n : Nat} (hn : 1048700 < n) {x : Net} (hx : qG n x) {k : Nat} (hk : k < x.Ls.length) (up : Bool) : ∃ y,zAI n x k up = some y ∧ JQ n x k up = some y ∧ qG n y := by
 obtain ⟨u,u1,u2⟩ := hx.link x.Said k
 unfold zAI JQ
 rw [show ZG n x k = _ from u1,show Zt n x k = _ from u2,Option.bind_some,Option.bind_some]
 cases hu : u == up with
 | true => exact ⟨x,rfl,rfl,hx⟩
 | false =>
  obtain ⟨a,p,c,q,ha,hc,ea,ep,ec,eq,hac,hp,hq,hp6,hq6⟩ := hx.ends hk
  obtain ⟨ba1,ba2,ba3⟩ := hx.br ha
  obtain ⟨bc1,bc2,bc3⟩ := hx.br hc
  obtain ⟨v,v1,v2,v3,v4,v5,v6,v7,_⟩ := zED n x.Bs[a] p up ba2 (by omega) (by omega) ba1 hp
  obtain ⟨w,w1,w2,w3,w4,w5,w6,w7,_⟩ := zED n x.Bs[c] q up bc2 (by omega) (by omega) bc1 hq
  have hset : idx (x.Bs.set a v) (c : Int) = some x.Bs[c] := by
   rw [zDh ha,if_neg (by omega),zK hc]
  simp only [cond_false,zK hk,Option.bind_some,ea,ep,ec,eq,zK ha,v1,v2,Int.toNat_natCast,hset,w1,w2]
  refine ⟨_,rfl,rfl,zJC hx _ _ (by simp) (fun i hi hi' => ?_) (fun l hl => ?_) hx.2.2.1.2.2.2.1 hx.says⟩
  ·have hself := hx.self i hi hi
   have used : ∀ {i' p' : Nat} {ps qs : List Pt} (hi' : i' < x.Bs.length) (hp' : p' < ps.length) (e : qs = ps.set p' ⟨up,ps[p'].Co,false,⟨0,0,0,0,0⟩⟩) (h : ∀ j (hj : j < ps.length),ps[j].Has = true → x.Ls.any (zx i' j) = true),∀ j (hj : j < qs.length),qs[j].Has = true → x.Ls.any (zx i' j) = true := fun {i' p' ps qs} hi' hp' e h j hj hh => by
    subst e
    by_cases hjp : p' = j
    ·subst hjp
     rw [List.getElem_set_self] at hh
     cases hh
    ·rw [List.getElem_set_ne hjp] at hh
     exact h j (by simpa using hj) hh
   by_cases hic : c = i
   ·subst hic
    simp only [List.getElem_set_self]
    exact ⟨w3,w4,by omega,w6,by rw [w7]; simp,used hc hq w7 (hx.self c hc hc).2.2.2.2.2⟩
   ·by_cases hia : a = i
    ·subst hia
     simp only [List.getElem_set_ne hic,List.getElem_set_self]
     exact ⟨v3,v4,by omega,v6,by rw [v7]; simp,used ha hp v7 (hx.self a ha ha).2.2.2.2.2⟩
    ·simp only [List.getElem_set_ne hic,List.getElem_set_ne hia]
     exact ⟨hself.1,hself.2.1,hself.2.2.1,trivial,trivial,hself.2.2.2.2.2⟩
  ·obtain ⟨j,hj,rfl⟩ := List.getElem_of_mem hl
   have hval : ∀ b p' : Int,zBQ ⟨(x.Bs.set a v).set c w,x.Ls,x.Said⟩ b p' = if (b = (c : Int) ∧ p' = (q : Int)) ∨ (b = (a : Int) ∧ p' = (p : Int)) then some up else zBQ x b p' := fun b p' => by
    rw [zNg ha hc hac,v7,w7,zG5 _ _ hq,zG5 _ _ hp]
    have hself : ∀ {i : Nat} (hi : i < x.Bs.length),(idx x.Bs[i].Ps p').map (·.Up) = zBQ x (i : Int) p' := fun {i} hi => by
     unfold zBQ Zw
     rw [zK hi,Option.bind_some]
    by_cases h1 : b = (c : Int)
    ·subst h1
     have : ¬ ((c : Int) = (a : Int)) := by omega
     by_cases h2 : p' = (q : Int)
     ·simp [h2]
     ·simp only [if_true,if_neg h2,hself hc]
      rw [if_neg (by rintro (h | h) <;> omega)]
    ·by_cases h3 : b = (a : Int)
     ·subst h3
      by_cases h2 : p' = (p : Int)
      ·simp [h2,h1]
      ·simp only [if_neg h1,if_true,if_neg h2,hself ha]
       rw [if_neg (by rintro (h | h) <;> omega)]
     ·rw [if_neg h1,if_neg h3,if_neg (by rintro (h | h) <;> omega)]
   rw [hval,hval]
   by_cases hjk : k = j
   ·subst hjk
    rw [ea,ep,ec,eq,if_pos (.inr ⟨rfl,rfl⟩),if_pos (.inl ⟨rfl,rfl⟩)]
   ·obtain ⟨o1,o2⟩ := hx.other hk hj hjk
    have o1' := fun h => Bool.eq_false_iff.1 o1 (Q1.2 h)
    have o2' := fun h => Bool.eq_false_iff.1 o2 (Q1.2 h)
    rw [ea,ep] at o1'
    rw [ec,eq] at o2'
    rw [if_neg (fun h => h.elim (fun h => o2' (.inl h)) (fun h => o1' (.inl h))),if_neg (fun h => h.elim (fun h => o2' (.inr h)) (fun h => o1' (.inr h)))]
    exact hx.up _ hl
theorem zHe {m : Nat} {z : Int} (h : (decide (0 ≤ z) && decide (z ≤ (m : Int) - 1)) = true) : ∃ i : Nat,z = i ∧ i < m := by
 rw [Bool.and_eq_true,decide_eq_true_iff,decide_eq_true_iff] at h
 obtain ⟨i,rfl⟩ := Int.eq_ofNat_of_zero_le h.1
 exact ⟨i,rfl,by omega⟩
theorem zJ9 {n : Nat} (hn : 1048700 < n) {x : Net} (hx : qG n x) (z : Event) : ∃ y b,Y6 n x z = some (y,b) ∧ Yq n x z = some (y,b) ∧ qG n y := by
 have hs : (x.Bs.length + qn zA.sz x.Bs) + x.Ls.length + x.Said.length = x.sz := rfl
 have hsz := hx.sz
 obtain ⟨k1,k2⟩ := hx.ok hn
 unfold Y6 Yq
 rw [zB7 n x (by omega) (by omega),zB4 n x (by omega) (by omega),k1,k2]
 simp only [Option.bind_some,Bool.not_true,cond_false]
 have w1 : IntKind.wrap .i64 ((x.Bs.length : Int) - 1) = (x.Bs.length : Int) - 1 := wrap64 (by omega) (by omega)
 have w2 : IntKind.wrap .i64 ((x.Said.length : Int) - 1) = (x.Said.length : Int) - 1 := wrap64 (by omega) (by omega)
 have w3 : IntKind.wrap .i64 ((x.Ls.length : Int) - 1) = (x.Ls.length : Int) - 1 := wrap64 (by omega) (by omega)
 have w4 : IntKind.wrap .i64 ((0 : Int) - 1) = (0 : Int) - 1 := wrap64 (by omega) (by omega)
 have key : ∀ K : Int,z.Ki = K → ∃ y b,(bif (K == 1) then (ZH n x x z true) else (ZH n x x z (K == 6))) = some (y,b) ∧ (bif (K == 1) then (ZE n x x z true) else (ZE n x x z (K == 6))) = some (y,b) ∧ qG n y := by
  intro K hK
  by_cases h1 : K = 1
  ·subst h1
   unfold ZH ZE qj
   simp only [show ((1 : Int) == 1) = true from rfl,show ((1 : Int) == 6) = false from rfl,cond_true,cond_false,qe,zQ,w1,Option.bind_some,hK]
   cases h : (decide (0 ≤ z.At) && decide (z.At ≤ (x.Bs.length : Int) - 1)) with
   | false => exact ⟨x,false,rfl,rfl,hx⟩
   | true =>
    obtain ⟨y,e1,e2,e3,_⟩ := zMd hn hx z.At
    simp only [Bool.not_true,cond_false,e1,e2,Option.bind_some]
    exact ⟨y,true,rfl,rfl,e3⟩
  by_cases h6 : K = 6
  ·subst h6
   unfold ZH ZE qj
   simp only [show ((6 : Int) == 1) = false from rfl,show ((6 : Int) == 6) = true from rfl,cond_true,cond_false,qe,zQ,w1,Option.bind_some,hK]
   cases h : (decide (0 ≤ z.At) && decide (z.At ≤ (x.Bs.length : Int) - 1)) with
   | false => exact ⟨x,false,rfl,rfl,hx⟩
   | true =>
    obtain ⟨i,hi,hil⟩ := zHe h
    obtain ⟨y,e1,e2,e3⟩ := zNF hn hx hil
    simp only [Bool.not_true,cond_false,hi,zK hil,e1,e2,Option.bind_some,Int.toNat_natCast]
    exact ⟨_,true,rfl,rfl,e3⟩
  have b1 : (K == 1) = false := by rw [beq_eq_false_iff_ne]; exact h1
  have b6 : (K == 6) = false := by rw [beq_eq_false_iff_ne]; exact h6
  have said : ∀ c : Bool,(K == 2) = c → (K == 2 || K == 3) = true → ∃ y b,Qh n x x z true = some (y,b) ∧ Qg n x x z true = some (y,b) ∧ qG n y := fun c hc h23 => by
   unfold Qh Qg qj
   simp only [cond_true,cond_false,qe,zQ,w2,Option.bind_some,hK,b1,b6]
   cases h : (decide (0 ≤ z.At) && decide (z.At ≤ (x.Said.length : Int) - 1)) with
   | false => exact ⟨x,false,rfl,rfl,hx⟩
   | true =>
    obtain ⟨i,hi,hil⟩ := zHe h
    obtain ⟨y,e1,e2,e3⟩ := zNE hn hx hil z hi
    rw [hK,hc] at e2
    have h3 : c = false → (K == 3) = true := fun h => by rw [hc,h] at h23; simpa using h23
    unfold YM
    simp only [Bool.not_true,cond_false,e1,Option.bind_some,hc,hi,hK]
    cases c with
    | true => simp only [cond_true,e2,Option.bind_some]; exact ⟨y,true,rfl,rfl,e3⟩
    | false => simp only [h3 rfl,cond_true,cond_false,e2,Option.bind_some]; exact ⟨y,true,rfl,rfl,e3⟩
  by_cases h2 : K = 2
  ·obtain ⟨y,b,e1,e2,e3⟩ := said true (by rw [h2]; rfl) (by rw [h2]; rfl)
   unfold ZH ZE
   simp only [b1,b6,cond_false,hK]
   rw [h2]
   exact ⟨y,b,e1,e2,e3⟩
  have b2 : (K == 2) = false := by rw [beq_eq_false_iff_ne]; exact h2
  by_cases h3 : K = 3
  ·obtain ⟨y,b,e1,e2,e3⟩ := said false b2 (by rw [h3]; rfl)
   unfold ZH ZE
   simp only [b1,b6,b2,cond_false,hK]
   rw [h3]
   exact ⟨y,b,e1,e2,e3⟩
  have b3 : (K == 3) = false := by rw [beq_eq_false_iff_ne]; exact h3
  have link : (K == 4 || K == 5) = true → ∃ y b,Qi n x x z true = some (y,b) ∧ qj n x x z (x.Ls.length : Int) = some (y,b) ∧ qG n y := fun h45 => by
   unfold Qi qj
   simp only [cond_true,cond_false,qe,zQ,w3,Option.bind_some,hK,b1,b6,b2,b3]
   cases h : (decide (0 ≤ z.At) && decide (z.At ≤ (x.Ls.length : Int) - 1)) with
   | false => exact ⟨x,false,rfl,rfl,hx⟩
   | true =>
    obtain ⟨i,hi,hil⟩ := zHe h
    obtain ⟨y,e1,e2,e3⟩ := zND hn hx hil (K == 5)
    unfold YM
    simp only [Bool.not_true,cond_false,hK,hi,e1,e2,Option.bind_some]
    exact ⟨y,true,rfl,rfl,e3⟩
  unfold ZH ZE Qh Qg
  simp only [b1,b6,b2,b3,cond_false,hK]
  by_cases h4 : K = 4
  ·rw [h4] at link ⊢
   exact link rfl
  have b4 : (K == 4) = false := by rw [beq_eq_false_iff_ne]; exact h4
  simp only [b4,cond_false]
  by_cases h5 : K = 5
  ·rw [h5] at link ⊢
   exact link rfl
  have b5 : (K == 5) = false := by rw [beq_eq_false_iff_ne]; exact h5
  unfold Qi qj
  simp only [b5,cond_false,qe,zQ,w4,Option.bind_some,show (decide (0 ≤ z.At) && decide (z.At ≤ (0 : Int) - 1)) = false from by by_cases h : 0 ≤ z.At; { rw [decide_eq_false (show ¬ z.At ≤ (0 : Int) - 1 by omega),Bool.and_false] }; { rw [decide_eq_false h]; rfl },Bool.not_false,cond_true]
  exact ⟨x,false,rfl,rfl,hx⟩
 exact key _ rfl
theorem zIc (n : Nat) (x : Net) (z : Event) (wx : x.wf) (hx : x.sz ≤ 1048576) (hn : 1048700 < n) : ∃ y b,Y6 n x z = some (y,b) ∧ Yq n x z = some (y,b) ∧ y.sz ≤ 1048576 ∧ y.wf ∧ (qG n x → qG n y) ∧ (¬ qG n x → y = x ∧ b = false) := by
 obtain ⟨c,h1,h2,h3⟩ := zB6 n x wx (Big.of hx) hn
 cases c with
 | true =>
  have hg : qG n x := ⟨wx,Big.of hx,(h3.1 rfl).1,(h3.1 rfl).2⟩
  obtain ⟨y,b,e1,e2,e3⟩ := zJ9 hn hg z
  exact ⟨y,b,e1,e2,by have := e3.sz; omega,e3.1,fun _ => e3,fun h => absurd hg h⟩
 | false =>
  unfold Y6 Yq
  rw [zB7 n x (by omega) (by omega),zB4 n x (by omega) (by omega),h1,h2]
  exact ⟨x,false,rfl,rfl,hx,wx,id,fun _ => ⟨rfl,rfl⟩⟩
theorem zGt (n : Nat) (xs : List Event) (h : xs.length ≤ 1048576) (hn : xs.length < n) : QI n xs = some xs := by
 unfold QI
 rw [decide_eq_true (by omega : (0 : Int) ≤ (xs.length : Int)),decide_eq_true (by omega : (xs.length : Int) ≤ 268435456)]
 have := zCG (L := QA n) (f := zBt n) (fun m xs i ys => rfl) xs (by omega) (fun v _ => rfl) n 0 (List.replicate ((xs.length : Int)).toNat (⟨0,0⟩ : Event)) (by omega) (by omega) (by simp) rfl
 simp only [Bool.and_true,cond_true]
 rw [show QA n n xs 0 _ = _ from this]
 rfl
theorem zGr (n : Nat) {xs : List Event} {b : Int} (h0 : 0 ≤ b) (h1 : b ≤ 1048576) (hl : xs.length ≤ maxLen) : ∃ r,zBG n xs b = some r ∧ Lft b xs.length r := zCD h0 h1 hl
theorem zFd (n : Nat) (xs : List Event) (h : xs.length ≤ 268435456) (hn : xs.length < n) : JV n xs xs = some true := by
 unfold JV
 have := zA6 (L := Z8 n) (f := J8 n) (fun m xs ys i => rfl) xs (by omega) (fun v _ => by simp [J8]) n 0 (by omega) (by omega)
 simp only [bne_self_eq_false,cond_false]
 rw [show Z8 n n xs xs 0 = _ from this]
 rfl
theorem zFe (n : Nat) (xs : List Event) (b : Int) (h : xs.length ≤ 268435456) (hn : xs.length < n) (h0 : 0 ≤ b) (h1 : b + (2 : Nat) * xs.length ≤ 1099511627776) : YN n xs b = some (b + (2 : Nat) * xs.length,q5 (fun _ b => (⟨b,b + 1⟩ : Event)) 2 xs b) := by
 have := Jl (L := qk n) (f := fun _ b => (⟨b,b + 1⟩ : Event)) (c := 2) (fun m k ys b v hk hl hv h0 h1 => by
  rw [qk,zo hk,Qf hv]
  simp (disch := omega) only [cond_true,Option.bind_some,List.set_set,zCj hk,wrap64,zS,Int.toNat_natCast]
  simp only [Int.add_assoc,Int.reduceAdd,show ((2 : Nat) : Int) = 2 from rfl]
  rfl)
  (fun m ys b => by rw [qk,zZ]; rfl) xs n [] b (by simpa using h) h0 h1 hn
 unfold YN
 simp only [List.length_nil,List.nil_append] at this
 rw [show qk n n 0 xs b = _ from this]
 rfl
theorem zDO (n : Nat) (zs : List Event) (hz : zs.length ≤ 1048576) (hn : 1048700 < n) : ∀ (m k : Nat) (y : Net),y.wf → y.sz ≤ 1048576 → k ≤ zs.length → zs.length < m + k → ∃ w : Net,w.wf ∧ w.sz ≤ 1048576 ∧ (qG n y → qG n w) ∧ QW n m zs k y.Bs y.Ls y.Said = some (.inl (w.Bs,w.Ls,w.Said)) ∧ ZF n m zs k y.Bs y.Ls y.Said = some (.inl (w.Bs,w.Ls,w.Said))
 | 0,k,y,wy,hy,h1,h2 => by omega
 | m + 1,k,y,wy,hy,h1,h2 => by
  rw [QW,ZF]
  by_cases hk : k < zs.length
  ·rw [zo hk,cond_true,cond_true,zK hk,Option.bind_some,Option.bind_some,zS (by omega : k ≤ 1099511627776)]
   by_cases h60 : (k : Int) < 60
   ·rw [decide_eq_true h60,cond_true,cond_true]
    obtain ⟨w,b,e1,e2,e3,e4,e5,_⟩ := zIc n y zs[k] wy hy hn
    obtain ⟨v,f1,f2,f3,f4,f5⟩ := zDO n zs hz hn m (k + 1) w e4 e3 (by omega) (by omega)
    rw [show Y6 n ⟨y.Bs,y.Ls,y.Said⟩ zs[k] = _ from e1,show Yq n ⟨y.Bs,y.Ls,y.Said⟩ zs[k] = _ from e2,Option.bind_some,Option.bind_some]
    exact ⟨v,f1,f2,fun h => f3 (e5 h),f4,f5⟩
   ·rw [decide_eq_false h60,cond_false,cond_false]
    refine ⟨y,wy,hy,id,rfl,?_⟩
    have stay : ∀ (m k : Nat),¬ (k : Int) < 60 → k ≤ zs.length → zs.length < m + k → ZF n m zs k y.Bs y.Ls y.Said = some (.inl (y.Bs,y.Ls,y.Said)) := fun m => by
     induction m with
     | zero => intro k _ _ _; omega
     | succ m ih =>
      intro k h60 h1 h2
      rw [ZF]
      by_cases hk : k < zs.length
      ·rw [zo hk,cond_true,zK hk,Option.bind_some,decide_eq_false h60,cond_false,zS (by omega : k ≤ 1099511627776)]
       exact ih (k + 1) (by omega) (by omega) (by omega)
      ·obtain rfl : k = zs.length := by omega
       rw [zZ]; rfl
    exact stay m (k + 1) (by omega) (by omega) (by omega)
  ·obtain rfl : k = zs.length := by omega
   rw [zZ]
   exact ⟨y,wy,hy,id,rfl,rfl⟩
theorem zHo (n : Nat) (x : Net) (zs : List Event) (hz : zs.length ≤ 1048576) (wx : x.wf) (hx : x.sz ≤ 1048576) (hn : 1048700 < n) : ∃ y : Net,zBc n x zs = some y ∧ zAJ n x zs = some y ∧ y.sz ≤ 1048576 ∧ y.wf ∧ (qG n x → qG n y) := by
 obtain ⟨w,f1,f2,f3,f4,f5⟩ := zDO n zs hz hn n 0 x wx hx (by omega) (by omega)
 unfold zBc zAJ
 rw [zB7 n x (by omega) (by omega),zB4 n x (by omega) (by omega),Option.bind_some,Option.bind_some,show QW n n zs 0 x.Bs x.Ls x.Said = _ from f4,show ZF n n zs 0 x.Bs x.Ls x.Said = _ from f5]
 exact ⟨w,rfl,rfl,f2,f1,f3⟩
theorem zEJ (x0 : Net) (x1 : List Event) (w0 : x0.wf) (w1 : YP Event.wf x1) : ∃ n,Ys n x0 x1 = some true := by
 refine ⟨1048800,?_⟩
 obtain ⟨r,e,k⟩ := zI6 1048800 (x := x0) (b := 1048576) (by decide) (by decide) (by decide) w0
 simp only [Ys,e,Option.bind_some]
 rcases k.neg with ⟨c1,_⟩ | ⟨c1,c2,c3⟩
 ·rw [c1]; rfl
 ·obtain ⟨r',e',k'⟩ := zGr 1048800 (xs := x1) c2 (by omega) w1.1
  simp only [c1,cond_false,e',Option.bind_some]
  rcases k'.neg with ⟨d1,_⟩ | ⟨d1,d2,d3⟩
  ·rw [d1]; rfl
  ·obtain ⟨y,h1,h2,h3,_⟩ := zHo 1048800 x0 x1 (by omega) w0 (by omega) (by omega)
   obtain ⟨z,c,k1,k2,m1,_⟩ := zDG 1048800 x0 (by omega) (by omega)
   obtain ⟨z',c',k1',k2',m1',m2'⟩ := zDG 1048800 y (by omega) (by omega)
   have me := zFe 1048800 x1 c (by omega) (by omega) (by omega) (by omega)
   simp only [d1,cond_false,zI9 1048800 x0 (by omega) (by omega),zGt 1048800 x1 (by omega) (by omega),Option.bind_some,h1,h2,zD7 1048800 x0 (by omega) (by omega),zD7 1048800 y (by omega) (by omega),zFd 1048800 x1 (by omega) (by omega),m1,me,m1',m2',decide_eq_false (show ¬ c + ((2 : Nat) : Int) * x1.length < 0 by omega),decide_eq_false (show ¬ c' < 0 by omega),bne_self_eq_false,beq_self_eq_true,Bool.not_true]
end Go.Proofs.YtcegokjpmppdbaaGreat.Tw
