import Derived.Test.YtcegokjpmppdbaaGreatTwST
import Derived.Test.YtcegokjpmppdbaaGreatTlPlain
set_option linter.unusedVariables false
set_option linter.unusedSimpArgs false
set_option maxRecDepth 100000
set_option maxHeartbeats 1000000
namespace Go.Proofs.YtcegokjpmppdbaaGreat.Tw
open Go Go.TL Go.Proofs
def zF.sz (x : zF) : Nat := x.Rows.length + x.Pv.length
theorem zHv (n : Nat) {xs : List Int} {b : Int} (h0 : 0 ≤ b) (h1 : b ≤ 1048576) (hl : xs.length ≤ maxLen) : ∃ r,zB3 n xs b = some r ∧ Lft b xs.length r := zCU h0 h1 hl
theorem zHE (n : Nat) {xs : List zC} {b : Int} (h0 : 0 ≤ b) (h1 : b ≤ 1048576) (hl : xs.length ≤ maxLen) : ∃ r,zBf n xs b = some r ∧ Lft b xs.length r := zCU h0 h1 hl
theorem zHx (n : Nat) {x : zF} {b : Int} (h0 : 0 ≤ b) (h1 : b ≤ 1048576) (hl : zF.wf x) : ∃ r,zAj n x b = some r ∧ Lft b x.sz r := by
 obtain ⟨r1,e1,k1⟩ := zHE n h0 h1 hl.1.1
 simp only [zAj,e1,Option.bind_some]
 rcases k1.neg with ⟨c1,c2⟩ | ⟨c1,c2,c3⟩
 ·rw [c1]; exact ⟨_,rfl,.inl (by decide)⟩
 ·rw [c1]
  obtain ⟨r2,e2,k2⟩ := zHv n c2 (by omega) hl.2.1.1
  simp only [e2,Option.bind_some,cond_false]
  rcases k2.neg with ⟨d1,d2⟩ | ⟨d1,d2,d3⟩
  ·rw [d1]; exact ⟨_,rfl,.inl (by decide)⟩
  ·rw [d1]; exact ⟨_,rfl,.inr ⟨d2,by unfold zF.sz; omega⟩⟩
theorem zHy (n : Nat) (xs : List Int) (h : xs.length ≤ 268435456) (hn : xs.length < n) : zAk n xs = some xs := by
 unfold zAk
 rw [decide_eq_true (by omega : (0 : Int) ≤ (xs.length : Int)),decide_eq_true (by omega : (xs.length : Int) ≤ 268435456)]
 have := zCv (L := QY n) (fun m xs i ys => rfl) xs (by omega) n 0 (List.replicate ((xs.length : Int)).toNat 0) (by omega) (by omega) (by simp) rfl
 simp only [Bool.and_self,cond_true]
 rw [show (QY n n xs 0 (List.replicate ((xs.length : Int)).toNat 0)) = _ from this]
 rfl
theorem zHH (n : Nat) (xs : List zC) (h : xs.length ≤ 1048576) (hn : xs.length < n) : J4 n xs = some xs := by
 unfold J4
 rw [decide_eq_true (by omega : (0 : Int) ≤ (xs.length : Int)),decide_eq_true (by omega : (xs.length : Int) ≤ 268435456)]
 have := zCv (L := QO n) (fun m xs i ys => rfl) xs (by omega) n 0 (List.replicate ((xs.length : Int)).toNat (⟨0,0,0⟩ : zC)) (by omega) (by omega) (by simp) rfl
 simp only [Bool.and_self,cond_true]
 rw [show (QO n n xs 0 (List.replicate ((xs.length : Int)).toNat (⟨0,0,0⟩ : zC))) = _ from this]
 rfl
theorem zH1 (n : Nat) (x : zF) (h : x.sz ≤ 1048576) (hn : x.sz < n) : zAm n x = some x := by
 unfold zF.sz at h hn
 unfold zAm
 rw [zHH n x.Rows (by omega) (by omega),zHy n x.Pv (by omega) (by omega)]
 rfl
theorem zGM (n : Nat) (xs : List Int) (h : xs.length ≤ 268435456) (hn : xs.length < n) : zAg n xs xs = some true := by
 unfold zAg
 have := zBr (L := QW n) (f := fun a b => some (a == b)) (fun m xs ys i => rfl) xs (by omega) (fun v _ => by simp) n 0 (by omega) (by omega)
 simp only [bne_self_eq_false,cond_false]
 rw [show (QW n n xs xs 0) = _ from this]
 rfl
theorem zGP (n : Nat) (v : zC) : JP n v v = some true := by simp [JP]
theorem zFf (n : Nat) (xs : List zC) (h : xs.length ≤ 268435456) (hn : xs.length < n) : Jz n xs xs = some true := by
 unfold Jz
 have := zBr (L := QL n) (f := JP n) (fun m xs ys i => rfl) xs (by omega) (fun v _ => zGP n v) n 0 (by omega) (by omega)
 simp only [bne_self_eq_false,cond_false]
 rw [show (QL n n xs xs 0) = _ from this]
 rfl
theorem zGQ (n : Nat) (x : zF) (h : x.sz ≤ 268435456) (hn : x.sz < n) : zAi n x x = some true := by
 unfold zF.sz at h hn
 unfold zAi
 rw [zFf n x.Rows (by omega) (by omega),zGM n x.Pv (by omega) (by omega)]
 rfl
theorem zG2 (n : Nat) : Qp n = ZW n := by
 funext m
 induction m with
 | zero => rfl
 | succ m ih => funext x i y; simp only [Qp,ZW,ih]
theorem zIX (n : Nat) : zBJ n = Y1 n := by
 funext x i; simp only [zBJ,Y1,zG2]; rfl
theorem zIx (n : Nat) (x : zF) (id : Int) (h : x.Rows.length ≤ 1048580) (hn : x.Rows.length < n) : ∃ r,Y1 n x id = some r ∧ (r = -1 ∧ (∀ v ∈ x.Rows,v.Id ≠ id) ∨ ∃ v,0 ≤ r ∧ idx x.Rows r = some v ∧ v.Id = id) := by
 unfold Y1
 have hf := zJG (L := fun m xs i => ZW n m ⟨xs,x.Pv⟩ id i) (p := fun i v => bif v.Id == id then some i else none) (fun m xs i => by
  show (bif _ then _ else _) = _
  congr 1
  congr 1
  funext v
  cases (v.Id == id) <;> rfl) x.Rows (by omega) n 0 (by omega) (by omega)
 rcases hf with ⟨e1,e2⟩ | ⟨j,hj,r,e1,e2,e3,e4⟩
 ·rw [show ZW n n x id 0 = _ from e1]
  refine ⟨-1,rfl,.inl ⟨rfl,fun v hv => ?_⟩⟩
  obtain ⟨j,hj,rfl⟩ := List.getElem_of_mem hv
  have := e2 j hj (by omega)
  intro hid
  simp [hid] at this
 ·rw [show ZW n n x id 0 = _ from e4]
  have hid : (x.Rows[j].Id == id) = true := by
   cases hc : (x.Rows[j].Id == id) with
   | true => rfl
   | false => rw [hc] at e2; cases e2
  rw [hid] at e2
  cases e2
  exact ⟨_,rfl,.inr ⟨_,by omega,zK hj,by simpa using hid⟩⟩
theorem zIk (n : Nat) {xs : List Pt} {b : Int} (h0 : 0 ≤ b) (h1 : b ≤ 1048576) (hl : xs.length ≤ maxLen) : ∃ r,zCa n xs b = some r ∧ Lft b xs.length r := zCU h0 h1 hl
theorem zIn (n : Nat) (xs : List Pt) (h : xs.length ≤ 1048576) (hn : xs.length < n) : zBO n xs = some xs := by
 unfold zBO
 rw [decide_eq_true (by omega : (0 : Int) ≤ (xs.length : Int)),decide_eq_true (by omega : (xs.length : Int) ≤ 268435456)]
 have := zCv (L := Qr n) (fun m xs i ys => rfl) xs (by omega) n 0 (List.replicate ((xs.length : Int)).toNat (⟨false,0,false,(⟨0,0,0,0,0⟩ : Vec)⟩ : Pt)) (by omega) (by omega) (by simp) rfl
 simp only [Bool.and_self,cond_true]
 rw [show (Qr n n xs 0 (List.replicate ((xs.length : Int)).toNat (⟨false,0,false,(⟨0,0,0,0,0⟩ : Vec)⟩ : Pt))) = _ from this]
 rfl
theorem zDr (n : Nat) (v : Vec) : zAB n v v = some true := by simp [zAB]
theorem zHt (n : Nat) (v : Pt) : zA3 n v v = some true := by simp [zA3,zDr]
theorem zG6 (n : Nat) (xs : List Pt) (h : xs.length ≤ 268435456) (hn : xs.length < n) : zBM n xs xs = some true := by
 unfold zBM
 have := zBr (L := Qq n) (f := zA3 n) (fun m xs ys i => rfl) xs (by omega) (fun v _ => zHt n v) n 0 (by omega) (by omega)
 simp only [bne_self_eq_false,cond_false]
 rw [show (Qq n n xs xs 0) = _ from this]
 rfl
theorem Ja (n : Nat) (a b c : Int) : Tot (zP n a b c) := Tot.bif (fun _ => .of) (fun _ => .of)
theorem zCP (n : Nat) : Q3 n = zq n := rfl
theorem zCB (n : Nat) (v : Vec) : Tot (zq n v) := by
 unfold zq
 repeat' first | exact Tot.of | refine Tot.bind (Ja _ _ _ _) fun _ _ => ?_ | refine Tot.bif (fun _ => ?_) (fun _ => ?_)
theorem zG3 (n : Nat) : zBZ n = QS n := rfl
theorem zGc (n : Nat) (v : Vec) (c : Int) : Tot (QS n v c) := by
 unfold QS
 repeat' first | exact Tot.of | refine Tot.bind (Ja _ _ _ _) fun _ _ => ?_ | refine Tot.bind (zCB _ _) fun _ _ => ?_ | refine Tot.bif (fun _ => ?_) (fun _ => ?_)
theorem zDm (n : Nat) : Jq n = Qt n := rfl
theorem zDG (n : Nat) (v u : Vec) : Tot (Qt n v u) := by
 unfold Qt
 repeat' first | exact Tot.of | refine Tot.bif (fun _ => ?_) (fun _ => ?_)
theorem zCJ (n : Nat) (x0 : Int) (x1 : List Pt) (h : x1.length ≤ 1048576) : ∀ (m k : Nat) (y2 y3 y4 y5 y6 y7 y8 y9 y10 : Int),k ≤ x1.length → x1.length < m + k → Tot (zo n m x0 x1 k y2 y3 y4 y5 y6 y7 y8 y9 y10)
 | 0,k,y2,y3,y4,y5,y6,y7,y8,y9,y10,h1,h2 => by omega
 | m + 1,k,y2,y3,y4,y5,y6,y7,y8,y9,y10,h1,h2 => by
  rw [zo]
  refine Tot.step (fun hk => ?_) .of
  have ih := fun y2 y3 y4 y5 y6 y7 y8 y9 y10 => zCJ n x0 x1 h m (k + 1) y2 y3 y4 y5 y6 y7 y8 y9 y10 (by omega) (by omega)
  simp only [ZP,zT (by omega : k ≤ 1099511627776)]
  repeat' first | exact ih _ _ _ _ _ _ _ _ _ | exact Tot.of | refine Tot.bind (zLX hk) fun _ _ => ?_ | refine Tot.bind (zGc _ _ _) fun _ _ => ?_ | refine Tot.bind (zDG _ _ _) fun _ _ => ?_ | refine Tot.bif (fun _ => ?_) (fun _ => ?_)
theorem zBE (n : Nat) (x0 : Int) (x1 : List Pt) (h : x1.length ≤ 1048576) (hn : x1.length < n) : Tot (Zz n x0 x1) := by
 unfold Zz
 refine Tot.bind (zCJ n x0 x1 h n 0 _ _ _ _ _ _ _ _ _ (by omega) (by omega)) fun o _ => ?_
 cases o <;> exact Tot.of
theorem zFZ (n : Nat) : qD n = zo n := by
 funext m
 induction m with
 | zero => rfl
 | succ m ih =>
  funext x0 x1 y1 y2 y3 y4 y5 y6 y7 y8 y9 y10
  simp only [qD,zo,ih,Zm,ZP,zG3,zDm]
  cases idx x1 y1 <;> rfl
theorem zDl (n : Nat) : YW n = Zz n := by
 funext x i; simp only [YW,Zz,zFZ]; rfl
theorem zD8 (n : Nat) : JJ n = qH n := by
 funext x i y; simp only [JJ,qH,zDl]
theorem zHQ (n : Nat) (x0 : Int) (x1 : List Pt) (x2 : Int) (h : x1.length ≤ 1048576) (hn : x1.length < n) : Tot (qH n x0 x1 x2) := Tot.bind (zBE n x0 x1 h hn) fun _ _ => .of
theorem zHo (n : Nat) : zAZ n = YN n := by
 funext x i y; simp only [zAZ,YN,zDl,zD8,zDm]; rfl
theorem zID (n : Nat) (x0 : Int) (x1 : List Pt) (x2 : Int) (h : x1.length ≤ 1048576) (hn : x1.length < n) : ∃ r,YN n x0 x1 x2 = some r ∧ 1 ≤ r ∧ r ≤ 4 := by
 unfold YN zP
 rw [wrap64 (by omega) (by omega)]
 obtain ⟨b,hb⟩ := zBE n x0 x1 h hn
 obtain ⟨s,hs⟩ := zHQ n x0 x1 x2 h hn
 by_cases h1 : x2 ≥ 0
 ·by_cases h2 : x2 ≤ (x1.length : Int) - 1
  ·obtain ⟨v,hv,_⟩ := zHm (xs := x1) h1 (by omega)
   obtain ⟨l,hl⟩ := zDG n s v.Hd
   simp only [decide_eq_true h1,decide_eq_true h2,cond_true,Option.bind_some,Bool.not_true,cond_false,hb,hs,hv,hl]
   cases v.Up <;> cases (b.2 == x2) <;> cases v.Has <;> cases l <;> exact ⟨_,rfl,by decide,by decide⟩
  ·simp only [decide_eq_true h1,decide_eq_false h2,cond_true,Option.bind_some,Bool.not_false]
   exact ⟨_,rfl,by decide,by decide⟩
 ·simp only [decide_eq_false h1,cond_false,Option.bind_some,Bool.not_false,cond_true]
  exact ⟨_,rfl,by decide,by decide⟩
theorem zNN {k : Nat} (h : k ≤ 1099511627776) : IntKind.wrap .u64 (k : Int) = k := by
 show ((k : Int) % 18446744073709551616) = k
 omega
theorem zC5 (n : Nat) (x0 : Int) (x1 : List Pt) (h : x1.length ≤ 1048576) (hn : x1.length < n) : ∀ (m k : Nat) (y2 : Int),k ≤ x1.length → x1.length < m + k → ZU n m x0 x1 k y2 = ZY n m x0 x1 k y2 ∧ Tot (ZY n m x0 x1 k y2)
 | 0,k,y2,h1,h2 => by omega
 | m + 1,k,y2,h1,h2 => by
  rw [ZY,ZU]
  by_cases hk : k < x1.length
  ·have ih := fun y2 => zC5 n x0 x1 h hn m (k + 1) y2 (by omega) (by omega)
   obtain ⟨r,hr,r1,r2⟩ := zID n x0 x1 k h hn
   have hk' : decide ((k : Int) < (x1.length : Int)) = true := decide_eq_true (by omega)
   have h0 : decide ((0 : Int) ≤ (k : Int)) = true := decide_eq_true (by omega)
   simp only [hk',zT (by omega : k ≤ 1099511627776),zNN (by omega : k ≤ 1099511627776),zHo,hr,Option.bind_some,h0,cond_true,(ih _).1,true_and]
   have hc : r = 1 ∨ r = 2 ∨ r = 3 ∨ r = 4 := by omega
   rcases hc with rfl | rfl | rfl | rfl <;> cases (decide ((k : Int) < 6)) <;> first | exact ⟨rfl,(ih _).2⟩ | exact ⟨by trivial,Tot.of⟩
  ·have hk' : decide ((k : Int) < (x1.length : Int)) = false := decide_eq_false (by omega)
   rw [hk']
   exact ⟨by trivial,Tot.of⟩
theorem zHR (n : Nat) (x0 : Int) (x1 : List Pt) (h : x1.length ≤ 1048576) (hn : x1.length < n) : zBK n x0 x1 = ZX n x0 x1 ∧ Tot (ZX n x0 x1) := by
 obtain ⟨h1,o,h2⟩ := zC5 n x0 x1 h hn n 0 0 (by omega) (by omega)
 unfold zBK ZX
 have e1 : ZU n n x0 x1 0 0 = some o := h1.trans h2
 have e2 : ZY n n x0 x1 0 0 = some o := h2
 rw [e1,e2]
 cases o <;> exact ⟨by trivial,Tot.of⟩
theorem qe (n : Nat) : zw n = zP n := rfl
theorem zQ (n : Nat) (a b c : Int) : zP n a b c = some (decide (b ≤ a) && decide (a ≤ c)) := by
 unfold zP
 by_cases h : a ≥ b
 ·rw [decide_eq_true h]; rfl
 ·rw [decide_eq_false h]; rfl
theorem zDx {p : Int} (h0 : 1 ≤ p) (h1 : p ≤ 6) : ∃ a : Int,0 ≤ a ∧ a < 9223372036854775808 ∧ (IntKind.wrap .i64 ((IntKind.wrap .i64 (1 * 2 ^ min ((IntKind.wrap .u64 p)).toNat (IntKind.bits .i64))) - 1)) = a ∧ (IntKind.wrap .i64 ((IntKind.wrap .i64 (1 * 2 ^ min (p).toNat (IntKind.bits .i64))) - 1)) = a ∧ decide (0 ≤ (IntKind.wrap .u64 p)) = true ∧ decide (0 ≤ p) = true := by
 have hc : p = 1 ∨ p = 2 ∨ p = 3 ∨ p = 4 ∨ p = 5 ∨ p = 6 := by omega
 rcases hc with rfl | rfl | rfl | rfl | rfl | rfl
 ·exact ⟨1,by decide,by decide,by decide,by decide,by decide,by decide⟩
 ·exact ⟨3,by decide,by decide,by decide,by decide,by decide,by decide⟩
 ·exact ⟨7,by decide,by decide,by decide,by decide,by decide,by decide⟩
 ·exact ⟨15,by decide,by decide,by decide,by decide,by decide,by decide⟩
 ·exact ⟨31,by decide,by decide,by decide,by decide,by decide,by decide⟩
 ·exact ⟨63,by decide,by decide,by decide,by decide,by decide,by decide⟩
theorem zCL (n : Nat) (x0 : zF) (w0 : x0.wf) (x1 : Int) (hp0 : 1 ≤ x1) (hp1 : x1 ≤ 6) (h : x0.Rows.length ≤ 1048580) : ∀ (m k : Nat),k ≤ x0.Rows.length → x0.Rows.length < m + k → Zd n m x0 x1 k = ZJ n m x0 x1 k ∧ Tot (ZJ n m x0 x1 k)
 | 0,k,h1,h2 => by omega
 | m + 1,k,h1,h2 => by
  rw [ZJ,Zd]
  by_cases hk : k < x0.Rows.length
  ·obtain ⟨ih1,o,ih2⟩ := zCL n x0 w0 x1 hp0 hp1 h m (k + 1) (by omega) (by omega)
   obtain ⟨a,ha0,ha1,ha2,ha3,ha4,ha5⟩ := zDx hp0 hp1
   have hk' : decide ((k : Int) < (x0.Rows.length : Int)) = true := decide_eq_true (by omega)
   have hv : x0.Rows[k] ∈ x0.Rows := List.getElem_mem hk
   have hi := zK hk
   generalize x0.Rows[k] = v at hv hi
   have hw := w0.1.2 v hv
   have hin : QE n x1 = some a := by unfold QE; rw [ha5,ha3]; rfl
   simp only [hk',zT (by omega : k ≤ 1099511627776),hi,Option.bind_some,cond_true,ih1,ih2,hin,qe,zQ,ha2]
   have hbits := fun hm0 hm1 => zNP (B := v.Bare) (M := v.Members) hw.2.2.1 hm0 hm1
   by_cases hm : 0 ≤ v.Members ∧ v.Members ≤ a
   ·have hb := hbits hm.1 (by omega)
    simp only [decide_eq_true hm.1,decide_eq_true hm.2,Bool.and_self,Bool.not_true,cond_false]
    by_cases hz : IntKind.wrap .i64 (BitVec.ofInt (IntKind.bits .i64) v.Bare &&& ~~~BitVec.ofInt (IntKind.bits .i64) v.Members).toNat = 0
    ·have h3 := hb.1 hz
     have hz' : ((IntKind.wrap .i64 (BitVec.ofInt (IntKind.bits .i64) v.Bare &&& ~~~BitVec.ofInt (IntKind.bits .i64) v.Members).toNat) != 0) = false := by rw [hz]; rfl
     have hy' : ((IntKind.wrap .i64 (BitVec.ofInt (IntKind.bits .i64) v.Bare &&& BitVec.ofInt (IntKind.bits .i64) v.Members).toNat) != v.Bare) = false := by rw [h3.2.2]; simp
     simp only [hz',hy',decide_eq_true h3.1,decide_eq_true (show v.Bare ≤ a by omega),Bool.and_self,Bool.not_true,cond_false]
     cases k with
     | zero => cases (decide (1 ≤ v.Id) && decide (v.Id ≤ 99)) <;> exact ⟨by trivial,Tot.of⟩
     | succ k =>
      have hw2 : IntKind.wrap .i64 (((k + 1 : Nat) : Int) - 1) = (k : Int) := by rw [wrap64 (by omega) (by omega)]; omega
      have hpos : decide (((k + 1 : Nat) : Int) > 0) = true := decide_eq_true (by omega)
      simp only [hw2,hpos,cond_true,zK (show k < x0.Rows.length by omega),Option.bind_some]
      cases (decide (1 ≤ v.Id) && decide (v.Id ≤ 99)) <;> cases (decide ((x0.Rows[k]'(by omega)).Id ≥ v.Id)) <;> exact ⟨by trivial,Tot.of⟩
    ·have hz' : ((IntKind.wrap .i64 (BitVec.ofInt (IntKind.bits .i64) v.Bare &&& ~~~BitVec.ofInt (IntKind.bits .i64) v.Members).toNat) != 0) = true := by simpa using hz
     have h3 : (decide (0 ≤ v.Bare) && decide (v.Bare ≤ a)) = false ∨ ((IntKind.wrap .i64 (BitVec.ofInt (IntKind.bits .i64) v.Bare &&& BitVec.ofInt (IntKind.bits .i64) v.Members).toNat) != v.Bare) = true := by
      by_cases hq : ((IntKind.wrap .i64 (BitVec.ofInt (IntKind.bits .i64) v.Bare &&& BitVec.ofInt (IntKind.bits .i64) v.Members).toNat) != v.Bare) = true
      ·exact .inr hq
      ·left
       simp at hq
       by_cases hr : 0 ≤ v.Bare ∧ v.Bare ≤ a
       ·have hle := zNQ hw.2.2.1 hm.1 (by omega) hq
        exact absurd (hb.2 ⟨hle.1,hle.2,hq⟩) hz
       ·simp only [Bool.and_eq_false_iff,decide_eq_false_iff_not]; omega
     simp only [hz',cond_true]
     have hspec : (bif !(decide (0 ≤ v.Bare) && decide (v.Bare ≤ a)) then some (Sum.inr false) else bif ((IntKind.wrap .i64 (BitVec.ofInt (IntKind.bits .i64) v.Bare &&& BitVec.ofInt (IntKind.bits .i64) v.Members).toNat) != v.Bare) then some (Sum.inr false) else (bif decide ((k : Int) > 0) then (idx x0.Rows (IntKind.wrap .i64 ((k : Int) - 1))).bind fun v13 => bif decide (v13.Id ≥ v.Id) then some (Sum.inr false) else some o else some o)) = (some (Sum.inr false) : Option (Unit ⊕ Bool)) := by
      rcases h3 with h3 | h3
      ·rw [h3]; rfl
      ·rw [h3]; cases (decide (0 ≤ v.Bare) && decide (v.Bare ≤ a)) <;> rfl
     rw [hspec]
     cases k with
     | zero => cases (decide (1 ≤ v.Id) && decide (v.Id ≤ 99)) <;> exact ⟨by trivial,Tot.of⟩
     | succ k =>
      have hw2 : IntKind.wrap .i64 (((k + 1 : Nat) : Int) - 1) = (k : Int) := by rw [wrap64 (by omega) (by omega)]; omega
      have hpos : decide (((k + 1 : Nat) : Int) > 0) = true := decide_eq_true (by omega)
      simp only [hw2,hpos,cond_true,zK (show k < x0.Rows.length by omega),Option.bind_some]
      cases (decide (1 ≤ v.Id) && decide (v.Id ≤ 99)) <;> cases (decide ((x0.Rows[k]'(by omega)).Id ≥ v.Id)) <;> exact ⟨by trivial,Tot.of⟩
   ·have hm' : (decide (0 ≤ v.Members) && decide (v.Members ≤ a)) = false := by
     simp only [Bool.and_eq_false_iff,decide_eq_false_iff_not]; omega
    simp only [hm',Bool.not_false,cond_true]
    cases k with
    | zero => cases (decide (1 ≤ v.Id) && decide (v.Id ≤ 99)) <;> exact ⟨by trivial,Tot.of⟩
    | succ k =>
     have hw2 : IntKind.wrap .i64 (((k + 1 : Nat) : Int) - 1) = (k : Int) := by rw [wrap64 (by omega) (by omega)]; omega
     have hpos : decide (((k + 1 : Nat) : Int) > 0) = true := decide_eq_true (by omega)
     simp only [hw2,hpos,cond_true,zK (show k < x0.Rows.length by omega),Option.bind_some]
     cases (decide (1 ≤ v.Id) && decide (v.Id ≤ 99)) <;> cases (decide ((x0.Rows[k]'(by omega)).Id ≥ v.Id)) <;> exact ⟨by trivial,Tot.of⟩
  ·have hk' : decide ((k : Int) < (x0.Rows.length : Int)) = false := decide_eq_false (by omega)
   rw [hk']
   exact ⟨by trivial,Tot.of⟩
theorem zCK (n : Nat) (x0 : zF) (h : x0.Rows.length ≤ 1048580) (hn : x0.Rows.length < n) (hq : x0.Pv.length ≤ 1048580) : ∀ (m k : Nat),k ≤ x0.Pv.length → x0.Pv.length < m + k → QD n m x0 k = Ze n m x0 k ∧ Tot (Ze n m x0 k)
 | 0,k,h1,h2 => by omega
 | m + 1,k,h1,h2 => by
  rw [Ze,QD]
  by_cases hk : k < x0.Pv.length
  ·obtain ⟨ih1,o,ih2⟩ := zCK n x0 h hn hq m (k + 1) (by omega) (by omega)
   have hk' : decide ((k : Int) < (x0.Pv.length : Int)) = true := decide_eq_true (by omega)
   obtain ⟨r,hr,_⟩ := zIx n x0 x0.Pv[k] h hn
   simp only [hk',zT (by omega : k ≤ 1099511627776),zK hk,Option.bind_some,cond_true,ih1,ih2,zIX,hr]
   cases decide (r < 0) <;> exact ⟨by trivial,Tot.of⟩
  ·have hk' : decide ((k : Int) < (x0.Pv.length : Int)) = false := decide_eq_false (by omega)
   rw [hk']
   exact ⟨by trivial,Tot.of⟩
theorem zGd (n : Nat) (x0 : zF) (w0 : x0.wf) (x1 : Int) (h : x0.sz ≤ 1048580) (hn : x0.sz < n) : zAb n x0 x1 = Zv n x0 x1 ∧ Tot (Zv n x0 x1) := by
 have hs : x0.Rows.length + x0.Pv.length = x0.sz := rfl
 unfold zAb Zv
 simp only [qe,zQ,Option.bind_some]
 by_cases hp : 1 ≤ x1 ∧ x1 ≤ 6
 ·obtain ⟨a,ha0,ha1,ha2,ha3,ha4,ha5⟩ := zDx hp.1 hp.2
  obtain ⟨e1,o,e2⟩ := zCL n x0 w0 x1 hp.1 hp.2 (by omega) n 0 (by omega) (by omega)
  obtain ⟨f1,q,f2⟩ := zCK n x0 (by omega) (by omega) (by omega) n 0 (by omega) (by omega)
  have e1' : Zd n n x0 x1 0 = some o := e1.trans e2
  have e2' : ZJ n n x0 x1 0 = some o := e2
  have f1' : QD n n x0 0 = some q := f1.trans f2
  have f2' : Ze n n x0 0 = some q := f2
  simp only [decide_eq_true hp.1,decide_eq_true hp.2,Bool.and_self,Bool.not_true,cond_false,ha4,cond_true,e1',e2',Option.bind_some]
  cases o with
  | inl u =>
   simp only [JK,JW,f1',f2',Option.bind_some]
   cases q <;> exact ⟨rfl,Tot.bif (fun _ => .of) fun _ => Tot.bif (fun _ => .of) fun _ => .of⟩
  | inr r => exact ⟨rfl,Tot.bif (fun _ => .of) fun _ => Tot.bif (fun _ => .of) fun _ => .of⟩
 ·have hp' : (decide (1 ≤ x1) && decide (x1 ≤ 6)) = false := by
   simp only [Bool.and_eq_false_iff,decide_eq_false_iff_not]; omega
  rw [hp']
  exact ⟨by trivial,Tot.of⟩
theorem zFn (n : Nat) (xs : List zC) (b : Int) (h : xs.length ≤ 268435456) (hn : xs.length < n) (h0 : 0 ≤ b) (h1 : b + (3 : Nat) * xs.length ≤ 1099511627776) : Yq n xs b = some (b + (3 : Nat) * xs.length,ZA (fun _ b => (⟨b,b + 1,b + 2⟩ : zC)) 3 xs b) := by
 have := zAp (L := qx n) (f := fun _ b => (⟨b,b + 1,b + 2⟩ : zC)) (c := 3) (fun m k ys b v hk hl hv h0 h1 => by
  rw [qx,zp hk,Qu hv]
  simp only [cond_true,Option.bind_some,zLW hk,wrap64 (show -9223372036854775808 ≤ b + 1 by omega) (by omega),wrap64 (show -9223372036854775808 ≤ b + 1 + 1 by omega) (by omega),wrap64 (show -9223372036854775808 ≤ b + 1 + 1 + 1 by omega) (by omega),zT (show k ≤ 1099511627776 by omega)]
  rw [zLW (by simpa using hk)]
  simp only [Option.bind_some,List.set_set,Int.toNat_natCast]
  rw [show b + 1 + 1 = b + 2 by omega,show b + 2 + 1 = b + (3 : Nat) by omega])
  (fun m ys b => by rw [qx,zc]; rfl) xs n [] b (by simpa using h) h0 h1 hn
 unfold Yq
 simp only [List.length_nil,List.nil_append] at this
 rw [show qx n n 0 xs b = _ from this]
 rfl
theorem zFj (n : Nat) (xs : List zC) (b : Int) (h : xs.length ≤ 268435456) (hn : xs.length < n) (h0 : 0 ≤ b) (h1 : b + (3 : Nat) * xs.length ≤ 1099511627776) : Yn n (ZA (fun _ b => (⟨b,b + 1,b + 2⟩ : zC)) 3 xs b) b = some (b + (3 : Nat) * xs.length) := by
 have := zAX (L := qu n) (f := fun _ b => (⟨b,b + 1,b + 2⟩ : zC)) (c := 3) (fun m k ys b v hk hl hv h0 h1 => by
  rw [qu,zp hk,Qu hv]
  simp only [cond_true,Option.bind_some,bne_self_eq_false,cond_false,wrap64 (show -9223372036854775808 ≤ b + 1 by omega) (by omega),wrap64 (show -9223372036854775808 ≤ b + 1 + 1 by omega) (by omega),wrap64 (show -9223372036854775808 ≤ b + 1 + 1 + 1 by omega) (by omega),zT (show k ≤ 1099511627776 by omega)]
  rw [show b + 1 + 1 = b + 2 by omega,show b + 2 + 1 = b + (3 : Nat) by omega]
  simp only [bne_self_eq_false,cond_false])
  (fun m ys b => by rw [qu,zc]; rfl) xs n [] b (by simpa using h) h0 h1 hn
 unfold Yn
 simp only [List.length_nil,List.nil_append] at this
 rw [show qu n n (ZA (fun _ b => (⟨b,b + 1,b + 2⟩ : zC)) 3 xs b) 0 b = _ from this]
 rfl
theorem zGT (n : Nat) (xs : List Int) (b : Int) (h : xs.length ≤ 268435456) (hn : xs.length < n) (h0 : 0 ≤ b) (h1 : b + (1 : Nat) * xs.length ≤ 1099511627776) : JS n xs b = some (b + (1 : Nat) * xs.length,ZA (fun _ b => b) 1 xs b) := by
 have := zAp (L := q8 n) (f := fun _ b => b) (c := 1) (fun m k ys b v hk hl hv h0 h1 => by
  rw [q8,zp hk,Qu hv]
  simp only [cond_true,Option.bind_some,wrap64 (show -9223372036854775808 ≤ b + 1 by omega) (by omega),zT (show k ≤ 1099511627776 by omega),Int.toNat_natCast]
  rfl)
  (fun m ys b => by rw [q8,zc]; rfl) xs n [] b (by simpa using h) h0 h1 hn
 unfold JS
 simp only [List.length_nil,List.nil_append] at this
 rw [show q8 n n 0 xs b = _ from this]
 rfl
theorem zGR (n : Nat) (xs : List Int) (b : Int) (h : xs.length ≤ 268435456) (hn : xs.length < n) (h0 : 0 ≤ b) (h1 : b + (1 : Nat) * xs.length ≤ 1099511627776) : JQ n (ZA (fun _ b => b) 1 xs b) b = some (b + (1 : Nat) * xs.length) := by
 have := zAX (L := q6 n) (f := fun _ b => b) (c := 1) (fun m k ys b v hk hl hv h0 h1 => by
  rw [q6,zp hk,Qu hv]
  simp only [cond_true,Option.bind_some,bne_self_eq_false,cond_false,wrap64 (show -9223372036854775808 ≤ b + 1 by omega) (by omega),zT (show k ≤ 1099511627776 by omega)]
  rfl)
  (fun m ys b => by rw [q6,zc]; rfl) xs n [] b (by simpa using h) h0 h1 hn
 unfold JQ
 simp only [List.length_nil,List.nil_append] at this
 rw [show q6 n n (ZA (fun _ b => b) 1 xs b) 0 b = _ from this]
 rfl
theorem zIL (n : Nat) (x : zF) (h : x.sz ≤ 268435456) : zAs n x = some x := by
 have hs : x.Rows.length + x.Pv.length = x.sz := rfl
 unfold zAs
 simp only [List.length_nil,Nat.zero_add,decide_eq_true (show x.Rows.length ≤ 268435456 by omega),decide_eq_true (show x.Pv.length ≤ 268435456 by omega),cond_true,List.nil_append]
theorem zGJ (n : Nat) (x : zF) (h : x.sz ≤ 268435456) : JL n x = some x := by
 have hs : x.Rows.length + x.Pv.length = x.sz := rfl
 unfold JL zAz
 simp only [List.length_nil,Nat.zero_add,decide_eq_true (show x.Rows.length ≤ 268435456 by omega),decide_eq_true (show x.Pv.length ≤ 268435456 by omega),cond_true,List.nil_append,Option.bind_some]
theorem zH2 {α : Type} {wf : α → Prop} {xs : List α} {i : Nat} {v : α} (h : Yt wf xs) (hv : wf v) : Yt wf (xs.set i v) := ⟨by rw [List.length_set]; exact h.1,fun y hy => by
 rcases List.mem_or_eq_of_mem_set hy with h1 | h1
 ·exact h.2 y h1
 ·rw [h1]; exact hv⟩
theorem zHC (n : Nat) {xs : List zB} {b : Int} (h0 : 0 ≤ b) (h1 : b ≤ 1048576) (hl : xs.length ≤ maxLen) : ∃ r,zBd n xs b = some r ∧ Lft b xs.length r := zCU h0 h1 hl
theorem zHF (n : Nat) (xs : List zB) (h : xs.length ≤ 1048576) (hn : xs.length < n) : J2 n xs = some xs := by
 unfold J2
 rw [decide_eq_true (by omega : (0 : Int) ≤ (xs.length : Int)),decide_eq_true (by omega : (xs.length : Int) ≤ 268435456)]
 have := zCv (L := QM n) (fun m xs i ys => rfl) xs (by omega) n 0 (List.replicate ((xs.length : Int)).toNat (⟨0,0,0,0,false⟩ : zB)) (by omega) (by omega) (by simp) rfl
 simp only [Bool.and_self,cond_true]
 rw [show (QM n n xs 0 (List.replicate ((xs.length : Int)).toNat (⟨0,0,0,0,false⟩ : zB))) = _ from this]
 rfl
theorem zGL (n : Nat) (v : zB) : JN n v v = some true := by simp [JN]
theorem zFd (n : Nat) (xs : List zB) (h : xs.length ≤ 268435456) (hn : xs.length < n) : Jx n xs xs = some true := by
 unfold Jx
 have := zBr (L := QJ n) (f := JN n) (fun m xs ys i => rfl) xs (by omega) (fun v _ => zGL n v) n 0 (by omega) (by omega)
 simp only [bne_self_eq_false,cond_false]
 rw [show (QJ n n xs xs 0) = _ from this]
 rfl
def zA.sz (x : zA) : Nat := x.Name.size + x.Ps.length + x.F.length + x.V.sz
theorem zGW (n : Nat) {x : zA} {b : Int} (h0 : 0 ≤ b) (h1 : b ≤ 1048576) (hl : zA.wf x) : ∃ r,YA n x b = some r ∧ Lft b x.sz r := by
 have hm : maxLen = 9223372036854775807 := by decide
 have hn := hl.2.1
 unfold YA
 rw [wrap64 (by omega) (by omega)]
 by_cases h : b - (x.Name.size : Int) < 0
 ·rw [decide_eq_true h]; exact ⟨_,rfl,.inl (by decide)⟩
 ·rw [decide_eq_false h]
  obtain ⟨r1,e1,k1⟩ := zIk n (xs := x.Ps) (b := b - x.Name.size) (by omega) (by omega) hl.2.2.1.1
  simp only [cond_false,e1,Option.bind_some]
  rcases k1.neg with ⟨c1,c2⟩ | ⟨c1,c2,c3⟩
  ·rw [c1]; exact ⟨_,rfl,.inl (by decide)⟩
  ·rw [c1]
   obtain ⟨r2,e2,k2⟩ := zHC n (xs := x.F) c2 (by omega) hl.2.2.2.1.1
   simp only [cond_false,e2,Option.bind_some]
   rcases k2.neg with ⟨d1,d2⟩ | ⟨d1,d2,d3⟩
   ·rw [d1]; exact ⟨_,rfl,.inl (by decide)⟩
   ·rw [d1]
    obtain ⟨r3,e3,k3⟩ := zHx n (x := x.V) d2 (by omega) ⟨hl.2.2.2.2.1,hl.2.2.2.2.2.1,trivial⟩
    simp only [cond_false,e3,Option.bind_some]
    rcases k3.neg with ⟨f1,f2⟩ | ⟨f1,f2,f3⟩
    ·rw [f1]; exact ⟨_,rfl,.inl (by decide)⟩
    ·rw [f1]; exact ⟨_,rfl,.inr ⟨f2,by unfold zA.sz; omega⟩⟩
theorem zGX (n : Nat) (x : zA) (h : x.sz ≤ 1048576) (hn : x.sz < n) : YB n x = some x := by
 unfold zA.sz at h hn
 unfold YB
 rw [zIn n x.Ps (by omega) (by omega),zHF n x.F (by omega) (by omega),zH1 n x.V (by omega) (by omega)]
 rfl
theorem zFO (n : Nat) (x : zA) (h : x.sz ≤ 268435456) (hn : x.sz < n) : Q8 n x x = some true := by
 unfold zA.sz at h hn
 unfold Q8
 rw [zG6 n x.Ps (by omega) (by omega),zFd n x.F (by omega) (by omega),zGQ n x.V (by omega) (by omega)]
 simp
theorem zHB (n : Nat) (xs : List Pt) (b : Int) (h : xs.length ≤ 268435456) (hn : xs.length < n) (h0 : 0 ≤ b) (h1 : b + (8 : Nat) * xs.length ≤ 1099511627776) : J1 n xs b = some (b + (8 : Nat) * xs.length,ZA (fun _ b => (⟨Int.tmod b 3 == 0,b + 1,Int.tmod (b + 2) 3 == 0,⟨b + 3,b + 4,b + 5,b + 6,b + 7⟩⟩ : Pt)) 8 xs b) := by
 have := zAp (L := ZO n) (f := fun _ b => (⟨Int.tmod b 3 == 0,b + 1,Int.tmod (b + 2) 3 == 0,⟨b + 3,b + 4,b + 5,b + 6,b + 7⟩⟩ : Pt)) (c := 8) (fun m k ys b v hk hl hv h0 h1 => by
  rw [ZO,zp hk,Qu hv]
  simp (disch := omega) only [cond_true,Option.bind_some,List.set_set,zDk hk,wrap64,zT,Int.toNat_natCast,show decide ((3 : Int) ≠ 0) = true from rfl]
  simp only [Int.add_assoc,Int.reduceAdd,show ((8 : Nat) : Int) = 8 from rfl]
  rfl)
  (fun m ys b => by rw [ZO,zc]; rfl) xs n [] b (by simpa using h) h0 h1 hn
 unfold J1
 simp only [List.length_nil,List.nil_append] at this
 rw [show ZO n n 0 xs b = _ from this]
 rfl
theorem zG9 (n : Nat) (xs : List Pt) (b : Int) (h : xs.length ≤ 268435456) (hn : xs.length < n) (h0 : 0 ≤ b) (h1 : b + (8 : Nat) * xs.length ≤ 1099511627776) : J0 n (ZA (fun _ b => (⟨Int.tmod b 3 == 0,b + 1,Int.tmod (b + 2) 3 == 0,⟨b + 3,b + 4,b + 5,b + 6,b + 7⟩⟩ : Pt)) 8 xs b) b = some (b + (8 : Nat) * xs.length) := by
 have := zAX (L := ZN n) (f := fun _ b => (⟨Int.tmod b 3 == 0,b + 1,Int.tmod (b + 2) 3 == 0,⟨b + 3,b + 4,b + 5,b + 6,b + 7⟩⟩ : Pt)) (c := 8) (fun m k ys b v hk hl hv h0 h1 => by
  rw [ZN,zp hk,Qu hv]
  simp (disch := omega) only [cond_true,Option.bind_some,wrap64,zT,Int.toNat_natCast,show decide ((3 : Int) ≠ 0) = true from rfl]
  simp only [Int.add_assoc,Int.reduceAdd,show ((8 : Nat) : Int) = 8 from rfl,bne_self_eq_false,beq_self_eq_true,Bool.not_true,cond_false]
  rfl)
  (fun m ys b => by rw [ZN,zc]; rfl) xs n [] b (by simpa using h) h0 h1 hn
 unfold J0
 simp only [List.length_nil,List.nil_append] at this
 rw [show ZN n n (ZA _ 8 xs b) 0 b = _ from this]
 rfl
theorem zFk (n : Nat) (xs : List zB) (b : Int) (h : xs.length ≤ 268435456) (hn : xs.length < n) (h0 : 0 ≤ b) (h1 : b + (5 : Nat) * xs.length ≤ 1099511627776) : Yo n xs b = some (b + (5 : Nat) * xs.length,ZA (fun _ b => (⟨b,b + 1,b + 2,b + 3,Int.tmod (b + 4) 3 == 0⟩ : zB)) 5 xs b) := by
 have := zAp (L := qv n) (f := fun _ b => (⟨b,b + 1,b + 2,b + 3,Int.tmod (b + 4) 3 == 0⟩ : zB)) (c := 5) (fun m k ys b v hk hl hv h0 h1 => by
  rw [qv,zp hk,Qu hv]
  simp (disch := omega) only [cond_true,Option.bind_some,List.set_set,zDk hk,wrap64,zT,Int.toNat_natCast,show decide ((3 : Int) ≠ 0) = true from rfl]
  simp only [Int.add_assoc,Int.reduceAdd,show ((5 : Nat) : Int) = 5 from rfl]
  rfl)
  (fun m ys b => by rw [qv,zc]; rfl) xs n [] b (by simpa using h) h0 h1 hn
 unfold Yo
 simp only [List.length_nil,List.nil_append] at this
 rw [show qv n n 0 xs b = _ from this]
 rfl
theorem zFg (n : Nat) (xs : List zB) (b : Int) (h : xs.length ≤ 268435456) (hn : xs.length < n) (h0 : 0 ≤ b) (h1 : b + (5 : Nat) * xs.length ≤ 1099511627776) : Yl n (ZA (fun _ b => (⟨b,b + 1,b + 2,b + 3,Int.tmod (b + 4) 3 == 0⟩ : zB)) 5 xs b) b = some (b + (5 : Nat) * xs.length) := by
 have := zAX (L := qr n) (f := fun _ b => (⟨b,b + 1,b + 2,b + 3,Int.tmod (b + 4) 3 == 0⟩ : zB)) (c := 5) (fun m k ys b v hk hl hv h0 h1 => by
  rw [qr,zp hk,Qu hv]
  simp (disch := omega) only [cond_true,Option.bind_some,wrap64,zT,Int.toNat_natCast,show decide ((3 : Int) ≠ 0) = true from rfl]
  simp only [Int.add_assoc,Int.reduceAdd,show ((5 : Nat) : Int) = 5 from rfl,bne_self_eq_false,beq_self_eq_true,Bool.not_true,cond_false]
  rfl)
  (fun m ys b => by rw [qr,zc]; rfl) xs n [] b (by simpa using h) h0 h1 hn
 unfold Yl
 simp only [List.length_nil,List.nil_append] at this
 rw [show qr n n (ZA _ 5 xs b) 0 b = _ from this]
 rfl
theorem zJX (n : Nat) : zBz n = qF n := by
 funext v
 unfold zBz qF
 rw [qe,zCP]
 obtain ⟨b,hb⟩ := Ja n v.Co 1 1000
 rw [hb]
 cases b <;> cases v.Up <;> cases v.Has <;> rfl
theorem zEi (n : Nat) (v : Pt) : Tot (qF n v) := by
 unfold qF
 repeat' first | exact Tot.of | refine Tot.bind (Ja _ _ _ _) fun _ _ => ?_ | refine Tot.bind (zCB _ _) fun _ _ => ?_ | refine Tot.bif (fun _ => ?_) (fun _ => ?_)
theorem zEI (n : Nat) (v : zB) : Tot (Za n v) := by
 unfold Za
 repeat' first | exact Tot.of | refine Tot.bind (Ja _ _ _ _) fun _ _ => ?_ | refine Tot.bif (fun _ => ?_) (fun _ => ?_)
theorem zHq (n : Nat) : zB2 n = Za n := rfl
theorem zHp (n : Nat) (v u : zB) : zAc n u v.Tag v.Mac = ZZ n v u.Tag u.Mac := by
 unfold zAc ZZ
 by_cases h1 : v.Tag = u.Tag
 ·simp [h1]
 ·have e1 : (v.Tag != u.Tag) = true := by simpa using h1
  have e2 : (u.Tag == v.Tag) = false := by simpa using fun e : u.Tag = v.Tag => h1 e.symm
  rw [e1,e2]
  by_cases h2 : v.Tag < u.Tag
  ·rw [decide_eq_true h2]; rfl
  ·rw [decide_eq_false h2]; rfl
theorem zDJ (n : Nat) (v : zB) (a b : Int) : Tot (ZZ n v a b) := Tot.bif (fun _ => .of) (fun _ => .of)
theorem zC4 (n : Nat) (xs : List zB) (h : xs.length ≤ 1048580) : ∀ (m k : Nat),k ≤ xs.length → xs.length < m + k → Zx n m xs k = qC n m xs k ∧ Tot (qC n m xs k)
 | 0,k,h1,h2 => by omega
 | m + 1,k,h1,h2 => by
  rw [qC,Zx]
  by_cases hk : k < xs.length
  ·obtain ⟨ih1,o,ih2⟩ := zC4 n xs h m (k + 1) (by omega) (by omega)
   rw [zp hk]
   obtain ⟨a,ha⟩ := zEI n xs[k]
   simp only [zT (by omega : k ≤ 1099511627776),zK hk,Option.bind_some,cond_true,ih1,ih2,zHq,ha]
   cases k with
   | zero => cases a <;> exact ⟨by trivial,Tot.of⟩
   | succ k =>
    have hw2 : IntKind.wrap .i64 (((k + 1 : Nat) : Int) - 1) = (k : Int) := by rw [wrap64 (by omega) (by omega)]; omega
    have hpos : decide (((k + 1 : Nat) : Int) > 0) = true := decide_eq_true (by omega)
    obtain ⟨b,hb⟩ := zDJ n (xs[k]'(by omega)) xs[k + 1].Tag xs[k + 1].Mac
    simp only [hw2,hpos,cond_true,zK (show k < xs.length by omega),Option.bind_some,zHp,hb]
    cases a <;> cases b <;> exact ⟨by trivial,Tot.of⟩
  ·have he : k = xs.length := by omega
   rw [he,zc]
   exact ⟨rfl,Tot.of⟩
theorem zHO (n : Nat) (xs : List zB) (h : xs.length ≤ 1048580) (hn : xs.length < n) : ∃ b,ZI n xs = some b ∧ zBI n xs = some b := by
 obtain ⟨e1,o,e2⟩ := zC4 n xs h n 0 (by omega) (by omega)
 have e1' : Zx n n xs 0 = some o := e1.trans e2
 have e2' : qC n n xs 0 = some o := e2
 unfold ZI zBI
 rw [e1',e2']
 cases o <;> exact ⟨_,rfl,rfl⟩
theorem zFI (n : Nat) : Z6 n = zn n := by
 funext m
 induction m with
 | zero => rfl
 | succ m ih => funext x i; simp only [Z6,zn,ih,zJX]
theorem zB9 (n : Nat) (x : zA) (h : x.Ps.length ≤ 1048580) : ∀ (m k : Nat),k ≤ x.Ps.length → x.Ps.length < m + k → Tot (zn n m x k)
 | 0,k,h1,h2 => by omega
 | m + 1,k,h1,h2 => by
  rw [zn]
  refine Tot.step (fun hk => ?_) .of
  have ih := zB9 n x h m (k + 1) (by omega) (by omega)
  rw [zT (by omega : k ≤ 1099511627776)]
  exact Tot.bind (zLX hk) fun _ _ => Tot.bind (zEi _ _) fun _ _ => Tot.bif (fun _ => .of) fun _ => ih
theorem QU (n : Nat) (x : zA) (wx : x.wf) (h : x.sz ≤ 1048580) (hn : x.sz < n) : ∃ b,zS n x = some b ∧ QC n x = some b := by
 have hs : x.Name.size + x.Ps.length + x.F.length + x.V.sz = x.sz := rfl
 obtain ⟨o,ho⟩ := zB9 n x (by omega) n 0 (by omega) (by omega)
 have ho' : zn n n x 0 = some o := ho
 obtain ⟨f,hf1,hf2⟩ := zHO n x.F (by omega) (by omega)
 obtain ⟨g,v,hv⟩ := zGd n x.V ⟨wx.2.2.2.2.1,wx.2.2.2.2.2.1,trivial⟩ (x.Ps.length : Int) (by omega) (by omega)
 unfold zS QC
 rw [zFI,ho',Option.bind_some,Option.bind_some]
 cases o with
 | inr r => exact ⟨_,rfl,rfl⟩
 | inl u =>
  simp only [Z9,YI,qe,QR,Qm,zQ,hf1,hf2,g,hv,Option.bind_some]
  have hname : decide ((x.Name.size : Int) > 10) = !decide ((x.Name.size : Int) ≤ 10) := by
   by_cases h : (x.Name.size : Int) ≤ 10
   ·rw [decide_eq_true h,decide_eq_false (by omega)]; rfl
   ·rw [decide_eq_false h,decide_eq_true (by omega)]; rfl
  rw [hname]
  generalize decide ((x.Name.size : Int) ≤ 10) = b1
  generalize (decide (1 ≤ x.Id) && decide (x.Id ≤ 99)) = b2
  generalize (decide (1 ≤ (x.Ps.length : Int)) && decide ((x.Ps.length : Int) ≤ 6)) = b3
  generalize (decide (0 ≤ x.Tk) && decide (x.Tk ≤ 1000000)) = b4
  generalize (decide (0 ≤ x.Pa) && decide (x.Pa ≤ 1000000)) = b5
  generalize (decide (0 ≤ x.Wo) && decide (x.Wo ≤ 1000000)) = b6
  generalize (decide (0 ≤ x.Dr) && decide (x.Dr ≤ 1000000)) = b7
  generalize (decide (0 ≤ x.Ve) && decide (x.Ve ≤ 1000000)) = b8
  clear hf1 hf2 g hv hname
  revert f v b1 b2 b3 b4 b5 b6 b7 b8
  decide +kernel
theorem zHD (n : Nat) {xs : List Link} {b : Int} (h0 : 0 ≤ b) (h1 : b ≤ 1048576) (hl : xs.length ≤ maxLen) : ∃ r,zBe n xs b = some r ∧ Lft b xs.length r := zCU h0 h1 hl
theorem zHw (n : Nat) {xs : List Say} {b : Int} (h0 : 0 ≤ b) (h1 : b ≤ 1048576) (hl : xs.length ≤ maxLen) : ∃ r,zB4 n xs b = some r ∧ Lft b xs.length r := zCU h0 h1 hl
theorem zFo (n : Nat) {xs : List zA} {b : Int} (h0 : 0 ≤ b) (h1 : b ≤ 1048576) (hn : 1048576 < n) (hl : Yt zA.wf xs) : ∃ r,Yr n xs b = some r ∧ Lft b (xs.length + qm zA.sz xs) r := by
 obtain ⟨r0,e0,k0⟩ := zCU h0 h1 hl.1
 unfold Yr
 have hm : maxLen = 9223372036854775807 := by decide
 have hlen := hl.1
 rw [wrap64 (by omega) (by omega)] at e0 ⊢
 by_cases h : b - (xs.length : Int) < 0
 ·rw [decide_eq_true h]; exact ⟨_,rfl,.inl (by decide)⟩
 ·rw [decide_eq_false h]
  obtain ⟨o,f1,f2⟩ := zLg (L := fun m xs i b => Zj n m xs i b) (g := fun v b => YA n v b) (sz := zA.sz) (fun m xs i b => rfl) xs (by omega) (fun v hv b h0 h1 => zGW n h0 h1 (hl.2 v hv)) n 0 (b - xs.length) (by omega) (by omega) (by omega) (by omega)
  simp only [cond_false]
  rw [show Zj n n xs 0 (b - (xs.length : Int)) = _ from f1]
  rcases f2 with rfl | ⟨r,rfl,f3,f4⟩
  ·exact ⟨_,rfl,.inl (by decide)⟩
  ·exact ⟨_,rfl,.inr ⟨f3,by simp only [List.drop_zero] at f4; omega⟩⟩
def Net.sz (x : Net) : Nat := (x.Bs.length + qm zA.sz x.Bs) + x.Ls.length + x.Said.length
theorem zIj (n : Nat) {x : Net} {b : Int} (h0 : 0 ≤ b) (h1 : b ≤ 1048576) (hn : 1048576 < n) (hl : Net.wf x) : ∃ r,zBN n x b = some r ∧ Lft b x.sz r := by
 obtain ⟨r1,e1,k1⟩ := zFo n h0 h1 hn hl.1
 simp only [zBN,e1,Option.bind_some]
 rcases k1.neg with ⟨c1,c2⟩ | ⟨c1,c2,c3⟩
 ·rw [c1]; exact ⟨_,rfl,.inl (by decide)⟩
 ·rw [c1]
  obtain ⟨r2,e2,k2⟩ := zHD n (xs := x.Ls) c2 (by omega) hl.2.1.1
  simp only [e2,Option.bind_some,cond_false]
  rcases k2.neg with ⟨d1,d2⟩ | ⟨d1,d2,d3⟩
  ·rw [d1]; exact ⟨_,rfl,.inl (by decide)⟩
  ·rw [d1]
   obtain ⟨r3,e3,k3⟩ := zHw n (xs := x.Said) d2 (by omega) hl.2.2.1.1
   simp only [e3,Option.bind_some,cond_false]
   rcases k3.neg with ⟨f1,f2⟩ | ⟨f1,f2,f3⟩
   ·rw [f1]; exact ⟨_,rfl,.inl (by decide)⟩
   ·rw [f1]; exact ⟨_,rfl,.inr ⟨f2,by unfold Net.sz; omega⟩⟩
theorem zHG (n : Nat) (xs : List Link) (h : xs.length ≤ 1048576) (hn : xs.length < n) : J3 n xs = some xs := by
 unfold J3
 rw [decide_eq_true (by omega : (0 : Int) ≤ (xs.length : Int)),decide_eq_true (by omega : (xs.length : Int) ≤ 268435456)]
 have := zDM (L := QN n) (f := zB5 n) (fun m xs i ys => rfl) xs (by omega) (fun v _ => rfl) n 0 (List.replicate ((xs.length : Int)).toNat (⟨0,0,0,0⟩ : Link)) (by omega) (by omega) (by simp) rfl
 simp only [Bool.and_self,cond_true]
 rw [show (QN n n xs 0 (List.replicate ((xs.length : Int)).toNat (⟨0,0,0,0⟩ : Link))) = _ from this]
 rfl
theorem zHz (n : Nat) (xs : List Say) (h : xs.length ≤ 1048576) (hn : xs.length < n) : zAl n xs = some xs := by
 unfold zAl
 rw [decide_eq_true (by omega : (0 : Int) ≤ (xs.length : Int)),decide_eq_true (by omega : (xs.length : Int) ≤ 268435456)]
 have := zDM (L := QZ n) (f := zCb n) (fun m xs i ys => rfl) xs (by omega) (fun v _ => rfl) n 0 (List.replicate ((xs.length : Int)).toNat (⟨0,false,(⟨0,0,0,0,0⟩ : Vec)⟩ : Say)) (by omega) (by omega) (by simp) rfl
 simp only [Bool.and_self,cond_true]
 rw [show (QZ n n xs 0 (List.replicate ((xs.length : Int)).toNat (⟨0,false,(⟨0,0,0,0,0⟩ : Vec)⟩ : Say))) = _ from this]
 rfl
theorem zFp (n : Nat) (xs : List zA) (h : xs.length + qm zA.sz xs ≤ 1048576) (hn : 1048576 < n) : Ys n xs = some xs := by
 unfold Ys
 rw [decide_eq_true (by omega : (0 : Int) ≤ (xs.length : Int)),decide_eq_true (by omega : (xs.length : Int) ≤ 268435456)]
 have := zDM (L := Zk n) (f := YB n) (fun m xs i ys => rfl) xs (by omega) (fun v hv => by have := zAt (sz := zA.sz) hv; exact zGX n v (by omega) (by omega)) n 0 (List.replicate ((xs.length : Int)).toNat (⟨0,(⟨#[]⟩ : ByteArray),([] : List Pt),([] : List zB),(⟨([] : List zC),([] : List Int)⟩ : zF),0,0,0,0,0⟩ : zA)) (by omega) (by omega) (by simp) rfl
 simp only [Bool.and_self,cond_true]
 rw [show (Zk n n xs 0 (List.replicate ((xs.length : Int)).toNat (⟨0,(⟨#[]⟩ : ByteArray),([] : List Pt),([] : List zB),(⟨([] : List zC),([] : List Int)⟩ : zF),0,0,0,0,0⟩ : zA))) = _ from this]
 rfl
theorem zIm (n : Nat) (x : Net) (h : x.sz ≤ 1048576) (hn : 1048576 < n) : QF n x = some x := by
 unfold Net.sz at h
 unfold QF
 rw [zFp n x.Bs (by omega) (by omega),zHG n x.Ls (by omega) (by omega),zHz n x.Said (by omega) (by omega)]
 rfl
theorem zGN (n : Nat) (v : Link) : JO n v v = some true := by simp [JO]
theorem zFe (n : Nat) (xs : List Link) (h : xs.length ≤ 268435456) (hn : xs.length < n) : Jy n xs xs = some true := by
 unfold Jy
 have := zBr (L := QK n) (f := JO n) (fun m xs ys i => rfl) xs (by omega) (fun v _ => zGN n v) n 0 (by omega) (by omega)
 simp only [bne_self_eq_false,cond_false]
 rw [show (QK n n xs xs 0) = _ from this]
 rfl
theorem zG7 (n : Nat) (v : Say) : zAA n v v = some true := by simp [zAA,zDr]
theorem zGO (n : Nat) (xs : List Say) (h : xs.length ≤ 268435456) (hn : xs.length < n) : zAh n xs xs = some true := by
 unfold zAh
 have := zBr (L := QX n) (f := zAA n) (fun m xs ys i => rfl) xs (by omega) (fun v _ => zG7 n v) n 0 (by omega) (by omega)
 simp only [bne_self_eq_false,cond_false]
 rw [show (QX n n xs xs 0) = _ from this]
 rfl
theorem zEx (n : Nat) (xs : List zA) (h : xs.length + qm zA.sz xs ≤ 268435456) (hn : xs.length + qm zA.sz xs < n) : Yk n xs xs = some true := by
 unfold Yk
 have := zBr (L := Zi n) (f := Q8 n) (fun m xs ys i => rfl) xs (by omega) (fun v hv => by have := zAt (sz := zA.sz) hv; exact zFO n v (by omega) (by omega)) n 0 (by omega) (by omega)
 simp only [bne_self_eq_false,cond_false]
 rw [show (Zi n n xs xs 0) = _ from this]
 rfl
theorem zDq (n : Nat) (x : Net) (h : x.sz ≤ 268435456) (hn : x.sz < n) : Q4 n x x = some true := by
 unfold Net.sz at h hn
 unfold Q4
 rw [zEx n x.Bs (by omega) (by omega),zFe n x.Ls (by omega) (by omega),zGO n x.Said (by omega) (by omega)]
 rfl
theorem zEA (n : Nat) (x : Net) (i j : Int) (wx : x.wf) (h : x.Bs.length ≤ 1048580) : ∃ p b,Zs n x i j = some (p,b) ∧ Q7 n x i j = some (b && p.Up) := by
 have hw : IntKind.wrap .i64 ((x.Bs.length : Int) - 1) = (x.Bs.length : Int) - 1 := wrap64 (by omega) (by omega)
 unfold Zs Q7
 simp only [qe,zQ,hw,Option.bind_some]
 by_cases hi : 0 ≤ i ∧ i ≤ (x.Bs.length : Int) - 1
 ·obtain ⟨v,hv,hm⟩ := zHm (xs := x.Bs) hi.1 (by omega)
  have hl := (wx.1.2 v hm).2.2.1.1
  have hmx : maxLen = 9223372036854775807 := by decide
  have hw2 : IntKind.wrap .i64 ((v.Ps.length : Int) - 1) = (v.Ps.length : Int) - 1 := wrap64 (by omega) (by omega)
  simp only [decide_eq_true hi.1,decide_eq_true hi.2,Bool.and_self,Bool.not_true,cond_false,cond_true,hv,Option.bind_some,hw2]
  by_cases hj : 0 ≤ j ∧ j ≤ (v.Ps.length : Int) - 1
  ·obtain ⟨p,hp,_⟩ := zHm (xs := v.Ps) hj.1 (by omega)
   simp only [decide_eq_true hj.1,decide_eq_true hj.2,Bool.and_self,Bool.not_true,cond_false,cond_true,hp,Option.bind_some]
   exact ⟨p,true,rfl,by simp⟩
  ·have hj' : (decide (0 ≤ j) && decide (j ≤ (v.Ps.length : Int) - 1)) = false := by
    simp only [Bool.and_eq_false_iff,decide_eq_false_iff_not]; omega
   simp only [hj',Bool.not_false,cond_true,cond_false]
   exact ⟨_,false,rfl,rfl⟩
 ·have hi' : (decide (0 ≤ i) && decide (i ≤ (x.Bs.length : Int) - 1)) = false := by
   simp only [Bool.and_eq_false_iff,decide_eq_false_iff_not]; omega
  simp only [hi',Bool.not_false,cond_true,cond_false]
  exact ⟨_,false,rfl,rfl⟩
theorem zGa (n : Nat) (x : Net) (i : Int) (wx : x.wf) (h : x.sz ≤ 1048580) : ∃ b,ZE n x i = some b ∧ Zr n x i = some b := by
 unfold Net.sz at h
 have hw : IntKind.wrap .i64 ((x.Ls.length : Int) - 1) = (x.Ls.length : Int) - 1 := wrap64 (by omega) (by omega)
 unfold ZE Zr
 simp only [qe,zQ,hw,Option.bind_some]
 by_cases hi : 0 ≤ i ∧ i ≤ (x.Ls.length : Int) - 1
 ·obtain ⟨v,hv,hm⟩ := zHm (xs := x.Ls) hi.1 (by omega)
  obtain ⟨p,b,h1,h2⟩ := zEA n x v.A v.P wx (by omega)
  obtain ⟨p',b',h1',h2'⟩ := zEA n x v.B v.Q wx (by omega)
  simp only [decide_eq_true hi.1,decide_eq_true hi.2,Bool.and_self,Bool.not_true,cond_false,hv,Option.bind_some,h1,h2,h1',h2']
  cases b <;> cases b' <;> cases p.Up <;> cases p'.Up <;> exact ⟨_,rfl,rfl⟩
 ·have hi' : (decide (0 ≤ i) && decide (i ≤ (x.Ls.length : Int) - 1)) = false := by
   simp only [Bool.and_eq_false_iff,decide_eq_false_iff_not]; omega
  simp only [hi',Bool.not_false,cond_true]
  exact ⟨_,rfl,rfl⟩
theorem zHT (n : Nat) (x : zF) (p : Int) (hok : Zv n x p = some true) : x.Rows.length ≤ 6 ∧ (x.Pv.length : Int) = p := by
 unfold Zv at hok
 simp only [zQ,Option.bind_some] at hok
 revert hok
 cases (decide (1 ≤ p) && decide (p ≤ 6)) with
 | false => intro h; cases h
 | true =>
  simp only [Bool.not_true,cond_false]
  by_cases hp : (x.Pv.length : Int) = p
  ·have : ((x.Pv.length : Int) != p) = false := by simp [hp]
   rw [this,cond_false]
   by_cases hr : (x.Rows.length : Int) > 6
   ·rw [decide_eq_true hr]; intro h; cases h
   ·exact fun _ => ⟨by omega,hp⟩
  ·have : ((x.Pv.length : Int) != p) = true := by simp [hp]
   rw [this]; intro h; cases h
theorem ZH {z : Int} (h0 : -1000000 ≤ z) (h1 : z ≤ 1000000) : z6 z := by
 show (Lit.int .i64 z).wf = true
 simp [Lit.wf,show IntKind.wrap .i64 z = z from wrap64 (by omega) (by omega)]
 exact ⟨by show (-9223372036854775808 : Int) ≤ z; omega,by omega⟩
def zC9 (a : Int) (i : Nat) : Bool := (IntKind.wrap .i64 (BitVec.ofInt (IntKind.bits .i64) (Int.fdiv a (2 ^ min ((i : Int)).toNat (IntKind.bits .i64))) &&& BitVec.ofInt (IntKind.bits .i64) 1).toNat == 1)
theorem zGK (n : Nat) (a : Int) (i : Nat) (h : i ≤ 62) : Jv n a i = some (zC9 a i) := by
 unfold Jv
 simp only [qe,zQ,Option.bind_some,decide_eq_true (show (0 : Int) ≤ (i : Int) by omega),decide_eq_true (show (i : Int) ≤ 62 by omega),Bool.and_self,cond_true]
 rfl
theorem zCE (n : Nat) (a : Int) (i : Nat) (h : i ≤ 7) : zBS n a i = some (zC9 a i) := by
 unfold zBS
 have hu : IntKind.wrap .u64 (i : Int) = i := zNN (by omega)
 simp only [zQ,Option.bind_some,decide_eq_true (show (0 : Int) ≤ (i : Int) by omega),decide_eq_true (show (i : Int) ≤ 7 by omega),Bool.and_self,cond_true,hu]
 rfl
theorem zD0 (n : Nat) (x : Net) (i j : Int) (h : Q7 n x i j = some true) : ∃ v p,idx x.Bs i = some v ∧ idx v.Ps j = some p ∧ p.Up = true ∧ i ≤ (IntKind.wrap .i64 ((x.Bs.length : Int) - 1)) ∧ j ≤ (IntKind.wrap .i64 ((v.Ps.length : Int) - 1)) ∧ 0 ≤ i ∧ 0 ≤ j := by
 unfold Q7 at h
 simp only [zQ,Option.bind_some] at h
 cases hc : (decide (0 ≤ i) && decide (i ≤ IntKind.wrap .i64 ((x.Bs.length : Int) - 1))) with
 | false => rw [hc] at h; cases h
 | true =>
  simp only [hc,cond_true] at h
  obtain ⟨v,hv,h⟩ := bind_some h
  cases hd : (decide (0 ≤ j) && decide (j ≤ IntKind.wrap .i64 ((v.Ps.length : Int) - 1))) with
  | false => rw [hd] at h; cases h
  | true =>
   simp only [hd,cond_true,hv,Option.bind_some] at h
   obtain ⟨p,hp,h⟩ := bind_some h
   simp only [Bool.and_eq_true,decide_eq_true_eq] at hc hd
   exact ⟨v,p,hv,hp,Option.some.inj h,hc.2,hd.2,hc.1,hd.1⟩
theorem zGb (n : Nat) (x : Net) (k : Int) (h : ZE n x k = some true) : ∃ l a b p q,idx x.Ls k = some l ∧ idx x.Bs l.A = some a ∧ idx a.Ps l.P = some p ∧ p.Up = true ∧ idx x.Bs l.B = some b ∧ idx b.Ps l.Q = some q ∧ q.Up = true := by
 unfold ZE at h
 simp only [zQ,Option.bind_some] at h
 cases hc : (decide (0 ≤ k) && decide (k ≤ IntKind.wrap .i64 ((x.Ls.length : Int) - 1))) with
 | false => rw [hc] at h; cases h
 | true =>
  simp only [hc,Bool.not_true,cond_false] at h
  obtain ⟨l,hl,h⟩ := bind_some h
  obtain ⟨u,hu,h⟩ := bind_some h
  cases u with
  | false => cases h
  | true =>
   simp only [cond_true] at h
   obtain ⟨u',hu',h⟩ := bind_some h
   have : u' = true := Option.some.inj h
   subst this
   obtain ⟨a,p,a1,a2,a3,_⟩ := zD0 n x _ _ hu
   obtain ⟨b,q,b1,b2,b3,_⟩ := zD0 n x _ _ hu'
   exact ⟨l,a,b,p,q,hl,a1,a2,a3,b1,b2,b3⟩
theorem zFX {α : Type} {xs : List α} {i : Int} {v : α} (h : idx xs i = some v) : 0 ≤ i ∧ i < xs.length := by
 obtain ⟨g1,g2⟩ := zI h
 have := (List.getElem?_eq_some_iff.1 g2).1
 omega
theorem zAV {c : Bool} {x : Option Bool} (h : (bif c then x else some false) = some true) : c = true ∧ x = some true := by
 cases c with
 | true => exact ⟨rfl,h⟩
 | false => cases h
theorem zHN {L : Nat → Int → Option (Unit ⊕ Bool)} {N : Nat} {P : Nat → Prop} (h0 : ∀ k,L 0 k = none) (hs : ∀ m (k : Nat) o,k < N → L (m + 1) (k : Int) = some o → o = .inr false ∨ (P k ∧ L m ((k + 1 : Nat) : Int) = some o)) (he : ∀ m o,L (m + 1) (N : Int) = some o → o = .inl ()) :
  ∀ (m k : Nat) o,k ≤ N → L m (k : Int) = some o → o = .inr false ∨ (o = .inl () ∧ ∀ j,k ≤ j → j < N → P j)
 | 0,k,o,_,h => by rw [h0] at h; cases h
 | m + 1,k,o,hk,h => by
  by_cases hlt : k < N
  ·rcases hs m k o hlt h with e | ⟨hp,h⟩
   ·exact .inl e
   ·rcases zHN h0 hs he m (k + 1) o (by omega) h with e | ⟨e,h2⟩
    ·exact .inl e
    ·refine .inr ⟨e,fun j hj hj2 => ?_⟩
     by_cases hjk : j = k
     ·subst hjk; exact hp
     ·exact h2 j (by omega) hj2
  ·have : k = N := by omega
   subst this
   exact .inr ⟨he m o h,fun j hj hj2 => by omega⟩
theorem zE6 (n : Nat) (x : zA) (hl : x.Ps.length ≤ 1048580) {o : Unit ⊕ Bool} (h : zn n n x 0 = some o) : o = .inr false ∨ (o = .inl () ∧ ∀ j (hj : j < x.Ps.length),qF n x.Ps[j] = some true) := by
 rcases zHN (L := fun m k => zn n m x k) (N := x.Ps.length) (P := fun j => ∀ hj : j < x.Ps.length,qF n x.Ps[j] = some true) (fun k => rfl) (fun m k o hk h => by
  simp only [zn] at h
  rw [zp hk,cond_true,zK hk,Option.bind_some,zT (by omega : k ≤ 1099511627776)] at h
  obtain ⟨b,hb⟩ := zEi n x.Ps[k]
  rw [hb,Option.bind_some] at h
  cases b with
  | true => exact .inr ⟨fun _ => hb,h⟩
  | false => cases h; exact .inl rfl) (fun m o h => by
  simp only [zn] at h
  rw [zc] at h; cases h; rfl) n 0 o (by omega) h with e | ⟨e,h2⟩
 ·exact .inl e
 ·exact .inr ⟨e,fun j hj => h2 j (by omega) hj hj⟩
theorem qS (n : Nat) (x : zA) (hl : x.Ps.length ≤ 1048580) (h : zS n x = some true) : 1 ≤ x.Ps.length ∧ x.Ps.length ≤ 6 ∧ 1 ≤ x.Id ∧ x.Id ≤ 99 ∧ x.Name.size ≤ 10 ∧ ZI n x.F = some true ∧ Zv n x.V (x.Ps.length : Int) = some true ∧
  (0 ≤ x.Tk ∧ x.Tk ≤ 1000000) ∧ (0 ≤ x.Pa ∧ x.Pa ≤ 1000000) ∧ (0 ≤ x.Wo ∧ x.Wo ≤ 1000000) ∧ (0 ≤ x.Dr ∧ x.Dr ≤ 1000000) ∧ (0 ≤ x.Ve ∧ x.Ve ≤ 1000000) ∧ ∀ j (hj : j < x.Ps.length),qF n x.Ps[j] = some true := by
 unfold zS at h
 obtain ⟨o,ho,h⟩ := bind_some h
 rcases zE6 n x hl ho with rfl | ⟨rfl,hp⟩
 ·cases h
 ·simp only [Z9,Qm,zQ,Option.bind_some] at h
  obtain ⟨h1,h⟩ := zAV h
  obtain ⟨h2,h⟩ := zAV h
  obtain ⟨h3,h⟩ := zAV h
  obtain ⟨b4,h4,h⟩ := bind_some h
  obtain ⟨rfl,h⟩ := zAV h
  obtain ⟨b5,h5,h⟩ := bind_some h
  obtain ⟨rfl,h⟩ := zAV h
  obtain ⟨b6,h6,h⟩ := bind_some h
  cases h
  obtain ⟨h7,h6⟩ := zAV h6
  obtain ⟨h8,h6⟩ := zAV h6
  obtain ⟨h9,h6⟩ := zAV h6
  obtain ⟨h10,h6⟩ := zAV h6
  have h11 := Option.some.inj h6
  simp only [Bool.and_eq_true,decide_eq_true_eq] at h1 h2 h3 h7 h8 h9 h10 h11
  exact ⟨by omega,by omega,h1.1,h1.2,by omega,h4,h5,h7,h8,h9,h10,h11,hp⟩
theorem zFD (n : Nat) (z : Int) (h0 : 0 ≤ z) (h1 : z ≤ 1000000) : ∃ y,YO n z = some y ∧ zA0 n z = some y ∧ 0 ≤ y ∧ y ≤ 1000000 := by
 unfold YO zA0
 rw [wrap64 (by omega) (by omega)]
 by_cases h : z ≥ 1000000
 ·rw [decide_eq_true h,if_pos (by omega)]; exact ⟨z,rfl,by rw [show z = 1000000 by omega],h0,h1⟩
 ·rw [decide_eq_false h,if_neg (by omega)]; exact ⟨_,rfl,rfl,by omega,by omega⟩
theorem zFU {α β : Type} {p : α → Bool} {L : Nat → Int → List α → Option (List α ⊕ β)} (xs : List α) (hx : xs.length ≤ 134217728)
  (h : ∀ m (k : Nat) (acc : List α) (hk : k < xs.length),acc.length ≤ k → L (m + 1) k acc = L m ((k + 1 : Nat) : Int) (acc ++ if p xs[k] then [xs[k]] else [])) (he : ∀ m (acc : List α),L (m + 1) (xs.length : Int) acc = some (.inl acc)) :
  ∀ (m k : Nat) (acc : List α),k ≤ xs.length → xs.length < m + k → acc.length ≤ k → L m k acc = some (.inl (acc ++ (xs.drop k).filter p))
 | 0,k,acc,h1,h2,h3 => by omega
 | m + 1,k,acc,h1,h2,h3 => by
  by_cases hk : k < xs.length
  ·rw [h m k acc hk h3,zFU xs hx h he m (k + 1) _ (by omega) (by omega) (by split <;> simp <;> omega),List.drop_eq_getElem_cons hk,List.filter_cons,List.append_assoc]
   split <;> simp
  ·have : k = xs.length := by omega
   subst this
   rw [he m acc]
   simp
theorem zAE (n : Nat) (xs : List zB) (p : Int) (h : xs.length ≤ 134217728) (hn : xs.length < n) : Yw n xs p = some (xs.filter fun v => v.Sc || v.Port != p) := by
 have := zFU (p := fun v : zB => v.Sc || v.Port != p) (L := fun m k acc => qN n m xs p k acc) xs h (fun m k acc hk ha => by
  simp only [qN]
  rw [zp hk,cond_true,zK hk,Option.bind_some,zT (by omega : k ≤ 1099511627776)]
  have hg : ∀ v : zB,decide (acc.length + [v].length ≤ 268435456) = true := fun v => decide_eq_true (by simp; omega)
  simp only [Option.bind_some,hg,cond_true]
  cases hs : xs[k].Sc <;> cases hq : (xs[k].Port != p) <;> simp [hs,hq]) (fun m acc => by simp only [qN]; rw [zc]; rfl) n 0 [] (by omega) (by omega) (by simp)
 unfold Yw
 rw [show qN n n xs p 0 [] = _ from this]
 simp [Qy]
theorem zFJ (n : Nat) (xs : List zB) (p : Int) (h : xs.length ≤ 134217728) (hn : xs.length < n) : Yh n xs p = some (xs.filter fun v => v.Sc || v.Port != p) := by
 have := zFU (p := fun v : zB => v.Sc || v.Port != p) (L := fun m k acc => qM n m xs p k acc) xs h (fun m k acc hk ha => by
  simp only [qM]
  rw [zp hk,cond_true,zK hk,Option.bind_some,zT (by omega : k ≤ 1099511627776)]
  have hg : ∀ v : zB,decide (acc.length + [v].length ≤ 268435456) = true := fun v => decide_eq_true (by simp; omega)
  simp only [Option.bind_some,hg,cond_true]
  cases hs : xs[k].Sc <;> cases hq : (xs[k].Port != p) <;> simp [hs,hq]) (fun m acc => by simp only [qM]; rw [zc]; rfl) n 0 [] (by omega) (by omega) (by simp)
 unfold Yh
 rw [show qM n n xs p 0 [] = _ from this]
 simp [Qv]
theorem Jp (n : Nat) (bits : Int) (x : zA) (h : x.Ps.length ≤ 6) : ∀ (m k : Nat) (ys : List zB),k ≤ x.Ps.length → x.Ps.length < m + k → ys.length ≤ 134217728 → ys.length < n → ∃ zs : List zB,z4 n m bits x k ys = some (.inl zs) ∧ qZ n m bits x k ys = some (.inl zs) ∧ zs.length ≤ ys.length ∧ (∀ v ∈ zs,v ∈ ys) ∧ ∀ v ∈ zs,v.Sc = true ∨ ∀ j : Nat,k ≤ j → j < x.Ps.length → zC9 bits j = false → v.Port ≠ j
 | 0,k,ys,h1,h2,h3,h4 => by omega
 | m + 1,k,ys,h1,h2,h3,h4 => by
  rw [z4,qZ]
  by_cases hk : k < x.Ps.length
  ·rw [zp hk,cond_true,cond_true,zCE n bits k (by omega),zGK n bits k (by omega),Option.bind_some,Option.bind_some,zT (by omega : k ≤ 1099511627776),zAE n ys _ h3 h4,zFJ n ys _ h3 h4]
   cases hb : zC9 bits k with
   | true =>
    simp only [Bool.not_true,cond_false]
    obtain ⟨zs,e1,e2,e3,e4,e5⟩ := Jp n bits x h m (k + 1) ys (by omega) (by omega) h3 h4
    refine ⟨zs,e1,e2,e3,e4,fun v hv => (e5 v hv).imp id fun h5 j hj hj2 hj3 => ?_⟩
    by_cases hjk : j = k
    ·subst hjk; rw [hb] at hj3; cases hj3
    ·exact h5 j (by omega) hj2 hj3
   | false =>
    simp only [Bool.not_false,cond_true,Option.bind_some]
    have hle := List.length_filter_le (fun v : zB => v.Sc || v.Port != (k : Int)) ys
    obtain ⟨zs,e1,e2,e3,e4,e5⟩ := Jp n bits x h m (k + 1) (ys.filter fun v => v.Sc || v.Port != (k : Int)) (by omega) (by omega) (by omega) (by omega)
    refine ⟨zs,e1,e2,by omega,fun v hv => (List.mem_filter.1 (e4 v hv)).1,fun v hv => ?_⟩
    have hf := (List.mem_filter.1 (e4 v hv)).2
    rcases e5 v hv with h5 | h5
    ·exact .inl h5
    ·cases hs : v.Sc with
     | true => exact .inl rfl
     | false =>
      refine .inr fun j hj hj2 hj3 => ?_
      by_cases hjk : j = k
      ·subst hjk; rw [hs] at hf; simpa using hf
      ·exact h5 j (by omega) hj2 hj3
  ·have he : k = x.Ps.length := by omega
   subst he
   rw [zc]
   exact ⟨ys,rfl,rfl,Nat.le_refl _,fun v hv => hv,fun v hv => .inr fun j hj hj2 => by omega⟩
theorem zE8 (n : Nat) (x : zA) (h : x.Ps.length ≤ 6) (hf : x.F.length ≤ 134217728) (hn : x.F.length < n) (hn6 : 6 < n) (hv0 : 0 ≤ x.Ve) (hv1 : x.Ve ≤ 1000000) : ∃ (zs : List zB) (v b : Int),ql n x = some ⟨x.Id,x.Name,x.Ps,zs,x.V,x.Tk,x.Pa,x.Wo,x.Dr,v⟩ ∧ qp n x = some ⟨x.Id,x.Name,x.Ps,zs,x.V,x.Tk,x.Pa,x.Wo,x.Dr,v⟩ ∧
  zs.length ≤ x.F.length ∧ (∀ u ∈ zs,u ∈ x.F) ∧ 0 ≤ v ∧ v ≤ 1000000 ∧ ZX n x.Id x.Ps = some b ∧ ∀ u ∈ zs,u.Sc = true ∨ ∀ j : Nat,j < x.Ps.length → zC9 b j = false → u.Port ≠ j := by
 obtain ⟨v,h1,h2,h3,h4⟩ := zFD n x.Ve hv0 hv1
 obtain ⟨e,b,hb⟩ := zHR n x.Id x.Ps (by omega) (by omega)
 obtain ⟨zs,k1,k2,k3,k4,k5⟩ := Jp n b x h n 0 x.F (by omega) (by omega) hf hn
 refine ⟨zs,v,b,?_,?_,k3,k4,h3,h4,hb,fun u hu => (k5 u hu).imp id fun h5 j hj => h5 j (by omega) hj⟩
 ·unfold ql
  rw [h1,Option.bind_some,hb,Option.bind_some,show z4 n n b x 0 x.F = _ from k1]
  rfl
 ·unfold qp
  rw [h2,Option.bind_some,e,hb,Option.bind_some,show qZ n n b x 0 x.F = _ from k2]
  rfl
theorem Jo (n : Nat) (x : zA) (h : x.sz ≤ 268435456) : Z4 n x = some x := by
 have hs : x.Name.size + x.Ps.length + x.F.length + x.V.sz = x.sz := rfl
 unfold Z4 zCD
 rw [zIL n x.V (by omega),decide_eq_true (by simp; omega),decide_eq_true (by simp; omega)]
 rfl
theorem YR (n : Nat) (x : zA) (h : x.sz ≤ 268435456) : q5 n x = some x := by
 have hs : x.Name.size + x.Ps.length + x.F.length + x.V.sz = x.sz := rfl
 unfold q5 zBb
 rw [zGJ n x.V (by omega),decide_eq_true (by simp; omega),decide_eq_true (by simp; omega)]
 rfl
theorem zC6 (n : Nat) (x : zA) (p : Int) (b : Bool) (hb : zS n x = some b) (hl : x.Ps.length ≤ 1048580) : YC n x p = some (b && (decide (0 ≤ p) && decide (p < x.Ps.length))) := by
 unfold YC
 rw [hb,Option.bind_some,zQ,wrap64 (by omega) (by omega)]
 have : decide (p ≤ (x.Ps.length : Int) - 1) = decide (p < x.Ps.length) := by
  by_cases h : p < x.Ps.length
  ·rw [decide_eq_true h,decide_eq_true (by omega)]
  ·rw [decide_eq_false h,decide_eq_false (by omega)]
 rw [this]
 cases b <;> rfl
theorem zDp (n : Nat) (x : zA) (p : Int) (b : Bool) (hb : QC n x = some b) (hl : x.Ps.length ≤ 1048580) : JM n x p = some (b && (decide (0 ≤ p) && decide (p < x.Ps.length))) := by
 unfold JM
 rw [hb,Option.bind_some,qe,zQ,wrap64 (by omega) (by omega)]
 have : decide (p ≤ (x.Ps.length : Int) - 1) = decide (p < x.Ps.length) := by
  by_cases h : p < x.Ps.length
  ·rw [decide_eq_true h,decide_eq_true (by omega)]
  ·rw [decide_eq_false h,decide_eq_false (by omega)]
 rw [this]
 cases b <;> rfl
theorem zJm (n : Nat) (x : zA) (hn : 1048577 < n) (hx : x.sz ≤ 1048576) (hb : zS n x = some true) (ps : List Pt) (hp : ps.length = x.Ps.length) (fs : List zB) (hf : fs.length ≤ x.F.length) (t : Int) : ∃ (zs : List zB) (v b : Int),ql n ⟨x.Id,x.Name,ps,fs,x.V,t,x.Pa,x.Wo,x.Dr,x.Ve⟩ = some ⟨x.Id,x.Name,ps,zs,x.V,t,x.Pa,x.Wo,x.Dr,v⟩ ∧
  qp n ⟨x.Id,x.Name,ps,fs,x.V,t,x.Pa,x.Wo,x.Dr,x.Ve⟩ = some ⟨x.Id,x.Name,ps,zs,x.V,t,x.Pa,x.Wo,x.Dr,v⟩ ∧ zs.length ≤ fs.length ∧ (∀ u ∈ zs,u ∈ fs) ∧ 0 ≤ v ∧ v ≤ 1000000 ∧ ZX n x.Id ps = some b ∧ ∀ u ∈ zs,u.Sc = true ∨ ∀ j : Nat,j < ps.length → zC9 b j = false → u.Port ≠ j := by
 have hs : x.Name.size + x.Ps.length + x.F.length + x.V.sz = x.sz := rfl
 obtain ⟨p1,p2,p3,p4,p5,p6,p7,p8,p9,p10,p11,p12,p13⟩ := qS n x (by omega) hb
 exact zE8 n ⟨x.Id,x.Name,ps,fs,x.V,t,x.Pa,x.Wo,x.Dr,x.Ve⟩ (by simp only; omega) (by simp only; omega) (by simp only; omega) (by omega) p12.1 p12.2
theorem zCH (n : Nat) (xs : List zB) (h : xs.length ≤ 134217728) (ha : ∀ v ∈ xs,0 ≤ v.Age ∧ v.Age ≤ 1000) : ∀ (m k : Nat) (acc : List zB),k ≤ xs.length → xs.length < m + k → acc.length ≤ k → ∃ zs,qV n m xs k acc = some (.inl zs) ∧ ZG n m xs k acc = some (.inl zs) ∧ zs.length ≤ xs.length
 | 0,k,acc,h1,h2,h3 => by omega
 | m + 1,k,acc,h1,h2,h3 => by
  rw [qV,ZG]
  by_cases hk : k < xs.length
  ·rw [zp hk,cond_true,cond_true,zK hk,Option.bind_some,Option.bind_some,zT (by omega : k ≤ 1099511627776)]
   have hg : ∀ v : zB,decide (acc.length + [v].length ≤ 268435456) = true := fun v => decide_eq_true (by simp; omega)
   simp only [hg,cond_true]
   have ih := fun acc' h3' => zCH n xs h ha m (k + 1) acc' (by omega) (by omega) h3'
   cases hs : xs[k].Sc with
   | true =>
    simp only [Bool.not_true,cond_true,cond_false]
    exact ih (acc ++ [xs[k]]) (by simp; omega)
   | false =>
    simp only [Bool.not_false,cond_true,cond_false]
    by_cases hl : xs[k].Age < 4
    ·rw [decide_eq_true hl,decide_eq_false (by omega : ¬ xs[k].Age ≥ 4)]
     exact ih _ (by simp; omega)
    ·rw [decide_eq_false hl,decide_eq_true (by omega : xs[k].Age ≥ 4)]
     exact ih _ (by omega)
  ·have he : k = xs.length := by omega
   subst he
   rw [zc]
   exact ⟨acc,rfl,rfl,by omega⟩
theorem zGY (n : Nat) (xs : List zB) (h : xs.length ≤ 134217728) (hn : xs.length < n) (ha : ∀ v ∈ xs,0 ≤ v.Age ∧ v.Age ≤ 1000) : ∃ zs,YM n xs = some zs ∧ zAY n xs = some zs ∧ zs.length ≤ xs.length := by
 obtain ⟨zs,h1,h2,h3⟩ := zCH n xs h ha n 0 [] (by omega) (by omega) (by simp)
 refine ⟨zs,?_,?_,h3⟩
 ·unfold YM; rw [show qV n n xs 0 [] = _ from h1]; rfl
 ·unfold zAY; rw [show ZG n n xs 0 [] = _ from h2]; rfl
theorem zEF (n : Nat) (xs : List zB) (h : xs.length ≤ 1048580) (hok : ZI n xs = some true) : xs.length ≤ 12 ∧ (∀ j (hj : j < xs.length),Za n xs[j] = some true) ∧ ∀ j (hj : j + 1 < xs.length),ZZ n xs[j] xs[j + 1].Tag xs[j + 1].Mac = some true := by
 unfold ZI at hok
 obtain ⟨o,ho,hok⟩ := bind_some hok
 rcases zHN (L := fun m k => qC n m xs k) (N := xs.length) (P := fun k => ∀ hk : k < xs.length,Za n xs[k] = some true ∧ ∀ j (e : k = j + 1),ZZ n (xs[j]'(by omega)) xs[k].Tag xs[k].Mac = some true) (fun k => rfl) (fun m k o hk h => by
  simp only [qC] at h
  rw [zp hk,cond_true,zK hk,Option.bind_some,zT (by omega : k ≤ 1099511627776)] at h
  obtain ⟨b,hb⟩ := zEI n xs[k]
  rw [hb,Option.bind_some] at h
  cases b with
  | false => cases h; exact .inl rfl
  | true =>
   simp only [Bool.not_true,cond_false] at h
   cases k with
   | zero => exact .inr ⟨fun _ => ⟨hb,fun j e => by omega⟩,h⟩
   | succ k =>
    have hw2 : IntKind.wrap .i64 (((k + 1 : Nat) : Int) - 1) = (k : Int) := by rw [wrap64 (by omega) (by omega)]; omega
    have hpos : decide (((k + 1 : Nat) : Int) > 0) = true := decide_eq_true (by omega)
    rw [hpos,hw2,cond_true,zK (show k < xs.length by omega),Option.bind_some,Option.bind_some,Option.bind_some] at h
    obtain ⟨c,hc⟩ := zDJ n (xs[k]'(by omega)) xs[k + 1].Tag xs[k + 1].Mac
    rw [hc,Option.bind_some] at h
    cases c with
    | false => cases h; exact .inl rfl
    | true => exact .inr ⟨fun _ => ⟨hb,fun j e => (show k = j by omega) ▸ hc⟩,h⟩) (fun m o h => by
  simp only [qC] at h
  rw [zc] at h; cases h; rfl) n 0 o (by omega) ho with rfl | ⟨rfl,hp⟩
 ·cases hok
 ·have h12 := of_decide_eq_true (Option.some.inj hok)
  exact ⟨by omega,fun j hj => (hp j (by omega) hj hj).1,fun j hj => (hp (j + 1) (by omega) hj hj).2 j rfl⟩
theorem zIK (n : Nat) (v : zB) (h : Za n v = some true) : (1 ≤ v.Tag ∧ v.Tag ≤ 99) ∧ (1 ≤ v.Mac ∧ v.Mac ≤ 9999) ∧ (0 ≤ v.Port ∧ v.Port ≤ 7) ∧ (0 ≤ v.Age ∧ v.Age ≤ 4) ∧ (v.Sc = true → v.Age = 0) := by
 unfold Za at h
 simp only [zQ,Option.bind_some] at h
 obtain ⟨h1,h⟩ := zAV h
 obtain ⟨h2,h⟩ := zAV h
 obtain ⟨h3,h⟩ := zAV h
 obtain ⟨h4,h⟩ := zAV h
 simp only [Bool.and_eq_true,decide_eq_true_eq] at h1 h2 h3 h4
 refine ⟨h1,h2,h3,h4,fun hs => ?_⟩
 rw [hs] at h
 simpa using h
theorem zJV (z : Int) : (strOf [z]).size = 1 := rfl
theorem zCG (n : Nat) : ∀ (d m : Nat) (y1 : ByteArray) (y2 : Int),0 ≤ y2 → y2 < 10 ^ d → d < m → y1.size + d ≤ 1000 → y2 ≤ 1099511627776 → ∃ t,Z7 n m y1 y2 = some (.inl t) ∧ t.size ≤ 1000
 | d,0,y1,y2,h0,h1,h2,h3,h4 => by omega
 | d,m + 1,y1,y2,h0,h1,h2,h3,h4 => by
  rw [Z7]
  by_cases hp : y2 > 0
  ·cases d with
   | zero => simp at h1; omega
   | succ d =>
    have hq : Int.tdiv y2 10 = y2 / 10 := Int.tdiv_eq_ediv_of_nonneg h0
    have hw : IntKind.wrap .i64 (y2 / 10) = y2 / 10 := wrap64 (by omega) (by omega)
    rw [decide_eq_true hp,cond_true,show decide ((10 : Int) ≠ 0) = true from rfl,cond_true,cond_true,zJV,decide_eq_true (by omega),cond_true,hq,hw]
    refine zCG n d m _ _ (by omega) ?_ (by omega) ?_ (by omega)
    ·have : (10 : Int) ^ (d + 1) = 10 ^ d * 10 := Int.pow_succ ..
     omega
    ·rw [ByteArray.size_append,zJV]; omega
  ·rw [decide_eq_false hp]
   exact ⟨y1,rfl,by omega⟩
theorem zGV (n : Nat) (hn : 1000 < n) (b : Int) (h0 : 0 < b) (h1 : b ≤ 1099511627776) : ∃ t,Q9 n b = some t := by
 unfold Q9
 rw [decide_eq_false (by omega)]
 obtain ⟨t,ht,hs⟩ := zCG n 20 n ⟨#[]⟩ b (by omega) (by omega) (by omega) (by decide) h1
 rw [ht]
 simp only [cond_false,Option.bind_some,YK]
 have : (⟨#[109]⟩ : ByteArray).size = 1 := rfl
 rw [this,decide_eq_true (by omega)]
 exact ⟨_,rfl⟩
theorem zFl (n : Nat) (xs : List Link) (b : Int) (h : xs.length ≤ 268435456) (hn : xs.length < n) (h0 : 0 ≤ b) (h1 : b + (4 : Nat) * xs.length ≤ 1099511627776) : Yp n xs b = some (b + (4 : Nat) * xs.length,ZA (fun _ b => (⟨b,b + 1,b + 2,b + 3⟩ : Link)) 4 xs b) := by
 have := zAp (L := qw n) (f := fun _ b => (⟨b,b + 1,b + 2,b + 3⟩ : Link)) (c := 4) (fun m k ys b v hk hl hv h0 h1 => by
  rw [qw,zp hk,Qu hv]
  simp (disch := omega) only [cond_true,Option.bind_some,List.set_set,zDk hk,wrap64,zT,Int.toNat_natCast]
  simp only [Int.add_assoc,Int.reduceAdd,show ((4 : Nat) : Int) = 4 from rfl]
  rfl)
  (fun m ys b => by rw [qw,zc]; rfl) xs n [] b (by simpa using h) h0 h1 hn
 unfold Yp
 simp only [List.length_nil,List.nil_append] at this
 rw [show qw n n 0 xs b = _ from this]
 rfl
theorem zGU (n : Nat) (xs : List Say) (b : Int) (h : xs.length ≤ 268435456) (hn : xs.length < n) (h0 : 0 ≤ b) (h1 : b + (7 : Nat) * xs.length ≤ 1099511627776) : JT n xs b = some (b + (7 : Nat) * xs.length,ZA (fun _ b => (⟨b,Int.tmod (b + 1) 3 == 0,⟨b + 2,b + 3,b + 4,b + 5,b + 6⟩⟩ : Say)) 7 xs b) := by
 have := zAp (L := q9 n) (f := fun _ b => (⟨b,Int.tmod (b + 1) 3 == 0,⟨b + 2,b + 3,b + 4,b + 5,b + 6⟩⟩ : Say)) (c := 7) (fun m k ys b v hk hl hv h0 h1 => by
  rw [q9,zp hk,Qu hv]
  simp (disch := omega) only [cond_true,Option.bind_some,List.set_set,zDk hk,wrap64,zT,Int.toNat_natCast,show decide ((3 : Int) ≠ 0) = true from rfl]
  simp only [Int.add_assoc,Int.reduceAdd,show ((7 : Nat) : Int) = 7 from rfl]
  rfl)
  (fun m ys b => by rw [q9,zc]; rfl) xs n [] b (by simpa using h) h0 h1 hn
 unfold JT
 simp only [List.length_nil,List.nil_append] at this
 rw [show q9 n n 0 xs b = _ from this]
 rfl
theorem zAe (n : Nat) (z : Int) (N : Nat) (h : N ≤ 1048600) : zP n z 0 (IntKind.wrap .i64 ((N : Int) - 1)) = some (decide (0 ≤ z ∧ z < N)) := by
 rw [zQ,wrap64 (by omega) (by omega)]
 by_cases h : 0 ≤ z ∧ z < N
 ·rw [decide_eq_true h,decide_eq_true h.1,decide_eq_true (by omega)]; rfl
 ·rw [decide_eq_false h]
  congr 1
  simp only [Bool.and_eq_false_iff,decide_eq_false_iff_not]; omega
def zx (b p : Int) (l : Link) : Bool := (l.A == b && l.P == p) || (l.B == b && l.Q == p)
def qn (b p : Int) (l : Link) : Nat := (bif l.A == b && l.P == p then 1 else 0) + (bif l.B == b && l.Q == p then 1 else 0)
theorem Qz {b p : Int} {l : Link} : zx b p l = true ↔ (l.A = b ∧ l.P = p) ∨ (l.B = b ∧ l.Q = p) := by simp [zx]
theorem zDg {b p : Int} {l : Link} : zx b p l = true ↔ 0 < qn b p l := by
 unfold zx qn
 cases l.A == b <;> cases l.P == p <;> cases l.B == b <;> cases l.Q == p <;> simp
def qT {α : Type} (f : α → Nat) : List α → Nat
 | [] => 0
 | x :: xs => f x + qT f xs
theorem zEU {α : Type} (f : α → Nat) : ∀ (xs ys : List α),qT f (xs ++ ys) = qT f xs + qT f ys
 | [],ys => by simp [qT]
 | x :: xs,ys => by simp only [List.cons_append,qT,zEU f xs ys]; omega
theorem zF6 {α : Type} (f : α → Nat) : ∀ (xs : List α),(∀ x ∈ xs,f x = 0) → qT f xs = 0
 | [],_ => rfl
 | x :: xs,h => by rw [qT,h x (by simp),zF6 f xs (fun y hy => h y (by simp [hy]))]
theorem zHV {α : Type} (f : α → Nat) : ∀ (xs : List α) (x : α),x ∈ xs → f x ≤ qT f xs
 | y :: xs,x,h => by
  rcases List.mem_cons.1 h with e | h
  ·subst e; rw [qT]; omega
  ·have := zHV f xs x h; rw [qT]; omega
theorem zHW {α : Type} (f : α → Nat) (xs : List α) (i j : Nat) (hij : i < j) (hj : j < xs.length) : f (xs[i]'(by omega)) + f xs[j] ≤ qT f xs := by
 have e : xs = xs.take j ++ xs.drop j := (List.take_append_drop j xs).symm
 have h1 : f (xs[i]'(by omega)) ≤ qT f (xs.take j) := zHV f _ _ (by
  have : (xs.take j)[i]? = some (xs[i]'(by omega)) := by rw [List.getElem?_take,if_pos hij]; exact List.getElem?_eq_getElem _
  exact List.mem_of_getElem? this)
 have h2 : f xs[j] ≤ qT f (xs.drop j) := zHV f _ _ (List.drop_eq_getElem_cons hj ▸ List.mem_cons_self)
 have h3 := zEU f (xs.take j) (xs.drop j)
 rw [← e] at h3
 omega
theorem zNC {α : Type} (f : α → Nat) (xs : List α) (k : Nat) (hk : k < xs.length) (h : ∀ j (hj : j < xs.length),j ≠ k → f xs[j] = 0) : qT f xs = f xs[k] := by
 have e : xs = xs.take k ++ xs[k] :: xs.drop (k + 1) := by rw [← List.drop_eq_getElem_cons hk]; exact (List.take_append_drop k xs).symm
 have h1 : qT f (xs.take k) = 0 := zF6 f _ fun x hx => by
  obtain ⟨i,hi,rfl⟩ := List.getElem_of_mem hx
  simp only [List.length_take] at hi
  rw [List.getElem_take]
  exact h i (by omega) (by omega)
 have h2 : qT f (xs.drop (k + 1)) = 0 := zF6 f _ fun x hx => by
  obtain ⟨i,hi,rfl⟩ := List.getElem_of_mem hx
  simp only [List.length_drop] at hi
  rw [List.getElem_drop]
  exact h _ (by omega) (by omega)
 have h3 := zEU f (xs.take k) (xs[k] :: xs.drop (k + 1))
 rw [← e] at h3
 rw [qT,h1,h2] at h3
 omega
theorem zHk (xs : List Link) (hne : ∀ l ∈ xs,l.A ≠ l.B) : (∀ k (hk : k < xs.length),qT (qn xs[k].A xs[k].P) xs = 1 ∧ qT (qn xs[k].B xs[k].Q) xs = 1) ↔ (∀ k (hk : k < xs.length),(xs.take k).any (zx xs[k].A xs[k].P) = false ∧ (xs.take k).any (zx xs[k].B xs[k].Q) = false) := by
 have own1 : ∀ k (hk : k < xs.length),qn xs[k].A xs[k].P xs[k] = 1 := fun k hk => by
  have := hne xs[k] (List.getElem_mem hk)
  have h2 : (xs[k].B == xs[k].A) = false := by simpa using fun e => this e.symm
  simp [qn,h2]
 have own2 : ∀ k (hk : k < xs.length),qn xs[k].B xs[k].Q xs[k] = 1 := fun k hk => by
  have := hne xs[k] (List.getElem_mem hk)
  have h2 : (xs[k].A == xs[k].B) = false := by simpa using this
  simp [qn,h2]
 constructor
 ·intro h k hk
  have key : ∀ b p,qn b p xs[k] = 1 → qT (qn b p) xs = 1 → (xs.take k).any (zx b p) = false := fun b p h1 h2 => by
   rw [List.any_eq_false]
   intro l hl hu
   obtain ⟨i,hi,rfl⟩ := List.getElem_of_mem hl
   simp only [List.length_take] at hi
   rw [List.getElem_take] at hu
   have := zHW (qn b p) xs i k (by omega) hk
   have := zDg.1 hu
   omega
  exact ⟨key _ _ (own1 k hk) (h k hk).1,key _ _ (own2 k hk) (h k hk).2⟩
 ·intro h k hk
  have key : ∀ b p,qn b p xs[k] = 1 → zx b p xs[k] = true → (xs.take k).any (zx b p) = false → qT (qn b p) xs = 1 := fun b p h1 hu h2 => by
   rw [zNC (qn b p) xs k hk (fun j hj hjk => ?_),h1]
   rw [List.any_eq_false] at h2
   refine Classical.byContradiction fun hc => ?_
   have hpos := zDg.2 (show 0 < qn b p xs[j] by omega)
   by_cases hlt : j < k
   ·refine h2 xs[j] ?_ hpos
    have : (xs.take k)[j]? = some xs[j] := by rw [List.getElem?_take,if_pos hlt]; exact List.getElem?_eq_getElem _
    exact List.mem_of_getElem? this
   ·have hkj : k < j := by omega
    have hmem : xs[k] ∈ xs.take j := by
     have : (xs.take j)[k]? = some xs[k] := by rw [List.getElem?_take,if_pos hkj]; exact List.getElem?_eq_getElem _
     exact List.mem_of_getElem? this
    have hh := h j hj
    rw [List.any_eq_false,List.any_eq_false] at hh
    rcases Qz.1 hpos with ⟨e1,e2⟩ | ⟨e1,e2⟩
    ·exact hh.1 _ hmem (by rw [e1,e2]; exact hu)
    ·exact hh.2 _ hmem (by rw [e1,e2]; exact hu)
  exact ⟨key _ _ (own1 k hk) (Qz.2 (.inl ⟨rfl,rfl⟩)) (h k hk).1,key _ _ (own2 k hk) (Qz.2 (.inr ⟨rfl,rfl⟩)) (h k hk).2⟩
theorem zDo (n : Nat) (xs : List Link) (b p : Int) (h : xs.length ≤ 1048600) : ∀ (m k : Nat),k ≤ xs.length → xs.length < m + k → ZS n m xs b p k = some (if (xs.drop k).any (zx b p) then .inr true else .inl ())
 | 0,k,h1,h2 => by omega
 | m + 1,k,h1,h2 => by
  rw [ZS]
  by_cases hk : k < xs.length
  ·have ih := zDo n xs b p h m (k + 1) (by omega) (by omega)
   rw [zp hk,cond_true,zK hk,Option.bind_some,zT (by omega : k ≤ 1099511627776),ih,List.drop_eq_getElem_cons hk,List.any_cons]
   unfold zx
   cases xs[k].A == b <;> cases xs[k].P == p <;> cases xs[k].B == b <;> cases xs[k].Q == p <;> rfl
  ·have he : k = xs.length := by omega
   subst he
   rw [zc]; simp
theorem zEc (n : Nat) (xs : List Link) (b p : Int) (h : xs.length ≤ 1048600) (hn : xs.length < n) : Ji n xs b p = some (xs.any (zx b p)) := by
 unfold Ji
 rw [show ZS n n xs b p 0 = _ from zDo n xs b p h n 0 (by omega) (by omega),List.drop_zero]
 cases xs.any (zx b p) <;> rfl
theorem zCM (n : Nat) (x : Net) (b p : Int) (h : x.Ls.length ≤ 1048600) : ∀ (m k c : Nat),k ≤ x.Ls.length → x.Ls.length < m + k → c ≤ 2 * k → qW n m x b p k c = some (.inl ((c + qT (qn b p) (x.Ls.drop k) : Nat) : Int))
 | 0,k,c,h1,h2,h3 => by omega
 | m + 1,k,c,h1,h2,h3 => by
  rw [qW]
  by_cases hk : k < x.Ls.length
  ·have ih := fun c' h3' => zCM n x b p h m (k + 1) c' (by omega) (by omega) h3'
   have hw : ∀ z : Nat,z ≤ 4194304 → IntKind.wrap .i64 ((z : Int) + 1) = ((z + 1 : Nat) : Int) := fun z hz => zT (by omega)
   rw [zp hk,cond_true,zK hk,Option.bind_some,List.drop_eq_getElem_cons hk,qT]
   simp only [QP,hw k (by omega),hw c (by omega)]
   have hw2 := hw (c + 1) (by omega)
   simp only [hw2]
   unfold qn
   generalize (x.Ls[k].A == b) = qA
   generalize (x.Ls[k].P == p) = qP
   generalize (x.Ls[k].B == b) = qB
   generalize (x.Ls[k].Q == p) = qQ
   have z0 := ih c (by omega)
   have z1 := ih (c + 1) (by omega)
   have z2 := ih (c + 1 + 1) (by omega)
   unfold qn at z0 z1 z2
   cases qA <;> cases qP <;> cases qB <;> cases qQ <;> simp only [cond_true,cond_false,Bool.and_true,Bool.and_false,Bool.true_and,Bool.false_and,Nat.zero_add,Nat.add_zero,z0,z1,z2] <;> simp only [Nat.add_assoc,Nat.reduceAdd]
  ·have he : k = x.Ls.length := by omega
   subst he
   rw [zc]; simp [qT]
theorem zDI (n : Nat) (x : Net) (b p : Int) (h : x.Ls.length ≤ 1048600) (hn : x.Ls.length < n) : Yd n x b p = some ((qT (qn b p) x.Ls : Nat) : Int) := by
 unfold Yd
 rw [show qW n n x b p 0 0 = _ from zCM n x b p h n 0 0 (by omega) (by omega) (by omega),List.drop_zero,Nat.zero_add]
 rfl
theorem zHX {b p : Int} : ∀ {xs : List Link},(qT (qn b p) xs = 0 ↔ xs.any (zx b p) = false)
 | [] => by simp [qT]
 | l :: xs => by
  have ih := zHX (b := b) (p := p) (xs := xs)
  have h := zDg (b := b) (p := p) (l := l)
  rw [qT,List.any_cons,Bool.or_eq_false_iff,← ih]
  cases hu : zx b p l with
  | true => have := h.1 hu; constructor <;> intro h' <;> first | omega | (exact absurd h'.1 (by simp))
  | false =>
   have : qn b p l = 0 := by
    refine Classical.byContradiction fun hc => ?_
    have := h.2 (by omega)
    rw [hu] at this; cases this
   constructor
   ·intro h'; exact ⟨rfl,by omega⟩
   ·intro h'; omega
theorem QH {α : Type} {L : Nat → Int → Option (α ⊕ Bool)} {N : Nat} {P : Nat → Prop} (hs : ∀ m (k : Nat),k < N → (P k ∧ L (m + 1) (k : Int) = L m ((k + 1 : Nat) : Int)) ∨ (¬ P k ∧ L (m + 1) (k : Int) = some (.inr false))) (he : ∀ m,∃ a,L (m + 1) (N : Int) = some (.inl a)) :
  ∀ (m k : Nat),k ≤ N → N < m + k → (∃ a,L m (k : Int) = some (.inl a) ∧ ∀ j,k ≤ j → j < N → P j) ∨ (L m (k : Int) = some (.inr false) ∧ ¬ ∀ j,k ≤ j → j < N → P j)
 | 0,k,h1,h2 => by omega
 | m + 1,k,h1,h2 => by
  by_cases hk : k < N
  ·rcases hs m k hk with ⟨hp,e⟩ | ⟨hp,e⟩
   ·rcases QH hs he m (k + 1) (by omega) (by omega) with ⟨a,h3,h4⟩ | ⟨h3,h4⟩
    ·refine .inl ⟨a,e.trans h3,fun j hj hj2 => ?_⟩
     by_cases hjk : j = k
     ·subst hjk; exact hp
     ·exact h4 j (by omega) hj2
    ·exact .inr ⟨e.trans h3,fun h => h4 fun j hj hj2 => h j (by omega) hj2⟩
   ·exact .inr ⟨e,fun h => hp (h k (Nat.le_refl _) hk)⟩
  ·have : k = N := by omega
   subst this
   obtain ⟨a,ha⟩ := he m
   exact .inl ⟨a,ha,fun j hj hj2 => by omega⟩
def BOk (n : Nat) (x : Net) (k : Nat) : Prop := ∀ hk : k < x.Bs.length,zS n x.Bs[k] = some true ∧ (∀ j (hj : j < k),(x.Bs[j]'(by omega)).Id ≠ x.Bs[k].Id) ∧ ∀ p (hp : p < x.Bs[k].Ps.length),x.Bs[k].Ps[p].Has = true → x.Ls.any (zx k p) = true
theorem zI9 {x : Net} (wx : x.wf) {k : Nat} (hk : k < x.Bs.length) : x.Bs[k].wf := wx.1.2 _ (List.getElem_mem hk)
def Zu (x : Net) (b p : Int) : Option Pt := (idx x.Bs b).bind fun v => idx v.Ps p
theorem zBy {α : Type} {xs : List α} {i : Int} : (∃ v,idx xs i = some v) ↔ 0 ≤ i ∧ i < xs.length := by
 constructor
 ·rintro ⟨v,hv⟩; exact zFX hv
 ·intro h
  obtain ⟨j,rfl⟩ := Int.eq_ofNat_of_zero_le h.1
  exact ⟨_,zK (by omega)⟩
theorem zCZ {α : Type} {xs : List α} {i : Int} (h : ¬ (0 ≤ i ∧ i < xs.length)) : idx xs i = none := by
 cases hc : idx xs i with
 | none => rfl
 | some v => exact absurd (zFX hc) h
def LOk (x : Net) (l : Link) : Prop := l.A ≠ l.B ∧ ∃ p q,Zu x l.A l.P = some p ∧ Zu x l.B l.Q = some q ∧ p.Up = q.Up
theorem zBQ {x : Net} {b p : Int} {q : Pt} (h : Zu x b p = some q) : ∃ v,idx x.Bs b = some v ∧ idx v.Ps p = some q := by
 unfold Zu at h
 exact bind_some h
theorem zH3 {α β γ : Type} {L : Nat → Int → List α → Int → Option ((List α × Int) ⊕ β)} {H : Nat → List α → Int → Int → Option (Int ⊕ γ)} (w : α → Nat) (good : α → Prop)
  (h : ∀ (k : Nat) (ys : List α) (b : Int) (v : α),k < ys.length → ys.length ≤ 268435456 → ys[k]? = some v → good v → 0 < b → b ≤ 274877906944 → ∃ v' c,b ≤ c ∧ c ≤ b + 16 * w v ∧ (∀ m,L (m + 1) k ys b = L m ((k + 1 : Nat) : Int) (ys.set k v') c) ∧ ∀ m (ys' : List α),ys'.length ≤ 268435456 → k < ys'.length → ys'[k]? = some v' → H (m + 1) ys' k b = H m ys' ((k + 1 : Nat) : Int) c)
  (hend : ∀ m (ys : List α) b,L (m + 1) (ys.length : Int) ys b = some (.inl (ys,b))) (hendH : ∀ m (ys : List α) b,H (m + 1) ys (ys.length : Int) b = some (.inl b)) : ∀ (post pre : List α) (b : Int),(pre ++ post).length ≤ 268435456 → (∀ v ∈ post,good v) → 0 < b → b + 16 * qm w post ≤ 274877906944 →
   ∃ (zs : List α) (c : Int),zs.length = post.length ∧ b ≤ c ∧ c ≤ b + 16 * qm w post ∧ (∀ m,post.length < m → L m (pre.length : Int) (pre ++ post) b = some (.inl (pre ++ zs,c))) ∧ ∀ m,post.length < m → H m (pre ++ zs) (pre.length : Int) b = some (.inl c)
 | [],pre,b,h1,h2,h3,h4 => by
  refine ⟨[],b,rfl,by omega,by simp only [qm]; omega,fun m hm => ?_,fun m hm => ?_⟩
  ·obtain ⟨m,rfl⟩ : ∃ m',m = m' + 1 := ⟨m - 1,by have : 0 < m := hm; omega⟩
   rw [List.append_nil,hend m pre b]
  ·obtain ⟨m,rfl⟩ : ∃ m',m = m' + 1 := ⟨m - 1,by have : 0 < m := hm; omega⟩
   rw [List.append_nil,hendH m pre b]
 | v :: post,pre,b,h1,h2,h3,h4 => by
  simp only [qm] at h4
  obtain ⟨v',c,k1,k2,k3,k4⟩ := h pre.length (pre ++ v :: post) b v (by simp) h1 (by simp) (h2 v (by simp)) h3 (by omega)
  obtain ⟨zs,c',e0,e1,e2,e3,e4⟩ := zH3 w good h hend hendH post (pre ++ [v']) c (by simpa using h1) (fun u hu => h2 u (by simp [hu])) (by omega) (by omega)
  refine ⟨v' :: zs,c',by simp [e0],by omega,by simp only [qm]; omega,fun m hm => ?_,fun m hm => ?_⟩
  ·obtain ⟨m,rfl⟩ : ∃ m',m = m' + 1 := ⟨m - 1,by simp only [List.length_cons] at hm; omega⟩
   rw [k3 m,zEh]
   have := e3 m (by simp only [List.length_cons] at hm; omega)
   simpa using this
  ·obtain ⟨m,rfl⟩ : ∃ m',m = m' + 1 := ⟨m - 1,by simp only [List.length_cons] at hm; omega⟩
   have hlen : (pre ++ v' :: zs).length ≤ 268435456 := by simp only [List.length_append,List.length_cons,e0] at h1 ⊢; omega
   rw [k4 m (pre ++ v' :: zs) hlen (by simp) (by simp)]
   have := e4 m (by simp only [List.length_cons] at hm; omega)
   simpa using this
theorem zFh (n : Nat) (xs : List Link) (b : Int) (h : xs.length ≤ 268435456) (hn : xs.length < n) (h0 : 0 ≤ b) (h1 : b + (4 : Nat) * xs.length ≤ 1099511627776) : Ym n (ZA (fun _ b => (⟨b,b + 1,b + 2,b + 3⟩ : Link)) 4 xs b) b = some (b + (4 : Nat) * xs.length) := by
 have := zAX (L := qt n) (f := fun _ b => (⟨b,b + 1,b + 2,b + 3⟩ : Link)) (c := 4) (fun m k ys b v hk hl hv h0 h1 => by
  rw [qt,zp hk,Qu hv]
  simp (disch := omega) only [cond_true,Option.bind_some,wrap64,zT,Int.add_assoc,Int.reduceAdd,bne_self_eq_false,cond_false,show ((4 : Nat) : Int) = 4 from rfl]
  rfl)
  (fun m ys b => by rw [qt,zc]; rfl) xs n [] b (by simpa using h) h0 h1 hn
 unfold Ym
 simp only [List.length_nil,List.nil_append] at this
 rw [show qt n n (ZA _ 4 xs b) 0 b = _ from this]
 rfl
theorem zGS (n : Nat) (xs : List Say) (b : Int) (h : xs.length ≤ 268435456) (hn : xs.length < n) (h0 : 0 ≤ b) (h1 : b + (7 : Nat) * xs.length ≤ 1099511627776) : JR n (ZA (fun _ b => (⟨b,Int.tmod (b + 1) 3 == 0,⟨b + 2,b + 3,b + 4,b + 5,b + 6⟩⟩ : Say)) 7 xs b) b = some (b + (7 : Nat) * xs.length) := by
 have := zAX (L := q7 n) (f := fun _ b => (⟨b,Int.tmod (b + 1) 3 == 0,⟨b + 2,b + 3,b + 4,b + 5,b + 6⟩⟩ : Say)) (c := 7) (fun m k ys b v hk hl hv h0 h1 => by
  rw [q7,zp hk,Qu hv]
  simp (disch := omega) only [cond_true,Option.bind_some,wrap64,zT,Int.add_assoc,Int.reduceAdd,bne_self_eq_false,beq_self_eq_true,Bool.not_true,cond_false,show ((7 : Nat) : Int) = 7 from rfl,show decide ((3 : Int) ≠ 0) = true from rfl]
  rfl)
  (fun m ys b => by rw [q7,zc]; rfl) xs n [] b (by simpa using h) h0 h1 hn
 unfold JR
 simp only [List.length_nil,List.nil_append] at this
 rw [show q7 n n (ZA _ 7 xs b) 0 b = _ from this]
 rfl
theorem zEO (n : Nat) (xs : List zA) (b : Int) (h : xs.length + qm zA.sz xs ≤ 1048576) (hn : 1048577 < n) (h0 : 0 < b) (h1 : b ≤ 1048576) : ∃ (zs : List zA) (c : Int),b ≤ c ∧ c ≤ b + 16 * qm (fun v => v.sz + 1) xs ∧ Qx n xs b = some (c,zs) ∧ Qw n zs b = some c := by
 have hsum : ∀ ys : List zA,qm (fun v => v.sz + 1) ys = ys.length + qm zA.sz ys := fun ys => by
  induction ys with
  | nil => rfl
  | cons y ys ih => simp only [qm,List.length_cons,ih]; omega
 obtain ⟨zs,c,e0,e1,e2,e3,e4⟩ := zH3 (L := qb n) (H := qa n) (fun v : zA => v.sz + 1) (fun v => v.sz ≤ 1048576) (fun k ys b v hk hl hv hg h0 h1 => by
  have hs : v.Name.size + v.Ps.length + v.F.length + v.V.sz = v.sz := rfl
  have hs2 : v.V.Rows.length + v.V.Pv.length = v.V.sz := rfl
  obtain ⟨t,ht⟩ := zGV n (by omega) (b + 1) (by omega) (by omega)
  have hP := zHB n v.Ps (b + 1 + 1) (by omega) (by omega) (by omega) (by omega)
  have hF := zFk n v.F (b + 1 + 1 + (8 : Nat) * v.Ps.length) (by omega) (by omega) (by omega) (by omega)
  have hR := zFn n v.V.Rows (b + 1 + 1 + (8 : Nat) * v.Ps.length + (5 : Nat) * v.F.length) (by omega) (by omega) (by omega) (by omega)
  have hQ := zGT n v.V.Pv (b + 1 + 1 + (8 : Nat) * v.Ps.length + (5 : Nat) * v.F.length + (3 : Nat) * v.V.Rows.length) (by omega) (by omega) (by omega) (by omega)
  have hP' := zG9 n v.Ps (b + 1 + 1) (by omega) (by omega) (by omega) (by omega)
  have hF' := zFg n v.F (b + 1 + 1 + (8 : Nat) * v.Ps.length) (by omega) (by omega) (by omega) (by omega)
  have hR' := zFj n v.V.Rows (b + 1 + 1 + (8 : Nat) * v.Ps.length + (5 : Nat) * v.F.length) (by omega) (by omega) (by omega) (by omega)
  have hQ' := zGR n v.V.Pv (b + 1 + 1 + (8 : Nat) * v.Ps.length + (5 : Nat) * v.F.length + (3 : Nat) * v.V.Rows.length) (by omega) (by omega) (by omega) (by omega)
  refine ⟨?v,?c,?a1,?a2,?a3,?a4⟩
  case a3 =>
   intro m
   rw [qb,zp hk,Qu hv]
   simp (disch := omega) only [cond_true,Option.bind_some,List.set_set,zDk hk,wrap64,zT,Int.toNat_natCast,ht,hP,hF,hR,hQ]
   exact rfl
  case a1 => omega
  case a2 => omega
  case a4 =>
   intro m ys' hl' hk' hv'
   rw [qa,zp hk',Qu hv']
   simp (disch := omega) only [cond_true,Option.bind_some,wrap64,zT,ht,hP',hF',hR',hQ',decide_eq_false,bne_self_eq_false,beq_self_eq_true,Bool.not_true,cond_false]
   rfl)
  (fun m ys b => by rw [qb,zc]; rfl) (fun m ys b => by rw [qa,zc]; rfl) xs [] b (by simp; omega) (fun v hv => by have := zAt (sz := zA.sz) hv; omega) h0 (by rw [hsum]; omega)
 refine ⟨zs,c,e1,e2,?_,?_⟩
 ·unfold Qx
  have := e3 n (by omega)
  simp only [List.length_nil,List.nil_append] at this
  rw [show qb n n 0 xs b = _ from this]
  rfl
 ·unfold Qw
  have := e4 n (by omega)
  simp only [List.length_nil,List.nil_append] at this
  rw [show qa n n zs 0 b = _ from this]
  rfl
theorem zCy (n : Nat) (x : Net) (h : x.sz ≤ 1048576) (hn : 1048577 < n) : ∃ (y : Net) (c : Int),1 ≤ c ∧ c ≤ 100000000 ∧ Ya n x 1 = some (c,y) ∧ YZ n y 1 = some c := by
 have hs : (x.Bs.length + qm zA.sz x.Bs) + x.Ls.length + x.Said.length = x.sz := rfl
 have hsum : ∀ ys : List zA,qm (fun v => v.sz + 1) ys = ys.length + qm zA.sz ys := fun ys => by
  induction ys with
  | nil => rfl
  | cons y ys ih => simp only [qm,List.length_cons,ih]; omega
 obtain ⟨zs,c,e1,e2,e3,e4⟩ := zEO n x.Bs 1 (by omega) hn (by omega) (by omega)
 have := hsum x.Bs
 refine ⟨_,_,?_,?_,by unfold Ya; rw [e3,Option.bind_some,zFl n x.Ls _ (by omega) (by omega) (by omega) (by omega),Option.bind_some,zGU n x.Said _ (by omega) (by omega) (by simp only; omega) (by simp only; omega)]; exact rfl,?_⟩
 ·simp only; omega
 ·simp only; omega
 ·unfold YZ
  rw [e4,Option.bind_some,zFh n x.Ls _ (by omega) (by omega) (by omega) (by omega),Option.bind_some,zGS n x.Said _ (by omega) (by omega) (by simp only; omega) (by simp only; omega),Option.bind_some,decide_eq_false (by omega),decide_eq_false (by simp only; omega),decide_eq_false (by simp only; omega)]
  rfl
theorem zG1 {α β : Type} {L : Nat → Int → List α → Option (List α ⊕ β)} {f : α → Option α} (xs : List α) (hx : xs.length ≤ 268435455) (hf : ∀ v ∈ xs,f v = some v)
  (h : ∀ m k acc,L (m + 1) k acc = bif decide (k < (xs.length : Int)) then (idx xs k).bind fun v => (f v).bind fun r => bif decide (acc.length + [r].length ≤ 268435456) then L m (IntKind.wrap .i64 (k + 1)) (acc ++ [r]) else none else some (.inl acc)) : ∀ (m k : Nat),k ≤ xs.length → xs.length < m + k → L m k (xs.take k) = some (.inl xs)
 | 0,k,h1,h2 => by omega
 | m + 1,k,h1,h2 => by
  rw [h]
  by_cases hk : k < xs.length
  ·rw [zp hk,cond_true,zK hk,Option.bind_some,hf _ (List.getElem_mem hk),Option.bind_some,decide_eq_true (by simp; omega),cond_true,zT (by omega),show xs.take k ++ [xs[k]] = xs.take (k + 1) by rw [List.take_add_one,List.getElem?_eq_getElem hk]; rfl]
   exact zG1 xs hx hf h m (k + 1) (by omega) (by omega)
  ·have he : k = xs.length := by omega
   subst he
   rw [zc,cond_false,List.take_length]
theorem zDz (n : Nat) (x : Net) (h : x.sz ≤ 268435455) (hn : x.sz < n) : J6 n x = some x := by
 have hs : (x.Bs.length + qm zA.sz x.Bs) + x.Ls.length + x.Said.length = x.sz := rfl
 have := zG1 (L := fun m k acc => Zp n m x k acc) (f := Z4 n) x.Bs (by omega) (fun v hv => by have := zAt (sz := zA.sz) hv; exact Jo n v (by omega)) (fun m k acc => by rw [Zp]) n 0 (by omega) (by omega)
 unfold J6
 rw [decide_eq_true (by simp; omega),decide_eq_true (by simp; omega),cond_true,cond_true,show Zp n n x 0 [] = _ from this]
 rfl
theorem zDn (n : Nat) (x : Net) (h : x.sz ≤ 268435455) (hn : x.sz < n) : Ju n x = some x := by
 have hs : (x.Bs.length + qm zA.sz x.Bs) + x.Ls.length + x.Said.length = x.sz := rfl
 have := zG1 (L := fun m k acc => Zo n m x k acc) (f := q5 n) x.Bs (by omega) (fun v hv => by have := zAt (sz := zA.sz) hv; exact YR n v (by omega)) (fun m k acc => by rw [Zo]) n 0 (by omega) (by omega)
 unfold Ju
 rw [decide_eq_true (by simp; omega),decide_eq_true (by simp; omega),cond_true,cond_true,show Zo n n x 0 [] = _ from this]
 rfl
theorem zEj (n : Nat) (v : Vec) (h : zq n v = some true) : v.wf := by
 unfold zq at h
 simp only [zQ,Option.bind_some] at h
 cases h1 : (decide (1 ≤ v.Root) && decide (v.Root ≤ 99)) with
 | false => rw [h1] at h; cases h
 | true =>
  cases h2 : (decide (0 ≤ v.Co) && decide (v.Co ≤ 100000)) with
  | false => rw [h1,h2] at h; cases h
  | true =>
   cases h3 : (decide (0 ≤ v.Hops) && decide (v.Hops ≤ 10)) with
   | false => rw [h1,h2,h3] at h; cases h
   | true =>
    cases h4 : (decide (1 ≤ v.Bridge) && decide (v.Bridge ≤ 99)) with
    | false => rw [h1,h2,h3,h4] at h; cases h
    | true =>
     rw [h1,h2,h3,h4] at h
     simp only [cond_true,Option.some.injEq,Bool.and_eq_true,decide_eq_true_eq] at h h1 h2 h3 h4
     exact ⟨ZH (by omega) (by omega),ZH (by omega) (by omega),ZH (by omega) (by omega),ZH (by omega) (by omega),ZH (by omega) (by omega),trivial⟩
def HB (x : Net) (ys : List zA) : Prop := ys.length = x.Bs.length ∧ (∀ v ∈ ys,v.wf) ∧ qm zA.sz ys ≤ qm zA.sz x.Bs
theorem HB.self {x : Net} (wx : x.wf) : HB x x.Bs := ⟨rfl,wx.1.2,Nat.le_refl _⟩
def Big (x : Net) : Prop := x.Bs.length ≤ 1048576 ∧ (∀ a ∈ x.Bs,a.sz ≤ 1048576) ∧ x.Ls.length ≤ 1048576 ∧ x.Said.length ≤ 1048576
theorem zDy (n : Nat) (x : Net) (wx : x.wf) (h : Big x) (hn : 1048700 < n) (m k : Nat) (hk : k < x.Bs.length) : (BOk n x k ∧ zb n (m + 1) x k = zb n m x ((k + 1 : Nat) : Int)) ∨ (¬ BOk n x k ∧ zb n (m + 1) x k = some (.inr false)) := by
 have ⟨hl1,hl2,hl3,hl4⟩ := h
 have hps := hl2 _ (List.getElem_mem hk)
 have hs2 : x.Bs[k].Name.size + x.Bs[k].Ps.length + x.Bs[k].F.length + x.Bs[k].V.sz = x.Bs[k].sz := rfl
 obtain ⟨b,hb,_⟩ := QU n x.Bs[k] (zI9 wx hk) (by omega) (by omega)
 rw [zb,zp hk,cond_true,zK hk,Option.bind_some,hb,Option.bind_some]
 cases b with
 | false => exact .inr ⟨fun hc => absurd ((hc hk).1.symm.trans hb) (by simp),rfl⟩
 | true =>
  simp only [Bool.not_true,cond_false]
  have h6 := QH (L := fun m j => qU n m x k j) (N := k) (P := fun j => ∀ hj : j < k,(x.Bs[j]'(by omega)).Id ≠ x.Bs[k].Id) (fun m j hj => by
   simp only [qU]
   rw [zp hj,cond_true,zK (show j < x.Bs.length by omega),Option.bind_some,zK hk,Option.bind_some,zT (by omega : j ≤ 1099511627776)]
   by_cases he : (x.Bs[j]'(by omega)).Id = x.Bs[k].Id
   ·exact .inr ⟨fun hc => hc hj he,by rw [show ((x.Bs[j]'(by omega)).Id == x.Bs[k].Id) = true from by simpa using he]; rfl⟩
   ·exact .inl ⟨fun _ => he,by rw [show ((x.Bs[j]'(by omega)).Id == x.Bs[k].Id) = false from by simpa using he]; rfl⟩) (fun m => ⟨_,by simp only [qU]; rw [zc]; rfl⟩) n 0 (by omega) (by omega)
  rcases h6 with ⟨_,e6,p6⟩ | ⟨e6,p6⟩
  ·rw [show qU n n x k 0 = _ from e6,Option.bind_some]
   simp only [Qg]
   have h5 := QH (L := fun m j => qI n m x k j) (N := x.Bs[k].Ps.length) (P := fun j => ∀ hp : j < x.Bs[k].Ps.length,x.Bs[k].Ps[j].Has = true → x.Ls.any (zx k j) = true) (fun m j hj => by
    simp only [qI]
    rw [zK hk,Option.bind_some,zp hj,cond_true,Option.bind_some,zK hj,Option.bind_some,zT (by omega : j ≤ 1099511627776)]
    cases hh : x.Bs[k].Ps[j].Has with
    | false => exact .inl ⟨fun _ hc => absurd (hh.symm.trans hc) (by simp),rfl⟩
    | true =>
     rw [cond_true,zDI n x k j (by omega) (by omega),Option.bind_some]
     cases hu : x.Ls.any (zx k j) with
     | false => exact .inr ⟨fun hc => absurd (hc hj hh) (by simp),by rw [zHX.2 hu]; rfl⟩
     | true =>
      have : qT (qn k j) x.Ls ≠ 0 := fun e => by rw [zHX.1 e] at hu; cases hu
      exact .inl ⟨fun _ _ => rfl,by rw [show (((qT (qn k j) x.Ls : Nat) : Int) == 0) = false from by simpa using this]; rfl⟩) (fun m => ⟨_,by simp only [qI]; rw [zK hk,Option.bind_some,zc]; rfl⟩) n 0 (by omega) (by omega)
   rcases h5 with ⟨a,e5,p5⟩ | ⟨e5,p5⟩
   ·rw [show qI n n x k 0 = _ from e5,Option.bind_some]
    refine .inl ⟨fun _ => ⟨hb,fun j hj => p6 j (by omega) hj hj,fun p hp => p5 p (by omega) hp hp⟩,?_⟩
    simp only [Qh,zT (by omega : k ≤ 1099511627776)]
   ·rw [show qI n n x k 0 = _ from e5,Option.bind_some]
    exact .inr ⟨fun hc => p5 fun j _ hj2 _ => (hc hk).2.2 j hj2,rfl⟩
  ·rw [show qU n n x k 0 = _ from e6,Option.bind_some]
   exact .inr ⟨fun hc => p6 fun j _ hj2 _ => (hc hk).2.1 j hj2,rfl⟩
theorem zFK (n : Nat) (x : Net) (wx : x.wf) (h : Big x) (hn : 1048700 < n) (m k : Nat) (hk : k < x.Bs.length) : (BOk n x k ∧ z7 n (m + 1) x k = z7 n m x ((k + 1 : Nat) : Int)) ∨ (¬ BOk n x k ∧ z7 n (m + 1) x k = some (.inr false)) := by
 have ⟨hl1,hl2,hl3,hl4⟩ := h
 have hps := hl2 _ (List.getElem_mem hk)
 have hs2 : x.Bs[k].Name.size + x.Bs[k].Ps.length + x.Bs[k].F.length + x.Bs[k].V.sz = x.Bs[k].sz := rfl
 obtain ⟨b,hb,hb2⟩ := QU n x.Bs[k] (zI9 wx hk) (by omega) (by omega)
 have hg : (decide ((0 : Int) ≤ 0) && (decide ((0 : Int) ≤ (k : Int)) && decide ((k : Int) ≤ (x.Bs.length : Int)))) = true := by
  rw [decide_eq_true (by omega),decide_eq_true (by omega),decide_eq_true (by omega)]; rfl
 rw [z7,zp hk,cond_true,zK hk,Option.bind_some,hb2,Option.bind_some]
 cases b with
 | false => exact .inr ⟨fun hc => absurd ((hc hk).1.symm.trans hb) (by simp),rfl⟩
 | true =>
  simp only [Bool.not_true,cond_false,hg,cond_true]
  have ht : (x.Bs.drop ((0 : Int)).toNat).take (((k : Int)).toNat - ((0 : Int)).toNat) = x.Bs.take k := by simp
  have hl : (x.Bs.take k).length = k := by simp; omega
  have h8 := QH (L := fun m j => ZT n m x.Bs[k] x k j) (N := k) (P := fun j => ∀ hj : j < k,(x.Bs[j]'(by omega)).Id ≠ x.Bs[k].Id) (fun m j hj => by
   simp only [ZT,ht]
   rw [hl,zp hj,cond_true,zK (show j < (x.Bs.take k).length by omega),Option.bind_some,List.getElem_take,zT (by omega : j ≤ 1099511627776)]
   by_cases he : (x.Bs[j]'(by omega)).Id = x.Bs[k].Id
   ·exact .inr ⟨fun hc => hc hj he,by rw [show ((x.Bs[j]'(by omega)).Id == x.Bs[k].Id) = true from by simpa using he]; rfl⟩
   ·exact .inl ⟨fun _ => he,by rw [show ((x.Bs[j]'(by omega)).Id == x.Bs[k].Id) = false from by simpa using he]; rfl⟩) (fun m => ⟨_,by simp only [ZT,ht]; rw [hl,zc]; rfl⟩) n 0 (by omega) (by omega)
  rcases h8 with ⟨a1,e8,p8⟩ | ⟨e8,p8⟩
  ·rw [show ZT n n x.Bs[k] x k 0 = _ from e8,Option.bind_some]
   simp only [Js]
   have h7 := QH (L := fun m j => ZC n m x.Bs[k] x k j) (N := x.Bs[k].Ps.length) (P := fun j => ∀ hp : j < x.Bs[k].Ps.length,x.Bs[k].Ps[j].Has = true → x.Ls.any (zx k j) = true) (fun m j hj => by
    simp only [ZC]
    rw [zp hj,cond_true,zK hj,Option.bind_some,zT (by omega : j ≤ 1099511627776)]
    cases hh : x.Bs[k].Ps[j].Has with
    | false => exact .inl ⟨fun _ hc => absurd (hh.symm.trans hc) (by simp),rfl⟩
    | true =>
     rw [cond_true,zEc n x.Ls k j (by omega) (by omega),Option.bind_some]
     cases hu : x.Ls.any (zx k j) with
     | false => exact .inr ⟨fun hc => absurd (hc hj hh) (by simp),rfl⟩
     | true => exact .inl ⟨fun _ _ => rfl,rfl⟩) (fun m => ⟨_,by simp only [ZC]; rw [zc]; rfl⟩) n 0 (by omega) (by omega)
   rcases h7 with ⟨a,e7,p7⟩ | ⟨e7,p7⟩
   ·rw [show ZC n n x.Bs[k] x k 0 = _ from e7,Option.bind_some]
    refine .inl ⟨fun _ => ⟨hb,fun j hj => p8 j (by omega) hj hj,fun p hp => p7 p (by omega) hp hp⟩,?_⟩
    simp only [Jt,zT (by omega : k ≤ 1099511627776)]
   ·rw [show ZC n n x.Bs[k] x k 0 = _ from e7,Option.bind_some]
    exact .inr ⟨fun hc => p7 fun j _ hj2 _ => (hc hk).2.2 j hj2,rfl⟩
  ·rw [show ZT n n x.Bs[k] x k 0 = _ from e8,Option.bind_some]
   exact .inr ⟨fun hc => p8 fun j _ hj2 _ => (hc hk).2.1 j hj2,rfl⟩
theorem zEk (n : Nat) (x : Net) (wx : x.wf) (h : Big x) (hn : 1048700 < n) : ∃ b,YP n x = some b ∧ (b = true ↔ (∀ k,k < x.Bs.length → BOk n x k) ∧ 1 ≤ x.Bs.length ∧ x.Bs.length ≤ 6) := by
 have ⟨hl1,hl2,hl3,hl4⟩ := h
 unfold YP
 rcases QH (L := fun m k => zb n m x k) (N := x.Bs.length) (P := BOk n x) (fun m k hk => zDy n x wx h hn m k hk) (fun m => ⟨(),by simp only [zb]; rw [zc]; rfl⟩) n 0 (by omega) (by omega) with ⟨a,e,p⟩ | ⟨e,p⟩
 ·rw [show zb n n x 0 = _ from e,Option.bind_some]
  simp only [Qf,zQ,Option.bind_some]
  refine ⟨_,rfl,?_⟩
  rw [Bool.and_eq_true,decide_eq_true_eq,decide_eq_true_eq]
  exact ⟨fun hc => ⟨fun k hk => p k (by omega) hk,by omega,by omega⟩,fun hc => ⟨by omega,by omega⟩⟩
 ·rw [show zb n n x 0 = _ from e,Option.bind_some]
  exact ⟨false,rfl,⟨fun hc => (by cases hc),fun hc => absurd (fun k _ hk => hc.1 k hk) p⟩⟩
theorem zDF (n : Nat) (x : Net) (h : Big x) (b p : Int) : Zs n x b p = some (match Zu x b p with | some q => (q,true) | none => (⟨false,0,false,⟨0,0,0,0,0⟩⟩,false)) := by
 have ⟨hl1,hl2,hl3,hl4⟩ := h
 unfold Zs Zu
 rw [qe,zAe n b _ (show x.Bs.length ≤ 1048600 by omega),Option.bind_some]
 by_cases hb : 0 ≤ b ∧ b < x.Bs.length
 ·obtain ⟨v,hv⟩ := zBy.2 hb
  have := hl2 _ (List.mem_of_getElem? (zI hv).2)
  have hs2 : v.Name.size + v.Ps.length + v.F.length + v.V.sz = v.sz := rfl
  rw [decide_eq_true hb,hv]
  simp only [Bool.not_true,cond_false,cond_true,Option.bind_some,zAe n p _ (show v.Ps.length ≤ 1048600 by omega)]
  by_cases hp : 0 ≤ p ∧ p < v.Ps.length
  ·obtain ⟨q,hq⟩ := zBy.2 hp
   simp [hp,hq,hv]
  ·simp [hp,zCZ hp]
 ·simp [hb,zCZ hb]
theorem zDH (n : Nat) (x : Net) (h : Big x) (hn : 1048700 < n) (b p : Int) : JY n x b p = some (match Zu x b p with | some q => decide (qT (qn b p) x.Ls = 1) | none => false) := by
 have ⟨hl1,hl2,hl3,hl4⟩ := h
 unfold JY Zu
 rw [zAe n b _ (show x.Bs.length ≤ 1048600 by omega),Option.bind_some]
 by_cases hb : 0 ≤ b ∧ b < x.Bs.length
 ·obtain ⟨v,hv⟩ := zBy.2 hb
  have := hl2 _ (List.mem_of_getElem? (zI hv).2)
  have hs2 : v.Name.size + v.Ps.length + v.F.length + v.V.sz = v.sz := rfl
  rw [decide_eq_true hb,hv]
  simp only [cond_true,Option.bind_some,zAe n p _ (show v.Ps.length ≤ 1048600 by omega)]
  by_cases hp : 0 ≤ p ∧ p < v.Ps.length
  ·obtain ⟨q,hq⟩ := zBy.2 hp
   rw [decide_eq_true hp,hq,cond_true,zDI n x b p (by omega) (by omega),Option.bind_some]
   by_cases h1 : qT (qn b p) x.Ls = 1
   ·simp [h1]
   ·have : ((qT (qn b p) x.Ls : Nat) : Int) ≠ 1 := by omega
    simp [h1,this]
  ·simp [hp,zCZ hp]
 ·simp [hb,zCZ hb]
theorem zFP (n : Nat) (x : Net) (h : Big x) (hn : 1048700 < n) (m k : Nat) (hk : k < x.Ls.length) :
  ((∀ hk : k < x.Ls.length,LOk x x.Ls[k] ∧ qT (qn x.Ls[k].A x.Ls[k].P) x.Ls = 1 ∧ qT (qn x.Ls[k].B x.Ls[k].Q) x.Ls = 1) ∧ qg n (m + 1) x k = qg n m x ((k + 1 : Nat) : Int)) ∨
  (¬ (∀ hk : k < x.Ls.length,LOk x x.Ls[k] ∧ qT (qn x.Ls[k].A x.Ls[k].P) x.Ls = 1 ∧ qT (qn x.Ls[k].B x.Ls[k].Q) x.Ls = 1) ∧ qg n (m + 1) x k = some (.inr false)) := by
 have ⟨hl1,hl2,hl3,hl4⟩ := h
 rw [qg,zp hk,cond_true,zK hk,Option.bind_some,zDH n x h hn,zDH n x h hn,zT (by omega : k ≤ 1099511627776)]
 by_cases hab : x.Ls[k].A = x.Ls[k].B
 ·exact .inr ⟨fun hc => (hc hk).1.1 (hab),by rw [show (x.Ls[k].A == x.Ls[k].B) = true from by simpa using hab]; rfl⟩
 ·rw [show (x.Ls[k].A == x.Ls[k].B) = false from by simpa using hab]
  simp only [cond_false,Option.bind_some]
  cases hp : Zu x x.Ls[k].A x.Ls[k].P with
  | none => exact .inr ⟨fun hc => (by obtain ⟨p,q,e,_⟩ := (hc hk).1.2; rw [hp] at e; cases e),rfl⟩
  | some p =>
   by_cases h1 : qT (qn x.Ls[k].A x.Ls[k].P) x.Ls = 1
   ·simp only [decide_eq_true h1,Bool.not_true,cond_false]
    cases hq : Zu x x.Ls[k].B x.Ls[k].Q with
    | none => exact .inr ⟨fun hc => (by obtain ⟨p,q,_,e,_⟩ := (hc hk).1.2; rw [hq] at e; cases e),rfl⟩
    | some q =>
     by_cases h2 : qT (qn x.Ls[k].B x.Ls[k].Q) x.Ls = 1
     ·obtain ⟨v,v1,v2⟩ := zBQ hp
      obtain ⟨u,u1,u2⟩ := zBQ hq
      simp only [decide_eq_true h2,Bool.not_true,cond_false,v1,v2,u1,u2,Option.bind_some]
      by_cases h3 : p.Up = q.Up
      ·exact .inl ⟨fun _ => ⟨⟨hab,p,q,hp,hq,h3⟩,h1,h2⟩,by rw [h3]; simp⟩
      ·refine .inr ⟨fun hc => ?_,by rw [show (p.Up == q.Up) = false from by simpa using h3]; rfl⟩
       obtain ⟨p',q',e1,e2,e3⟩ := (hc hk).1.2
       rw [hp] at e1; rw [hq] at e2
       cases e1; cases e2; exact h3 e3
     ·exact .inr ⟨fun hc => h2 (hc hk).2.2,by simp only [decide_eq_false h2]; rfl⟩
   ·exact .inr ⟨fun hc => h1 (hc hk).2.1,by simp only [decide_eq_false h1]; rfl⟩
theorem zEd (n : Nat) (x : Net) (h : Big x) (hn : 1048700 < n) (m k : Nat) (hk : k < x.Ls.length) :
  ((∀ hk : k < x.Ls.length,k < 9 ∧ LOk x x.Ls[k] ∧ (x.Ls.take k).any (zx x.Ls[k].A x.Ls[k].P) = false ∧ (x.Ls.take k).any (zx x.Ls[k].B x.Ls[k].Q) = false) ∧ qL n (m + 1) x k = qL n m x ((k + 1 : Nat) : Int)) ∨
  (¬ (∀ hk : k < x.Ls.length,k < 9 ∧ LOk x x.Ls[k] ∧ (x.Ls.take k).any (zx x.Ls[k].A x.Ls[k].P) = false ∧ (x.Ls.take k).any (zx x.Ls[k].B x.Ls[k].Q) = false) ∧ qL n (m + 1) x k = some (.inr false)) := by
 have ⟨hl1,hl2,hl3,hl4⟩ := h
 have hg : (decide ((0 : Int) ≤ 0) && (decide ((0 : Int) ≤ (k : Int)) && decide ((k : Int) ≤ (x.Ls.length : Int)))) = true := by
  rw [decide_eq_true (by omega),decide_eq_true (by omega),decide_eq_true (by omega)]; rfl
 have ht : (x.Ls.drop ((0 : Int)).toNat).take (((k : Int)).toNat - ((0 : Int)).toNat) = x.Ls.take k := by simp
 have hlen : (x.Ls.take k).length ≤ 1048600 := by simp; omega
 rw [qL,zp hk,cond_true,zK hk,Option.bind_some,zDF n x h,Option.bind_some,zDF n x h,Option.bind_some]
 simp only [hg,cond_true,ht,zEc n (x.Ls.take k) _ _ hlen (by omega),Option.bind_some,zT (by omega : k ≤ 1099511627776)]
 by_cases h9 : k < 9
 ·rw [decide_eq_false (show ¬ ((k : Nat) : Int) ≥ 9 by omega),cond_false]
  cases hp : Zu x x.Ls[k].A x.Ls[k].P with
  | none => exact .inr ⟨fun hc => (by obtain ⟨p,q,e,_⟩ := (hc hk).2.1.2; rw [hp] at e; cases e),rfl⟩
  | some p =>
   cases hq : Zu x x.Ls[k].B x.Ls[k].Q with
   | none => exact .inr ⟨fun hc => (by obtain ⟨p,q,_,e,_⟩ := (hc hk).2.1.2; rw [hq] at e; cases e),rfl⟩
   | some q =>
    simp only [Bool.not_true,cond_false]
    by_cases hab : x.Ls[k].A = x.Ls[k].B
    ·exact .inr ⟨fun hc => (hc hk).2.1.1 (hab),by rw [show (x.Ls[k].A == x.Ls[k].B) = true from by simpa using hab]; rfl⟩
    ·rw [show (x.Ls[k].A == x.Ls[k].B) = false from by simpa using hab,cond_false]
     by_cases h3 : p.Up = q.Up
     ·rw [show (!(p.Up == q.Up)) = false from by simp [h3],cond_false]
      cases h1 : (x.Ls.take k).any (zx x.Ls[k].A x.Ls[k].P) with
      | true => exact .inr ⟨fun hc => (by have := (hc hk).2.2.1; rw [h1] at this; cases this),rfl⟩
      | false =>
       cases h2 : (x.Ls.take k).any (zx x.Ls[k].B x.Ls[k].Q) with
       | true => exact .inr ⟨fun hc => (by have := (hc hk).2.2.2; rw [h2] at this; cases this),rfl⟩
       | false => exact .inl ⟨fun _ => ⟨h9,⟨hab,p,q,hp,hq,h3⟩,h1,h2⟩,rfl⟩
     ·refine .inr ⟨fun hc => ?_,by rw [show (p.Up == q.Up) = false from by simpa using h3]; rfl⟩
      obtain ⟨p',q',e1,e2,e3⟩ := (hc hk).2.1.2
      rw [hp] at e1; rw [hq] at e2
      cases e1; cases e2; exact h3 e3
 ·exact .inr ⟨fun hc => h9 (hc hk).1,by rw [decide_eq_true (show ((k : Nat) : Int) ≥ 9 by omega)]; rfl⟩
def zNo (n : Nat) (x : Net) : Prop := (∀ k,k < x.Bs.length → BOk n x k) ∧ (1 ≤ x.Bs.length ∧ x.Bs.length ≤ 6) ∧ x.Ls.length ≤ 9 ∧ x.Said.length ≤ 40 ∧ ∀ k (hk : k < x.Ls.length),LOk x x.Ls[k] ∧ qT (qn x.Ls[k].A x.Ls[k].P) x.Ls = 1 ∧ qT (qn x.Ls[k].B x.Ls[k].Q) x.Ls = 1
theorem zGZ (n : Nat) (x : zA) (hn : x.Ps.length < n) (h1 : 1 ≤ x.Ps.length) (h2 : x.Ps.length ≤ 6) (h3 : 1 ≤ x.Id) (h4 : x.Id ≤ 99) (h5 : x.Name.size ≤ 10) (h6 : ZI n x.F = some true) (h7 : Zv n x.V (x.Ps.length : Int) = some true) (h8 : 0 ≤ x.Tk ∧ x.Tk ≤ 1000000) (h9 : 0 ≤ x.Pa ∧ x.Pa ≤ 1000000) (h10 : 0 ≤ x.Wo ∧ x.Wo ≤ 1000000) (h11 : 0 ≤ x.Dr ∧ x.Dr ≤ 1000000) (h12 : 0 ≤ x.Ve ∧ x.Ve ≤ 1000000) (h13 : ∀ j (hj : j < x.Ps.length),qF n x.Ps[j] = some true) : zS n x = some true := by
 have two : ∀ {a b c : Int},a ≤ b → b ≤ c → (decide (a ≤ b) && decide (b ≤ c)) = true := fun h h' => by rw [decide_eq_true h,decide_eq_true h']; rfl
 unfold zS
 rcases QH (L := fun m k => zn n m x k) (N := x.Ps.length) (P := fun k => ∀ hk : k < x.Ps.length,qF n x.Ps[k] = some true) (fun m k hk => by
  simp only [zn]
  rw [zp hk,cond_true,zK hk,Option.bind_some,h13 k hk,Option.bind_some,zT (by omega : k ≤ 1099511627776)]
  exact .inl ⟨fun _ => h13 k hk,rfl⟩) (fun m => ⟨(),by simp only [zn]; rw [zc]; rfl⟩) n 0 (by omega) (by omega) with ⟨a,e,_⟩ | ⟨_,p⟩
 ·rw [show zn n n x 0 = _ from e]
  simp only [Option.bind_some,Z9,Qm,zQ,two h3 h4,two h8.1 h8.2,two h9.1 h9.2,two h10.1 h10.2,two h11.1 h11.2,two h12.1 h12.2,two (show (1 : Int) ≤ (x.Ps.length : Int) by omega) (show (x.Ps.length : Int) ≤ 6 by omega),decide_eq_true (show (x.Name.size : Int) ≤ 10 by omega),h6,h7,cond_true]
 ·exact absurd (fun j _ _ hj => h13 j hj) p
def zCu (v : zB) (t a : Int) : Prop := v.Tag < t ∨ v.Tag = t ∧ v.Mac < a
instance (v : zB) (t a : Int) : Decidable (zCu v t a) := inferInstanceAs (Decidable (_ ∨ _))
theorem zDK (n : Nat) (v : zB) (t a : Int) : ZZ n v t a = some (decide (zCu v t a)) := by
 unfold ZZ
 by_cases h : v.Tag = t
 ·rw [show (v.Tag != t) = false from by simpa using h,cond_false]
  congr 1
  rw [decide_eq_decide]
  unfold zCu
  constructor
  ·intro h2; exact .inr ⟨h,h2⟩
  ·rintro (h2 | h2)
   ·omega
   ·exact h2.2
 ·rw [show (v.Tag != t) = true from by simpa using h,cond_true]
  congr 1
  rw [decide_eq_decide]
  unfold zCu
  constructor
  ·intro h2; exact .inl h2
  ·rintro (h2 | h2)
   ·exact h2
   ·exact absurd h2.1 h
theorem zF0 (n : Nat) (xs : List zB) (h : xs.length ≤ 1048580) (hok : ZI n xs = some true) : ∀ (j i : Nat) (hij : i < j) (hj : j < xs.length),zCu (xs[i]'(by omega)) xs[j].Tag xs[j].Mac := by
 have hs := (zEF n xs h hok).2.2
 intro j
 induction j with
 | zero => intro i hij; omega
 | succ j ih =>
  intro i hij hj
  have h1 := hs j hj
  rw [zDK] at h1
  have h1 := of_decide_eq_true (Option.some.inj h1)
  by_cases e : i = j
  ·subst e; exact h1
  ·have := ih i (by omega) (by omega)
   unfold zCu at this h1 ⊢
   omega
def zJ3 (v : zB) : Prop := (1 ≤ v.Tag ∧ v.Tag ≤ 99) ∧ (1 ≤ v.Mac ∧ v.Mac ≤ 9999) ∧ (0 ≤ v.Port ∧ v.Port ≤ 7) ∧ (0 ≤ v.Age ∧ v.Age ≤ 4) ∧ (v.Sc = true → v.Age = 0)
def zDi (xs : List zB) : Prop := xs.length ≤ 12 ∧ (∀ v ∈ xs,zJ3 v) ∧ xs.Pairwise fun a b => zCu a b.Tag b.Mac
theorem zI3 (n : Nat) (v : zB) (h : zJ3 v) : Za n v = some true := by
 obtain ⟨h1,h2,h3,h4,h5⟩ := h
 have two : ∀ {a b c : Int},a ≤ b → b ≤ c → (decide (a ≤ b) && decide (b ≤ c)) = true := fun h h' => by rw [decide_eq_true h,decide_eq_true h']; rfl
 unfold Za
 simp only [zQ,Option.bind_some,two h1.1 h1.2,two h2.1 h2.2,two h3.1 h3.2,two h4.1 h4.2,cond_true]
 cases hs : v.Sc with
 | false => rfl
 | true => rw [h5 hs]; rfl
theorem zIt (n : Nat) (xs : List zB) (hn : xs.length < n) (h : zDi xs) : ZI n xs = some true := by
 obtain ⟨h1,h2,h3⟩ := h
 rw [List.pairwise_iff_getElem] at h3
 unfold ZI
 rcases QH (L := fun m k => qC n m xs k) (N := xs.length) (P := fun _ => True) (fun m k hk => by
  refine .inl ⟨trivial,?_⟩
  simp only [qC]
  rw [zp hk,cond_true,zK hk,Option.bind_some,zI3 n _ (h2 _ (List.getElem_mem hk)),Option.bind_some,zT (by omega : k ≤ 1099511627776),Bool.not_true,cond_false]
  cases k with
  | zero => rfl
  | succ k =>
   have hw2 : IntKind.wrap .i64 (((k + 1 : Nat) : Int) - 1) = (k : Int) := by rw [wrap64 (by omega) (by omega)]; omega
   rw [decide_eq_true (show ((k + 1 : Nat) : Int) > 0 by omega),hw2,cond_true,zK (show k < xs.length by omega),Option.bind_some,Option.bind_some,Option.bind_some,zDK,decide_eq_true (h3 k (k + 1) (by omega) hk (by omega))]
   rfl) (fun m => ⟨(),by simp only [qC]; rw [zc]; rfl⟩) n 0 (by omega) (by omega) with ⟨a,e,_⟩ | ⟨_,p⟩
 ·rw [show qC n n xs 0 = _ from e,Option.bind_some]
  simp only [J5]
  rw [decide_eq_true (by omega)]
 ·exact absurd (fun _ _ _ => trivial) p
theorem zBh (n : Nat) (xs : List zB) (h : xs.length ≤ 1048580) (hok : ZI n xs = some true) : zDi xs := by
 obtain ⟨h1,h2,_⟩ := zEF n xs h hok
 refine ⟨h1,fun v hv => ?_,?_⟩
 ·obtain ⟨j,hj,rfl⟩ := List.getElem_of_mem hv
  exact zIK n _ (h2 j hj)
 ·rw [List.pairwise_iff_getElem]
  intro i j hi hj hij
  exact zF0 n xs h hok j i hij hj
theorem zDi.sub {xs ys : List zB} (h : zDi xs) (hs : ys.Sublist xs) : zDi ys := ⟨Nat.le_trans hs.length_le h.1,fun v hv => h.2.1 v (hs.subset hv),h.2.2.sublist hs⟩
theorem JX (n : Nat) (bits : Int) (x : zA) (h : x.Ps.length ≤ 6) : ∀ (m k : Nat) (ys zs : List zB),k ≤ x.Ps.length → ys.length ≤ 134217728 → ys.length < n → z4 n m bits x k ys = some (.inl zs) → zs.Sublist ys
 | 0,k,ys,zs,h1,h3,h4,e => by cases e
 | m + 1,k,ys,zs,h1,h3,h4,e => by
  rw [z4] at e
  by_cases hk : k < x.Ps.length
  ·rw [zp hk,cond_true,zCE n bits k (by omega),Option.bind_some,zT (by omega : k ≤ 1099511627776),zAE n ys _ h3 h4] at e
   cases hb : zC9 bits k with
   | true =>
    rw [hb] at e
    exact JX n bits x h m (k + 1) ys zs (by omega) h3 h4 e
   | false =>
    rw [hb] at e
    have hle := List.length_filter_le (fun v : zB => v.Sc || v.Port != (k : Int)) ys
    exact (JX n bits x h m (k + 1) (ys.filter fun v => v.Sc || v.Port != (k : Int)) zs (by omega) (by omega) (by omega) e).trans List.filter_sublist
  ·have he : k = x.Ps.length := by omega
   subst he
   rw [zc] at e
   cases e
   exact List.Sublist.refl _
theorem zFQ (n : Nat) (x y : zA) (h : x.Ps.length ≤ 6) (h3 : x.F.length ≤ 134217728) (h4 : x.F.length < n) (e : ql n x = some y) : y.F.Sublist x.F := by
 unfold ql at e
 obtain ⟨v,_,e⟩ := bind_some e
 obtain ⟨b,_,e⟩ := bind_some e
 obtain ⟨o,ho,e⟩ := bind_some e
 cases o with
 | inl zs =>
  have hz := JX n b x h n 0 x.F zs (by omega) h3 h4 ho
  cases e
  exact hz
 | inr r =>
  exfalso
  have key : ∀ (m k : Nat) (ys : List zB),k ≤ x.Ps.length → ys.length ≤ 134217728 → ys.length < n → ∀ r,z4 n m b x k ys ≠ some (.inr r) := by
   intro m
   induction m with
   | zero => intro k ys h1 h3 h4 r e; cases e
   | succ m ih =>
    intro k ys h1 h3 h4 r e
    rw [z4] at e
    by_cases hk : k < x.Ps.length
    ·rw [zp hk,cond_true,zCE n b k (by omega),Option.bind_some,zT (by omega : k ≤ 1099511627776),zAE n ys _ h3 h4] at e
     have hle := List.length_filter_le (fun v : zB => v.Sc || v.Port != (k : Int)) ys
     cases hb : zC9 b k with
     | true => rw [hb] at e; exact ih (k + 1) ys (by omega) h3 h4 r e
     | false => rw [hb] at e; exact ih (k + 1) _ (by omega) (by omega) (by omega) r e
    ·have he : k = x.Ps.length := by omega
     subst he
     rw [zc] at e
     cases e
  exact key n 0 x.F (by omega) h3 h4 r ho
def zC8 (v : zB) : Option zB := if v.Sc then some v else if v.Age < 4 then some ⟨v.Tag,v.Mac,v.Port,v.Age + 1,false⟩ else none
theorem zC3 (n : Nat) (xs : List zB) (h : xs.length ≤ 134217728) (ha : ∀ v ∈ xs,0 ≤ v.Age ∧ v.Age ≤ 1000) : ∀ (m k : Nat) (acc : List zB),k ≤ xs.length → xs.length < m + k → acc.length ≤ k → qV n m xs k acc = some (.inl (acc ++ (xs.drop k).filterMap zC8))
 | 0,k,acc,h1,h2,h3 => by omega
 | m + 1,k,acc,h1,h2,h3 => by
  rw [qV]
  by_cases hk : k < xs.length
  ·rw [zp hk,cond_true,zK hk,Option.bind_some,zT (by omega : k ≤ 1099511627776)]
   have hg : ∀ v : zB,decide (acc.length + [v].length ≤ 268435456) = true := fun v => decide_eq_true (by simp; omega)
   simp only [hg,cond_true]
   have ih := fun acc' h3' => zC3 n xs h ha m (k + 1) acc' (by omega) (by omega) h3'
   rw [List.drop_eq_getElem_cons hk,List.filterMap_cons]
   cases hs : xs[k].Sc with
   | true =>
    have e : zC8 xs[k] = some xs[k] := by unfold zC8; rw [if_pos hs]
    rw [cond_true,ih (acc ++ [xs[k]]) (by simp; omega),e]
    simp
   | false =>
    have hw : IntKind.wrap .i64 (xs[k].Age + 1) = xs[k].Age + 1 := by
     have := ha _ (List.getElem_mem hk)
     exact wrap64 (by omega) (by omega)
    by_cases hl : xs[k].Age < 4
    ·have e : zC8 xs[k] = some ⟨xs[k].Tag,xs[k].Mac,xs[k].Port,xs[k].Age + 1,false⟩ := by unfold zC8; rw [if_neg (by simp [hs]),if_pos hl]
     rw [cond_false,decide_eq_true hl,cond_true,ih _ (by simp; omega),e,hw]
     simp
    ·have e : zC8 xs[k] = none := by unfold zC8; rw [if_neg (by simp [hs]),if_neg hl]
     rw [cond_false,decide_eq_false hl,cond_false,ih _ (by omega),e]
  ·have he : k = xs.length := by omega
   subst he
   rw [zc]
   simp
theorem zFS {v w : zB} (h : zC8 v = some w) : w.Tag = v.Tag ∧ w.Mac = v.Mac ∧ (zJ3 v → zJ3 w) := by
 unfold zC8 at h
 split at h
 ·cases h; exact ⟨rfl,rfl,id⟩
 ·split at h
  ·rename_i h1 h2
   cases h
   refine ⟨rfl,rfl,fun ⟨a,b,c,d,e⟩ => ⟨a,b,c,⟨by simp only; omega,by simp only; omega⟩,fun hs => by cases hs⟩⟩
  ·cases h
theorem zDi.age {xs : List zB} (h : zDi xs) : zDi (xs.filterMap zC8) := by
 obtain ⟨h1,h2,h3⟩ := h
 refine ⟨Nat.le_trans (List.length_filterMap_le _ _) h1,fun v hv => ?_,?_⟩
 ·obtain ⟨u,hu,e⟩ := List.mem_filterMap.1 hv
  exact (zFS e).2.2 (h2 u hu)
 ·rw [List.pairwise_filterMap]
  refine h3.imp fun {a b} hab a' ha b' hb => ?_
  obtain ⟨p1,p2,_⟩ := zFS ha
  obtain ⟨q1,q2,_⟩ := zFS hb
  unfold zCu at hab ⊢
  rw [p1,p2,q1,q2]
  exact hab
theorem zDv (n : Nat) (xs : List zB) (h : zDi xs) (hn : 12 < n) : YM n xs = some (xs.filterMap zC8) := by
 have h1 := h.1
 unfold YM
 rw [show qV n n xs 0 [] = _ from zC3 n xs (by omega) (fun v hv => by have := (h.2.1 v hv).2.2.2.1; omega) n 0 [] (by omega) (by omega) (by simp)]
 rfl
theorem zLn {v : zB} (h : zJ3 v) : v.wf := by
 obtain ⟨h1,h2,h3,h4,_⟩ := h
 exact ⟨ZH (by omega) (by omega),ZH (by omega) (by omega),ZH (by omega) (by omega),ZH (by omega) (by omega),trivial⟩
theorem zI6 (n : Nat) (x : zA) (hn : 1048577 < n) (wx : x.wf) (hx : x.sz ≤ 1048576) (hb : zS n x = some true) (ps : List Pt) (hp : ps.length = x.Ps.length) (hps : ∀ j (hj : j < ps.length),qF n ps[j] = some true) (wps : Yt Pt.wf ps) (fs : List zB) (hf : fs.length ≤ x.F.length) (hfs : zDi fs) (t : Int) (t0 : 0 ≤ t) (t1 : t ≤ 1000000) :
  ∃ (zs : List zB) (v b : Int),ql n ⟨x.Id,x.Name,ps,fs,x.V,t,x.Pa,x.Wo,x.Dr,x.Ve⟩ = some ⟨x.Id,x.Name,ps,zs,x.V,t,x.Pa,x.Wo,x.Dr,v⟩ ∧ qp n ⟨x.Id,x.Name,ps,fs,x.V,t,x.Pa,x.Wo,x.Dr,x.Ve⟩ = some ⟨x.Id,x.Name,ps,zs,x.V,t,x.Pa,x.Wo,x.Dr,v⟩ ∧
   zS n ⟨x.Id,x.Name,ps,zs,x.V,t,x.Pa,x.Wo,x.Dr,v⟩ = some true ∧ (⟨x.Id,x.Name,ps,zs,x.V,t,x.Pa,x.Wo,x.Dr,v⟩ : zA).wf ∧ (⟨x.Id,x.Name,ps,zs,x.V,t,x.Pa,x.Wo,x.Dr,v⟩ : zA).sz ≤ x.sz ∧ ZX n x.Id ps = some b ∧ ∀ u ∈ zs,u.Sc = true ∨ ∀ j : Nat,j < ps.length → zC9 b j = false → u.Port ≠ j := by
 have hs : x.Name.size + x.Ps.length + x.F.length + x.V.sz = x.sz := rfl
 obtain ⟨p1,p2,p3,p4,p5,p6,p7,p8,p9,p10,p11,p12,p13⟩ := qS n x (by omega) hb
 obtain ⟨zs,v,b,e1,e2,e3,e4,e5,e6,e7,e8⟩ := zJm n x hn hx hb ps hp fs hf t
 have hsub := zFQ n _ _ (by simp only; omega) (by simp only; omega) (by simp only; omega) e1
 have hz : zDi zs := hfs.sub hsub
 have hz1 := hz.1
 obtain ⟨w1,w2,w3,w4,w5,w6,w7,w8,w9,w10,w11,w12⟩ := wx
 refine ⟨zs,v,b,e1,e2,?_,⟨w1,w2,wps,⟨Nat.le_trans hz1 (by decide),fun u hu => zLn (hz.2.1 u hu)⟩,w5,w6,ZH (z := t) (by omega) (by omega),w8,w9,w10,ZH (z := v) (by omega) (by omega),trivial⟩,?_,e7,e8⟩
 ·exact zGZ n ⟨x.Id,x.Name,ps,zs,x.V,t,x.Pa,x.Wo,x.Dr,v⟩ (by simp only; omega) (by simp only; omega) (by simp only; omega) p3 p4 p5 (zIt n zs (by omega) hz) (by simp only [hp]; exact p7) ⟨t0,t1⟩ p9 p10 p11 ⟨e5,e6⟩ hps
 ·show x.Name.size + ps.length + zs.length + x.V.sz ≤ x.sz
  omega
theorem zEm : (⟨0,0,0,0,0⟩ : Vec).wf := by
 have z0 : z6 0 := ZH (by omega) (by omega)
 exact ⟨z0,z0,z0,z0,z0,trivial⟩
theorem zEG (n : Nat) (p : Pt) (h : qF n p = some true) : (1 ≤ p.Co ∧ p.Co ≤ 1000) ∧ (p.Has = true → p.Up = true ∧ zq n p.Hd = some true) ∧ (p.Has = false → p.Hd = ⟨0,0,0,0,0⟩) := by
 unfold qF at h
 rw [zQ,Option.bind_some] at h
 cases hc : (decide (1 ≤ p.Co) && decide (p.Co ≤ 1000)) with
 | false => rw [hc] at h; cases h
 | true =>
  have h0 : ∀ {v : Vec},some ((v.Root == 0) && ((v.Co == 0) && ((v.Hops == 0) && ((v.Bridge == 0) && ((v.Port == 0) && true))))) = some true → v = ⟨0,0,0,0,0⟩ := fun {v} e => by
   have e := Option.some.inj e
   simp only [Bool.and_eq_true,beq_iff_eq] at e
   obtain ⟨a,b,c,d,f,_⟩ := e
   cases v
   simp_all
  simp only [Bool.and_eq_true,decide_eq_true_eq] at hc
  rw [decide_eq_true hc.1,decide_eq_true hc.2] at h
  simp only [Bool.and_self,Bool.not_true,cond_false] at h
  cases hu : p.Up with
  | false =>
   rw [hu] at h
   simp only [Bool.not_false,cond_true] at h
   cases hh : p.Has with
   | true => rw [hh] at h; cases h
   | false => rw [hh] at h; exact ⟨hc,fun e => (by cases e),fun _ => h0 h⟩
  | true =>
   rw [hu] at h
   simp only [Bool.not_true,cond_false] at h
   cases hh : p.Has with
   | false => rw [hh] at h; exact ⟨hc,fun e => (by cases e),fun _ => h0 h⟩
   | true =>
    rw [hh] at h
    simp only [Bool.not_true,cond_false] at h
    obtain ⟨b,hb,h⟩ := bind_some h
    cases h
    exact ⟨hc,fun _ => ⟨rfl,hb⟩,fun e => (by cases e)⟩
theorem zIv (n : Nat) (c : Int) (up : Bool) (h : 1 ≤ c ∧ c ≤ 1000) : qF n ⟨up,c,false,⟨0,0,0,0,0⟩⟩ = some true := by
 unfold qF
 rw [zQ,Option.bind_some,decide_eq_true h.1,decide_eq_true h.2]
 cases up <;> rfl
theorem zIw (n : Nat) (c : Int) (v : Vec) (h : 1 ≤ c ∧ c ≤ 1000) (hv : zq n v = some true) : qF n ⟨true,c,true,v⟩ = some true := by
 unfold qF
 rw [zQ,Option.bind_some,decide_eq_true h.1,decide_eq_true h.2]
 simp only [Bool.and_self,Bool.not_true,cond_false,hv,Option.bind_some]
theorem zLf {α : Type} {P : α → Prop} {xs : List α} {k : Nat} {v : α} (h : ∀ j (hj : j < xs.length),P xs[j]) (hv : P v) : ∀ j (hj : j < (xs.set k v).length),P (xs.set k v)[j] := fun j hj => by
 rw [List.getElem_set]
 split
 ·exact hv
 ·exact h j (by simpa using hj)
theorem zDw (n : Nat) (x : zA) (k : Nat) (up : Bool) (wx : x.wf) (hx : x.sz ≤ 1048576) (hn : 1048577 < n) (hb : zS n x = some true) (hk : k < x.Ps.length) : ∃ y : zA,Yb n x k up = some y ∧ YX n x k up = some y ∧ zS n y = some true ∧ y.wf ∧ y.sz ≤ x.sz ∧ y.Id = x.Id ∧ y.Ps = x.Ps.set k ⟨up,x.Ps[k].Co,false,⟨0,0,0,0,0⟩⟩ ∧ ∃ b,ZX n y.Id y.Ps = some b ∧ ∀ u ∈ y.F,u.Sc = true ∨ ∀ j : Nat,j < y.Ps.length → zC9 b j = false → u.Port ≠ j := by
 have hs : x.Name.size + x.Ps.length + x.F.length + x.V.sz = x.sz := rfl
 obtain ⟨b,h1,h2⟩ := QU n x wx (by omega) (by omega)
 rw [hb] at h1
 obtain rfl := Option.some.inj h1
 obtain ⟨p1,p2,p3,p4,p5,p6,p7,p8,p9,p10,p11,p12,p13⟩ := qS n x (by omega) hb
 have hc := (zEG n _ (p13 k hk)).1
 have wk := (wx.2.2.1.2 _ (List.getElem_mem hk))
 obtain ⟨zs,v,bb,e1,e2,e3,e4,e5,e6,e7⟩ := zI6 n x hn wx hx hb (x.Ps.set k ⟨up,x.Ps[k].Co,false,⟨0,0,0,0,0⟩⟩) (by simp) (zLf (P := fun q => qF n q = some true) p13 (zIv n _ up hc)) (zH2 wx.2.2.1 ⟨wk.1,zEm.1,zEm.2.1,zEm.2.2.1,zEm.2.2.2.1,zEm.2.2.2.2.1,trivial⟩) x.F (Nat.le_refl _) (zBh n x.F (by omega) p6) x.Tk p8.1 p8.2
 have there : (true && (decide ((0 : Int) ≤ k) && decide ((k : Int) < x.Ps.length))) = true := by
  rw [decide_eq_true (by omega),decide_eq_true (by omega)]; rfl
 refine ⟨_,?_,?_,e3,e4,e5,rfl,rfl,bb,e6,e7⟩
 ·unfold Yb
  rw [Jo n x (by omega),Option.bind_some,zC6 n x k true hb (by omega),Option.bind_some,there]
  simp only [Bool.not_true,cond_false,zK hk,Option.bind_some,Int.toNat_natCast,e1]
 ·unfold YX
  rw [YR n x (by omega),Option.bind_some,zDp n x k true h2 (by omega),Option.bind_some,there]
  simp only [cond_true,zK hk,Option.bind_some,Int.toNat_natCast,e2]
theorem zHP (n : Nat) (x : zA) (k : Nat) (u : Vec) (wx : x.wf) (hx : x.sz ≤ 1048576) (hn : 1048577 < n) (hb : zS n x = some true) (hk : k < x.Ps.length) (hu : x.Ps[k].Up = true) (hv : zq n u = some true) : ∃ y : zA,Z3 n x k u = some y ∧ QQ n x k u = some y ∧ zS n y = some true ∧ y.wf ∧ y.sz ≤ x.sz ∧ y.Id = x.Id ∧ y.Ps = x.Ps.set k ⟨true,x.Ps[k].Co,true,u⟩ ∧ ∃ b,ZX n y.Id y.Ps = some b ∧ ∀ u ∈ y.F,u.Sc = true ∨ ∀ j : Nat,j < y.Ps.length → zC9 b j = false → u.Port ≠ j := by
 have hs : x.Name.size + x.Ps.length + x.F.length + x.V.sz = x.sz := rfl
 obtain ⟨b,h1,h2⟩ := QU n x wx (by omega) (by omega)
 rw [hb] at h1
 obtain rfl := Option.some.inj h1
 obtain ⟨p1,p2,p3,p4,p5,p6,p7,p8,p9,p10,p11,p12,p13⟩ := qS n x (by omega) hb
 have hc := (zEG n _ (p13 k hk)).1
 have wk := (wx.2.2.1.2 _ (List.getElem_mem hk))
 have wu := zEj n u hv
 obtain ⟨zs,v,bb,e1,e2,e3,e4,e5,e6,e7⟩ := zI6 n x hn wx hx hb (x.Ps.set k ⟨true,x.Ps[k].Co,true,u⟩) (by simp) (zLf (P := fun q => qF n q = some true) p13 (zIw n _ u hc hv)) (zH2 wx.2.2.1 ⟨wk.1,wu.1,wu.2.1,wu.2.2.1,wu.2.2.2.1,wu.2.2.2.2.1,trivial⟩) x.F (Nat.le_refl _) (zBh n x.F (by omega) p6) x.Tk p8.1 p8.2
 have there : (true && (decide ((0 : Int) ≤ k) && decide ((k : Int) < x.Ps.length))) = true := by
  rw [decide_eq_true (by omega),decide_eq_true (by omega)]; rfl
 have hi : idx (x.Ps.set k ⟨x.Ps[k].Up,x.Ps[k].Co,true,x.Ps[k].Hd⟩) (k : Int) = some ⟨x.Ps[k].Up,x.Ps[k].Co,true,x.Ps[k].Hd⟩ := by
  rw [zK (by simpa using hk)]; simp
 have hi' : idx (x.Ps.set k ⟨true,x.Ps[k].Co,true,x.Ps[k].Hd⟩) (k : Int) = some ⟨true,x.Ps[k].Co,true,x.Ps[k].Hd⟩ := by
  rw [zK (by simpa using hk)]; simp
 refine ⟨_,?_,?_,e3,e4,e5,rfl,rfl,bb,e6,e7⟩
 ·unfold Z3
  rw [Jo n x (by omega),Option.bind_some,zC6 n x k true hb (by omega),Option.bind_some,there]
  simp only [Bool.not_true,cond_false,zK hk,Option.bind_some,Int.toNat_natCast,hu,hv,hi,hi',List.set_set,e1]
 ·unfold QQ
  rw [YR n x (by omega),Option.bind_some,zDp n x k true h2 (by omega),Option.bind_some,there]
  simp only [QI,zCP,cond_true,zK hk,Option.bind_some,Int.toNat_natCast,hu,hv,hi,hi',List.set_set,e2]
theorem zJl (n : Nat) (x : zA) (wx : x.wf) (hx : x.sz ≤ 1048576) (hn : 1048577 < n) (hb : zS n x = some true) : ∃ y : zA,zBA n x = some y ∧ zAx n x = some y ∧ zS n y = some true ∧ y.wf ∧ y.sz ≤ x.sz ∧ y.Id = x.Id ∧ y.Ps = x.Ps ∧ (x.Tk < 1000000 → y.Tk = x.Tk + 1) ∧ ∃ b,ZX n y.Id y.Ps = some b ∧ ∀ u ∈ y.F,u.Sc = true ∨ ∀ j : Nat,j < y.Ps.length → zC9 b j = false → u.Port ≠ j := by
 have hs : x.Name.size + x.Ps.length + x.F.length + x.V.sz = x.sz := rfl
 obtain ⟨b,h1,h2⟩ := QU n x wx (by omega) (by omega)
 rw [hb] at h1
 obtain rfl := Option.some.inj h1
 obtain ⟨p1,p2,p3,p4,p5,p6,p7,p8,p9,p10,p11,p12,p13⟩ := qS n x (by omega) hb
 have hf := zBh n x.F (by omega) p6
 obtain ⟨fs,a1,a2,a3⟩ := zGY n x.F (by omega) (by omega) (fun v hv => by have := (hf.2.1 v hv).2.2.2.1; omega)
 rw [zDv n x.F hf (by omega)] at a1
 obtain rfl := Option.some.inj a1
 obtain ⟨t,t1,t2,t3,t4⟩ := zFD n x.Tk p8.1 p8.2
 obtain ⟨zs,v,bb,e1,e2,e3,e4,e5,e6,e7⟩ := zI6 n x hn wx hx hb x.Ps rfl p13 wx.2.2.1 (x.F.filterMap zC8) a3 hf.age t t3 t4
 refine ⟨_,?_,?_,e3,e4,e5,rfl,rfl,fun hlt => ?_,bb,e6,e7⟩
 ·unfold zBA
  simp only [Jo n x (show x.sz ≤ 268435456 by omega),hb,zDv n x.F hf (show 12 < n by omega),t1,Option.bind_some,Bool.not_true,cond_false,e1]
 ·unfold zAx
  simp only [YR n x (show x.sz ≤ 268435456 by omega),h2,a2,t2,Option.bind_some,cond_true,e2]
 ·unfold YO at t1
  rw [decide_eq_false (by omega),cond_false,wrap64 (by omega) (by omega)] at t1
  exact (Option.some.inj t1).symm
def zDe (n : Nat) (x : Net) (s : Say) : Prop := (0 ≤ s.Link ∧ s.Link < x.Ls.length) ∧ zq n s.V = some true
def zLi (n : Nat) (x : Net) : Prop := ∀ s ∈ x.Said,zDe n x s
theorem zBp (n : Nat) (x : Net) (wx : x.wf) (h : Big x) (hn : 1048700 < n) : ∃ b,Q6 n x = some b ∧ Y0 n x = some b ∧ (b = true ↔ zNo n x ∧ zLi n x) := by
 have ⟨hl1,hl2,hl3,hl4⟩ := h
 obtain ⟨bB,eB,iB⟩ := zEk n x wx h hn
 have hsaid : ∃ bS : Bool,(∃ o,qz n n x 0 = some o ∧ qy n n x 0 = some o ∧ (o = .inl () ∧ bS = true ∨ o = .inr false ∧ bS = false)) ∧ (bS = true ↔ zLi n x) := by
  have step : ∀ m (k : Nat) (hk : k < x.Said.length),∃ b : Bool,qz n (m + 1) x k = (bif b then qz n m x ((k + 1 : Nat) : Int) else some (.inr false)) ∧ qy n (m + 1) x k = (bif b then qy n m x ((k + 1 : Nat) : Int) else some (.inr false)) ∧ (b = true ↔ zDe n x x.Said[k]) := fun m k hk => by
   obtain ⟨c,hc⟩ := zCB n x.Said[k].V
   rw [qz,qy,zp hk,zK hk]
   simp only [cond_true,Option.bind_some,qe,zAe n _ _ (show x.Ls.length ≤ 1048600 by omega),zCP,hc,zT (by omega : k ≤ 1099511627776)]
   by_cases hr : 0 ≤ x.Said[k].Link ∧ x.Said[k].Link < x.Ls.length
   ·rw [decide_eq_true hr]
    cases c with
    | false => exact ⟨false,rfl,rfl,⟨fun e => (by cases e),fun e => absurd (hc.symm.trans e.2) (by simp)⟩⟩
    | true => exact ⟨true,rfl,rfl,⟨fun _ => ⟨hr,hc⟩,fun _ => rfl⟩⟩
   ·rw [decide_eq_false hr]; exact ⟨false,rfl,rfl,⟨fun e => (by cases e),fun e => absurd e.1 hr⟩⟩
  have all : ∀ (m k : Nat),k ≤ x.Said.length → x.Said.length < m + k → ∃ o,qz n m x k = some o ∧ qy n m x k = some o ∧ ((o = .inl () ∧ ∀ j (hj : j < x.Said.length),k ≤ j → zDe n x x.Said[j]) ∨ (o = .inr false ∧ ∃ j,∃ hj : j < x.Said.length,¬ zDe n x x.Said[j])) := by
   intro m
   induction m with
   | zero => intro k h1 h2; omega
   | succ m ih =>
    intro k h1 h2
    by_cases hk : k < x.Said.length
    ·obtain ⟨b,e1,e2,e3⟩ := step m k hk
     rw [e1,e2]
     cases b with
     | true =>
      obtain ⟨o,f1,f2,f3⟩ := ih (k + 1) (by omega) (by omega)
      refine ⟨o,f1,f2,f3.imp (fun f => ⟨f.1,fun j hj hkj => ?_⟩) id⟩
      by_cases hjk : j = k
      ·subst hjk; exact e3.1 rfl
      ·exact f.2 j hj (by omega)
     | false => exact ⟨_,rfl,rfl,.inr ⟨rfl,k,hk,fun hc => (by have := e3.2 hc; cases this)⟩⟩
    ·have he : k = x.Said.length := by omega
     subst he
     rw [qz,qy,zc]
     exact ⟨_,rfl,rfl,.inl ⟨rfl,fun j hj hkj => by omega⟩⟩
  obtain ⟨o,e1,e2,e3⟩ := all n 0 (by omega) (by omega)
  rcases e3 with ⟨e3,e4⟩ | ⟨e3,j,hj,e4⟩
  ·refine ⟨true,⟨o,e1,e2,.inl ⟨e3,rfl⟩⟩,⟨fun _ s hs => ?_,fun _ => rfl⟩⟩
   obtain ⟨j,hj,rfl⟩ := List.getElem_of_mem hs
   exact e4 j hj (by omega)
  ·exact ⟨false,⟨o,e1,e2,.inr ⟨e3,rfl⟩⟩,⟨fun e => (by cases e),fun hc => absurd (hc _ (List.getElem_mem hj)) e4⟩⟩
 obtain ⟨bS,⟨oS,s1,s2,s3⟩,iS⟩ := hsaid
 have s1' : qz n n x 0 = some oS := s1
 have s2' : qy n n x 0 = some oS := s2
 have l4 := QH (L := fun m k => qg n m x k) (N := x.Ls.length) (P := fun k => ∀ hk : k < x.Ls.length,LOk x x.Ls[k] ∧ qT (qn x.Ls[k].A x.Ls[k].P) x.Ls = 1 ∧ qT (qn x.Ls[k].B x.Ls[k].Q) x.Ls = 1) (fun m k hk => zFP n x h hn m k hk) (fun m => ⟨(),by simp only [qg]; rw [zc]; rfl⟩) n 0 (by omega) (by omega)
 have l2 := QH (L := fun m k => qL n m x k) (N := x.Ls.length) (P := fun k => ∀ hk : k < x.Ls.length,k < 9 ∧ LOk x x.Ls[k] ∧ (x.Ls.take k).any (zx x.Ls[k].A x.Ls[k].P) = false ∧ (x.Ls.take k).any (zx x.Ls[k].B x.Ls[k].Q) = false) (fun m k hk => zEd n x h hn m k hk) (fun m => ⟨(),by simp only [qL]; rw [zc]; rfl⟩) n 0 (by omega) (by omega)
 have lB := QH (L := fun m k => z7 n m x k) (N := x.Bs.length) (P := BOk n x) (fun m k hk => zFK n x wx h hn m k hk) (fun m => ⟨(),by simp only [z7]; rw [zc]; rfl⟩) n 0 (by omega) (by omega)
 have hiff : (x.Ls.length ≤ 9 ∧ ∀ j,0 ≤ j → j < x.Ls.length → ∀ hk : j < x.Ls.length,LOk x x.Ls[j] ∧ qT (qn x.Ls[j].A x.Ls[j].P) x.Ls = 1 ∧ qT (qn x.Ls[j].B x.Ls[j].Q) x.Ls = 1) ↔
   (∀ j,0 ≤ j → j < x.Ls.length → ∀ hk : j < x.Ls.length,j < 9 ∧ LOk x x.Ls[j] ∧ (x.Ls.take j).any (zx x.Ls[j].A x.Ls[j].P) = false ∧ (x.Ls.take j).any (zx x.Ls[j].B x.Ls[j].Q) = false) := by
  constructor
  ·rintro ⟨h9,hc⟩ j _ hj hj'
   have hne : ∀ l ∈ x.Ls,l.A ≠ l.B := fun l hl => by
    obtain ⟨i,hi,rfl⟩ := List.getElem_of_mem hl
    exact (hc i (by omega) hi hi).1.1
   exact ⟨by omega,(hc j (by omega) hj hj).1,(zHk x.Ls hne).1 (fun k hk => (hc k (by omega) hk hk).2) j hj⟩
  ·intro hc
   have hne : ∀ l ∈ x.Ls,l.A ≠ l.B := fun l hl => by
    obtain ⟨i,hi,rfl⟩ := List.getElem_of_mem hl
    exact (hc i (by omega) hi hi).2.1.1
   refine ⟨?_,fun j _ hj _ => ⟨(hc j (by omega) hj hj).2.1,(zHk x.Ls hne).2 (fun k hk => (hc k (by omega) hk hk).2.2) j hj⟩⟩
   by_cases h0 : x.Ls.length = 0
   ·omega
   ·have := (hc (x.Ls.length - 1) (by omega) (by omega) (by omega)).1
    omega
 have hS : ∀ (bb : Bool),(bif decide ((x.Said.length : Int) > 40) then (some false : Option Bool) else some bb) = some (decide (x.Said.length ≤ 40) && bb) := fun bb => by
  by_cases h40 : x.Said.length ≤ 40
  ·rw [decide_eq_false (by omega),decide_eq_true h40]; cases bb <;> rfl
  ·rw [decide_eq_true (by omega),decide_eq_false h40]; rfl
 have hn6 : (decide ((1 : Int) ≤ (x.Bs.length : Int)) && decide ((x.Bs.length : Int) ≤ 6)) = decide (1 ≤ x.Bs.length ∧ x.Bs.length ≤ 6) := by
  by_cases h6 : 1 ≤ x.Bs.length ∧ x.Bs.length ≤ 6
  ·rw [decide_eq_true h6,decide_eq_true (by omega),decide_eq_true (by omega)]; rfl
  ·rw [decide_eq_false h6]; simp only [Bool.and_eq_false_iff,decide_eq_false_iff_not]; omega
 have hL : ∀ (b' : Bool),(bif decide ((x.Ls.length : Int) > 9) then (some false : Option Bool) else some b') = some (decide (x.Ls.length ≤ 9) && b') := fun b' => by
  by_cases h9 : x.Ls.length ≤ 9
  ·rw [decide_eq_false (by omega),decide_eq_true h9]; cases b' <;> rfl
  ·rw [decide_eq_true (by omega),decide_eq_false h9]; rfl
 have hN : ∀ (c b' : Bool),(bif !c then (some false : Option Bool) else some b') = some (c && b') := fun c b' => by cases c <;> rfl
 have hJ1 : Yc n x = some bS := by
  unfold Yc
  rw [s1']
  rcases s3 with ⟨rfl,rfl⟩ | ⟨rfl,rfl⟩ <;> rfl
 have hspec : ∃ b4 : Bool,Q6 n x = some (bB && (decide (x.Ls.length ≤ 9) && (decide (x.Said.length ≤ 40) && (b4 && bS)))) ∧ (b4 = true ↔ ∀ j,0 ≤ j → j < x.Ls.length → ∀ hk : j < x.Ls.length,LOk x x.Ls[j] ∧ qT (qn x.Ls[j].A x.Ls[j].P) x.Ls = 1 ∧ qT (qn x.Ls[j].B x.Ls[j].Q) x.Ls = 1) := by
  unfold Q6
  rw [eB,Option.bind_some]
  rcases l4 with ⟨a,e,p⟩ | ⟨e,p⟩
  ·rw [show qg n n x 0 = _ from e]
   refine ⟨true,?_,⟨fun _ => p,fun _ => rfl⟩⟩
   simp only [Option.bind_some,hJ1,hS,hL,hN,Bool.true_and]
  ·rw [show qg n n x 0 = _ from e]
   refine ⟨false,?_,⟨fun hc => (by cases hc),fun hc => absurd hc p⟩⟩
   simp only [Option.bind_some,hS,hL,hN,Bool.false_and]
 have hlk : ∃ b2 : Bool,Jw n x = some b2 ∧ (b2 = true ↔ (∀ j,0 ≤ j → j < x.Ls.length → ∀ hk : j < x.Ls.length,j < 9 ∧ LOk x x.Ls[j] ∧ (x.Ls.take j).any (zx x.Ls[j].A x.Ls[j].P) = false ∧ (x.Ls.take j).any (zx x.Ls[j].B x.Ls[j].Q) = false)) := by
  unfold Jw
  rcases l2 with ⟨a,e,p⟩ | ⟨e,p⟩
  ·rw [show qL n n x 0 = _ from e]; exact ⟨true,rfl,⟨fun _ => p,fun _ => rfl⟩⟩
  ·rw [show qL n n x 0 = _ from e]; exact ⟨false,rfl,⟨fun hc => (by cases hc),fun hc => absurd hc p⟩⟩
 obtain ⟨b2,e2,i2⟩ := hlk
 have hJ2 : YY n x = some (bS && b2) := by
  unfold YY
  rw [s2']
  rcases s3 with ⟨rfl,rfl⟩ | ⟨rfl,rfl⟩
  ·simp only [Option.bind_some,Jr,e2,Bool.true_and]
  ·rfl
 have himpl : ∃ bb : Bool,Y0 n x = some (decide (1 ≤ x.Bs.length ∧ x.Bs.length ≤ 6) && (decide (x.Said.length ≤ 40) && (bb && (bS && b2)))) ∧ (bb = true ↔ ∀ j,0 ≤ j → j < x.Bs.length → BOk n x j) := by
  unfold Y0
  rw [qe,zQ,Option.bind_some,hn6]
  rcases lB with ⟨a,e,p⟩ | ⟨e,p⟩
  ·rw [show z7 n n x 0 = _ from e]
   refine ⟨true,?_,⟨fun _ => p,fun _ => rfl⟩⟩
   simp only [Option.bind_some,hJ2,hS,hN,Bool.true_and]
  ·rw [show z7 n n x 0 = _ from e]
   refine ⟨false,?_,⟨fun hc => (by cases hc),fun hc => absurd hc p⟩⟩
   simp only [Option.bind_some,hS,hN,Bool.false_and]
 obtain ⟨b4,e4,i4⟩ := hspec
 obtain ⟨bb,eb,ib⟩ := himpl
 have heq : (bB && (decide (x.Ls.length ≤ 9) && (decide (x.Said.length ≤ 40) && (b4 && bS)))) = (decide (1 ≤ x.Bs.length ∧ x.Bs.length ≤ 6) && (decide (x.Said.length ≤ 40) && (bb && (bS && b2)))) := by
  rw [Bool.eq_iff_iff]
  simp only [Bool.and_eq_true,decide_eq_true_eq,iB,i4,ib,i2]
  constructor
  ·rintro ⟨⟨h1,h2⟩,h3,h4,h5,h6⟩
   exact ⟨h2,h4,fun j _ hj => h1 j hj,h6,hiff.1 ⟨h3,h5⟩⟩
  ·rintro ⟨h2,h4,h1,h6,h7⟩
   obtain ⟨h3,h5⟩ := hiff.2 h7
   exact ⟨⟨fun k hk => h1 k (by omega) hk,h2⟩,h3,h4,h5,h6⟩
 refine ⟨_,e4,by rw [heq]; exact eb,⟨fun hc => ?_,fun ⟨⟨h1,h2,h3,h4,h5⟩,h6⟩ => ?_⟩⟩
 ·simp only [Bool.and_eq_true,decide_eq_true_eq,iB,i4,iS] at hc
  obtain ⟨⟨h1,h2⟩,h3,h4,h5,h6⟩ := hc
  exact ⟨⟨h1,h2,h3,h4,fun k hk => h5 k (by omega) hk hk⟩,h6⟩
 ·simp only [Bool.and_eq_true,decide_eq_true_eq,iB,i4,iS]
  exact ⟨⟨h1,h2⟩,h3,h4,fun j _ hj hk => h5 j hk,h6⟩
theorem zFG (n : Nat) (v : Vec) : zq n v = some true ↔ (1 ≤ v.Root ∧ v.Root ≤ 99) ∧ (0 ≤ v.Co ∧ v.Co ≤ 100000) ∧ (0 ≤ v.Hops ∧ v.Hops ≤ 10) ∧ (1 ≤ v.Bridge ∧ v.Bridge ≤ 99) ∧ (0 ≤ v.Port ∧ v.Port ≤ 7) := by
 have two : ∀ {a b c : Int},(decide (a ≤ b) && decide (b ≤ c)) = true ↔ a ≤ b ∧ b ≤ c := fun {a b c} => by rw [Bool.and_eq_true,decide_eq_true_eq,decide_eq_true_eq]
 unfold zq
 simp only [zQ,Option.bind_some]
 constructor
 ·intro h
  obtain ⟨h1,h⟩ := zAV h
  obtain ⟨h2,h⟩ := zAV h
  obtain ⟨h3,h⟩ := zAV h
  obtain ⟨h4,h⟩ := zAV h
  have h5 := Option.some.inj h
  exact ⟨two.1 h1,two.1 h2,two.1 h3,two.1 h4,two.1 h5⟩
 ·rintro ⟨h1,h2,h3,h4,h5⟩
  rw [two.2 h1,two.2 h2,two.2 h3,two.2 h4,two.2 h5]
  rfl
theorem zHS (n : Nat) (v w : Vec) (c : Int) (h : QS n v c = some (w,true)) : zq n w = some true := by
 unfold QS at h
 obtain ⟨b1,h1,h⟩ := bind_some h
 cases b1 with
 | false => cases h
 | true =>
  obtain ⟨b2,h2,h⟩ := bind_some h
  cases b2 with
  | false => cases h
  | true =>
   obtain ⟨b3,h3,h⟩ := bind_some h
   cases b3 with
   | false => cases h
   | true => cases h; exact h3
def zMs (a b c : Int) : Prop := (1 ≤ a ∧ a ≤ 99) ∧ (0 ≤ b ∧ b ≤ 100000) ∧ (0 ≤ c ∧ c ≤ 10)
theorem zCI (n : Nat) (x0 : Int) (x1 : List Pt) : ∀ (m : Nat) (y1 y2 y3 y4 y5 y6 y7 y8 y9 y10 : Int) (o : (Int × Int × Int × Int) ⊕ (Vec × Int)),zMs y8 y9 y10 → zo n m x0 x1 y1 y2 y3 y4 y5 y6 y7 y8 y9 y10 = some o → ∃ z2 z8 z9 z10,o = .inl (z2,z8,z9,z10) ∧ zMs z8 z9 z10
 | 0,y1,y2,y3,y4,y5,y6,y7,y8,y9,y10,o,hr,e => by cases e
 | m + 1,y1,y2,y3,y4,y5,y6,y7,y8,y9,y10,o,hr,e => by
  have ih := zCI n x0 x1 m
  rw [zo] at e
  cases hl : decide (y1 < (x1.length : Int)) with
  | false => rw [hl] at e; cases e; exact ⟨_,_,_,_,rfl,hr⟩
  | true =>
   rw [hl,cond_true] at e
   obtain ⟨v,_,e⟩ := bind_some e
   cases hu : (!v.Up) with
   | true => rw [hu] at e; exact ih _ _ _ _ _ _ _ _ _ _ _ hr e
   | false =>
    rw [hu,cond_false] at e
    obtain ⟨v1,_,e⟩ := bind_some e
    cases hh : (!v1.Has) with
    | true => rw [hh] at e; exact ih _ _ _ _ _ _ _ _ _ _ _ hr e
    | false =>
     rw [hh,cond_false] at e
     obtain ⟨v2,_,e⟩ := bind_some e
     obtain ⟨v3,_,e⟩ := bind_some e
     obtain ⟨⟨w,ok⟩,hw,e⟩ := bind_some e
     simp only at e
     cases ok with
     | false => exact ih _ _ _ _ _ _ _ _ _ _ _ hr e
     | true =>
      have hv := (zFG n w).1 (zHS n _ _ _ hw)
      have hr' : zMs w.Root w.Co w.Hops := ⟨hv.1,hv.2.1,hv.2.2.1⟩
      rw [cond_true] at e
      cases hd : decide (w.Root < x0) with
      | false => rw [hd] at e; exact ih _ _ _ _ _ _ _ _ _ _ _ hr e
      | true =>
       rw [hd,cond_true] at e
       cases hd2 : decide (y2 < 0) with
       | true => rw [hd2] at e; exact ih _ _ _ _ _ _ _ _ _ _ _ hr' e
       | false =>
        rw [hd2,cond_false] at e
        obtain ⟨c,_,e⟩ := bind_some e
        cases c with
        | true => exact ih _ _ _ _ _ _ _ _ _ _ _ hr' e
        | false => exact ih _ _ _ _ _ _ _ _ _ _ _ hr e
theorem zIE (n : Nat) (id : Int) (l : List Pt) (p : Int) (h0 : 1 ≤ id) (h1 : id ≤ 99) (hl : l.length ≤ 1048576) (hn : l.length < n) (p0 : 0 ≤ p) (p7 : p ≤ 7) : ∃ v,qH n id l p = some v ∧ zq n v = some true ∧ v.wf := by
 obtain ⟨⟨v,q⟩,e⟩ := zBE n id l hl hn
 have e' := e
 unfold Zz at e'
 obtain ⟨o,ho,e'⟩ := bind_some e'
 obtain ⟨z2,z8,z9,z10,rfl,hr⟩ := zCI n id l n _ _ _ _ _ _ _ _ _ _ o ⟨⟨h0,h1⟩,⟨by omega,by omega⟩,⟨by omega,by omega⟩⟩ ho
 cases e'
 have hok : zq n (⟨z8,z9,z10,id,p⟩ : Vec) = some true := (zFG n _).2 ⟨hr.1,hr.2.1,hr.2.2,⟨h0,h1⟩,⟨p0,p7⟩⟩
 refine ⟨⟨z8,z9,z10,id,p⟩,?_,hok,zEj n _ hok⟩
 unfold qH
 rw [e]
 rfl
theorem zE7 (n : Nat) (x : zA) (hx : x.sz ≤ 1048576) (h : zS n x = some true) : x.sz ≤ 40 := by
 have hs : x.Name.size + x.Ps.length + x.F.length + x.V.sz = x.sz := rfl
 have hs2 : x.V.Rows.length + x.V.Pv.length = x.V.sz := rfl
 obtain ⟨p1,p2,p3,p4,p5,p6,p7,_⟩ := qS n x (by omega) h
 have h1 := (zBh n x.F (by omega) p6).1
 have h2 := zHT n x.V _ p7
 omega
def qR (n : Nat) (x : Net) : Prop := x.wf ∧ Big x ∧ zNo n x ∧ zLi n x
theorem qR.ok {n : Nat} {x : Net} (hn : 1048700 < n) (h : qR n x) : Q6 n x = some true ∧ Y0 n x = some true := by
 obtain ⟨b,e1,e2,e3⟩ := zBp n x h.1 h.2.1 hn
 rw [e3.2 ⟨h.2.2.1,h.2.2.2⟩] at e1 e2
 exact ⟨e1,e2⟩
theorem Big.of {x : Net} (h : x.sz ≤ 1048576) : Big x := by
 have hs : (x.Bs.length + qm zA.sz x.Bs) + x.Ls.length + x.Said.length = x.sz := rfl
 exact ⟨by omega,fun a ha => by have := zAt (sz := zA.sz) ha; omega,by omega,by omega⟩
theorem qR.of {n : Nat} {x : Net} (hn : 1048700 < n) (wx : x.wf) (h : Big x) (e : Q6 n x = some true) : qR n x := by
 obtain ⟨b,e1,_,e3⟩ := zBp n x wx h hn
 rw [e] at e1
 have := e3.1 (Option.some.inj e1).symm
 exact ⟨wx,h,this.1,this.2⟩
theorem qR.br {n : Nat} {x : Net} (h : qR n x) {i : Nat} (hi : i < x.Bs.length) : zS n x.Bs[i] = some true ∧ x.Bs[i].wf ∧ x.Bs[i].sz ≤ 40 := by
 have hok := (h.2.2.1.1 i hi hi).1
 exact ⟨hok,h.1.1.2 _ (List.getElem_mem hi),zE7 n _ (h.2.1.2.1 _ (List.getElem_mem hi)) hok⟩
theorem zKn {α : Type} {sz : α → Nat} {c : Nat} : ∀ (xs : List α),(∀ v ∈ xs,sz v ≤ c) → qm sz xs ≤ c * xs.length
 | [],_ => Nat.zero_le _
 | x :: xs,h => by
  have h1 := h x (by simp)
  have h2 := zKn xs fun v hv => h v (by simp [hv])
  simp only [qm,List.length_cons,Nat.mul_succ]
  omega
theorem qR.sz {n : Nat} {x : Net} (h : qR n x) : x.sz ≤ 400 := by
 have hs : (x.Bs.length + qm zA.sz x.Bs) + x.Ls.length + x.Said.length = x.sz := rfl
 have h1 := zKn (sz := zA.sz) (c := 40) x.Bs fun v hv => by
  obtain ⟨i,hi,rfl⟩ := List.getElem_of_mem hv
  exact (h.br hi).2.2
 have h2 := h.2.2.1.2.1
 have h3 := h.2.2.1.2.2.1
 have h4 := h.2.2.1.2.2.2.1
 omega
theorem zDP {α : Type} {xs : List α} {i : Nat} (hi : i < xs.length) (v : α) (b : Int) : idx (xs.set i v) b = if b = (i : Int) then some v else idx xs b := by
 by_cases hb : b = (i : Int)
 ·subst hb
  rw [if_pos rfl,zK (by simpa using hi)]
  simp
 ·rw [if_neg hb]
  unfold idx
  by_cases h0 : 0 ≤ b
  ·rw [if_pos h0,if_pos h0,List.getElem?_set_ne (by omega)]
  ·rw [if_neg h0,if_neg h0]
theorem zE2 {bs : List zA} {ls : List Link} {ss ss' : List Say} {i : Nat} (hi : i < bs.length) (v : zA) (b p : Int) : Zu ⟨bs.set i v,ls,ss⟩ b p = if b = (i : Int) then idx v.Ps p else Zu ⟨bs,ls,ss'⟩ b p := by
 unfold Zu
 rw [zDP hi]
 split <;> rfl
def zBF (x : Net) (b p : Int) : Option Bool := (Zu x b p).map (·.Up)
theorem zIp {n : Nat} {x : Net} (hx : qR n x) (bs : List zA) (ss : List Say) (hb : bs.length = x.Bs.length)
  (each : ∀ i (hi : i < x.Bs.length) (hi' : i < bs.length),zS n bs[i] = some true ∧ bs[i].wf ∧ bs[i].sz ≤ 1048576 ∧ bs[i].Id = x.Bs[i].Id ∧ bs[i].Ps.length = x.Bs[i].Ps.length ∧ ∀ p (hp : p < bs[i].Ps.length),bs[i].Ps[p].Has = true → x.Ls.any (zx i p) = true)
  (up : ∀ l ∈ x.Ls,zBF ⟨bs,x.Ls,ss⟩ l.A l.P = zBF ⟨bs,x.Ls,ss⟩ l.B l.Q) (s40 : ss.length ≤ 40) (said : ∀ s ∈ ss,zDe n x s ∧ s.wf) : qR n ⟨bs,x.Ls,ss⟩ := by
 obtain ⟨wx,⟨g1,g2,g3,g4⟩,⟨c1,c2,c3,c4,c5⟩,c6⟩ := hx
 have hm : maxLen = 9223372036854775807 := by decide
 refine ⟨⟨⟨by simp only; omega,fun v hv => ?_⟩,wx.2.1,⟨by simp only; omega,fun s hs => (said s hs).2⟩,trivial⟩,⟨by simp only; omega,fun v hv => ?_,g3,by simp only; omega⟩,⟨fun k hk hk' => ?_,by simp only; omega,c3,s40,fun k hk => ?_⟩,fun s hs => (said s hs).1⟩
 ·obtain ⟨i,hi,rfl⟩ := List.getElem_of_mem hv
  have hi : i < bs.length := hi
  exact (each i (by omega) hi).2.1
 ·obtain ⟨i,hi,rfl⟩ := List.getElem_of_mem hv
  have hi : i < bs.length := hi
  exact (each i (by omega) hi).2.2.1
 ·have hk' : k < bs.length := hk'
  obtain ⟨e1,e2,e3,e4,e5,e6⟩ := each k (by omega) hk'
  refine ⟨e1,fun j hj => ?_,fun p hp hh => e6 p hp hh⟩
  have := (c1 k (by omega) (by omega)).2.1 j hj
  have f := (each j (by omega) (by omega)).2.2.2.1
  simp only at this ⊢
  rw [f,e4]; exact this
 ·obtain ⟨⟨d1,p,q,d2,d3,d4⟩,d5⟩ := c5 k hk
  have u := up x.Ls[k] (List.getElem_mem hk)
  have ex : ∀ {b p : Int} {v : Pt},Zu x b p = some v → ∃ w,Zu ⟨bs,x.Ls,ss⟩ b p = some w := fun {b p v} h => by
   obtain ⟨a,h1,h2⟩ := zBQ h
   obtain ⟨i0,i1⟩ := zFX h1
   obtain ⟨i,rfl⟩ := Int.eq_ofNat_of_zero_le i0
   have hi : i < x.Bs.length := Int.ofNat_lt.1 i1
   rw [zK hi] at h1
   obtain rfl := Option.some.inj h1
   obtain ⟨j0,j1⟩ := zFX h2
   obtain ⟨j,rfl⟩ := Int.eq_ofNat_of_zero_le j0
   have := (each i hi (by omega)).2.2.2.2.1
   exact ⟨_,by unfold Zu; simp only; rw [zK (show i < bs.length by omega),Option.bind_some,zK (show j < bs[i].Ps.length by omega)]⟩
  obtain ⟨p',e1⟩ := ex d2
  obtain ⟨q',e2⟩ := ex d3
  refine ⟨⟨d1,p',q',e1,e2,?_⟩,d5⟩
  unfold zBF at u
  rw [e1,e2] at u
  exact Option.some.inj u
theorem qR.up {n : Nat} {x : Net} (hx : qR n x) : ∀ l ∈ x.Ls,zBF x l.A l.P = zBF x l.B l.Q := fun l hl => by
 obtain ⟨k,hk,rfl⟩ := List.getElem_of_mem hl
 obtain ⟨_,p,q,e1,e2,e3⟩ := (hx.2.2.1.2.2.2.2 k hk).1
 unfold zBF
 rw [e1,e2]
 simp [e3]
theorem qR.says {n : Nat} {x : Net} (hx : qR n x) : ∀ s ∈ x.Said,zDe n x s ∧ s.wf := fun s hs => ⟨hx.2.2.2 s hs,hx.1.2.2.1.2 s hs⟩
theorem qR.self {n : Nat} {x : Net} (hx : qR n x) : ∀ i (hi : i < x.Bs.length) (hi' : i < x.Bs.length),zS n x.Bs[i] = some true ∧ x.Bs[i].wf ∧ x.Bs[i].sz ≤ 1048576 ∧ x.Bs[i].Id = x.Bs[i].Id ∧ x.Bs[i].Ps.length = x.Bs[i].Ps.length ∧ ∀ p (hp : p < x.Bs[i].Ps.length),x.Bs[i].Ps[p].Has = true → x.Ls.any (zx i p) = true := fun i hi _ =>
 ⟨(hx.br hi).1,(hx.br hi).2.1,by have := (hx.br hi).2.2; omega,rfl,rfl,(hx.2.2.1.1 i hi hi).2.2⟩
theorem zJN {n : Nat} {x : Net} (hx : qR n x) (ss : List Say) (s40 : ss.length ≤ 40) (said : ∀ s ∈ ss,zDe n x s ∧ s.wf) : qR n ⟨x.Bs,x.Ls,ss⟩ :=
 zIp hx x.Bs ss rfl hx.self (fun l hl => hx.up l hl) s40 said
theorem zKT {n : Nat} {x : Net} (hx : qR n x) {i : Nat} (hi : i < x.Bs.length) (v : zA) (ok : zS n v = some true) (wv : v.wf) (sv : v.sz ≤ 1048576) (hid : v.Id = x.Bs[i].Id) (hl : v.Ps.length = x.Bs[i].Ps.length) (has : ∀ p (hp : p < v.Ps.length),v.Ps[p].Has = true → x.Ls.any (zx i p) = true) (hup : ∀ p : Int,(idx v.Ps p).map (·.Up) = (idx x.Bs[i].Ps p).map (·.Up))
  (ss : List Say) (s40 : ss.length ≤ 40) (said : ∀ s ∈ ss,zDe n x s ∧ s.wf) : qR n ⟨x.Bs.set i v,x.Ls,ss⟩ := by
 refine zIp hx _ ss (by simp) (fun j hj hj' => ?_) (fun l hl => ?_) s40 said
 ·rw [List.getElem_set]
  by_cases h : i = j
  ·subst h
   simp only [if_true]
   exact ⟨ok,wv,sv,hid,hl,has⟩
  ·simp only [if_neg h]
   have := hx.self j hj hj
   exact ⟨this.1,this.2.1,this.2.2.1,trivial,trivial,this.2.2.2.2.2⟩
 ·have key : ∀ b p,zBF ⟨x.Bs.set i v,x.Ls,ss⟩ b p = zBF x b p := fun b p => by
   unfold zBF
   rw [zE2 hi v b p (ss' := x.Said)]
   split
   ·rename_i hb
    subst hb
    rw [hup p]
    unfold Zu
    rw [zK hi,Option.bind_some]
   ·rfl
  rw [key,key]
  exact hx.up l hl
theorem zFE (n : Nat) (x : Net) (b : Int) (p : Int) : zA1 n x b p = (idx x.Bs b).bind fun v => (qH n v.Id v.Ps p) := by
 unfold zA1
 cases idx x.Bs b with
 | none => rfl
 | some v =>
  simp only [Option.bind_some,zD8]
  cases qH n v.Id v.Ps p <;> rfl
theorem zD1 (n : Nat) (x : Net) {k : Nat} (hk : k < x.Ls.length) (back : Bool) : JZ n x k back = bif back then (idx x.Bs x.Ls[k].B).bind fun v => qH n v.Id v.Ps x.Ls[k].Q else (idx x.Bs x.Ls[k].A).bind fun v => qH n v.Id v.Ps x.Ls[k].P := by
 unfold JZ
 rw [zK hk,Option.bind_some]
 cases back with
 | true =>
  simp only [cond_true]
  cases idx x.Bs x.Ls[k].B with
  | none => rfl
  | some v => simp only [Option.bind_some]; cases qH n v.Id v.Ps x.Ls[k].Q <;> rfl
 | false =>
  simp only [cond_false]
  cases idx x.Bs x.Ls[k].A with
  | none => rfl
  | some v => simp only [Option.bind_some]; cases qH n v.Id v.Ps x.Ls[k].P <;> rfl
theorem zEv {α : Type} {xs : List α} {b : Int} {v : α} (h : idx xs b = some v) : ∃ i : Nat,b = i ∧ ∃ hi : i < xs.length,xs[i] = v := by
 obtain ⟨i0,i1⟩ := zFX h
 obtain ⟨i,rfl⟩ := Int.eq_ofNat_of_zero_le i0
 have hi : i < xs.length := Int.ofNat_lt.1 i1
 rw [zK hi] at h
 exact ⟨i,rfl,hi,Option.some.inj h⟩
theorem qR.ends {n : Nat} {x : Net} (hx : qR n x) {k : Nat} (hk : k < x.Ls.length) : ∃ (a p b q : Nat) (ha : a < x.Bs.length) (hb : b < x.Bs.length),x.Ls[k].A = a ∧ x.Ls[k].P = p ∧ x.Ls[k].B = b ∧ x.Ls[k].Q = q ∧ a ≠ b ∧ p < x.Bs[a].Ps.length ∧ q < x.Bs[b].Ps.length ∧ p < 6 ∧ q < 6 := by
 obtain ⟨hne,p,q,e1,e2,_⟩ := (hx.2.2.1.2.2.2.2 k hk).1
 obtain ⟨v,h1,h2⟩ := zBQ e1
 obtain ⟨w,h3,h4⟩ := zBQ e2
 obtain ⟨a,ea,ha,rfl⟩ := zEv h1
 obtain ⟨p',ep,hp,_⟩ := zEv h2
 obtain ⟨b,eb,hb,rfl⟩ := zEv h3
 obtain ⟨q',eq,hq,_⟩ := zEv h4
 have := (qS n _ (by have := (hx.br ha).2.2; have hs : x.Bs[a].Name.size + x.Bs[a].Ps.length + x.Bs[a].F.length + x.Bs[a].V.sz = x.Bs[a].sz := rfl; omega) (hx.br ha).1).2.1
 have := (qS n _ (by have := (hx.br hb).2.2; have hs : x.Bs[b].Name.size + x.Bs[b].Ps.length + x.Bs[b].F.length + x.Bs[b].V.sz = x.Bs[b].sz := rfl; omega) (hx.br hb).1).2.1
 exact ⟨a,p',b,q',ha,hb,ea,ep,eb,eq,fun h => hne (by rw [ea,eb,h]),hp,hq,by omega,by omega⟩
theorem qR.say {n : Nat} {x : Net} (hn : 1048700 < n) (hx : qR n x) {i : Nat} (hi : i < x.Bs.length) (p : Nat) (hp : p < 6) : ∃ v,qH n x.Bs[i].Id x.Bs[i].Ps p = some v ∧ zq n v = some true ∧ v.wf := by
 have hs : x.Bs[i].Name.size + x.Bs[i].Ps.length + x.Bs[i].F.length + x.Bs[i].V.sz = x.Bs[i].sz := rfl
 have h40 := (hx.br hi).2.2
 obtain ⟨p1,p2,p3,p4,_⟩ := qS n _ (by omega) (hx.br hi).1
 exact zIE n _ _ p p3 p4 (by omega) (by omega) (by omega) (by omega)
theorem qR.link {n : Nat} {x : Net} (hx : qR n x) (ss : List Say) (k : Int) : ∃ b,ZE n ⟨x.Bs,x.Ls,ss⟩ k = some b ∧ Zr n ⟨x.Bs,x.Ls,ss⟩ k = some b := by
 have h := hx.sz
 obtain ⟨b,e1,e2⟩ := zGa n x k hx.1 (by omega)
 exact ⟨b,e1,e2⟩
theorem zIC {n : Nat} (hn : 1048700 < n) {x : Net} (hx : qR n x) (b : Int) : ∀ (m k : Nat) (ss : List Say),k ≤ x.Ls.length → x.Ls.length < m + k → ss.length ≤ 40 → (∀ s ∈ ss,zDe n x s ∧ s.wf) → ∃ zs,z5 n m x b k ss = some (.inl zs) ∧ qE n m x b k ss = some (.inl zs) ∧ zs.length ≤ 40 ∧ ∀ s ∈ zs,zDe n x s ∧ s.wf
 | 0,k,ss,h1,h2,h3,h4 => by omega
 | m + 1,k,ss,h1,h2,h3,h4 => by
  rw [z5,qE]
  by_cases hk : k < x.Ls.length
  ·have h9 := hx.2.2.1.2.2.1
   have ih := fun ss h3 h4 => zIC hn hx b m (k + 1) ss (by omega) (by omega) h3 h4
   obtain ⟨u,u1,u2⟩ := hx.link ss k
   obtain ⟨a,p,c,q,ha,hc,ea,ep,ec,eq,hac,hp,hq,hp6,hq6⟩ := hx.ends hk
   rw [zp hk,cond_true,cond_true,zK hk,Option.bind_some,u1,u2,Option.bind_some,Option.bind_some,zT (by omega : k ≤ 1099511627776)]
   cases u with
   | false => exact ih ss h3 h4
   | true =>
    simp only [Bool.not_true,cond_false]
    by_cases h40 : (ss.length : Int) ≥ 40
    ·rw [decide_eq_true h40,cond_true,cond_true]; exact ih ss h3 h4
    ·rw [decide_eq_false h40,cond_false,cond_false,Option.bind_some]
     have hg : ∀ s : Say,decide (ss.length + [s].length ≤ 268435456) = true := fun s => decide_eq_true (by simp; omega)
     have one : ∀ (bk : Bool) (v : Vec),zq n v = some true → v.wf → ∀ s ∈ ss ++ [(⟨k,bk,v⟩ : Say)],zDe n x s ∧ s.wf := fun bk v hv wv s hs => by
      rcases List.mem_append.1 hs with hs | hs
      ·exact h4 s hs
      ·rw [List.mem_singleton] at hs
       subst hs
       exact ⟨⟨⟨by simp only; omega,by simp only; omega⟩,hv⟩,ZH (z := (k : Int)) (by omega) (by omega),wv.1,wv.2.1,wv.2.2.1,wv.2.2.2.1,wv.2.2.2.2.1,trivial⟩
     by_cases hA : x.Ls[k].A = b
     ·obtain ⟨v,v1,v2,v3⟩ := hx.say hn ha p hp6
      have hB : (x.Ls[k].B == b) = false := by
       rw [beq_eq_false_iff_ne]
       intro h
       rw [← hA,ea,ec] at h
       omega
      rw [show (x.Ls[k].A == b) = true from by simpa using hA,cond_true,cond_true,zD1 n ⟨x.Bs,x.Ls,ss⟩ hk false,cond_false,zFE]
      simp only [← hA,ea,ep,zK ha,Option.bind_some,v1,hg,cond_true,Zl,zK hk,hA,hB,cond_false,zT (by omega : k ≤ 1099511627776)]
      rw [ea] at hA
      have hB' : (x.Ls[k].B == (a : Int)) = false := by rw [beq_eq_false_iff_ne,ec]; omega
      simp only [hB',hA,hB,cond_false,Bool.not_true]
      exact ih _ (by simp; omega) (one false v v2 v3)
     ·rw [show (x.Ls[k].A == b) = false from by simpa using hA,cond_false,cond_false]
      simp only [Zl,zK hk,Option.bind_some,zT (by omega : k ≤ 1099511627776)]
      by_cases hB : x.Ls[k].B = b
      ·obtain ⟨v,v1,v2,v3⟩ := hx.say hn hc q hq6
       rw [show (x.Ls[k].B == b) = true from by simpa using hB,cond_true,cond_true,zD1 n ⟨x.Bs,x.Ls,ss⟩ hk true,cond_true,zFE]
       simp only [← hB,ec,eq,zK hc,Option.bind_some,v1,hg,cond_true]
       rw [ec] at hB
       rw [hB]
       exact ih _ (by simp; omega) (one true v v2 v3)
      ·rw [show (x.Ls[k].B == b) = false from by simpa using hB,cond_false,cond_false]
       exact ih ss h3 h4
  ·obtain rfl : k = x.Ls.length := by omega
   rw [zc]
   exact ⟨ss,rfl,rfl,h3,h4⟩
theorem zME {n : Nat} (hn : 1048700 < n) {x : Net} (hx : qR n x) (b : Int) : ∃ y,Yy n x b = some y ∧ Yi n x b = some y ∧ qR n y ∧ y.Bs = x.Bs ∧ y.Ls = x.Ls := by
 have h9 := hx.2.2.1.2.2.1
 obtain ⟨zs,e1,e2,e3,e4⟩ := zIC hn hx b n 0 x.Said (by omega) (by omega) hx.2.2.1.2.2.2.1 hx.says
 refine ⟨⟨x.Bs,x.Ls,zs⟩,?_,?_,zJN hx zs e3 e4,rfl,rfl⟩
 ·unfold Yy; rw [show z5 n n x b 0 x.Said = _ from e1]; rfl
 ·unfold Yi; rw [show qE n n x b 0 x.Said = _ from e2]; rfl
theorem zLr (ps : List Pt) (k : Nat) (hk : k < ps.length) (c : Int) (h : Bool) (v : Vec) (p : Int) : (idx (ps.set k ⟨ps[k].Up,c,h,v⟩) p).map (·.Up) = (idx ps p).map (·.Up) := by
 rw [zDP hk]
 split
 ·rename_i e
  subst e
  rw [zK hk]; rfl
 ·rfl
theorem zJU {n : Nat} (hn : 1048700 < n) {x : Net} (hx : qR n x) {i p : Nat} (hi : i < x.Bs.length) (hp : p < x.Bs[i].Ps.length) (hup : x.Bs[i].Ps[p].Up = true) (hend : x.Ls.any (zx i p) = true) (v : Vec) (hv : zq n v = some true) : ∃ y,Z3 n x.Bs[i] p v = some y ∧ QQ n x.Bs[i] p v = some y ∧ qR n ⟨x.Bs.set i y,x.Ls,x.Said⟩ ∧ y.Id = x.Bs[i].Id ∧ y.Ps = x.Bs[i].Ps.set p ⟨true,x.Bs[i].Ps[p].Co,true,v⟩ := by
 obtain ⟨b1,b2,b3⟩ := hx.br hi
 obtain ⟨y,e1,e2,e3,e4,e5,e6,e7,_⟩ := zHP n x.Bs[i] p v b2 (by omega) (by omega) b1 hp hup hv
 refine ⟨y,e1,e2,zKT hx hi y e3 e4 (by omega) e6 (by rw [e7]; simp) (fun j hj hh => ?_) (fun j => ?_) x.Said hx.2.2.1.2.2.2.1 hx.says,e6,e7⟩
 ·by_cases hjp : p = j
  ·subst hjp; exact hend
  ·have hj' : j < x.Bs[i].Ps.length := by rw [e7] at hj; simpa using hj
   have hg : y.Ps[j] = x.Bs[i].Ps[j] := by
    simp only [e7]
    exact List.getElem_set_ne hjp _
   rw [hg] at hh
   exact (hx.2.2.1.1 i hi hi).2.2 j hj' hh
 ·rw [e7,← zLr x.Bs[i].Ps p hp x.Bs[i].Ps[p].Co true v j,hup]
theorem zMo {n : Nat} (hn : 1048700 < n) {x : Net} (hx : qR n x) {i : Nat} (hi : i < x.Bs.length) : ∃ y,zBA n x.Bs[i] = some y ∧ zAx n x.Bs[i] = some y ∧ qR n ⟨x.Bs.set i y,x.Ls,x.Said⟩ := by
 obtain ⟨b1,b2,b3⟩ := hx.br hi
 obtain ⟨y,e1,e2,e3,e4,e5,e6,e7,_⟩ := zJl n x.Bs[i] b2 (by omega) (by omega) b1
 refine ⟨y,e1,e2,zKT hx hi y e3 e4 (by omega) e6 (by rw [e7]) (fun j hj hh => ?_) (fun j => by rw [e7]) x.Said hx.2.2.1.2.2.2.1 hx.says⟩
 have hj' : j < x.Bs[i].Ps.length := by rw [e7] at hj; exact hj
 have hg : y.Ps[j] = x.Bs[i].Ps[j] := by congr 1
 rw [hg] at hh
 exact (hx.2.2.1.1 i hi hi).2.2 j hj' hh
def JG (ss : List Say) (i : Nat) : List Say := ss.take i ++ ss.drop (i + 1)
theorem zLQ (ss : List Say) (i : Nat) (hi : i < ss.length) (h40 : ss.length ≤ 40) : (([] : List Say) ++ ((ss.drop ((0 : Int)).toNat).take (((i : Int)).toNat - ((0 : Int)).toNat))) ++ ((ss.drop ((((i + 1 : Nat) : Int) : Int)).toNat).take ((((ss.length : Int) : Int)).toNat - ((((i + 1 : Nat) : Int)) : Int).toNat)) = JG ss i := by
 unfold JG
 rw [List.nil_append,Int.toNat_natCast,Int.toNat_natCast,Int.toNat_natCast,show (0 : Int).toNat = 0 from rfl,Nat.sub_zero,List.drop_zero,show (ss.drop (i + 1)).take (ss.length - (i + 1)) = ss.drop (i + 1) from List.take_of_length_le (by rw [List.length_drop]; omega)]
theorem zMx {ss : List Say} {i : Nat} : ∀ s ∈ JG ss i,s ∈ ss := fun s hs => by
 rcases List.mem_append.1 hs with h | h
 ·exact List.mem_of_mem_take h
 ·exact List.mem_of_mem_drop h
theorem zMw {ss : List Say} {i : Nat} (hi : i < ss.length) : (JG ss i).length + 1 = ss.length := by
 unfold JG
 rw [List.length_append,List.length_take,List.length_drop]
 omega
theorem zJC (ss : List Say) (i : Nat) (hi : i < ss.length) (h40 : ss.length ≤ 40) :
  (decide ((0 : Int) ≤ 0) && (decide ((0 : Int) ≤ (i : Int)) && decide ((i : Int) ≤ (ss.length : Int)))) = true ∧
  (decide ((0 : Int) ≤ ((i + 1 : Nat) : Int)) && (decide (((i + 1 : Nat) : Int) ≤ (ss.length : Int)) && decide ((ss.length : Int) ≤ (ss.length : Int)))) = true ∧
  decide (([] : List Say).length + ((ss.drop ((0 : Int)).toNat).take (((i : Int)).toNat - ((0 : Int)).toNat)).length ≤ 268435456) = true ∧
  decide ((([] : List Say) ++ ((ss.drop ((0 : Int)).toNat).take (((i : Int)).toNat - ((0 : Int)).toNat))).length + ((ss.drop ((((i + 1 : Nat) : Int) : Int)).toNat).take ((((ss.length : Int) : Int)).toNat - ((((i + 1 : Nat) : Int)) : Int).toNat)).length ≤ 268435456) = true := by
 refine ⟨?_,?_,?_,?_⟩
 ·rw [Bool.and_eq_true,Bool.and_eq_true]
  exact ⟨rfl,decide_eq_true (by omega),decide_eq_true (by omega)⟩
 ·rw [Bool.and_eq_true,Bool.and_eq_true]
  exact ⟨decide_eq_true (by omega),decide_eq_true (by omega),decide_eq_true (by omega)⟩
 ·refine decide_eq_true ?_
  rw [List.length_take,List.length_drop,List.length_nil]
  omega
 ·refine decide_eq_true ?_
  rw [List.length_append,List.length_take,List.length_drop,List.length_take,List.length_drop,List.length_nil]
  omega
theorem zGe (n : Nat) (x : Net) (z : Event) {i : Nat} (hi : i < x.Said.length) (h40 : x.Said.length ≤ 40) (he : z.At = i) : Yf n x z = bif z.Ki == 2 then (ZE n ⟨x.Bs,x.Ls,JG x.Said i⟩ x.Said[i].Link).bind fun u => bif u then Ye n ⟨x.Bs,x.Ls,JG x.Said i⟩ x.Said[i].Link x.Said[i].Back x.Said[i].V else some ⟨x.Bs,x.Ls,JG x.Said i⟩ else some ⟨x.Bs,x.Ls,JG x.Said i⟩ := by
 obtain ⟨c1,c2,c3,c4⟩ := zJC x.Said i hi h40
 unfold Yf
 rw [he,zT (by omega : i ≤ 1099511627776),zK hi,Option.bind_some,c1,c2,c3,c4,zLQ x.Said i hi h40]
 simp only [cond_true]
 congr 1
 congr 1
 funext u
 cases u with
 | false => rfl
 | true => simp only [cond_true]; cases Ye n ⟨x.Bs,x.Ls,JG x.Said i⟩ x.Said[i].Link x.Said[i].Back x.Said[i].V <;> rfl
theorem zEw (n : Nat) (x : Net) (b : Bool) {i : Nat} (hi : i < x.Said.length) (h40 : x.Said.length ≤ 40) : QV n x i b = bif !b then some ⟨x.Bs,x.Ls,JG x.Said i⟩ else (Zr n ⟨x.Bs,x.Ls,JG x.Said i⟩ x.Said[i].Link).bind fun u => bif !u then some ⟨x.Bs,x.Ls,JG x.Said i⟩ else (idx x.Ls x.Said[i].Link).bind fun l => bif x.Said[i].Back then Zb n ⟨x.Bs,x.Ls,JG x.Said i⟩ l.A l.P x.Said[i].V else Zb n ⟨x.Bs,x.Ls,JG x.Said i⟩ l.B l.Q x.Said[i].V := by
 obtain ⟨c1,c2,c3,c4⟩ := zJC x.Said i hi h40
 unfold QV
 rw [zT (by omega : i ≤ 1099511627776),zK hi,Option.bind_some,c1,c2,c3,c4,zLQ x.Said i hi h40]
 simp only [cond_true]
 congr 1
 congr 1
 funext u
 congr 1
 congr 1
 funext l
 congr 1
 ·cases Zb n ⟨x.Bs,x.Ls,JG x.Said i⟩ l.A l.P x.Said[i].V <;> rfl
 ·cases Zb n ⟨x.Bs,x.Ls,JG x.Said i⟩ l.B l.Q x.Said[i].V <;> rfl
theorem zMn {n : Nat} (hn : 1048700 < n) {x : Net} (hx : qR n x) {i : Nat} (hi : i < x.Said.length) (z : Event) (he : z.At = i) : ∃ y,Yf n x z = some y ∧ QV n x i (z.Ki == 2) = some y ∧ qR n y := by
 have h40 := hx.2.2.1.2.2.2.1
 rw [zGe n x z hi h40 he,zEw n x _ hi h40]
 have hc : qR n ⟨x.Bs,x.Ls,JG x.Said i⟩ := zJN hx _ (by have := zMw hi; omega) fun s hs => hx.says s (zMx s hs)
 cases z.Ki == 2 with
 | false => exact ⟨_,rfl,rfl,hc⟩
 | true =>
  simp only [Bool.not_true,cond_false,cond_true]
  obtain ⟨⟨⟨l0,l1⟩,hv⟩,_⟩ := hx.says x.Said[i] (List.getElem_mem hi)
  obtain ⟨k,hk0⟩ := Int.eq_ofNat_of_zero_le l0
  have hk : k < x.Ls.length := by omega
  obtain ⟨u,u1,u2⟩ := hx.link (JG x.Said i) x.Said[i].Link
  rw [u1,u2,Option.bind_some,Option.bind_some]
  cases u with
  | false => exact ⟨_,rfl,rfl,hc⟩
  | true =>
   obtain ⟨a,p,c,q,ha,hcc,ea,ep,ec,eq,hac,hp,hq,hp6,hq6⟩ := hx.ends hk
   obtain ⟨l,va,vb,pp,qq,g1,g2,g3,g4,g5,g6,g7⟩ := zGb n _ _ u1
   rw [hk0] at g1 ⊢
   rw [show idx (⟨x.Bs,x.Ls,JG x.Said i⟩ : Net).Ls (k : Int) = _ from zK hk] at g1
   obtain rfl := Option.some.inj g1
   simp only [ea,ep,ec,eq,zK ha,zK hcc] at g2 g3 g5 g6
   obtain rfl := Option.some.inj g2
   obtain rfl := Option.some.inj g5
   rw [zK hp] at g3
   rw [zK hq] at g6
   obtain rfl := Option.some.inj g3
   obtain rfl := Option.some.inj g6
   unfold Ye Zb
   simp only [Bool.not_true,cond_false,cond_true,zK hk,Option.bind_some,ea,ep,ec,eq,zK ha,zK hcc,Int.toNat_natCast]
   have hm : x.Ls[k] ∈ x.Ls := List.getElem_mem hk
   cases x.Said[i].Back with
   | true =>
    obtain ⟨y,e1,e2,e3,_⟩ := zJU hn hc ha hp g4 (List.any_eq_true.2 ⟨_,hm,Qz.2 (.inl ⟨ea,ep⟩)⟩) _ hv
    simp only [cond_true,show Z3 n x.Bs[a] p x.Said[i].V = _ from e1,show QQ n x.Bs[a] p x.Said[i].V = _ from e2,Option.bind_some]
    exact ⟨_,rfl,rfl,e3⟩
   | false =>
    obtain ⟨y,e1,e2,e3,_⟩ := zJU hn hc hcc hq g7 (List.any_eq_true.2 ⟨_,hm,Qz.2 (.inr ⟨ec,eq⟩)⟩) _ hv
    simp only [cond_false,show Z3 n x.Bs[c] q x.Said[i].V = _ from e1,show QQ n x.Bs[c] q x.Said[i].V = _ from e2,Option.bind_some]
    exact ⟨_,rfl,rfl,e3⟩
theorem zNE {bs : List zA} {ls : List Link} {ss : List Say} {a c : Nat} (ha : a < bs.length) (hc : c < bs.length) (hac : a ≠ c) (v w : zA) (b p : Int) : zBF ⟨(bs.set a v).set c w,ls,ss⟩ b p = if b = (c : Int) then (idx w.Ps p).map (·.Up) else if b = (a : Int) then (idx v.Ps p).map (·.Up) else zBF ⟨bs,ls,ss⟩ b p := by
 unfold zBF
 rw [zE2 (bs := bs.set a v) (ss' := ss) (by simpa using hc),zE2 (ss' := ss) ha]
 split
 ·rfl
 ·split <;> rfl
theorem zGj (ps : List Pt) (k : Nat) (hk : k < ps.length) (v : Pt) (p : Int) : (idx (ps.set k v) p).map (·.Up) = if p = (k : Int) then some v.Up else (idx ps p).map (·.Up) := by
 rw [zDP hk]
 split <;> rfl
theorem qR.other {n : Nat} {x : Net} (hx : qR n x) {k j : Nat} (hk : k < x.Ls.length) (hj : j < x.Ls.length) (hkj : k ≠ j) : zx x.Ls[k].A x.Ls[k].P x.Ls[j] = false ∧ zx x.Ls[k].B x.Ls[k].Q x.Ls[j] = false := by
 obtain ⟨_,s1,s2⟩ := hx.2.2.1.2.2.2.2 k hk
 have key : ∀ b p : Int,zx b p x.Ls[k] = true → qT (qn b p) x.Ls = 1 → zx b p x.Ls[j] = false := fun b p h1 h2 => by
  rw [Bool.eq_false_iff]
  intro h3
  have c1 := zDg.1 h1
  have c2 := zDg.1 h3
  rcases Nat.lt_or_gt_of_ne hkj with h | h
  ·have := zHW (qn b p) x.Ls k j h hj
   omega
  ·have := zHW (qn b p) x.Ls j k h hk
   omega
 exact ⟨key _ _ (Qz.2 (.inl ⟨rfl,rfl⟩)) s1,key _ _ (Qz.2 (.inr ⟨rfl,rfl⟩)) s2⟩
theorem zMm {n : Nat} (hn : 1048700 < n) {x : Net} (hx : qR n x) {k : Nat} (hk : k < x.Ls.length) (up : Bool) : ∃ y,J7 n x k up = some y ∧ JI n x k up = some y ∧ qR n y := by
 obtain ⟨u,u1,u2⟩ := hx.link x.Said k
 unfold J7 JI
 rw [show ZE n x k = _ from u1,show Zr n x k = _ from u2,Option.bind_some,Option.bind_some]
 cases hu : u == up with
 | true => exact ⟨x,rfl,rfl,hx⟩
 | false =>
  obtain ⟨a,p,c,q,ha,hc,ea,ep,ec,eq,hac,hp,hq,hp6,hq6⟩ := hx.ends hk
  obtain ⟨ba1,ba2,ba3⟩ := hx.br ha
  obtain ⟨bc1,bc2,bc3⟩ := hx.br hc
  obtain ⟨v,v1,v2,v3,v4,v5,v6,v7,_⟩ := zDw n x.Bs[a] p up ba2 (by omega) (by omega) ba1 hp
  obtain ⟨w,w1,w2,w3,w4,w5,w6,w7,_⟩ := zDw n x.Bs[c] q up bc2 (by omega) (by omega) bc1 hq
  have hset : idx (x.Bs.set a v) (c : Int) = some x.Bs[c] := by
   rw [zDP ha,if_neg (by omega),zK hc]
  simp only [cond_false,zK hk,Option.bind_some,ea,ep,ec,eq,zK ha,v1,v2,Int.toNat_natCast,hset,w1,w2]
  refine ⟨_,rfl,rfl,zIp hx _ _ (by simp) (fun i hi hi' => ?_) (fun l hl => ?_) hx.2.2.1.2.2.2.1 hx.says⟩
  ·have hself := hx.self i hi hi
   have used : ∀ {i' p' : Nat} {ps qs : List Pt} (hi' : i' < x.Bs.length) (hp' : p' < ps.length) (e : qs = ps.set p' ⟨up,ps[p'].Co,false,⟨0,0,0,0,0⟩⟩) (h : ∀ j (hj : j < ps.length),ps[j].Has = true → x.Ls.any (zx i' j) = true),∀ j (hj : j < qs.length),qs[j].Has = true → x.Ls.any (zx i' j) = true := fun {i' p' ps qs} hi' hp' e h j hj hh => by
    subst e
    by_cases hjp : p' = j
    ·subst hjp
     rw [List.getElem_set_self] at hh
     cases hh
    ·rw [List.getElem_set_ne hjp] at hh
     exact h j (by simpa using hj) hh
   by_cases hic : c = i
   ·subst hic
    simp only [List.getElem_set_self]
    exact ⟨w3,w4,by omega,w6,by rw [w7]; simp,used hc hq w7 (hx.self c hc hc).2.2.2.2.2⟩
   ·by_cases hia : a = i
    ·subst hia
     simp only [List.getElem_set_ne hic,List.getElem_set_self]
     exact ⟨v3,v4,by omega,v6,by rw [v7]; simp,used ha hp v7 (hx.self a ha ha).2.2.2.2.2⟩
    ·simp only [List.getElem_set_ne hic,List.getElem_set_ne hia]
     exact ⟨hself.1,hself.2.1,hself.2.2.1,trivial,trivial,hself.2.2.2.2.2⟩
  ·obtain ⟨j,hj,rfl⟩ := List.getElem_of_mem hl
   have hval : ∀ b p' : Int,zBF ⟨(x.Bs.set a v).set c w,x.Ls,x.Said⟩ b p' = if (b = (c : Int) ∧ p' = (q : Int)) ∨ (b = (a : Int) ∧ p' = (p : Int)) then some up else zBF x b p' := fun b p' => by
    rw [zNE ha hc hac,v7,w7,zGj _ _ hq,zGj _ _ hp]
    have hself : ∀ {i : Nat} (hi : i < x.Bs.length),(idx x.Bs[i].Ps p').map (·.Up) = zBF x (i : Int) p' := fun {i} hi => by
     unfold zBF Zu
     rw [zK hi,Option.bind_some]
    by_cases h1 : b = (c : Int)
    ·subst h1
     have : ¬ ((c : Int) = (a : Int)) := by omega
     by_cases h2 : p' = (q : Int)
     ·simp [h2]
     ·simp only [if_true,if_neg h2,hself hc]
      rw [if_neg (by rintro (h | h) <;> omega)]
    ·by_cases h3 : b = (a : Int)
     ·subst h3
      by_cases h2 : p' = (p : Int)
      ·simp [h2,h1]
      ·simp only [if_neg h1,if_true,if_neg h2,hself ha]
       rw [if_neg (by rintro (h | h) <;> omega)]
     ·rw [if_neg h1,if_neg h3,if_neg (by rintro (h | h) <;> omega)]
   rw [hval,hval]
   by_cases hjk : k = j
   ·subst hjk
    rw [ea,ep,ec,eq,if_pos (.inr ⟨rfl,rfl⟩),if_pos (.inl ⟨rfl,rfl⟩)]
   ·obtain ⟨o1,o2⟩ := hx.other hk hj hjk
    have o1' := fun h => Bool.eq_false_iff.1 o1 (Qz.2 h)
    have o2' := fun h => Bool.eq_false_iff.1 o2 (Qz.2 h)
    rw [ea,ep] at o1'
    rw [ec,eq] at o2'
    rw [if_neg (fun h => h.elim (fun h => o2' (.inl h)) (fun h => o1' (.inl h))),if_neg (fun h => h.elim (fun h => o2' (.inr h)) (fun h => o1' (.inr h)))]
    exact hx.up _ hl
theorem zHJ {m : Nat} {z : Int} (h : (decide (0 ≤ z) && decide (z ≤ (m : Int) - 1)) = true) : ∃ i : Nat,z = i ∧ i < m := by
 rw [Bool.and_eq_true,decide_eq_true_iff,decide_eq_true_iff] at h
 obtain ⟨i,rfl⟩ := Int.eq_ofNat_of_zero_le h.1
 exact ⟨i,rfl,by omega⟩
theorem zJk {n : Nat} (hn : 1048700 < n) {x : Net} (hx : qR n x) (z : Event) : ∃ y b,Yx n x z = some (y,b) ∧ Qa n x z = some (y,b) ∧ qR n y := by
 have hs : (x.Bs.length + qm zA.sz x.Bs) + x.Ls.length + x.Said.length = x.sz := rfl
 have hsz := hx.sz
 obtain ⟨k1,k2⟩ := hx.ok hn
 unfold Yx Qa
 rw [zDz n x (by omega) (by omega),zDn n x (by omega) (by omega),k1,k2]
 simp only [Option.bind_some,Bool.not_true,cond_false]
 have w1 : IntKind.wrap .i64 ((x.Bs.length : Int) - 1) = (x.Bs.length : Int) - 1 := wrap64 (by omega) (by omega)
 have w2 : IntKind.wrap .i64 ((x.Said.length : Int) - 1) = (x.Said.length : Int) - 1 := wrap64 (by omega) (by omega)
 have w3 : IntKind.wrap .i64 ((x.Ls.length : Int) - 1) = (x.Ls.length : Int) - 1 := wrap64 (by omega) (by omega)
 have w4 : IntKind.wrap .i64 ((0 : Int) - 1) = (0 : Int) - 1 := wrap64 (by omega) (by omega)
 have key : ∀ K : Int,z.Ki = K → ∃ y b,(bif (K == 1) then (ZF n x x z true) else (ZF n x x z (K == 6))) = some (y,b) ∧ (bif (K == 1) then (ZD n x x z true) else (ZD n x x z (K == 6))) = some (y,b) ∧ qR n y := by
  intro K hK
  by_cases h1 : K = 1
  ·subst h1
   unfold ZF ZD qj
   simp only [show ((1 : Int) == 1) = true from rfl,show ((1 : Int) == 6) = false from rfl,cond_true,cond_false,qe,zQ,w1,Option.bind_some,hK]
   cases h : (decide (0 ≤ z.At) && decide (z.At ≤ (x.Bs.length : Int) - 1)) with
   | false => exact ⟨x,false,rfl,rfl,hx⟩
   | true =>
    obtain ⟨y,e1,e2,e3,_⟩ := zME hn hx z.At
    simp only [Bool.not_true,cond_false,e1,e2,Option.bind_some]
    exact ⟨y,true,rfl,rfl,e3⟩
  by_cases h6 : K = 6
  ·subst h6
   unfold ZF ZD qj
   simp only [show ((6 : Int) == 1) = false from rfl,show ((6 : Int) == 6) = true from rfl,cond_true,cond_false,qe,zQ,w1,Option.bind_some,hK]
   cases h : (decide (0 ≤ z.At) && decide (z.At ≤ (x.Bs.length : Int) - 1)) with
   | false => exact ⟨x,false,rfl,rfl,hx⟩
   | true =>
    obtain ⟨i,hi,hil⟩ := zHJ h
    obtain ⟨y,e1,e2,e3⟩ := zMo hn hx hil
    simp only [Bool.not_true,cond_false,hi,zK hil,e1,e2,Option.bind_some,Int.toNat_natCast]
    exact ⟨_,true,rfl,rfl,e3⟩
  have b1 : (K == 1) = false := by rw [beq_eq_false_iff_ne]; exact h1
  have b6 : (K == 6) = false := by rw [beq_eq_false_iff_ne]; exact h6
  have said : ∀ c : Bool,(K == 2) = c → (K == 2 || K == 3) = true → ∃ y b,Qd n x x z true = some (y,b) ∧ Qb n x x z true = some (y,b) ∧ qR n y := fun c hc h23 => by
   unfold Qd Qb qj
   simp only [cond_true,cond_false,qe,zQ,w2,Option.bind_some,hK,b1,b6]
   cases h : (decide (0 ≤ z.At) && decide (z.At ≤ (x.Said.length : Int) - 1)) with
   | false => exact ⟨x,false,rfl,rfl,hx⟩
   | true =>
    obtain ⟨i,hi,hil⟩ := zHJ h
    obtain ⟨y,e1,e2,e3⟩ := zMn hn hx hil z hi
    rw [hK,hc] at e2
    have h3 : c = false → (K == 3) = true := fun h => by rw [hc,h] at h23; simpa using h23
    unfold YJ
    simp only [Bool.not_true,cond_false,e1,Option.bind_some,hc,hi,hK]
    cases c with
    | true => simp only [cond_true,e2,Option.bind_some]; exact ⟨y,true,rfl,rfl,e3⟩
    | false => simp only [h3 rfl,cond_true,cond_false,e2,Option.bind_some]; exact ⟨y,true,rfl,rfl,e3⟩
  by_cases h2 : K = 2
  ·obtain ⟨y,b,e1,e2,e3⟩ := said true (by rw [h2]; rfl) (by rw [h2]; rfl)
   unfold ZF ZD
   simp only [b1,b6,cond_false,hK]
   rw [h2]
   exact ⟨y,b,e1,e2,e3⟩
  have b2 : (K == 2) = false := by rw [beq_eq_false_iff_ne]; exact h2
  by_cases h3 : K = 3
  ·obtain ⟨y,b,e1,e2,e3⟩ := said false b2 (by rw [h3]; rfl)
   unfold ZF ZD
   simp only [b1,b6,b2,cond_false,hK]
   rw [h3]
   exact ⟨y,b,e1,e2,e3⟩
  have b3 : (K == 3) = false := by rw [beq_eq_false_iff_ne]; exact h3
  have link : (K == 4 || K == 5) = true → ∃ y b,Qe n x x z true = some (y,b) ∧ qj n x x z (x.Ls.length : Int) = some (y,b) ∧ qR n y := fun h45 => by
   unfold Qe qj
   simp only [cond_true,cond_false,qe,zQ,w3,Option.bind_some,hK,b1,b6,b2,b3]
   cases h : (decide (0 ≤ z.At) && decide (z.At ≤ (x.Ls.length : Int) - 1)) with
   | false => exact ⟨x,false,rfl,rfl,hx⟩
   | true =>
    obtain ⟨i,hi,hil⟩ := zHJ h
    obtain ⟨y,e1,e2,e3⟩ := zMm hn hx hil (K == 5)
    unfold YJ
    simp only [Bool.not_true,cond_false,hK,hi,e1,e2,Option.bind_some]
    exact ⟨y,true,rfl,rfl,e3⟩
  unfold ZF ZD Qd Qb
  simp only [b1,b6,b2,b3,cond_false,hK]
  by_cases h4 : K = 4
  ·rw [h4] at link ⊢
   exact link rfl
  have b4 : (K == 4) = false := by rw [beq_eq_false_iff_ne]; exact h4
  simp only [b4,cond_false]
  by_cases h5 : K = 5
  ·rw [h5] at link ⊢
   exact link rfl
  have b5 : (K == 5) = false := by rw [beq_eq_false_iff_ne]; exact h5
  unfold Qe qj
  simp only [b5,cond_false,qe,zQ,w4,Option.bind_some,show (decide (0 ≤ z.At) && decide (z.At ≤ (0 : Int) - 1)) = false from by by_cases h : 0 ≤ z.At; { rw [decide_eq_false (show ¬ z.At ≤ (0 : Int) - 1 by omega),Bool.and_false] }; { rw [decide_eq_false h]; rfl },Bool.not_false,cond_true]
  exact ⟨x,false,rfl,rfl,hx⟩
 exact key _ rfl
theorem zIF (n : Nat) (x : Net) (z : Event) (wx : x.wf) (hx : x.sz ≤ 1048576) (hn : 1048700 < n) : ∃ y b,Yx n x z = some (y,b) ∧ Qa n x z = some (y,b) ∧ y.sz ≤ 1048576 ∧ y.wf ∧ (qR n x → qR n y) ∧ (¬ qR n x → y = x ∧ b = false) := by
 obtain ⟨c,h1,h2,h3⟩ := zBp n x wx (Big.of hx) hn
 cases c with
 | true =>
  have hg : qR n x := ⟨wx,Big.of hx,(h3.1 rfl).1,(h3.1 rfl).2⟩
  obtain ⟨y,b,e1,e2,e3⟩ := zJk hn hg z
  exact ⟨y,b,e1,e2,by have := e3.sz; omega,e3.1,fun _ => e3,fun h => absurd hg h⟩
 | false =>
  unfold Yx Qa
  rw [zDz n x (by omega) (by omega),zDn n x (by omega) (by omega),h1,h2]
  exact ⟨x,false,rfl,rfl,hx,wx,id,fun _ => ⟨rfl,rfl⟩⟩
theorem zEN (x0 : Net) (x1 : Event) (w0 : x0.wf) (w1 : x1.wf) : ∃ n,Y3 n x0 x1 = some true := by
 refine ⟨1048800,?_⟩
 obtain ⟨r,e,k⟩ := zIj 1048800 (x := x0) (b := 1048576) (by decide) (by decide) (by decide) w0
 simp only [Y3,e,Option.bind_some]
 rcases k.neg with ⟨c1,_⟩ | ⟨c1,c2,c3⟩
 ·rw [c1]; rfl
 ·obtain ⟨y,b,h1,h2,h3,_⟩ := zIF 1048800 x0 x1 w0 (by omega) (by omega)
  obtain ⟨z,c,k1,k2,m1,_⟩ := zCy 1048800 x0 (by omega) (by omega)
  obtain ⟨z',c',k1',k2',m1',m2'⟩ := zCy 1048800 y (by omega) (by omega)
  simp only [c1,cond_false,zIm 1048800 x0 (by omega) (by omega),Zy,Option.bind_some,h1,h2,zDq 1048800 x0 (by omega) (by omega),zDq 1048800 y (by omega) (by omega),m1,m1',m2',decide_eq_false (show ¬ c < 0 by omega),decide_eq_false (show ¬ c' < 0 by omega),bne_self_eq_false,beq_self_eq_true,Bool.not_true]
end Go.Proofs.YtcegokjpmppdbaaGreat.Tw
