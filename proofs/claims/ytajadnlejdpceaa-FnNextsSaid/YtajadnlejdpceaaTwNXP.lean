import Derived.Test.YtajadnlejdpceaaTwNX
import Derived.Test.YtajadnlejdpceaaTlPlain
set_option linter.unusedVariables false
set_option linter.unusedSimpArgs false
set_option maxRecDepth 100000
set_option maxHeartbeats 1000000
namespace Go.Proofs.Ytajadnlejdpceaa.Tw
open Go Go.TL Go.Proofs
def zD.sz (x : zD) : Nat := x.Rows.length + x.Pv.length
theorem zC2 (n : Nat) : Z3 n = qp n := by
 funext m
 induction m with
 | zero => rfl
 | succ m ih => funext x i y; simp only [Z3,qp,ih]
theorem zEA (n : Nat) : Y9 n = QE n := by
 funext x i; simp only [Y9,QE,zC2]; rfl
theorem Jw (n : Nat) (x : zD) (id : Int) (h : x.Rows.length ≤ 1048580) (hn : x.Rows.length < n) : ∃ r,QE n x id = some r ∧ (r = -1 ∧ (∀ v ∈ x.Rows,v.Id ≠ id) ∨ ∃ v,0 ≤ r ∧ idx x.Rows r = some v ∧ v.Id = id) := by
 unfold QE
 have hf := zEf (L := fun m xs i => qp n m ⟨xs,x.Pv⟩ id i) (p := fun i v => bif v.Id == id then some i else none) (fun m xs i => by
  show (bif _ then _ else _) = _
  congr 1
  congr 1
  funext v
  cases (v.Id == id) <;> rfl) x.Rows (by omega) n 0 (by omega) (by omega)
 rcases hf with ⟨e1,e2⟩ | ⟨j,hj,r,e1,e2,e3,e4⟩
 ·rw [show qp n n x id 0 = _ from e1]
  refine ⟨-1,rfl,.inl ⟨rfl,fun v hv => ?_⟩⟩
  obtain ⟨j,hj,rfl⟩ := List.getElem_of_mem hv
  have := e2 j hj (by omega)
  intro hid
  simp [hid] at this
 ·rw [show qp n n x id 0 = _ from e4]
  have hid : (x.Rows[j].Id == id) = true := by
   cases hc : (x.Rows[j].Id == id) with
   | true => rfl
   | false => rw [hc] at e2; cases e2
  rw [hid] at e2
  cases e2
  exact ⟨_,rfl,.inr ⟨_,by omega,zi hj,by simpa using hid⟩⟩
theorem Qu (n : Nat) (a b c : Int) : Tot (zT n a b c) := Tot.bif (fun _ => .of) (fun _ => .of)
theorem zEB (n : Nat) : YG n = qX n := rfl
theorem zA7 (n : Nat) (v : Vec) : Tot (qX n v) := by
 unfold qX
 repeat' first | exact Tot.of | refine Tot.bind (Qu _ _ _ _) fun _ _ => ?_ | refine Tot.bif (fun _ => ?_) (fun _ => ?_)
theorem zC3 (n : Nat) : JN n = Za n := rfl
theorem zCi (n : Nat) (v : Vec) (c : Int) : Tot (Za n v c) := by
 unfold Za
 repeat' first | exact Tot.of | refine Tot.bind (Qu _ _ _ _) fun _ _ => ?_ | refine Tot.bind (zA7 _ _) fun _ _ => ?_ | refine Tot.bif (fun _ => ?_) (fun _ => ?_)
theorem zAo (n : Nat) : Q8 n = Z4 n := rfl
theorem zAP (n : Nat) (v u : Vec) : Tot (Z4 n v u) := by
 unfold Z4
 repeat' first | exact Tot.of | refine Tot.bif (fun _ => ?_) (fun _ => ?_)
theorem Jo (n : Nat) (x0 : Int) (x1 : List Pt) (h : x1.length ≤ 1048576) : ∀ (m k : Nat) (y2 y3 y4 y5 y6 y7 y8 y9 y10 : Int),k ≤ x1.length → x1.length < m + k → Tot (zo n m x0 x1 k y2 y3 y4 y5 y6 y7 y8 y9 y10)
 | 0,k,y2,y3,y4,y5,y6,y7,y8,y9,y10,h1,h2 => by omega
 | m + 1,k,y2,y3,y4,y5,y6,y7,y8,y9,y10,h1,h2 => by
  rw [zo]
  refine Tot.step (fun hk => ?_) .of
  have ih := fun y2 y3 y4 y5 y6 y7 y8 y9 y10 => Jo n x0 x1 h m (k + 1) y2 y3 y4 y5 y6 y7 y8 y9 y10 (by omega) (by omega)
  simp only [qi,zz (by omega : k ≤ 1099511627776)]
  repeat' first | exact ih _ _ _ _ _ _ _ _ _ | exact Tot.of | refine Tot.bind (zAi hk) fun _ _ => ?_ | refine Tot.bind (zCi _ _ _) fun _ _ => ?_ | refine Tot.bind (zAP _ _ _) fun _ _ => ?_ | refine Tot.bif (fun _ => ?_) (fun _ => ?_)
theorem zAO (n : Nat) (x0 : Int) (x1 : List Pt) (h : x1.length ≤ 1048576) (hn : x1.length < n) : Tot (ZZ n x0 x1) := by
 unfold ZZ
 refine Tot.bind (Jo n x0 x1 h n 0 _ _ _ _ _ _ _ _ _ (by omega) (by omega)) fun o _ => ?_
 cases o <;> exact Tot.of
theorem zB2 (n : Nat) : zw n = zo n := by
 funext m
 induction m with
 | zero => rfl
 | succ m ih =>
  funext x0 x1 y1 y2 y3 y4 y5 y6 y7 y8 y9 y10
  simp only [zw,zo,ih,qw,qi,zC3,zAo]
  cases idx x1 y1 <;> rfl
theorem zAn (n : Nat) : QQ n = ZZ n := by
 funext x i; simp only [QQ,ZZ,zB2]; rfl
theorem zDY (n : Nat) : Yc n = Qt n := by
 funext x i y; simp only [Yc,Qt,zAn]
theorem zDC (n : Nat) (x0 : Int) (x1 : List Pt) (x2 : Int) (h : x1.length ≤ 1048576) (hn : x1.length < n) : Tot (Qt n x0 x1 x2) := Tot.bind (zAO n x0 x1 h hn) fun _ _ => .of
theorem zDX (n : Nat) : Ya n = QN n := by
 funext x i y; simp only [Ya,QN,zAn,zDY,zAo]; rfl
theorem zDp (n : Nat) (x0 : Int) (x1 : List Pt) (x2 : Int) (h : x1.length ≤ 1048576) (hn : x1.length < n) : ∃ r,QN n x0 x1 x2 = some r ∧ 1 ≤ r ∧ r ≤ 4 := by
 unfold QN zT
 rw [wrap64 (by omega) (by omega)]
 obtain ⟨b,hb⟩ := zAO n x0 x1 h hn
 obtain ⟨s,hs⟩ := zDC n x0 x1 x2 h hn
 by_cases h1 : x2 ≥ 0
 ·by_cases h2 : x2 ≤ (x1.length : Int) - 1
  ·obtain ⟨v,hv,_⟩ := zB0 (xs := x1) h1 (by omega)
   obtain ⟨l,hl⟩ := zAP n s v.Hd
   simp only [decide_eq_true h1,decide_eq_true h2,cond_true,Option.bind_some,Bool.not_true,cond_false,hb,hs,hv,hl]
   cases v.Up <;> cases (b.2 == x2) <;> cases v.Has <;> cases l <;> exact ⟨_,rfl,by decide,by decide⟩
  ·simp only [decide_eq_true h1,decide_eq_false h2,cond_true,Option.bind_some,Bool.not_false]
   exact ⟨_,rfl,by decide,by decide⟩
 ·simp only [decide_eq_false h1,cond_false,Option.bind_some,Bool.not_false,cond_true]
  exact ⟨_,rfl,by decide,by decide⟩
theorem J0 (n : Nat) : z9 n = zT n := rfl
theorem zr (n : Nat) (a b c : Int) : zT n a b c = some (decide (b ≤ a) && decide (a ≤ c)) := by
 unfold zT
 by_cases h : a ≥ b
 ·rw [decide_eq_true h]; rfl
 ·rw [decide_eq_false h]; rfl
theorem zAr {p : Int} (h0 : 1 ≤ p) (h1 : p ≤ 6) : ∃ a : Int,0 ≤ a ∧ a < 9223372036854775808 ∧ (IntKind.wrap .i64 ((IntKind.wrap .i64 (1 * 2 ^ min ((IntKind.wrap .u64 p)).toNat (IntKind.bits .i64))) - 1)) = a ∧ (IntKind.wrap .i64 ((IntKind.wrap .i64 (1 * 2 ^ min (p).toNat (IntKind.bits .i64))) - 1)) = a ∧ decide (0 ≤ (IntKind.wrap .u64 p)) = true ∧ decide (0 ≤ p) = true := by
 have hc : p = 1 ∨ p = 2 ∨ p = 3 ∨ p = 4 ∨ p = 5 ∨ p = 6 := by omega
 rcases hc with rfl | rfl | rfl | rfl | rfl | rfl
 ·exact ⟨1,by decide,by decide,by decide,by decide,by decide,by decide⟩
 ·exact ⟨3,by decide,by decide,by decide,by decide,by decide,by decide⟩
 ·exact ⟨7,by decide,by decide,by decide,by decide,by decide,by decide⟩
 ·exact ⟨15,by decide,by decide,by decide,by decide,by decide,by decide⟩
 ·exact ⟨31,by decide,by decide,by decide,by decide,by decide,by decide⟩
 ·exact ⟨63,by decide,by decide,by decide,by decide,by decide,by decide⟩
theorem Jq (n : Nat) (x0 : zD) (w0 : x0.wf) (x1 : Int) (hp0 : 1 ≤ x1) (hp1 : x1 ≤ 6) (h : x0.Rows.length ≤ 1048580) : ∀ (m k : Nat),k ≤ x0.Rows.length → x0.Rows.length < m + k → qr n m x0 x1 k = qJ n m x0 x1 k ∧ Tot (qJ n m x0 x1 k)
 | 0,k,h1,h2 => by omega
 | m + 1,k,h1,h2 => by
  rw [qJ,qr]
  by_cases hk : k < x0.Rows.length
  ·obtain ⟨ih1,o,ih2⟩ := Jq n x0 w0 x1 hp0 hp1 h m (k + 1) (by omega) (by omega)
   obtain ⟨a,ha0,ha1,ha2,ha3,ha4,ha5⟩ := zAr hp0 hp1
   have hk' : decide ((k : Int) < (x0.Rows.length : Int)) = true := decide_eq_true (by omega)
   have hv : x0.Rows[k] ∈ x0.Rows := List.getElem_mem hk
   have hi := zi hk
   generalize x0.Rows[k] = v at hv hi
   have hw := w0.1.2 v hv
   have hin : ZJ n x1 = some a := by unfold ZJ; rw [ha5,ha3]; rfl
   simp only [hk',zz (by omega : k ≤ 1099511627776),hi,Option.bind_some,cond_true,ih1,ih2,hin,J0,zr,ha2]
   have hbits := fun hm0 hm1 => zHt (B := v.Bare) (M := v.Members) hw.2.2.1 hm0 hm1
   by_cases hm : 0 ≤ v.Members ∧ v.Members ≤ a
   ·have hb := hbits hm.1 (by omega)
    simp only [decide_eq_true hm.1,decide_eq_true hm.2,Bool.and_self,Bool.not_true,cond_false]
    by_cases hz : IntKind.wrap .i64 (BitVec.ofInt (IntKind.bits .i64) v.Bare &&& ~~~BitVec.ofInt (IntKind.bits .i64) v.Members).toNat = 0
    ·have h3 := hb.1 hz
     have hz' : ((IntKind.wrap .i64 (BitVec.ofInt (IntKind.bits .i64) v.Bare &&& ~~~BitVec.ofInt (IntKind.bits .i64) v.Members).toNat) != 0) = false := by rw [hz]; rfl
     have hy' : ((IntKind.wrap .i64 (BitVec.ofInt (IntKind.bits .i64) v.Bare &&& BitVec.ofInt (IntKind.bits .i64) v.Members).toNat) != v.Bare) = false := by rw [h3.2.2]; simp
     simp only [hz',hy',decide_eq_true h3.1,decide_eq_true (show v.Bare ≤ a by omega),Bool.and_self,Bool.not_true,cond_false]
     cases k with
     | zero => cases (decide (1 ≤ v.Id) && decide (v.Id ≤ 99)) <;> exact ⟨by trivial,Tot.of⟩
     | succ k =>
      have hw2 : IntKind.wrap .i64 (((k + 1 : Nat) : Int) - 1) = (k : Int) := by rw [wrap64 (by omega) (by omega)]; omega
      have hpos : decide (((k + 1 : Nat) : Int) > 0) = true := decide_eq_true (by omega)
      simp only [hw2,hpos,cond_true,zi (show k < x0.Rows.length by omega),Option.bind_some]
      cases (decide (1 ≤ v.Id) && decide (v.Id ≤ 99)) <;> cases (decide ((x0.Rows[k]'(by omega)).Id ≥ v.Id)) <;> exact ⟨by trivial,Tot.of⟩
    ·have hz' : ((IntKind.wrap .i64 (BitVec.ofInt (IntKind.bits .i64) v.Bare &&& ~~~BitVec.ofInt (IntKind.bits .i64) v.Members).toNat) != 0) = true := by simpa using hz
     have h3 : (decide (0 ≤ v.Bare) && decide (v.Bare ≤ a)) = false ∨ ((IntKind.wrap .i64 (BitVec.ofInt (IntKind.bits .i64) v.Bare &&& BitVec.ofInt (IntKind.bits .i64) v.Members).toNat) != v.Bare) = true := by
      by_cases hq : ((IntKind.wrap .i64 (BitVec.ofInt (IntKind.bits .i64) v.Bare &&& BitVec.ofInt (IntKind.bits .i64) v.Members).toNat) != v.Bare) = true
      ·exact .inr hq
      ·left
       simp at hq
       by_cases hr : 0 ≤ v.Bare ∧ v.Bare ≤ a
       ·have hle := zHu hw.2.2.1 hm.1 (by omega) hq
        exact absurd (hb.2 ⟨hle.1,hle.2,hq⟩) hz
       ·simp only [Bool.and_eq_false_iff,decide_eq_false_iff_not]; omega
     simp only [hz',cond_true]
     have hspec : (bif !(decide (0 ≤ v.Bare) && decide (v.Bare ≤ a)) then some (Sum.inr false) else bif ((IntKind.wrap .i64 (BitVec.ofInt (IntKind.bits .i64) v.Bare &&& BitVec.ofInt (IntKind.bits .i64) v.Members).toNat) != v.Bare) then some (Sum.inr false) else (bif decide ((k : Int) > 0) then (idx x0.Rows (IntKind.wrap .i64 ((k : Int) - 1))).bind fun v13 => bif decide (v13.Id ≥ v.Id) then some (Sum.inr false) else some o else some o)) = (some (Sum.inr false) : Option (Unit ⊕ Bool)) := by
      rcases h3 with h3 | h3
      ·rw [h3]; rfl
      ·rw [h3]; cases (decide (0 ≤ v.Bare) && decide (v.Bare ≤ a)) <;> rfl
     rw [hspec]
     cases k with
     | zero => cases (decide (1 ≤ v.Id) && decide (v.Id ≤ 99)) <;> exact ⟨by trivial,Tot.of⟩
     | succ k =>
      have hw2 : IntKind.wrap .i64 (((k + 1 : Nat) : Int) - 1) = (k : Int) := by rw [wrap64 (by omega) (by omega)]; omega
      have hpos : decide (((k + 1 : Nat) : Int) > 0) = true := decide_eq_true (by omega)
      simp only [hw2,hpos,cond_true,zi (show k < x0.Rows.length by omega),Option.bind_some]
      cases (decide (1 ≤ v.Id) && decide (v.Id ≤ 99)) <;> cases (decide ((x0.Rows[k]'(by omega)).Id ≥ v.Id)) <;> exact ⟨by trivial,Tot.of⟩
   ·have hm' : (decide (0 ≤ v.Members) && decide (v.Members ≤ a)) = false := by
     simp only [Bool.and_eq_false_iff,decide_eq_false_iff_not]; omega
    simp only [hm',Bool.not_false,cond_true]
    cases k with
    | zero => cases (decide (1 ≤ v.Id) && decide (v.Id ≤ 99)) <;> exact ⟨by trivial,Tot.of⟩
    | succ k =>
     have hw2 : IntKind.wrap .i64 (((k + 1 : Nat) : Int) - 1) = (k : Int) := by rw [wrap64 (by omega) (by omega)]; omega
     have hpos : decide (((k + 1 : Nat) : Int) > 0) = true := decide_eq_true (by omega)
     simp only [hw2,hpos,cond_true,zi (show k < x0.Rows.length by omega),Option.bind_some]
     cases (decide (1 ≤ v.Id) && decide (v.Id ≤ 99)) <;> cases (decide ((x0.Rows[k]'(by omega)).Id ≥ v.Id)) <;> exact ⟨by trivial,Tot.of⟩
  ·have hk' : decide ((k : Int) < (x0.Rows.length : Int)) = false := decide_eq_false (by omega)
   rw [hk']
   exact ⟨by trivial,Tot.of⟩
theorem Jp (n : Nat) (x0 : zD) (h : x0.Rows.length ≤ 1048580) (hn : x0.Rows.length < n) (hq : x0.Pv.length ≤ 1048580) : ∀ (m k : Nat),k ≤ x0.Pv.length → x0.Pv.length < m + k → ZI n m x0 k = qR n m x0 k ∧ Tot (qR n m x0 k)
 | 0,k,h1,h2 => by omega
 | m + 1,k,h1,h2 => by
  rw [qR,ZI]
  by_cases hk : k < x0.Pv.length
  ·obtain ⟨ih1,o,ih2⟩ := Jp n x0 h hn hq m (k + 1) (by omega) (by omega)
   have hk' : decide ((k : Int) < (x0.Pv.length : Int)) = true := decide_eq_true (by omega)
   obtain ⟨r,hr,_⟩ := Jw n x0 x0.Pv[k] h hn
   simp only [hk',zz (by omega : k ≤ 1099511627776),zi hk,Option.bind_some,cond_true,ih1,ih2,zEA,hr]
   cases decide (r < 0) <;> exact ⟨by trivial,Tot.of⟩
  ·have hk' : decide ((k : Int) < (x0.Pv.length : Int)) = false := decide_eq_false (by omega)
   rw [hk']
   exact ⟨by trivial,Tot.of⟩
theorem zCj (n : Nat) (x0 : zD) (w0 : x0.wf) (x1 : Int) (h : x0.sz ≤ 1048580) (hn : x0.sz < n) : Yd n x0 x1 = zu n x0 x1 ∧ Tot (zu n x0 x1) := by
 have hs : x0.Rows.length + x0.Pv.length = x0.sz := rfl
 unfold Yd zu
 simp only [J0,zr,Option.bind_some]
 by_cases hp : 1 ≤ x1 ∧ x1 ≤ 6
 ·obtain ⟨a,ha0,ha1,ha2,ha3,ha4,ha5⟩ := zAr hp.1 hp.2
  obtain ⟨e1,o,e2⟩ := Jq n x0 w0 x1 hp.1 hp.2 (by omega) n 0 (by omega) (by omega)
  obtain ⟨f1,q,f2⟩ := Jp n x0 (by omega) (by omega) (by omega) n 0 (by omega) (by omega)
  have e1' : qr n n x0 x1 0 = some o := e1.trans e2
  have e2' : qJ n n x0 x1 0 = some o := e2
  have f1' : ZI n n x0 0 = some q := f1.trans f2
  have f2' : qR n n x0 0 = some q := f2
  simp only [decide_eq_true hp.1,decide_eq_true hp.2,Bool.and_self,Bool.not_true,cond_false,ha4,cond_true,e1',e2',Option.bind_some]
  cases o with
  | inl u =>
   simp only [Qq,Zk,f1',f2',Option.bind_some]
   cases q <;> exact ⟨rfl,Tot.bif (fun _ => .of) fun _ => Tot.bif (fun _ => .of) fun _ => .of⟩
  | inr r => exact ⟨rfl,Tot.bif (fun _ => .of) fun _ => Tot.bif (fun _ => .of) fun _ => .of⟩
 ·have hp' : (decide (1 ≤ x1) && decide (x1 ≤ 6)) = false := by
   simp only [Bool.and_eq_false_iff,decide_eq_false_iff_not]; omega
  rw [hp']
  exact ⟨by trivial,Tot.of⟩
theorem YX (n : Nat) (x : zD) (h : x.sz ≤ 268435456) : qf n x = some x := by
 have hs : x.Rows.length + x.Pv.length = x.sz := rfl
 unfold qf
 simp only [List.length_nil,Nat.zero_add,decide_eq_true (show x.Rows.length ≤ 268435456 by omega),decide_eq_true (show x.Pv.length ≤ 268435456 by omega),cond_true,List.nil_append]
theorem zGe {α : Type} {wf : α → Prop} {xs ys : List α} (h : Zf wf xs) (hs : ∀ y ∈ ys,y ∈ xs) (hl : ys.length ≤ xs.length) : Zf wf ys := ⟨Nat.le_trans hl h.1,fun y hy => h.2 y (hs y hy)⟩
theorem zGd {α : Type} {wf : α → Prop} {xs : List α} {i : Nat} {v : α} (h : Zf wf xs) (hv : wf v) : Zf wf (xs.set i v) := ⟨by rw [List.length_set]; exact h.1,fun y hy => by
 rcases List.mem_or_eq_of_mem_set hy with h1 | h1
 ·exact h.2 y h1
 ·rw [h1]; exact hv⟩
def zE.sz (x : zE) : Nat := x.Name.size + x.Ps.length + x.F.length + x.V.sz
theorem zEu (n : Nat) : Ja n = z5 n := by
 funext v
 unfold Ja z5
 rw [J0,zEB]
 obtain ⟨b,hb⟩ := Qu n v.Co 1 1000
 rw [hb]
 cases b <;> cases v.Up <;> cases v.Has <;> rfl
theorem zBO (n : Nat) (v : Pt) : Tot (z5 n v) := by
 unfold z5
 repeat' first | exact Tot.of | refine Tot.bind (Qu _ _ _ _) fun _ _ => ?_ | refine Tot.bind (zA7 _ _) fun _ _ => ?_ | refine Tot.bif (fun _ => ?_) (fun _ => ?_)
theorem Jm (n : Nat) (v : zB) : Tot (qP n v) := by
 unfold qP
 repeat' first | exact Tot.of | refine Tot.bind (Qu _ _ _ _) fun _ _ => ?_ | refine Tot.bif (fun _ => ?_) (fun _ => ?_)
theorem zDa (n : Nat) : Jc n = qP n := rfl
theorem zDZ (n : Nat) (v u : zB) : Ye n u v.Tag v.Mac = qe n v u.Tag u.Mac := by
 unfold Ye qe
 by_cases h1 : v.Tag = u.Tag
 ·simp [h1]
 ·have e1 : (v.Tag != u.Tag) = true := by simpa using h1
  have e2 : (u.Tag == v.Tag) = false := by simpa using fun e : u.Tag = v.Tag => h1 e.symm
  rw [e1,e2]
  by_cases h2 : v.Tag < u.Tag
  ·rw [decide_eq_true h2]; rfl
  ·rw [decide_eq_false h2]; rfl
theorem zAT (n : Nat) (v : zB) (a b : Int) : Tot (qe n v a b) := Tot.bif (fun _ => .of) (fun _ => .of)
theorem zAC (n : Nat) (xs : List zB) (h : xs.length ≤ 1048580) : ∀ (m k : Nat),k ≤ xs.length → xs.length < m + k → ZA n m xs k = zt n m xs k ∧ Tot (zt n m xs k)
 | 0,k,h1,h2 => by omega
 | m + 1,k,h1,h2 => by
  rw [zt,ZA]
  by_cases hk : k < xs.length
  ·obtain ⟨ih1,o,ih2⟩ := zAC n xs h m (k + 1) (by omega) (by omega)
   rw [ZK hk]
   obtain ⟨a,ha⟩ := Jm n xs[k]
   simp only [zz (by omega : k ≤ 1099511627776),zi hk,Option.bind_some,cond_true,ih1,ih2,zDa,ha]
   cases k with
   | zero => cases a <;> exact ⟨by trivial,Tot.of⟩
   | succ k =>
    have hw2 : IntKind.wrap .i64 (((k + 1 : Nat) : Int) - 1) = (k : Int) := by rw [wrap64 (by omega) (by omega)]; omega
    have hpos : decide (((k + 1 : Nat) : Int) > 0) = true := decide_eq_true (by omega)
    obtain ⟨b,hb⟩ := zAT n (xs[k]'(by omega)) xs[k + 1].Tag xs[k + 1].Mac
    simp only [hw2,hpos,cond_true,zi (show k < xs.length by omega),Option.bind_some,zDZ,hb]
    cases a <;> cases b <;> exact ⟨by trivial,Tot.of⟩
  ·have he : k = xs.length := by omega
   rw [he,ql]
   exact ⟨rfl,Tot.of⟩
theorem zDB (n : Nat) (xs : List zB) (h : xs.length ≤ 1048580) (hn : xs.length < n) : ∃ b,qg n xs = some b ∧ Y8 n xs = some b := by
 obtain ⟨e1,o,e2⟩ := zAC n xs h n 0 (by omega) (by omega)
 have e1' : ZA n n xs 0 = some o := e1.trans e2
 have e2' : zt n n xs 0 = some o := e2
 unfold qg Y8
 rw [e1',e2']
 cases o <;> exact ⟨_,rfl,rfl⟩
theorem zBs (n : Nat) : ZD n = zc n := by
 funext m
 induction m with
 | zero => rfl
 | succ m ih => funext x i; simp only [ZD,zc,ih,zEu]
theorem Jh (n : Nat) (x : zE) (h : x.Ps.length ≤ 1048580) : ∀ (m k : Nat),k ≤ x.Ps.length → x.Ps.length < m + k → Tot (zc n m x k)
 | 0,k,h1,h2 => by omega
 | m + 1,k,h1,h2 => by
  rw [zc]
  refine Tot.step (fun hk => ?_) .of
  have ih := Jh n x h m (k + 1) (by omega) (by omega)
  rw [zz (by omega : k ≤ 1099511627776)]
  exact Tot.bind (zAi hk) fun _ _ => Tot.bind (zBO _ _) fun _ _ => Tot.bif (fun _ => .of) fun _ => ih
theorem zBt (n : Nat) (x : zE) (wx : x.wf) (h : x.sz ≤ 1048580) (hn : x.sz < n) : ∃ b,qQ n x = some b ∧ Qp n x = some b := by
 have hs : x.Name.size + x.Ps.length + x.F.length + x.V.sz = x.sz := rfl
 obtain ⟨o,ho⟩ := Jh n x (by omega) n 0 (by omega) (by omega)
 have ho' : zc n n x 0 = some o := ho
 obtain ⟨f,hf1,hf2⟩ := zDB n x.F (by omega) (by omega)
 obtain ⟨g,v,hv⟩ := zCj n x.V ⟨wx.2.2.2.2.1,wx.2.2.2.2.2.1,trivial⟩ (x.Ps.length : Int) (by omega) (by omega)
 unfold qQ Qp
 rw [zBs,ho',Option.bind_some,Option.bind_some]
 cases o with
 | inr r => exact ⟨_,rfl,rfl⟩
 | inl u =>
  simp only [ZF,QL,J0,ZY,Zy,zr,hf1,hf2,g,hv,Option.bind_some]
  have hname : decide ((x.Name.size : Int) > 10) = !decide ((x.Name.size : Int) ≤ 10) := by
   by_cases h : (x.Name.size : Int) ≤ 10
   ·rw [decide_eq_true h,decide_eq_false (by omega)]; rfl
   ·rw [decide_eq_false h,decide_eq_true (by omega)]; rfl
  rw [hname]
  generalize decide ((x.Name.size : Int) ≤ 10) = b1
  generalize (decide (1 ≤ x.Id) && decide (x.Id ≤ 99)) = b2
  generalize (decide (1 ≤ (x.Ps.length : Int)) && decide ((x.Ps.length : Int) ≤ 6)) = b3
  generalize (decide (0 ≤ x.Tk) && decide (x.Tk ≤ 1000000)) = b4
  generalize (decide (0 ≤ x.Pa) && decide (x.Pa ≤ 1000000)) = b5
  generalize (decide (0 ≤ x.Wo) && decide (x.Wo ≤ 1000000)) = b6
  generalize (decide (0 ≤ x.Dr) && decide (x.Dr ≤ 1000000)) = b7
  generalize (decide (0 ≤ x.Ve) && decide (x.Ve ≤ 1000000)) = b8
  clear hf1 hf2 g hv hname
  revert f v b1 b2 b3 b4 b5 b6 b7 b8
  decide +kernel
def Src.ok (c : Src) : Prop := 0 ≤ c.i ∧ c.b.length ≤ 1099511627776
theorem zGy (z : Int) : ∃ v : Int,(IntKind.wrap .i64 (BitVec.ofInt (IntKind.bits .i64) z &&& BitVec.ofInt (IntKind.bits .i64) 255).toNat) = v ∧ 0 ≤ v ∧ v ≤ 255 := by
 have h : (BitVec.ofInt 64 z &&& BitVec.ofInt 64 255).toNat ≤ 255 := by
  rw [BitVec.toNat_and]
  exact Nat.le_trans Nat.and_le_right (by decide)
 refine ⟨((BitVec.ofInt 64 z &&& BitVec.ofInt 64 255).toNat : Int),?_,by omega,by omega⟩
 exact wrap64 (z := ((BitVec.ofInt 64 z &&& BitVec.ofInt 64 255).toNat : Int)) (by omega) (by omega)
theorem YV (n : Nat) (c : Src) (h : c.ok) : ∃ v c',Zs n c = some (v,c') ∧ 0 ≤ v ∧ v ≤ 255 ∧ c'.ok := by
 unfold Zs
 rw [show decide ((0 : Int) ≤ 33) = true from rfl,show decide ((0 : Int) ≤ 47) = true from rfl]
 simp only [cond_true]
 by_cases hi : c.i < (c.b.length : Int)
 ·obtain ⟨v,hv,_⟩ := zB0 (xs := c.b) h.1 hi
  rw [decide_eq_true hi,hv,wrap64 (z := c.i + 1) (by have := h.1; omega) (by have := h.2; omega)]
  obtain ⟨w,e,e1,e2⟩ := zGy (IntKind.wrap .i64 ((IntKind.wrap .i64 (BitVec.ofInt (IntKind.bits .i64) (IntKind.wrap .i64 (BitVec.ofInt (IntKind.bits .i64) (Int.fdiv (IntKind.wrap .i64 ((IntKind.wrap .i64 (c.h * 6364136223846793005)) + 1442695040888963407)) (2 ^ min ((33 : Int)).toNat (IntKind.bits .i64))) ^^^ BitVec.ofInt (IntKind.bits .i64) (Int.fdiv (IntKind.wrap .i64 ((IntKind.wrap .i64 (c.h * 6364136223846793005)) + 1442695040888963407)) (2 ^ min ((47 : Int)).toNat (IntKind.bits .i64)))).toNat) &&& BitVec.ofInt (IntKind.bits .i64) 255).toNat) + (IntKind.wrap .i64 v)))
  simp only [cond_true,Option.bind_some]
  exact ⟨_,_,rfl,by rw [e]; exact e1,by rw [e]; exact e2,by have := h.1; show 0 ≤ c.i + 1; omega,h.2⟩
 ·rw [decide_eq_false hi]
  obtain ⟨w,e,e1,e2⟩ := zGy (IntKind.wrap .i64 (BitVec.ofInt (IntKind.bits .i64) (Int.fdiv (IntKind.wrap .i64 ((IntKind.wrap .i64 (c.h * 6364136223846793005)) + 1442695040888963407)) (2 ^ min ((33 : Int)).toNat (IntKind.bits .i64))) ^^^ BitVec.ofInt (IntKind.bits .i64) (Int.fdiv (IntKind.wrap .i64 ((IntKind.wrap .i64 (c.h * 6364136223846793005)) + 1442695040888963407)) (2 ^ min ((47 : Int)).toNat (IntKind.bits .i64)))).toNat)
  simp only [cond_false]
  exact ⟨_,_,rfl,by rw [e]; exact e1,by rw [e]; exact e2,h.1,h.2⟩
theorem zGO {v k : Int} (h0 : 0 ≤ v) (hk : 0 < k) : 0 ≤ Int.tmod v k ∧ Int.tmod v k < k := by
 rw [Int.tmod_eq_emod_of_nonneg h0]
 exact ⟨Int.emod_nonneg _ (by omega),Int.emod_lt_of_pos _ hk⟩
theorem zO (n : Nat) (c : Src) (k : Int) (h : c.ok) : ∃ v c',zL n c k = some (v,c') ∧ 0 ≤ v ∧ (0 < k → v < k) ∧ c'.ok := by
 unfold zL
 by_cases h1 : k ≤ 0
 ·rw [decide_eq_true h1]
  exact ⟨0,c,rfl,by omega,fun h => by omega,h⟩
 ·rw [decide_eq_false h1]
  have hne : decide ((k : Int) ≠ 0) = true := decide_eq_true (by omega)
  by_cases h2 : k ≤ 256
  ·rw [decide_eq_true h2]
   obtain ⟨v,c',e,e1,e2,e3⟩ := YV n c h
   simp only [cond_true,cond_false,e,Option.bind_some,hne]
   obtain ⟨t1,t2⟩ := zGO e1 (show 0 < k by omega)
   exact ⟨_,_,rfl,t1,fun _ => t2,e3⟩
  ·rw [decide_eq_false h2]
   obtain ⟨v1,c1,e,e1,e2,e3⟩ := YV n c h
   obtain ⟨v2,c2,f,f1,f2,f3⟩ := YV n c1 e3
   obtain ⟨v3,c3,g,g1,g2,g3⟩ := YV n c2 f3
   simp only [cond_false,e,f,g,Option.bind_some,hne,cond_true]
   simp (disch := omega) only [wrap64]
   obtain ⟨t1,t2⟩ := zGO (show 0 ≤ v1 * 65536 + v2 * 256 + v3 by omega) (show 0 < k by omega)
   exact ⟨_,_,rfl,t1,fun _ => t2,g3⟩
theorem YW (n : Nat) (c : Src) (k : Int) (h : c.ok) : ∃ v c',q9 n c k = some (v,c') ∧ c'.ok := by
 obtain ⟨v,c',e,_,_,e3⟩ := zO n c k h
 unfold q9
 rw [e]
 exact ⟨_,_,rfl,e3⟩
theorem Zl (n : Nat) (c : Src) (xs : List Int) (h : c.ok) (hx : 0 < xs.length) : ∃ v c',qq n c xs = some (v,c') ∧ v ∈ xs ∧ c'.ok := by
 obtain ⟨v,c',e,e1,e2,e3⟩ := zO n c (xs.length : Int) h
 obtain ⟨u,hu,hm⟩ := zB0 (xs := xs) e1 (e2 (by omega))
 unfold qq
 simp only [e,hu,Option.bind_some]
 exact ⟨_,_,rfl,hm,e3⟩
theorem zAR (n : Nat) (x0 : List Int) (h : x0.length ≤ 1048580) : ∀ (m k : Nat) (y : Int),k ≤ x0.length → x0.length < m + k → ∃ v,Zb n m x0 k y = some (.inl v)
 | 0,k,y,h1,h2 => by omega
 | m + 1,k,y,h1,h2 => by
  rw [Zb]
  by_cases hk : k < x0.length
  ·rw [ZK hk,zi hk,zz (by omega)]
   by_cases h4 : (k : Int) < 4000
   ·rw [decide_eq_true h4]
    simp only [cond_true,Option.bind_some]
    exact zAR n x0 h m (k + 1) _ (by omega) (by omega)
   ·rw [decide_eq_false h4]
    exact ⟨_,rfl⟩
  ·have he : k = x0.length := by omega
   rw [he,ql]
   exact ⟨_,rfl⟩
theorem zEX (n : Nat) (x0 : List Int) (h : x0.length ≤ 1048580) (hn : x0.length < n) : ∃ c,JE n x0 = some c ∧ c.ok := by
 obtain ⟨v,e⟩ := zAR n x0 h n 0 (IntKind.wrap .i64 (762762 + (x0.length : Int))) (by omega) (by omega)
 unfold JE
 rw [show Zb n n x0 0 (IntKind.wrap .i64 (762762 + (x0.length : Int))) = _ from e]
 exact ⟨_,rfl,by show (0 : Int) ≤ 0; omega,by show x0.length ≤ _; omega⟩
def zD1 (n : Nat) (x0 : Int) (x1 : List Pt) (k : Nat) (y2 y3 y4 y8 y9 : Int) : Prop :=
 ((y2 = -1 ∧ y8 = x0) ∨ (0 ≤ y2 ∧ y2 < k ∧ y3 = y8 ∧ y4 = y9 ∧ y8 < x0 ∧ ∃ v : Pt,idx x1 y2 = some v ∧ v.Up = true)) ∧
 ∀ (j : Nat) (v : Pt) (r : Vec),j < k → idx x1 (j : Int) = some v → v.Up = true → v.Has = true → Za n v.Hd v.Co = some (r,true) → x0 ≤ r.Root ∨ (0 ≤ y2 ∧ (y8 < r.Root ∨ (y8 = r.Root ∧ y9 ≤ r.Co)))
theorem zD1.next {n : Nat} {x0 : Int} {x1 : List Pt} {k : Nat} {y2 y3 y4 y8 y9 : Int} (h : zD1 n x0 x1 k y2 y3 y4 y8 y9) (hk : ∀ v : Pt,idx x1 (k : Int) = some v → v.Up = true → v.Has = true → ∀ r : Vec,Za n v.Hd v.Co = some (r,true) → x0 ≤ r.Root ∨ (0 ≤ y2 ∧ (y8 < r.Root ∨ (y8 = r.Root ∧ y9 ≤ r.Co)))) : zD1 n x0 x1 (k + 1) y2 y3 y4 y8 y9 := by
 refine ⟨?_,fun j v r hj hv hu hh hs => ?_⟩
 ·rcases h.1 with a | ⟨a,b,c⟩
  ·exact .inl a
  ·exact .inr ⟨a,by omega,c⟩
 ·by_cases e : j = k
  ·subst e; exact hk v hv hu hh r hs
  ·exact h.2 j v r (by omega) hv hu hh hs
theorem zAH (n : Nat) (x0 : zD) (x1 : Int) (h : x0.Rows.length ≤ 1048580) : ∀ (m k : Nat),k ≤ x0.Rows.length → x0.Rows.length < m + k → Tot (qJ n m x0 x1 k)
 | 0,k,h1,h2 => by omega
 | m + 1,k,h1,h2 => by
  rw [qJ]
  refine Tot.step (fun hk => ?_) .of
  have ih := zAH n x0 x1 h m (k + 1) (by omega) (by omega)
  simp only [zi hk,Option.bind_some,zr,zz (by omega : k ≤ 1099511627776)]
  refine Tot.bif (fun _ => .of) fun _ => Tot.bif (fun _ => .of) fun _ => Tot.bif (fun _ => .of) fun _ => Tot.bif (fun _ => .of) fun _ => Tot.bif (fun hp => ?_) fun _ => ih
  have hp := of_decide_eq_true hp
  obtain ⟨v,hv,_⟩ := zB0 (xs := x0.Rows) (i := (k : Int) - 1) (by omega) (by omega)
  rw [wrap64 (by omega) (by omega),hv,Option.bind_some]
  exact Tot.bif (fun _ => .of) fun _ => ih
theorem zAG (n : Nat) (x0 : zD) (h : x0.Rows.length ≤ 1048580) (hn : x0.Rows.length < n) (hq : x0.Pv.length ≤ 1048580) : ∀ (m k : Nat),k ≤ x0.Pv.length → x0.Pv.length < m + k → Tot (qR n m x0 k)
 | 0,k,h1,h2 => by omega
 | m + 1,k,h1,h2 => by
  rw [qR]
  refine Tot.step (fun hk => ?_) .of
  have ih := zAG n x0 h hn hq m (k + 1) (by omega) (by omega)
  obtain ⟨r,hr,_⟩ := Jw n x0 x0.Pv[k] h hn
  simp only [zi hk,Option.bind_some,hr,zz (by omega : k ≤ 1099511627776)]
  exact Tot.bif (fun _ => .of) fun _ => ih
theorem zDF (n : Nat) (x0 : zD) (p : Nat) (hp : p ≤ 1000000) (h : x0.sz ≤ 1048580) (hn : x0.sz < n) : Tot (zu n x0 p) := by
 have hs : x0.Rows.length + x0.Pv.length = x0.sz := rfl
 unfold zu
 simp only [zr,Option.bind_some]
 have hu : decide ((0 : Int) ≤ IntKind.wrap .u64 (p : Int)) = true := by rw [show IntKind.wrap .u64 (p : Int) = p from by show ((p : Int) % 18446744073709551616) = p; omega]; exact decide_eq_true (by omega)
 refine Tot.bif (fun _ => .of) fun _ => Tot.bif (fun _ => .of) fun _ => Tot.bif (fun _ => .of) fun _ => ?_
 rw [hu,cond_true]
 refine Tot.bind (zAH n x0 p (by omega) n 0 (by omega) (by omega)) fun o _ => ?_
 cases o with
 | inr b => exact Tot.of
 | inl u =>
  show Tot (Zk n x0)
  unfold Zk
  refine Tot.bind (zAG n x0 (by omega) (by omega) (by omega) n 0 (by omega) (by omega)) fun o _ => ?_
  cases o <;> exact Tot.of
theorem JT (n : Nat) (x : zD) (p : Int) (hok : zu n x p = some true) : x.Rows.length ≤ 6 ∧ (x.Pv.length : Int) = p := by
 unfold zu at hok
 simp only [zr,Option.bind_some] at hok
 revert hok
 cases (decide (1 ≤ p) && decide (p ≤ 6)) with
 | false => intro h; cases h
 | true =>
  simp only [Bool.not_true,cond_false]
  by_cases hp : (x.Pv.length : Int) = p
  ·have : ((x.Pv.length : Int) != p) = false := by simp [hp]
   rw [this,cond_false]
   by_cases hr : (x.Rows.length : Int) > 6
   ·rw [decide_eq_true hr]; intro h; cases h
   ·exact fun _ => ⟨by omega,hp⟩
  ·have : ((x.Pv.length : Int) != p) = true := by simp [hp]
   rw [this]; intro h; cases h
def VtG (n p : Nat) (x : zD) : Prop := x.wf ∧ x.Pv.length = p ∧ x.Rows.length ≤ 6 ∧ zu n x p = some true ∧ ∀ r ∈ x.Rows,0 ≤ r.Bare ∧ r.Bare ≤ 63
theorem VtG.sz {n p : Nat} {x : zD} (h : VtG n p x) : x.sz ≤ 6 + p := by
 have hs : x.Rows.length + x.Pv.length = x.sz := rfl
 have := h.2.1; have := h.2.2.1; omega
theorem zAM (n p : Nat) (hp : p ≤ 1000) (x y : zD) (hx : VtG n p x) (wy : y.wf) (hy : y.Pv.length = p) (hl : y.Rows.length ≤ 1000) (hb : ∀ r ∈ y.Rows,0 ≤ r.Bare ∧ r.Bare ≤ 63) (hn : 1048577 < n) : ∃ r b,Q6 n y x = some (r,b) ∧ VtG n p r := by
 have hs : y.Rows.length + y.Pv.length = y.sz := rfl
 have hxs := hx.sz
 obtain ⟨b,e⟩ := zDF n y p (by omega) (by omega) (by omega)
 unfold Q6
 rw [hx.2.1,e,Option.bind_some,YX n x (by omega)]
 cases b
 ·exact ⟨x,false,rfl,hx⟩
 ·exact ⟨y,true,rfl,wy,hy,(JT n y p e).1,e,hb⟩
theorem zDD (n p : Nat) (hp : p ≤ 1000) (x : zD) (hx : VtG n p x) (i id : Int) (wi : zm id) (hn : 1048577 < n) : ∃ r b,YB n x i id = some (r,b) ∧ VtG n p r := by
 have hxs := hx.sz
 have hpl := hx.2.1
 have hw : IntKind.wrap .i64 ((p : Int) - 1) = (p : Int) - 1 := wrap64 (by omega) (by omega)
 unfold YB
 simp only [hpl,hx.2.2.2.1,Option.bind_some,Bool.not_true,cond_false,zr,hw,YX n x (by omega)]
 by_cases hi : 0 ≤ i ∧ i ≤ (p : Int) - 1
 ·obtain ⟨v,hv,_⟩ := zB0 (xs := x.Pv) hi.1 (by omega)
  obtain ⟨r,b,e,g⟩ := zAM n p hp x ⟨x.Rows,x.Pv.set i.toNat id⟩ hx ⟨hx.1.1,zGd hx.1.2.1 wi,trivial⟩ (by simp [hpl]) (by have := hx.2.2.1; show x.Rows.length ≤ 1000; omega) hx.2.2.2.2 hn
  rw [decide_eq_true hi.1,decide_eq_true hi.2]
  simp only [Bool.and_self,Bool.not_true,cond_false,hv,Option.bind_some,e]
  exact ⟨r,b,rfl,g⟩
 ·have hp' : (decide (0 ≤ i) && decide (i ≤ (p : Int) - 1)) = false := by
   simp only [Bool.and_eq_false_iff,decide_eq_false_iff_not]; omega
  rw [hp']
  exact ⟨x,false,rfl,hx⟩
theorem zDA (n p : Nat) (hp : p ≤ 1000) (x : zD) (hx : VtG n p x) (id : Int) (hn : 1048577 < n) : ∃ r b,QU n x id = some (r,b) ∧ VtG n p r := by
 have hxs := hx.sz
 have hpl := hx.2.1
 have h6 := hx.2.2.1
 obtain ⟨r,hr,hk⟩ := Jw n x id (by omega) (by omega)
 rcases hk with ⟨rfl,_⟩ | ⟨v,h0,hv,_⟩
 ·refine ⟨x,false,?_,hx⟩
  simp only [QU,hr,hpl,hx.2.2.2.1,Option.bind_some,YX n x (by omega)]
  rfl
 ·obtain ⟨g1,g2⟩ := ZH hv
  have hlt : r.toNat < x.Rows.length := (List.getElem?_eq_some_iff.1 g2).1
  obtain ⟨k,rfl⟩ : ∃ k : Nat,r = k := ⟨r.toNat,by omega⟩
  simp only [Int.toNat_natCast] at hlt
  have hw : IntKind.wrap .i64 ((k : Int) + 1) = ((k + 1 : Nat) : Int) := zz (by omega)
  have hlist : (([] : List zA) ++ ((x.Rows.drop ((0 : Int)).toNat).take (((k : Int)).toNat - ((0 : Int)).toNat))) ++ ((x.Rows.drop ((((k + 1 : Nat) : Int))).toNat).take ((((x.Rows.length : Int) : Int)).toNat - ((((k + 1 : Nat) : Int))).toNat)) = x.Rows.take k ++ x.Rows.drop (k + 1) := by
   simp only [Int.toNat_natCast,List.nil_append,show ((0 : Int)).toNat = 0 from rfl,List.drop_zero,Nat.sub_zero]
   congr 1
   exact List.take_of_length_le (by simp)
  have hmem : ∀ y ∈ x.Rows.take k ++ x.Rows.drop (k + 1),y ∈ x.Rows := fun y hy => by
   rcases List.mem_append.1 hy with h | h
   ·exact List.mem_of_mem_take h
   ·exact List.mem_of_mem_drop h
  obtain ⟨y,b,e,g⟩ := zAM n p hp x ⟨x.Rows.take k ++ x.Rows.drop (k + 1),x.Pv⟩ hx ⟨zGe hx.1.1 hmem (by simp; omega),hx.1.2⟩ hpl (by show (x.Rows.take k ++ x.Rows.drop (k + 1)).length ≤ 1000; simp; omega) (fun r hr => hx.2.2.2.2 r (hmem r hr)) hn
  have hg1 : (decide ((0 : Int) ≤ 0) && (decide ((0 : Int) ≤ (k : Int)) && decide ((k : Int) ≤ (x.Rows.length : Int)))) = true := by
   rw [decide_eq_true (by omega : (0 : Int) ≤ (k : Int)),decide_eq_true (by omega : (k : Int) ≤ (x.Rows.length : Int))]; rfl
  have hg2 : (decide ((0 : Int) ≤ ((k + 1 : Nat) : Int)) && (decide ((((k + 1 : Nat) : Int) : Int) ≤ (x.Rows.length : Int)) && decide (((x.Rows.length : Int) : Int) ≤ (x.Rows.length : Int)))) = true := by
   rw [decide_eq_true (by omega : (0 : Int) ≤ ((k + 1 : Nat) : Int)),decide_eq_true (by omega : ((k + 1 : Nat) : Int) ≤ (x.Rows.length : Int)),decide_eq_true (Int.le_refl _)]; rfl
  have hg3 : decide (([] : List zA).length + ((x.Rows.drop ((0 : Int)).toNat).take (((k : Int)).toNat - ((0 : Int)).toNat)).length ≤ 268435456) = true := decide_eq_true (by simp; omega)
  have hg4 : decide ((([] : List zA) ++ ((x.Rows.drop ((0 : Int)).toNat).take (((k : Int)).toNat - ((0 : Int)).toNat))).length + ((x.Rows.drop ((((k + 1 : Nat) : Int))).toNat).take ((((x.Rows.length : Int) : Int)).toNat - ((((k + 1 : Nat) : Int))).toNat)).length ≤ 268435456) = true := decide_eq_true (by simp; omega)
  have hn0 : decide ((k : Int) < 0) = false := decide_eq_false (by omega)
  refine ⟨y,b,?_,g⟩
  simp only [QU,hr,hpl,hx.2.2.2.1,Option.bind_some,Bool.not_true,YX n x (by omega),hn0,cond_false,hw,hg1,hg2,hg3,hg4,cond_true,hlist,e]
theorem zAW (n : Nat) (x0 : zD) (r : zA) (h : x0.Rows.length ≤ 1000) : ∀ (m k : Nat) (d : Bool) (acc : List zA),k ≤ x0.Rows.length → x0.Rows.length < m + k → acc.length ≤ 2 * k → (∀ v ∈ acc,v = r ∨ v ∈ x0.Rows) → ∃ d' acc',qK n m x0 r k d acc = some (.inl (d',acc')) ∧ acc'.length ≤ 2 * x0.Rows.length ∧ (∀ v ∈ acc',v = r ∨ v ∈ x0.Rows)
 | 0,k,d,acc,h1,h2,_,_ => by omega
 | m + 1,k,d,acc,h1,h2,h3,h4 => by
  rw [qK]
  by_cases hk : k < x0.Rows.length
  ·have ih := fun d acc h3 h4 => zAW n x0 r h m (k + 1) d acc (by omega) (by omega) h3 h4
   have hmem : x0.Rows[k] ∈ x0.Rows := List.getElem_mem hk
   have hj : ∀ b1 b2 b3 (d : Bool) (acc : List zA),acc.length ≤ 2 * k + 1 → (∀ v ∈ acc,v = r ∨ v ∈ x0.Rows) → ∃ d' acc',Zd n (fun v => qK n m x0 r v.1 v.2.1 v.2.2) x0 r k b1 b2 b3 d acc = some (.inl (d',acc')) ∧ acc'.length ≤ 2 * x0.Rows.length ∧ (∀ v ∈ acc',v = r ∨ v ∈ x0.Rows) := fun b1 b2 b3 d acc hl ha => by
    have hlen : decide (acc.length + [x0.Rows[k]].length ≤ 268435456) = true := decide_eq_true (by rw [List.length_singleton]; omega)
    simp only [Zd,zi hk,Option.bind_some,hlen,cond_true,zz (by omega : k ≤ 1099511627776)]
    cases (x0.Rows[k].Id != r.Id)
    ·exact ih d acc (by omega) ha
    ·refine ih d _ (by simp; omega) fun v hv => ?_
     rcases List.mem_append.1 hv with a | a
     ·exact ha v a
     ·rw [List.mem_singleton.1 a]; exact .inr hmem
   have hlen : decide (acc.length + [r].length ≤ 268435456) = true := decide_eq_true (by rw [List.length_singleton]; omega)
   simp only [ZK hk,cond_true,zi hk,Option.bind_some,hlen]
   cases d
   ·simp only [Bool.not_false,cond_true]
    cases (decide (x0.Rows[k].Id ≥ r.Id))
    ·simp only [cond_false]; exact hj _ _ _ _ _ (by omega) h4
    ·simp only [cond_true]
     refine hj _ _ _ _ _ (by simp; omega) fun v hv => ?_
     rcases List.mem_append.1 hv with a | a
     ·exact h4 v a
     ·exact .inl (List.mem_singleton.1 a)
   ·simp only [Bool.not_true,cond_false]; exact hj _ _ _ _ _ (by omega) h4
  ·have he : k = x0.Rows.length := by omega
   subst he
   rw [ql,cond_false]
   exact ⟨d,acc,rfl,h3,h4⟩
theorem zDw (n : Nat) (x : zD) (r : zA) (h : x.Rows.length ≤ 1000) (hq : x.Pv.length ≤ 1000) (hn : 1000 < n) : ∃ y,JG n x r = some y ∧ y.Pv = x.Pv ∧ y.Rows.length ≤ 2 * x.Rows.length + 1 ∧ (∀ v ∈ y.Rows,v = r ∨ v ∈ x.Rows) := by
 obtain ⟨d,acc,e,h1,h2⟩ := zAW n x r h n 0 false [] (by omega) (by omega) (by simp) (by simp)
 have e : qK n n x r 0 false ([] : List zA) = some (.inl (d,acc)) := e
 unfold JG
 rw [decide_eq_true (by simp; omega),cond_true,e,Option.bind_some]
 simp only [YF,List.nil_append]
 have hlen : decide (acc.length + [r].length ≤ 268435456) = true := decide_eq_true (by rw [List.length_singleton]; omega)
 rw [hlen]
 cases d
 ·refine ⟨_,rfl,rfl,by simp; omega,fun v hv => ?_⟩
  rcases List.mem_append.1 hv with a | a
  ·exact h2 v a
  ·exact .inl (List.mem_singleton.1 a)
 ·exact ⟨_,rfl,rfl,by simp; omega,h2⟩
theorem zH8 {xs ys : List zA} {r : zA} (hx : Zf zA.wf xs) (wr : r.wf) (hl : ys.length ≤ 4000) (h : ∀ v ∈ ys,v = r ∨ v ∈ xs) : Zf zA.wf ys := ⟨Nat.le_trans hl (by decide),fun v hv => by
 rcases h v hv with a | a
 ·rw [a]; exact wr
 ·exact hx.2 v a⟩
theorem zDo (n p : Nat) (hp : p ≤ 1000) (x : zD) (hx : VtG n p x) (r : zA) (wr : r.wf) (hr : 0 ≤ r.Bare ∧ r.Bare ≤ 63) (hn : 1048577 < n) : ∃ y b,Ym n x r = some (y,b) ∧ VtG n p y := by
 have hxs := hx.sz
 have hpl := hx.2.1
 have h6 := hx.2.2.1
 obtain ⟨z,e,e1,e2,e3⟩ := zDw n x r (by omega) (by omega) (by omega)
 have wz : z.wf := ⟨zH8 hx.1.1 wr (by omega) e3,by rw [e1]; exact hx.1.2.1,trivial⟩
 obtain ⟨y,b,f,g⟩ := zAM n p hp x z hx wz (by rw [e1]; exact hpl) (by omega) (fun v hv => by
  rcases e3 v hv with a | a
  ·rw [a]; exact hr
  ·exact hx.2.2.2.2 v a) hn
 refine ⟨y,b,?_,g⟩
 simp only [Ym,hpl,hx.2.2.2.1,Option.bind_some,Bool.not_true,cond_false,e,f]
theorem zp {z : Int} (h0 : -1000000 ≤ z) (h1 : z ≤ 1000000) : zm z := by
 show (Lit.int .i64 z).wf = true
 simp [Lit.wf,show IntKind.wrap .i64 z = z from wrap64 (by omega) (by omega)]
 exact ⟨by show (-9223372036854775808 : Int) ≤ z; omega,by omega⟩
theorem zHK : ∀ a < 64,∀ b < 64,IntKind.wrap .i64 (BitVec.ofInt (IntKind.bits .i64) ((a : Nat) : Int) &&& BitVec.ofInt (IntKind.bits .i64) ((b : Nat) : Int)).toNat = ((a &&& b : Nat) : Int) := by decide +kernel
theorem zCI : ∀ p < 7,IntKind.wrap .u64 ((p : Nat) : Int) = p ∧ IntKind.wrap .i64 ((IntKind.wrap .i64 ((IntKind.wrap .i64 (1 * 2 ^ min (((IntKind.wrap .u64 ((p : Nat) : Int)) : Int)).toNat (IntKind.bits .i64))) - 1)) + 1) = ((2 ^ p : Nat) : Int) ∧ (IntKind.wrap .i64 ((IntKind.wrap .i64 (1 * 2 ^ min (((IntKind.wrap .u64 ((p : Nat) : Int)) : Int)).toNat (IntKind.bits .i64))) - 1)) = ((2 ^ p - 1 : Nat) : Int) ∧ 1 ≤ 2 ^ p ∧ 2 ^ p ≤ 64 := by decide +kernel
theorem zDv (n p : Nat) (hp : p < 7) (c : Src) (h : c.ok) : ∃ v c',Yr n c p = some (v,c') ∧ v.wf ∧ 0 ≤ v.Bare ∧ v.Bare ≤ 63 ∧ c'.ok := by
 obtain ⟨s1,s2,s3,s4,s5⟩ := zCI p hp
 obtain ⟨v1,c1,e1,a1,b1,g1⟩ := zO n c ((2 ^ p : Nat) : Int) h
 obtain ⟨v2,c2,e2,a2,g2⟩ := Zl n c1 [1,2,3,2] g1 (by decide)
 obtain ⟨v3,c3,e3,a3,b3,g3⟩ := zO n c2 ((2 ^ p : Nat) : Int) g2
 have b1 := b1 (by omega)
 have b3 := b3 (by omega)
 obtain ⟨x,rfl⟩ : ∃ x : Nat,v1 = x := ⟨v1.toNat,by omega⟩
 obtain ⟨y,rfl⟩ : ∃ y : Nat,v3 = y := ⟨v3.toNat,by omega⟩
 have hand := zHK x (by omega) y (by omega)
 have hle : x &&& y ≤ x := Nat.and_le_left
 have hu : decide ((0 : Int) ≤ IntKind.wrap .u64 ((p : Nat) : Int)) = true := decide_eq_true (by rw [s1]; omega)
 unfold Yr
 simp only [s2,hu,cond_true,e1,e2,e3,Option.bind_some,hand]
 have w1 : zm v2 := by
  simp only [List.mem_cons,List.not_mem_nil,or_false] at a2
  refine zp ?_ ?_ <;> rcases a2 with a | a | a | a <;> omega
 have w2 : zm ((x : Nat) : Int) := zp (by omega) (by omega)
 have w3 : zm ((x &&& y : Nat) : Int) := zp (by omega) (by omega)
 refine ⟨_,_,rfl,⟨w1,w2,w3,trivial⟩,?_,?_,g3⟩
 ·show (0 : Int) ≤ ((x &&& y : Nat) : Int); omega
 ·show ((x &&& y : Nat) : Int) ≤ 63; omega
theorem zAF (n p : Nat) (hp : p ≤ 1000) : ∀ (m k : Nat) (acc : List Int),k ≤ p → p < m + k → acc = List.replicate k 1 → q4 n m p k acc = some (.inl (List.replicate p 1))
 | 0,k,acc,h1,h2,h3 => by omega
 | m + 1,k,acc,h1,h2,h3 => by
  rw [q4]
  by_cases hk : k < p
  ·have hlen : decide (acc.length + [(1 : Int)].length ≤ 268435456) = true := decide_eq_true (by rw [List.length_singleton,h3]; simp; omega)
   simp only [ZK hk,cond_true,zz (by omega : k ≤ 1099511627776)]
   refine Eq.trans (congrArg (fun b => cond b _ none) hlen) ?_
   exact zAF n p hp m (k + 1) (acc ++ [1]) (by omega) (by omega) (by rw [h3,← List.replicate_succ'])
  ·have he : k = p := by omega
   subst he
   rw [ql,cond_false,h3]
theorem zDE (n p : Nat) (h0 : 1 ≤ p) (h1 : p < 7) (hn : 1000 < n) : Z6 n p = some ⟨[⟨1,((2 ^ p - 1 : Nat) : Int),((2 ^ p - 1 : Nat) : Int)⟩],List.replicate p 1⟩ := by
 obtain ⟨s1,s2,s3,s4,s5⟩ := zCI p h1
 have e := zAF n p (by omega) n 0 [] (by omega) (by omega) rfl
 have e : q4 n n p 0 ([] : List Int) = some (.inl (List.replicate p 1)) := e
 unfold Z6
 have hu : decide ((0 : Int) ≤ IntKind.wrap .u64 ((p : Nat) : Int)) = true := decide_eq_true (by rw [s1]; omega)
 simp only [zr,Option.bind_some,decide_eq_true (show (1 : Int) ≤ (p : Int) by omega),decide_eq_true (show (p : Int) ≤ 6 by omega),Bool.and_self,Bool.not_true,cond_false,hu,cond_true,e,Qj,s3]
theorem zIa : ∀ p < 7,1 ≤ p → zu 1048580 ⟨[⟨1,((2 ^ p - 1 : Nat) : Int),((2 ^ p - 1 : Nat) : Int)⟩],List.replicate p 1⟩ ((p : Nat) : Int) = some true := by decide +kernel
theorem zIZ (p : Nat) (h0 : 1 ≤ p) (h1 : p < 7) : ∃ v,Z6 1048580 p = some v ∧ VtG 1048580 p v := by
 obtain ⟨s1,s2,s3,s4,s5⟩ := zCI p h1
 have w : zm ((2 ^ p - 1 : Nat) : Int) := zp (by omega) (by omega)
 refine ⟨_,zDE 1048580 p h0 h1 (by omega),⟨⟨by show 1 ≤ maxLen; decide,fun v hv => ?_⟩,⟨by rw [List.length_replicate]; exact Nat.le_trans (Nat.le_of_lt h1) (by decide),fun v hv => ?_⟩,trivial⟩,List.length_replicate,by show 1 ≤ 6; decide,zIa p h1 h0,fun v hv => ?_⟩
 ·rw [List.mem_singleton.1 hv]; have w1 : zm 1 := zp (by decide) (by decide)
  exact ⟨w1,w,w,trivial⟩
 ·rw [(List.mem_replicate.1 hv).2]; exact zp (by decide) (by decide)
 ·rw [List.mem_singleton.1 hv]
  have h : (0 : Int) ≤ ((2 ^ p - 1 : Nat) : Int) ∧ ((2 ^ p - 1 : Nat) : Int) ≤ 63 := by omega
  exact h
theorem zAV (p : Nat) (h0 : 1 ≤ p) (h7 : p < 7) : ∀ (m k : Nat) (c : Src) (v : zD),k < m → k ≤ 1000 → c.ok → VtG 1048580 p v → ∃ (c' : Src) (v' : zD),qs 1048580 m p k c.b c.i c.h v.Rows v.Pv = some (.inl (c'.b,c'.i,c'.h,v'.Rows,v'.Pv)) ∧ c'.ok ∧ VtG 1048580 p v'
 | 0,k,c,v,h1,h2,h3,h4 => by omega
 | m + 1,k,c,v,h1,h2,h3,h4 => by
  rw [qs]
  by_cases hk : 0 < k
  ·obtain ⟨j,rfl⟩ : ∃ j,k = j + 1 := ⟨k - 1,by omega⟩
   have hw : IntKind.wrap .i64 (((j + 1 : Nat) : Int) - 1) = (j : Nat) := by rw [wrap64 (by omega) (by omega)]; omega
   have ih := fun c v h3 h4 => zAV p h0 h7 m j c v (by omega) (by omega) h3 h4
   obtain ⟨v1,c1,e1,a1,b1,g1⟩ := zO 1048580 c 4 h3
   obtain ⟨v2,c2,e2,a2,b2,g2⟩ := zO 1048580 c1 (p : Int) g1
   obtain ⟨v3,c3,e3,a3,b3,g3⟩ := zO 1048580 c2 3 g2
   obtain ⟨v4,c4,e4,a4,b4,g4⟩ := zO 1048580 c1 2 g1
   obtain ⟨v5,c5,e5,w5,p5,q5,g5⟩ := zDv 1048580 p h7 c1 g1
   have b3 := b3 (by decide)
   have b4 := b4 (by decide)
   obtain ⟨y2,d2,f2,k2⟩ := zDD 1048580 p (by omega) v h4 v2 (1 + v3) (zp (by omega) (by omega)) (by omega)
   obtain ⟨y4,d4,f4,k4⟩ := zDA 1048580 p (by omega) v h4 (2 + v4) (by omega)
   obtain ⟨y5,d5,f5,k5⟩ := zDo 1048580 p (by omega) v h4 v5 w5 ⟨p5,q5⟩ (by omega)
   have hpos : decide (((j + 1 : Nat) : Int) > 0) = true := decide_eq_true (by omega)
   simp only [hpos,cond_true,e1,Option.bind_some,e2,e3,e4,e5,hw,wrap64 (show -9223372036854775808 ≤ 1 + v3 by omega) (by omega),wrap64 (show -9223372036854775808 ≤ 2 + v4 by omega) (by omega),f2,f4,f5]
   cases (v1 == 0)
   ·cases (v1 == 1)
    ·exact ih c5 y5 g5 k5
    ·exact ih c4 y4 g4 k4
   ·exact ih c3 y2 g3 k2
  ·have : k = 0 := by omega
   subst this
   exact ⟨c,v,rfl,h3,h4⟩
theorem zDu (p : Nat) (h0 : 1 ≤ p) (h7 : p < 7) (c : Src) (h : c.ok) : ∃ v c',Yq 1048580 c p = some (v,c') ∧ VtG 1048580 p v ∧ c'.ok := by
 obtain ⟨v0,e0,g0⟩ := zIZ p h0 h7
 obtain ⟨v1,c1,e1,a1,b1,g1⟩ := zO 1048580 c 6 h
 have b1 := b1 (by decide)
 obtain ⟨k,rfl⟩ : ∃ k : Nat,v1 = k := ⟨v1.toNat,by omega⟩
 obtain ⟨c',v',e,g,g'⟩ := zAV p h0 h7 1048580 k c1 v0 (by omega) (by omega) g1 g0
 unfold Yq
 rw [e0,Option.bind_some,e1,Option.bind_some,e]
 exact ⟨v',c',rfl,g',g⟩
theorem Js {c : Bool} {x : Option Bool} (h : (bif c then x else some false) = some true) : c = true ∧ x = some true := by
 cases c with
 | true => exact ⟨rfl,h⟩
 | false => cases h
theorem zC9 {L : Nat → Int → Option (Unit ⊕ Bool)} {N : Nat} {P : Nat → Prop} (h0 : ∀ k,L 0 k = none) (hs : ∀ m (k : Nat) o,k < N → L (m + 1) (k : Int) = some o → o = .inr false ∨ (P k ∧ L m ((k + 1 : Nat) : Int) = some o)) (he : ∀ m o,L (m + 1) (N : Int) = some o → o = .inl ()) :
  ∀ (m k : Nat) o,k ≤ N → L m (k : Int) = some o → o = .inr false ∨ (o = .inl () ∧ ∀ j,k ≤ j → j < N → P j)
 | 0,k,o,_,h => by rw [h0] at h; cases h
 | m + 1,k,o,hk,h => by
  by_cases hlt : k < N
  ·rcases hs m k o hlt h with e | ⟨hp,h⟩
   ·exact .inl e
   ·rcases zC9 h0 hs he m (k + 1) o (by omega) h with e | ⟨e,h2⟩
    ·exact .inl e
    ·refine .inr ⟨e,fun j hj hj2 => ?_⟩
     by_cases hjk : j = k
     ·subst hjk; exact hp
     ·exact h2 j (by omega) hj2
  ·have : k = N := by omega
   subst this
   exact .inr ⟨he m o h,fun j hj hj2 => by omega⟩
theorem zBn (n : Nat) (x : zE) (hl : x.Ps.length ≤ 1048580) {o : Unit ⊕ Bool} (h : zc n n x 0 = some o) : o = .inr false ∨ (o = .inl () ∧ ∀ j (hj : j < x.Ps.length),z5 n x.Ps[j] = some true) := by
 rcases zC9 (L := fun m k => zc n m x k) (N := x.Ps.length) (P := fun j => ∀ hj : j < x.Ps.length,z5 n x.Ps[j] = some true) (fun k => rfl) (fun m k o hk h => by
  simp only [zc] at h
  rw [ZK hk,cond_true,zi hk,Option.bind_some,zz (by omega : k ≤ 1099511627776)] at h
  obtain ⟨b,hb⟩ := zBO n x.Ps[k]
  rw [hb,Option.bind_some] at h
  cases b with
  | true => exact .inr ⟨fun _ => hb,h⟩
  | false => cases h; exact .inl rfl) (fun m o h => by
  simp only [zc] at h
  rw [ql] at h; cases h; rfl) n 0 o (by omega) h with e | ⟨e,h2⟩
 ·exact .inl e
 ·exact .inr ⟨e,fun j hj => h2 j (by omega) hj hj⟩
theorem Jg (n : Nat) (x : zE) (hl : x.Ps.length ≤ 1048580) (h : qQ n x = some true) : 1 ≤ x.Ps.length ∧ x.Ps.length ≤ 6 ∧ 1 ≤ x.Id ∧ x.Id ≤ 99 ∧ x.Name.size ≤ 10 ∧ qg n x.F = some true ∧ zu n x.V (x.Ps.length : Int) = some true ∧
  (0 ≤ x.Tk ∧ x.Tk ≤ 1000000) ∧ (0 ≤ x.Pa ∧ x.Pa ≤ 1000000) ∧ (0 ≤ x.Wo ∧ x.Wo ≤ 1000000) ∧ (0 ≤ x.Dr ∧ x.Dr ≤ 1000000) ∧ (0 ≤ x.Ve ∧ x.Ve ≤ 1000000) ∧ ∀ j (hj : j < x.Ps.length),z5 n x.Ps[j] = some true := by
 unfold qQ at h
 obtain ⟨o,ho,h⟩ := bind_some h
 rcases zBn n x hl ho with rfl | ⟨rfl,hp⟩
 ·cases h
 ·simp only [ZF,Zy,zr,Option.bind_some] at h
  obtain ⟨h1,h⟩ := Js h
  obtain ⟨h2,h⟩ := Js h
  obtain ⟨h3,h⟩ := Js h
  obtain ⟨b4,h4,h⟩ := bind_some h
  obtain ⟨rfl,h⟩ := Js h
  obtain ⟨b5,h5,h⟩ := bind_some h
  obtain ⟨rfl,h⟩ := Js h
  obtain ⟨b6,h6,h⟩ := bind_some h
  cases h
  obtain ⟨h7,h6⟩ := Js h6
  obtain ⟨h8,h6⟩ := Js h6
  obtain ⟨h9,h6⟩ := Js h6
  obtain ⟨h10,h6⟩ := Js h6
  have h11 := Option.some.inj h6
  simp only [Bool.and_eq_true,decide_eq_true_eq] at h1 h2 h3 h7 h8 h9 h10 h11
  exact ⟨by omega,by omega,h1.1,h1.2,by omega,h4,h5,h7,h8,h9,h10,h11,hp⟩
theorem zA6 (n : Nat) (xs : List zB) (h : xs.length ≤ 1048580) (hok : qg n xs = some true) : xs.length ≤ 12 ∧ (∀ j (hj : j < xs.length),qP n xs[j] = some true) ∧ ∀ j (hj : j + 1 < xs.length),qe n xs[j] xs[j + 1].Tag xs[j + 1].Mac = some true := by
 unfold qg at hok
 obtain ⟨o,ho,hok⟩ := bind_some hok
 rcases zC9 (L := fun m k => zt n m xs k) (N := xs.length) (P := fun k => ∀ hk : k < xs.length,qP n xs[k] = some true ∧ ∀ j (e : k = j + 1),qe n (xs[j]'(by omega)) xs[k].Tag xs[k].Mac = some true) (fun k => rfl) (fun m k o hk h => by
  simp only [zt] at h
  rw [ZK hk,cond_true,zi hk,Option.bind_some,zz (by omega : k ≤ 1099511627776)] at h
  obtain ⟨b,hb⟩ := Jm n xs[k]
  rw [hb,Option.bind_some] at h
  cases b with
  | false => cases h; exact .inl rfl
  | true =>
   simp only [Bool.not_true,cond_false] at h
   cases k with
   | zero => exact .inr ⟨fun _ => ⟨hb,fun j e => by omega⟩,h⟩
   | succ k =>
    have hw2 : IntKind.wrap .i64 (((k + 1 : Nat) : Int) - 1) = (k : Int) := by rw [wrap64 (by omega) (by omega)]; omega
    have hpos : decide (((k + 1 : Nat) : Int) > 0) = true := decide_eq_true (by omega)
    rw [hpos,hw2,cond_true,zi (show k < xs.length by omega),Option.bind_some,Option.bind_some,Option.bind_some] at h
    obtain ⟨c,hc⟩ := zAT n (xs[k]'(by omega)) xs[k + 1].Tag xs[k + 1].Mac
    rw [hc,Option.bind_some] at h
    cases c with
    | false => cases h; exact .inl rfl
    | true => exact .inr ⟨fun _ => ⟨hb,fun j e => (show k = j by omega) ▸ hc⟩,h⟩) (fun m o h => by
  simp only [zt] at h
  rw [ql] at h; cases h; rfl) n 0 o (by omega) ho with rfl | ⟨rfl,hp⟩
 ·cases hok
 ·have h12 := of_decide_eq_true (Option.some.inj hok)
  exact ⟨by omega,fun j hj => (hp j (by omega) hj hj).1,fun j hj => (hp (j + 1) (by omega) hj hj).2 j rfl⟩
theorem Jl (n : Nat) (v : zB) (h : qP n v = some true) : (1 ≤ v.Tag ∧ v.Tag ≤ 99) ∧ (1 ≤ v.Mac ∧ v.Mac ≤ 9999) ∧ (0 ≤ v.Port ∧ v.Port ≤ 7) ∧ (0 ≤ v.Age ∧ v.Age ≤ 4) ∧ (v.Sc = true → v.Age = 0) := by
 unfold qP at h
 simp only [zr,Option.bind_some] at h
 obtain ⟨h1,h⟩ := Js h
 obtain ⟨h2,h⟩ := Js h
 obtain ⟨h3,h⟩ := Js h
 obtain ⟨h4,h⟩ := Js h
 simp only [Bool.and_eq_true,decide_eq_true_eq] at h1 h2 h3 h4
 refine ⟨h1,h2,h3,h4,fun hs => ?_⟩
 rw [hs] at h
 simpa using h
theorem zCg (n : Nat) (xs : List Int) (h : xs.length ≤ 268435456) : Qr n xs = some xs := by
 unfold Qr
 rw [decide_eq_true (by simp; omega)]; rfl
theorem zBX {α : Type} {L : Nat → Int → Option (α ⊕ Bool)} {N : Nat} {P : Nat → Prop} (hs : ∀ m (k : Nat),k < N → (P k ∧ L (m + 1) (k : Int) = L m ((k + 1 : Nat) : Int)) ∨ (¬ P k ∧ L (m + 1) (k : Int) = some (.inr false))) (he : ∀ m,∃ a,L (m + 1) (N : Int) = some (.inl a)) :
  ∀ (m k : Nat),k ≤ N → N < m + k → (∃ a,L m (k : Int) = some (.inl a) ∧ ∀ j,k ≤ j → j < N → P j) ∨ (L m (k : Int) = some (.inr false) ∧ ¬ ∀ j,k ≤ j → j < N → P j)
 | 0,k,h1,h2 => by omega
 | m + 1,k,h1,h2 => by
  by_cases hk : k < N
  ·rcases hs m k hk with ⟨hp,e⟩ | ⟨hp,e⟩
   ·rcases zBX hs he m (k + 1) (by omega) (by omega) with ⟨a,h3,h4⟩ | ⟨h3,h4⟩
    ·refine .inl ⟨a,e.trans h3,fun j hj hj2 => ?_⟩
     by_cases hjk : j = k
     ·subst hjk; exact hp
     ·exact h4 j (by omega) hj2
    ·exact .inr ⟨e.trans h3,fun h => h4 fun j hj hj2 => h j (by omega) hj2⟩
   ·exact .inr ⟨e,fun h => hp (h k (Nat.le_refl _) hk)⟩
  ·have : k = N := by omega
   subst this
   obtain ⟨a,ha⟩ := he m
   exact .inl ⟨a,ha,fun j hj hj2 => by omega⟩
def zC.sz (x : zC) : Nat := x.O.length + x.V.S.size + x.V.O.length
def Zr (o : List Int) (z : Int) : zC := ⟨[1,3,1] ++ o,⟨2,z,(⟨#[]⟩ : ByteArray),[]⟩⟩
theorem qG (n : Nat) (acc : List zC) (o : List Int) (z : Int) (h : o.length ≤ 100) (ha : acc.length ≤ 100000) : qn n acc o z = some (acc ++ [Zr o z]) := by
 unfold qn zx J4
 rw [decide_eq_true (by simp; omega),cond_true,Option.bind_some,Option.bind_some,decide_eq_true (by simp; omega)]
 rfl
theorem YQ (n : Nat) (v : Val) (o : List Int) (h : o.length ≤ 100) : ZP n v o = some ⟨[1,3,1] ++ o,v⟩ := by
 unfold ZP
 rw [decide_eq_true (by simp; omega)]
 rfl
theorem zB6 (n : Nat) : Qc n = Z7 n := by
 funext x c p
 unfold Qc Z7 zA0
 rw [zDX]
 congr 1
 congr 1
 funext v
 cases v.Up <;> rfl
theorem zAE (n : Nat) (x : zE) (c : Int) (hp : x.Ps.length ≤ 6) (hq : x.V.Pv.length = x.Ps.length) (hn : 1000 < n) : ∀ (m k : Nat) (acc : List zC),k ≤ x.Ps.length → x.Ps.length < m + k → acc.length + (x.Ps.length - k) ≤ 90000 → ∃ (zs : List zC),qm n m x c k acc = some (.inl zs) ∧ qk n m x c k acc = some (.inl zs) ∧ zs.length = acc.length + (x.Ps.length - k) ∧ ∀ v ∈ zs,v ∈ acc ∨ ∃ a b z,v = Zr [2,a,b] z
 | 0,k,acc,h1,h2,h3 => by omega
 | m + 1,k,acc,h1,h2,h3 => by
  rw [qm,qk]
  by_cases hk : k < x.Ps.length
  ·have ht : ∃ z,Z7 n x c k = some z := by
    unfold Z7
    obtain ⟨r,hr,_⟩ := zDp n x.Id x.Ps k (by omega) (by omega)
    rw [zi hk,hr,zi (show k < x.V.Pv.length by omega)]
    simp only [Option.bind_some]
    exact Tot.bif (fun _ => Tot.bif (fun _ => .of) (fun _ => .of)) fun _ => Tot.bif (fun _ => .of) fun _ => Tot.bif (fun _ => .of) fun _ => .of
   obtain ⟨z,hz⟩ := ht
   rw [ZK hk,cond_true,cond_true,zB6,hz,Option.bind_some,Option.bind_some,zz (by omega : k ≤ 1099511627776),qG n acc _ z (by simp) (by omega)]
   unfold q8
   simp only [Option.bind_some,YQ n _ [2,c,((k + 1 : Nat) : Int)] (by simp)]
   rw [decide_eq_true (by simp; omega),cond_true]
   obtain ⟨zs,e1,e2,e3,e4⟩ := zAE n x c hp hq hn m (k + 1) (acc ++ [Zr [2,c,((k + 1 : Nat) : Int)] z]) (by omega) (by omega) (by simp; omega)
   refine ⟨zs,e1,e2,by rw [e3]; simp; omega,fun v hv => ?_⟩
   rcases e4 v hv with h | h
   ·rcases List.mem_append.1 h with h | h
    ·exact .inl h
    ·exact .inr ⟨_,_,_,List.mem_singleton.1 h⟩
   ·exact .inr h
  ·have he : k = x.Ps.length := by omega
   subst he
   rw [ql]
   exact ⟨acc,rfl,rfl,by simp,fun v hv => .inl hv⟩
theorem zAQ (n : Nat) (x : zE) (c : Int) (hc : c = 1 ∨ c = 2 ∨ c = 3) (hp : x.V.Rows.length ≤ 6) : ∀ (m k : Nat) (acc : List zC),k ≤ x.V.Rows.length → x.V.Rows.length < m + k → acc.length + (x.V.Rows.length - k) ≤ 90000 → ∃ (zs : List zC),q3 n m x c k acc = some (.inl zs) ∧ qz n m x c k acc = some (.inl zs) ∧ zs.length = acc.length + (x.V.Rows.length - k) ∧ ∀ v ∈ zs,v ∈ acc ∨ ∃ a b z,v = Zr [3,a,b] z
 | 0,k,acc,h1,h2,h3 => by omega
 | m + 1,k,acc,h1,h2,h3 => by
  rw [q3,qz]
  by_cases hk : k < x.V.Rows.length
  ·have ht : ∃ z,Ji n x.V.Rows[k] c = some z ∧ idx [1,x.V.Rows[k].Members,x.V.Rows[k].Bare] (IntKind.wrap .i64 (c - 1)) = some z := by
    rcases hc with rfl | rfl | rfl <;> exact ⟨_,rfl,rfl⟩
   obtain ⟨z,hz,hz'⟩ := ht
   rw [ZK hk,cond_true,cond_true,zi hk]
   unfold q8
   simp only [Option.bind_some,hz,hz',zz (by omega : k ≤ 1099511627776),qG n acc [3,c,x.V.Rows[k].Id] z (by simp) (by omega),YQ n _ [3,c,x.V.Rows[k].Id] (by simp)]
   rw [decide_eq_true (by simp; omega),cond_true]
   obtain ⟨zs,e1,e2,e3,e4⟩ := zAQ n x c hc hp m (k + 1) (acc ++ [Zr [3,c,x.V.Rows[k].Id] z]) (by omega) (by omega) (by simp; omega)
   refine ⟨zs,e1,e2,by rw [e3]; simp; omega,fun v hv => ?_⟩
   rcases e4 v hv with h | h
   ·rcases List.mem_append.1 h with h | h
    ·exact .inl h
    ·exact .inr ⟨_,_,_,List.mem_singleton.1 h⟩
   ·exact .inr h
  ·have he : k = x.V.Rows.length := by omega
   subst he
   rw [ql]
   exact ⟨acc,rfl,rfl,by simp,fun v hv => .inl hv⟩
theorem Y3 (n : Nat) (x : zE) (hp : x.F.length ≤ 12) (hpo : ∀ v ∈ x.F,0 ≤ v.Port ∧ v.Port ≤ 7) : ∀ (m k : Nat) (acc : List zC),k ≤ x.F.length → x.F.length < m + k → acc.length + (x.F.length - k) ≤ 90000 → ∃ (zs : List zC),qj n m x k acc = some (.inl zs) ∧ qy n m x k acc = some (.inl zs) ∧ zs.length = acc.length + (x.F.length - k) ∧ ∀ v ∈ zs,v ∈ acc ∨ ∃ a b z,v = Zr [4,1,a,b] z
 | 0,k,acc,h1,h2,h3 => by omega
 | m + 1,k,acc,h1,h2,h3 => by
  rw [qj,qy]
  by_cases hk : k < x.F.length
  ·rw [ZK hk,cond_true,cond_true,zi hk]
   unfold q8
   simp only [Option.bind_some,zz (by omega : k ≤ 1099511627776),qG n acc [4,1,x.F[k].Tag,x.F[k].Mac] _ (by simp) (by omega),YQ n _ [4,1,x.F[k].Tag,x.F[k].Mac] (by simp)]
   rw [decide_eq_true (by simp; omega),cond_true]
   obtain ⟨zs,e1,e2,e3,e4⟩ := Y3 n x hp hpo m (k + 1) (acc ++ [Zr [4,1,x.F[k].Tag,x.F[k].Mac] (IntKind.wrap .i64 (x.F[k].Port + 1))]) (by omega) (by omega) (by simp; omega)
   refine ⟨zs,e1,e2,by rw [e3]; simp; omega,fun v hv => ?_⟩
   rcases e4 v hv with h | h
   ·rcases List.mem_append.1 h with h | h
    ·exact .inl h
    ·exact .inr ⟨_,_,_,List.mem_singleton.1 h⟩
   ·exact .inr h
  ·have he : k = x.F.length := by omega
   subst he
   rw [ql]
   exact ⟨acc,rfl,rfl,by simp,fun v hv => .inl hv⟩
def zE4 (x : zE) (v : zC) : Prop := v = ⟨[1,3,1] ++ [1,1],⟨4,0,x.Name,[]⟩⟩ ∨ ∃ o z,v = Zr o z ∧ o.length ≤ 4
theorem Yl (n : Nat) (x : zE) (hp : x.Ps.length ≤ 6) (hq : x.V.Pv.length = x.Ps.length) (hn : 1000 < n) : ∀ (m d : Nat) (acc : List zC),d ≤ 4 → d < m → acc.length + 6 * d ≤ 80000 → (∀ v ∈ acc,zE4 x v) → ∃ zs : List zC,qM n m x ((5 : Int) - d) acc = some (.inl zs) ∧ qT n m x ((5 : Int) - d) acc = some (.inl zs) ∧ (acc.length ≤ zs.length ∧ zs.length ≤ acc.length + 6 * d) ∧ ∀ v ∈ zs,zE4 x v
 | 0,d,acc,h0,h1,h2,h3 => by omega
 | m + 1,d,acc,h0,h1,h2,h3 => by
  rw [qM,qT]
  cases d with
  | zero => exact ⟨acc,rfl,rfl,by simp,h3⟩
  | succ d =>
   rw [decide_eq_true (by omega),cond_true,cond_true]
   obtain ⟨zs,e1,e2,e3,e4⟩ := zAE n x ((5 : Int) - ((d + 1 : Nat) : Int)) hp hq hn n 0 acc (by omega) (by omega) (by omega)
   rw [show qm n n x _ 0 acc = _ from e1,show qk n n x _ 0 acc = _ from e2]
   simp only [Option.bind_some,Qh,QM]
   have hw : IntKind.wrap .i64 ((5 : Int) - ((d + 1 : Nat) : Int) + 1) = (5 : Int) - (d : Int) := by rw [wrap64 (by omega) (by omega)]; omega
   rw [hw]
   obtain ⟨us,f1,f2,f3,f4⟩ := Yl n x hp hq hn m d zs (by omega) (by omega) (by omega) (fun v hv => by
    rcases e4 v hv with h | ⟨a,b,z,h⟩
    ·exact h3 v h
    ·exact .inr ⟨_,_,h,by simp⟩)
   exact ⟨us,f1,f2,by omega,f4⟩
theorem Yk (n : Nat) (x : zE) (hp : x.V.Rows.length ≤ 6) (hn : 1000 < n) : ∀ (m d : Nat) (acc : List zC),d ≤ 3 → d < m → acc.length + 6 * d ≤ 80000 → (∀ v ∈ acc,zE4 x v) → ∃ zs : List zC,qL n m x ((4 : Int) - d) acc = some (.inl zs) ∧ qS n m x ((4 : Int) - d) acc = some (.inl zs) ∧ (acc.length ≤ zs.length ∧ zs.length ≤ acc.length + 6 * d) ∧ ∀ v ∈ zs,zE4 x v
 | 0,d,acc,h0,h1,h2,h3 => by omega
 | m + 1,d,acc,h0,h1,h2,h3 => by
  rw [qL,qS]
  cases d with
  | zero => exact ⟨acc,rfl,rfl,by simp,h3⟩
  | succ d =>
   rw [decide_eq_true (by omega),cond_true,cond_true]
   obtain ⟨zs,e1,e2,e3,e4⟩ := zAQ n x ((4 : Int) - ((d + 1 : Nat) : Int)) (by omega) hp n 0 acc (by omega) (by omega) (by omega)
   rw [show q3 n n x _ 0 acc = _ from e1,show qz n n x _ 0 acc = _ from e2]
   simp only [Option.bind_some,Qg,Qa]
   have hw : IntKind.wrap .i64 ((4 : Int) - ((d + 1 : Nat) : Int) + 1) = (4 : Int) - (d : Int) := by rw [wrap64 (by omega) (by omega)]; omega
   rw [hw]
   obtain ⟨us,f1,f2,f3,f4⟩ := Yk n x hp hn m d zs (by omega) (by omega) (by omega) (fun v hv => by
    rcases e4 v hv with h | ⟨a,b,z,h⟩
    ·exact h3 v h
    ·exact .inr ⟨_,_,h,by simp⟩)
   exact ⟨us,f1,f2,by omega,f4⟩
theorem zBc (n m : Nat) (x : zE) (v : zC) : z6 n (m + 5) x 0 [v] = some (.inl [v,Zr [1,2] x.Tk,Zr [1,3] x.Pa,Zr [1,4] x.Wo,Zr [1,5] x.Dr]) := by
 unfold z6 z6 z6 z6 z6
 rfl
theorem zAD (n : Nat) (x : zE) (wx : x.wf) (hx : x.sz ≤ 1048576) (hn : 1048577 < n) : ∃ zs : List zC,Z5 n x = some zs ∧ QS n x = some zs ∧ zs.length ≤ 60 ∧ ∀ v ∈ zs,v.O.length ≤ 7 ∧ v.V.O = [] ∧ v.V.S.size ≤ 10 := by
 have hs : x.Name.size + x.Ps.length + x.F.length + x.V.sz = x.sz := rfl
 have hs2 : x.V.Rows.length + x.V.Pv.length = x.V.sz := rfl
 obtain ⟨b,h1,h2⟩ := zBt n x wx (by omega) (by omega)
 unfold Z5 QS
 rw [h1,h2,Option.bind_some,Option.bind_some]
 cases b with
 | false => exact ⟨[],rfl,rfl,by simp,fun v hv => by simp at hv⟩
 | true =>
  obtain ⟨p1,p2,p3,p4,p5,p6,p7,p8,p9,p10,p11,p12,p13⟩ := Jg n x (by omega) h1
  obtain ⟨f1,f2,f3⟩ := zA6 n x.F (by omega) p6
  obtain ⟨v1,v2⟩ := JT n x.V _ p7
  have hN : zx n [1,1] = some ([1,3,1] ++ [1,1]) := by unfold zx; rfl
  obtain ⟨m,hm⟩ : ∃ m,n = m + 5 := ⟨n - 5,by omega⟩
  have h12 : z6 n n x 0 [⟨[1,3,1] ++ [1,1],⟨4,0,x.Name,[]⟩⟩] = some (.inl [⟨[1,3,1] ++ [1,1],⟨4,0,x.Name,[]⟩⟩,Zr [1,2] x.Tk,Zr [1,3] x.Pa,Zr [1,4] x.Wo,Zr [1,5] x.Dr]) := by
   have := zBc n m x ⟨[1,3,1] ++ [1,1],⟨4,0,x.Name,[]⟩⟩
   rw [← hm] at this
   exact this
  simp only [Bool.not_true,cond_false,hN,Option.bind_some,YQ n _ [1,1] (by simp),h12]
  rw [qG n _ [1,2] _ (by simp) (by simp),Option.bind_some,qG n _ [1,3] _ (by simp) (by simp),Option.bind_some,qG n _ [1,4] _ (by simp) (by simp),Option.bind_some,qG n _ [1,5] _ (by simp) (by simp),Option.bind_some]
  simp only [List.cons_append,List.nil_append]
  obtain ⟨z1,a1,a2,a3,a4⟩ := Yl n x p2 (by omega) (by omega) n 4 [⟨[1,3,1,1,1],⟨4,0,x.Name,[]⟩⟩,Zr [1,2] x.Tk,Zr [1,3] x.Pa,Zr [1,4] x.Wo,Zr [1,5] x.Dr] (by omega) (by omega) (by simp) (fun v hv => by
   simp only [List.mem_cons,List.not_mem_nil,or_false] at hv
   rcases hv with rfl | rfl | rfl | rfl | rfl
   ·exact .inl rfl
   all_goals exact .inr ⟨_,_,rfl,by simp⟩)
  rw [show qM n n x 1 _ = _ from a1,QX,show qT n n x 1 _ = _ from a2]
  simp only [Option.bind_some]
  simp only [List.length_cons,List.length_nil] at a3
  obtain ⟨z2,b1,b2,b3,b4⟩ := Yk n x v1 (by omega) n 3 z1 (by omega) (by omega) (by omega) a4
  rw [Zw,QY,show qL n n x 1 z1 = _ from b1,show qS n n x 1 z1 = _ from b2]
  simp only [Option.bind_some]
  obtain ⟨z3,c1,c2,c3,c4⟩ := Y3 n x f1 (fun v hv => by
   obtain ⟨j,hj,rfl⟩ := List.getElem_of_mem hv
   exact (Jl n _ (f2 j hj)).2.2.1) n 0 z2 (by omega) (by omega) (by omega)
  rw [Zx,QZ,show qj n n x 0 z2 = _ from c1,show qy n n x 0 z2 = _ from c2]
  refine ⟨z3,rfl,rfl,by omega,fun v hv => ?_⟩
  have hb : zE4 x v := by
   rcases c4 v hv with h | ⟨a,b,z,h⟩
   ·exact b4 v h
   ·exact .inr ⟨_,_,h,by simp⟩
  rcases hb with rfl | ⟨o,z,rfl,ho⟩
  ·exact ⟨by simp,rfl,by simpa using p5⟩
  ·refine ⟨by simp [Zr]; omega,rfl,by simp only [Zr]; decide⟩
def zAX {α : Type} (xs : List α) (k : Nat) (ys : List (Option α)) : Prop := ys.length = xs.length ∧ ∀ j,k ≤ j → ys[j]? = (xs[j]?).map some
theorem zAX.start {α : Type} (xs : List α) : zAX xs 0 (xs.map some) := ⟨by simp,fun j _ => by simp⟩
theorem zAX.get {α : Type} {xs : List α} {k : Nat} {ys : List (Option α)} (h : zAX xs k ys) (hk : k < xs.length) : zD8 ys (k : Int) = some xs[k] := by
 have h1 := h.2 k (Nat.le_refl _)
 rw [List.getElem?_eq_getElem hk] at h1
 unfold zD8
 rw [zIW h1]
 rfl
theorem zAX.next {α : Type} {xs : List α} {k : Nat} {ys : List (Option α)} (h : zAX xs k ys) : zAX xs (k + 1) (ys.set ((k : Int)).toNat none) := by
 refine ⟨by simp [h.1],fun j hj => ?_⟩
 rw [Int.toNat_natCast,List.getElem?_set_ne (by omega)]
 exact h.2 j (by omega)
theorem zES (n : Nat) (v : Vec) (h : qX n v = some true) : v.wf := by
 unfold qX at h
 simp only [zr,Option.bind_some] at h
 cases h1 : (decide (1 ≤ v.Root) && decide (v.Root ≤ 99)) with
 | false => rw [h1] at h; cases h
 | true =>
  cases h2 : (decide (0 ≤ v.Co) && decide (v.Co ≤ 100000)) with
  | false => rw [h1,h2] at h; cases h
  | true =>
   cases h3 : (decide (0 ≤ v.Hops) && decide (v.Hops ≤ 10)) with
   | false => rw [h1,h2,h3] at h; cases h
   | true =>
    cases h4 : (decide (1 ≤ v.Bridge) && decide (v.Bridge ≤ 99)) with
    | false => rw [h1,h2,h3,h4] at h; cases h
    | true =>
     rw [h1,h2,h3,h4] at h
     simp only [cond_true,Option.some.injEq,Bool.and_eq_true,decide_eq_true_eq] at h h1 h2 h3 h4
     exact ⟨zp (by omega) (by omega),zp (by omega) (by omega),zp (by omega) (by omega),zp (by omega) (by omega),zp (by omega) (by omega),trivial⟩
theorem zCh (n : Nat) (x : zE) (hn : x.Ps.length < n) (h1 : 1 ≤ x.Ps.length) (h2 : x.Ps.length ≤ 6) (h3 : 1 ≤ x.Id) (h4 : x.Id ≤ 99) (h5 : x.Name.size ≤ 10) (h6 : qg n x.F = some true) (h7 : zu n x.V (x.Ps.length : Int) = some true) (h8 : 0 ≤ x.Tk ∧ x.Tk ≤ 1000000) (h9 : 0 ≤ x.Pa ∧ x.Pa ≤ 1000000) (h10 : 0 ≤ x.Wo ∧ x.Wo ≤ 1000000) (h11 : 0 ≤ x.Dr ∧ x.Dr ≤ 1000000) (h12 : 0 ≤ x.Ve ∧ x.Ve ≤ 1000000) (h13 : ∀ j (hj : j < x.Ps.length),z5 n x.Ps[j] = some true) : qQ n x = some true := by
 have two : ∀ {a b c : Int},a ≤ b → b ≤ c → (decide (a ≤ b) && decide (b ≤ c)) = true := fun h h' => by rw [decide_eq_true h,decide_eq_true h']; rfl
 unfold qQ
 rcases zBX (L := fun m k => zc n m x k) (N := x.Ps.length) (P := fun k => ∀ hk : k < x.Ps.length,z5 n x.Ps[k] = some true) (fun m k hk => by
  simp only [zc]
  rw [ZK hk,cond_true,zi hk,Option.bind_some,h13 k hk,Option.bind_some,zz (by omega : k ≤ 1099511627776)]
  exact .inl ⟨fun _ => h13 k hk,rfl⟩) (fun m => ⟨(),by simp only [zc]; rw [ql]; rfl⟩) n 0 (by omega) (by omega) with ⟨a,e,_⟩ | ⟨_,p⟩
 ·rw [show zc n n x 0 = _ from e]
  simp only [Option.bind_some,ZF,Zy,zr,two h3 h4,two h8.1 h8.2,two h9.1 h9.2,two h10.1 h10.2,two h11.1 h11.2,two h12.1 h12.2,two (show (1 : Int) ≤ (x.Ps.length : Int) by omega) (show (x.Ps.length : Int) ≤ 6 by omega),decide_eq_true (show (x.Name.size : Int) ≤ 10 by omega),h6,h7,cond_true]
 ·exact absurd (fun j _ _ hj => h13 j hj) p
theorem zBe (n : Nat) (xs : List zB) (t a : Int) (h : xs.length ≤ 1048580) : ∀ (m k : Nat),k ≤ xs.length → xs.length < m + k → (qo n m xs t a k = some (.inl ()) ∧ ∀ j,k ≤ j → ∀ hj : j < xs.length,¬ (xs[j].Tag = t ∧ xs[j].Mac = a)) ∨ ∃ j,k ≤ j ∧ ∃ hj : j < xs.length,qo n m xs t a k = some (.inr (j : Int)) ∧ xs[j].Tag = t ∧ xs[j].Mac = a
 | 0,k,h1,h2 => by omega
 | m + 1,k,h1,h2 => by
  rw [qo]
  by_cases hk : k < xs.length
  ·rw [ZK hk,cond_true,zi hk,Option.bind_some,Option.bind_some,zz (by omega : k ≤ 1099511627776)]
   by_cases ht : xs[k].Tag = t
   ·rw [show (xs[k].Tag == t) = true from by simpa using ht,cond_true]
    by_cases ha : xs[k].Mac = a
    ·rw [show (xs[k].Mac == a) = true from by simpa using ha,cond_true]
     exact .inr ⟨k,Nat.le_refl _,hk,rfl,ht,ha⟩
    ·rw [show (xs[k].Mac == a) = false from by simpa using ha,cond_false]
     rcases zBe n xs t a h m (k + 1) (by omega) (by omega) with ⟨e,p⟩ | ⟨j,hj,hj2,e,p⟩
     ·refine .inl ⟨e,fun j hj hj2 => ?_⟩
      by_cases hjk : j = k
      ·subst hjk; exact fun hc => ha hc.2
      ·exact p j (by omega) hj2
     ·exact .inr ⟨j,by omega,hj2,e,p⟩
   ·rw [show (xs[k].Tag == t) = false from by simpa using ht,cond_false]
    rcases zBe n xs t a h m (k + 1) (by omega) (by omega) with ⟨e,p⟩ | ⟨j,hj,hj2,e,p⟩
    ·refine .inl ⟨e,fun j hj hj2 => ?_⟩
     by_cases hjk : j = k
     ·subst hjk; exact fun hc => ht hc.1
     ·exact p j (by omega) hj2
    ·exact .inr ⟨j,by omega,hj2,e,p⟩
  ·obtain rfl : k = xs.length := by omega
   rw [ql]
   exact .inl ⟨rfl,fun j hj hj2 => by omega⟩
theorem zBr (n : Nat) (xs : List zB) (t a : Int) (h : xs.length ≤ 1048580) (hn : xs.length < n) : (Q5 n xs t a = some (-1) ∧ ∀ j (hj : j < xs.length),¬ (xs[j].Tag = t ∧ xs[j].Mac = a)) ∨ ∃ j,∃ hj : j < xs.length,Q5 n xs t a = some (j : Int) ∧ xs[j].Tag = t ∧ xs[j].Mac = a := by
 unfold Q5
 rcases zBe n xs t a h n 0 (by omega) (by omega) with ⟨e,p⟩ | ⟨j,_,hj,e,p⟩
 ·rw [show qo n n xs t a 0 = _ from e]
  exact .inl ⟨rfl,fun j hj => p j (by omega) hj⟩
 ·rw [show qo n n xs t a 0 = _ from e]
  exact .inr ⟨j,hj,rfl,p⟩
def q7 (v : zB) (t a : Int) : Prop := v.Tag < t ∨ v.Tag = t ∧ v.Mac < a
instance (v : zB) (t a : Int) : Decidable (q7 v t a) := inferInstanceAs (Decidable (_ ∨ _))
def YK (e : zB) : List zB → List zB
 | [] => [e]
 | v :: vs => if q7 v e.Tag e.Mac then v :: YK e vs else if v.Tag = e.Tag ∧ v.Mac = e.Mac then e :: vs else e :: v :: vs
theorem zFM (e : zB) : ∀ xs : List zB,(YK e xs).length ≤ xs.length + 1
 | [] => Nat.le_refl _
 | v :: vs => by
  unfold YK
  have := zFM e vs
  split
  ·simp only [List.length_cons]; omega
  ·split <;> simp only [List.length_cons] <;> omega
theorem zC4 (e : zB) : ∀ (xs : List zB) (v : zB),v ∈ YK e xs → v = e ∨ v ∈ xs
 | [],v,h => by simp [YK] at h; exact .inl h
 | u :: us,v,h => by
  unfold YK at h
  split at h
  ·rcases List.mem_cons.1 h with rfl | h
   ·exact .inr (by simp)
   ·rcases zC4 e us v h with h | h
    ·exact .inl h
    ·exact .inr (by simp [h])
  ·split at h
   ·rcases List.mem_cons.1 h with rfl | h
    ·exact .inl rfl
    ·exact .inr (by simp [h])
   ·rcases List.mem_cons.1 h with rfl | h
    ·exact .inl rfl
    ·exact .inr h
theorem zAU (n : Nat) (v : zB) (t a : Int) : qe n v t a = some (decide (q7 v t a)) := by
 unfold qe
 by_cases h : v.Tag = t
 ·rw [show (v.Tag != t) = false from by simpa using h,cond_false]
  congr 1
  rw [decide_eq_decide]
  unfold q7
  constructor
  ·intro h2; exact .inr ⟨h,h2⟩
  ·rintro (h2 | h2)
   ·omega
   ·exact h2.2
 ·rw [show (v.Tag != t) = true from by simpa using h,cond_true]
  congr 1
  rw [decide_eq_decide]
  unfold q7
  constructor
  ·intro h2; exact .inl h2
  ·rintro (h2 | h2)
   ·exact h2
   ·exact absurd h2.1 h
theorem JU (n : Nat) (xs : List zB) (e : zB) (h : xs.length ≤ 1048580) : ∀ (m k : Nat) (acc : List zB),k ≤ xs.length → xs.length < m + k → acc.length ≤ k + 1 → (∀ j,k ≤ j → ∀ hj : j < xs.length,¬ (xs[j].Tag = e.Tag ∧ xs[j].Mac = e.Mac)) → qD n m xs e k true acc = some (.inl (true,acc ++ xs.drop k))
 | 0,k,acc,h1,h2,h3,hne => by omega
 | m + 1,k,acc,h1,h2,h3,hne => by
  rw [qD]
  by_cases hk : k < xs.length
  ·have hg : ∀ v : zB,decide (acc.length + [v].length ≤ 268435456) = true := fun v => decide_eq_true (by simp; omega)
   have ih := JU n xs e h m (k + 1) (acc ++ [xs[k]]) (by omega) (by omega) (by simp; omega) (fun j hj => hne j (by omega))
   rw [ZK hk,cond_true,Bool.not_true,cond_false]
   simp only [ZC,zi hk,Option.bind_some,hg,cond_true,zz (by omega : k ≤ 1099511627776)]
   have hd : acc ++ [xs[k]] ++ xs.drop (k + 1) = acc ++ xs.drop k := by rw [List.append_assoc,List.drop_eq_getElem_cons hk]; rfl
   rw [hd] at ih
   by_cases ht : xs[k].Tag = e.Tag
   ·have hm : xs[k].Mac ≠ e.Mac := fun hm => hne k (Nat.le_refl _) hk ⟨ht,hm⟩
    rw [show (xs[k].Tag != e.Tag) = false from by simpa using ht,cond_false,show (xs[k].Mac != e.Mac) = true from by simpa using hm,cond_true]
    exact ih
   ·rw [show (xs[k].Tag != e.Tag) = true from by simpa using ht,cond_true]
    exact ih
  ·obtain rfl : k = xs.length := by omega
   rw [ql,cond_false,List.drop_length,List.append_nil]
theorem zAs (n : Nat) (xs : List zB) (e : zB) (h : xs.length ≤ 1048580) (hs : ∀ (j i : Nat) (hij : i < j) (hj : j < xs.length),q7 (xs[i]'(by omega)) xs[j].Tag xs[j].Mac) : ∀ (m k : Nat) (acc : List zB),k ≤ xs.length → xs.length < m + k → acc.length ≤ k → ∃ b zs,qD n m xs e k false acc = some (.inl (b,zs)) ∧ zs.length ≤ xs.length + 1 ∧ (bif !b then zs ++ [e] else zs) = acc ++ YK e (xs.drop k)
 | 0,k,acc,h1,h2,h3 => by omega
 | m + 1,k,acc,h1,h2,h3 => by
  rw [qD]
  by_cases hk : k < xs.length
  ·have hg : ∀ (zs : List zB) (v : zB),zs.length ≤ k + 1 → decide (zs.length + [v].length ≤ 268435456) = true := fun zs v hz => decide_eq_true (by simp; omega)
   rw [ZK hk,cond_true,Bool.not_false,cond_true,zi hk,Option.bind_some,zAU,Option.bind_some]
   rw [List.drop_eq_getElem_cons hk]
   by_cases ha : q7 xs[k] e.Tag e.Mac
   ·obtain ⟨b,zs,e1,e2,e3⟩ := zAs n xs e h hs m (k + 1) (acc ++ [xs[k]]) (by omega) (by omega) (by simp; omega)
    refine ⟨b,zs,?_,e2,?_⟩
    ·rw [decide_eq_true ha]
     simp only [Bool.not_true,cond_false,ZC,zi hk,Option.bind_some,hg acc _ (by omega),cond_true,zz (by omega : k ≤ 1099511627776)]
     by_cases ht : xs[k].Tag = e.Tag
     ·have hm : xs[k].Mac ≠ e.Mac := fun hm => by unfold q7 at ha; omega
      rw [show (xs[k].Tag != e.Tag) = false from by simpa using ht,cond_false,show (xs[k].Mac != e.Mac) = true from by simpa using hm,cond_true]
      exact e1
     ·rw [show (xs[k].Tag != e.Tag) = true from by simpa using ht,cond_true]
      exact e1
    ·rw [e3,YK,if_pos ha,List.append_assoc]; rfl
   ·rw [decide_eq_false ha,YK,if_neg ha]
    have rest : ∀ j,k + 1 ≤ j → ∀ hj : j < xs.length,¬ (xs[j].Tag = e.Tag ∧ xs[j].Mac = e.Mac) := fun j hj hj2 hc => by
     have := hs j k (by omega) hj2
     rw [hc.1,hc.2] at this
     exact ha this
    simp only [Bool.not_false,cond_true,hg acc _ (by omega),ZC,zi hk,Option.bind_some,hg (acc ++ [e]) _ (by simp; omega),zz (by omega : k ≤ 1099511627776)]
    by_cases hkey : xs[k].Tag = e.Tag ∧ xs[k].Mac = e.Mac
    ·rw [show (xs[k].Tag != e.Tag) = false from by simpa using hkey.1,cond_false,show (xs[k].Mac != e.Mac) = false from by simpa using hkey.2,cond_false]
     refine ⟨true,_,JU n xs e h m (k + 1) (acc ++ [e]) (by omega) (by omega) (by simp; omega) rest,by simp; omega,?_⟩
     rw [if_pos hkey,Bool.not_true,cond_false,List.append_assoc]; rfl
    ·have e1 := JU n xs e h m (k + 1) (acc ++ [e] ++ [xs[k]]) (by omega) (by omega) (by simp; omega) rest
     refine ⟨true,acc ++ [e] ++ [xs[k]] ++ xs.drop (k + 1),?_,by simp; omega,?_⟩
     ·by_cases ht : xs[k].Tag = e.Tag
      ·have hm : xs[k].Mac ≠ e.Mac := fun hm => hkey ⟨ht,hm⟩
       rw [show (xs[k].Tag != e.Tag) = false from by simpa using ht,cond_false,show (xs[k].Mac != e.Mac) = true from by simpa using hm,cond_true]
       exact e1
      ·rw [show (xs[k].Tag != e.Tag) = true from by simpa using ht,cond_true]
       exact e1
     ·rw [if_neg hkey,Bool.not_true,cond_false]
      simp
  ·obtain rfl : k = xs.length := by omega
   rw [ql]
   refine ⟨false,acc,rfl,by omega,?_⟩
   rw [List.drop_length]
   rfl
theorem zA9 (n : Nat) (xs : List zB) (e : zB) (h : xs.length ≤ 1048580) (hn : xs.length < n) (hs : ∀ (j i : Nat) (hij : i < j) (hj : j < xs.length),q7 (xs[i]'(by omega)) xs[j].Tag xs[j].Mac) : ZQ n xs e = some (YK e xs) := by
 obtain ⟨b,zs,e1,e2,e3⟩ := zAs n xs e h hs n 0 [] (by omega) (by omega) (by simp)
 unfold ZQ
 rw [show qD n n xs e 0 false [] = _ from e1]
 simp only [Option.bind_some,YE]
 rw [decide_eq_true (by simp; omega)]
 rw [List.drop_zero,List.nil_append] at e3
 rw [← e3]
 cases b <;> rfl
theorem zFN (e : zB) : ∀ (xs : List zB) (k : Nat) (hk : k < xs.length) (hs : ∀ (j i : Nat) (hij : i < j) (hj : j < xs.length),q7 (xs[i]'(by omega)) xs[j].Tag xs[j].Mac),xs[k].Tag = e.Tag → xs[k].Mac = e.Mac → YK e xs = xs.set k e
 | [],k,hk,hs,h1,h2 => by simp at hk
 | v :: vs,0,hk,hs,h1,h2 => by
  have h1 : v.Tag = e.Tag := h1
  have h2 : v.Mac = e.Mac := h2
  unfold YK
  rw [if_neg (by unfold q7; omega),if_pos ⟨h1,h2⟩]
  rfl
 | v :: vs,k + 1,hk,hs,h1,h2 => by
  have ha : q7 v e.Tag e.Mac := by
   have := hs (k + 1) 0 (by omega) hk
   rw [h1,h2] at this
   exact this
  unfold YK
  rw [if_pos ha,zFN e vs k (by simpa using hk) (fun j i hij hj => hs (j + 1) (i + 1) (by omega) (by simpa using hj)) h1 h2]
  rfl
def zD4 (v : zB) : Prop := (1 ≤ v.Tag ∧ v.Tag ≤ 99) ∧ (1 ≤ v.Mac ∧ v.Mac ≤ 9999) ∧ (0 ≤ v.Port ∧ v.Port ≤ 7) ∧ (0 ≤ v.Age ∧ v.Age ≤ 4) ∧ (v.Sc = true → v.Age = 0)
def JZ (xs : List zB) : Prop := xs.length ≤ 12 ∧ (∀ v ∈ xs,zD4 v) ∧ xs.Pairwise fun a b => q7 a b.Tag b.Mac
theorem zBQ (n : Nat) (v : zB) (h : zD4 v) : qP n v = some true := by
 obtain ⟨h1,h2,h3,h4,h5⟩ := h
 have two : ∀ {a b c : Int},a ≤ b → b ≤ c → (decide (a ≤ b) && decide (b ≤ c)) = true := fun h h' => by rw [decide_eq_true h,decide_eq_true h']; rfl
 unfold qP
 simp only [zr,Option.bind_some,two h1.1 h1.2,two h2.1 h2.2,two h3.1 h3.2,two h4.1 h4.2,cond_true]
 cases hs : v.Sc with
 | false => rfl
 | true => rw [h5 hs]; rfl
theorem Jv (n : Nat) (xs : List zB) (hn : xs.length < n) (h : JZ xs) : qg n xs = some true := by
 obtain ⟨h1,h2,h3⟩ := h
 rw [List.pairwise_iff_getElem] at h3
 unfold qg
 rcases zBX (L := fun m k => zt n m xs k) (N := xs.length) (P := fun _ => True) (fun m k hk => by
  refine .inl ⟨trivial,?_⟩
  simp only [zt]
  rw [ZK hk,cond_true,zi hk,Option.bind_some,zBQ n _ (h2 _ (List.getElem_mem hk)),Option.bind_some,zz (by omega : k ≤ 1099511627776),Bool.not_true,cond_false]
  cases k with
  | zero => rfl
  | succ k =>
   have hw2 : IntKind.wrap .i64 (((k + 1 : Nat) : Int) - 1) = (k : Int) := by rw [wrap64 (by omega) (by omega)]; omega
   rw [decide_eq_true (show ((k + 1 : Nat) : Int) > 0 by omega),hw2,cond_true,zi (show k < xs.length by omega),Option.bind_some,Option.bind_some,Option.bind_some,zAU,decide_eq_true (h3 k (k + 1) (by omega) hk (by omega))]
   rfl) (fun m => ⟨(),by simp only [zt]; rw [ql]; rfl⟩) n 0 (by omega) (by omega) with ⟨a,e,_⟩ | ⟨_,p⟩
 ·rw [show zt n n xs 0 = _ from e,Option.bind_some]
  simp only [YA]
  rw [decide_eq_true (by omega)]
 ·exact absurd (fun _ _ _ => trivial) p
theorem zGV {v : zB} (h : zD4 v) : v.wf := by
 obtain ⟨h1,h2,h3,h4,_⟩ := h
 exact ⟨zp (by omega) (by omega),zp (by omega) (by omega),zp (by omega) (by omega),zp (by omega) (by omega),trivial⟩
theorem zIB : (⟨0,0,0,0,0⟩ : Vec).wf := by
 have z0 : zm 0 := zp (by omega) (by omega)
 exact ⟨z0,z0,z0,z0,z0,trivial⟩
theorem zEO (n : Nat) (c : Int) (up : Bool) (h : 1 ≤ c ∧ c ≤ 1000) : z5 n ⟨up,c,false,⟨0,0,0,0,0⟩⟩ = some true := by
 unfold z5
 rw [zr,Option.bind_some,decide_eq_true h.1,decide_eq_true h.2]
 cases up <;> rfl
theorem zEP (n : Nat) (c : Int) (v : Vec) (h : 1 ≤ c ∧ c ≤ 1000) (hv : qX n v = some true) : z5 n ⟨true,c,true,v⟩ = some true := by
 unfold z5
 rw [zr,Option.bind_some,decide_eq_true h.1,decide_eq_true h.2]
 simp only [Bool.and_self,Bool.not_true,cond_false,hv,Option.bind_some]
theorem zER (n : Nat) (v : Vec) (h1 : 1 ≤ v.Root ∧ v.Root ≤ 99) (h2 : 0 ≤ v.Co ∧ v.Co ≤ 100000) (h3 : 0 ≤ v.Hops ∧ v.Hops ≤ 10) (h4 : 1 ≤ v.Bridge ∧ v.Bridge ≤ 99) (h5 : 0 ≤ v.Port ∧ v.Port ≤ 7) : qX n v = some true := by
 unfold qX
 simp only [zr,Option.bind_some,decide_eq_true h1.1,decide_eq_true h1.2,decide_eq_true h2.1,decide_eq_true h2.2,decide_eq_true h3.1,decide_eq_true h3.2,decide_eq_true h4.1,decide_eq_true h4.2,decide_eq_true h5.1,decide_eq_true h5.2,Bool.and_self,cond_true]
theorem zDH (n : Nat) (c : Src) (h : c.ok) : ∃ v c',Yp n c = some (v,c') ∧ qX n v = some true ∧ c'.ok := by
 obtain ⟨v1,c1,e1,a1,b1,g1⟩ := zO n c 5 h
 obtain ⟨v2,c2,e2,a2,g2⟩ := Zl n c1 [0,1,2,5,10,100] g1 (by decide)
 obtain ⟨v3,c3,e3,a3,g3⟩ := Zl n c2 [0,1,2,9,10] g2 (by decide)
 obtain ⟨v4,c4,e4,a4,b4,g4⟩ := zO n c3 5 g3
 obtain ⟨v5,c5,e5,a5,b5,g5⟩ := zO n c4 4 g4
 have b1 := b1 (by decide)
 have b4 := b4 (by decide)
 have b5 := b5 (by decide)
 simp only [List.mem_cons,List.not_mem_nil,or_false] at a2 a3
 refine ⟨⟨1 + v1,v2,v3,1 + v4,v5⟩,c5,?_,zER n _ (by simp only; omega) (by simp only; omega) (by simp only; omega) (by simp only; omega) (by simp only; omega),g5⟩
 unfold Yp
 simp only [e1,e2,e3,e4,e5,Option.bind_some]
 rw [wrap64 (z := 1 + v1) (by omega) (by omega),wrap64 (z := 1 + v4) (by omega) (by omega)]
theorem zAI (n : Nat) (p : Nat) (hp : p ≤ 1000) : ∀ (m k : Nat) (ys : List Pt) (c : Src),k ≤ p → p < m + k → ys.length = k → c.ok → (∀ q ∈ ys,z5 n q = some true ∧ q.wf) → ∃ (ys' : List Pt) (c' : Src),qC n m p k ys c.b c.i c.h = some (.inl (ys',c'.b,c'.i,c'.h)) ∧ ys'.length = p ∧ c'.ok ∧ ∀ q ∈ ys',z5 n q = some true ∧ q.wf
 | 0,k,ys,c,h1,h2,_,_,_ => by omega
 | m + 1,k,ys,c,h1,h2,h3,h4,h5 => by
  rw [qC]
  by_cases hk : k < p
  ·obtain ⟨v1,c1,e1,g1⟩ := YW n c 4 h4
   obtain ⟨v2,c2,e2,a2,g2⟩ := Zl n c1 [1,1,2,5,10] g1 (by decide)
   obtain ⟨v3,c3,e3,g3⟩ := YW n c2 4 g2
   obtain ⟨v4,c4,e4,o4,g4⟩ := zDH n c3 g3
   have hc : 1 ≤ v2 ∧ v2 ≤ 1000 := by
    simp only [List.mem_cons,List.not_mem_nil,or_false] at a2
    omega
   have w2 : zm v2 := zp (by omega) (by omega)
   have w4 := zES n v4 o4
   have e1' : q9 n (⟨c.b,c.i,c.h⟩ : Src) 4 = some (v1,c1) := e1
   have hlen : ∀ u : Pt,decide (ys.length + [u].length ≤ 268435456) = true := fun u => decide_eq_true (by rw [List.length_singleton]; omega)
   have ih := fun (u : Pt) c' hc (hu : z5 n u = some true ∧ u.wf) => zAI n p hp m (k + 1) (ys ++ [u]) c' (by omega) (by omega) (by simp [h3]) hc (fun q hq => by
    rcases List.mem_append.1 hq with hq | hq
    ·exact h5 q hq
    ·rw [List.mem_singleton] at hq; subst hq; exact hu)
   have ok0 : ∀ up : Bool,z5 n ⟨up,v2,false,⟨0,0,0,0,0⟩⟩ = some true ∧ (⟨up,v2,false,⟨0,0,0,0,0⟩⟩ : Pt).wf := fun up => ⟨zEO n v2 up hc,w2,zIB⟩
   simp only [ZK hk,cond_true,e1',e2,e3,e4,Option.bind_some,ZT,hlen,zz (by omega : k ≤ 1099511627776)]
   cases v1 with
   | false =>
    simp only [Bool.not_false,cond_true]
    cases v3 with
    | false => simp only [Bool.not_false,cond_true]; exact ih _ c4 g4 ⟨zEP n v2 v4 hc o4,w2,w4⟩
    | true => simp only [Bool.not_true,cond_false]; exact ih _ c3 g3 (ok0 true)
   | true => simp only [Bool.not_true,cond_false]; exact ih _ c2 g2 (ok0 false)
  ·have he : k = p := by omega
   rw [he,ql]
   exact ⟨ys,c,rfl,by omega,h4,h5⟩
theorem zGH (e : zB) : ∀ (xs : List zB),(xs.Pairwise fun a b => q7 a b.Tag b.Mac) → (YK e xs).Pairwise fun a b => q7 a b.Tag b.Mac
 | [],_ => by unfold YK; exact List.pairwise_singleton _ _
 | v :: vs,h => by
  rw [List.pairwise_cons] at h
  unfold YK
  by_cases h1 : q7 v e.Tag e.Mac
  ·rw [if_pos h1,List.pairwise_cons]
   refine ⟨fun w hw => ?_,zGH e vs h.2⟩
   rcases zC4 e vs w hw with rfl | hw
   ·exact h1
   ·exact h.1 w hw
  ·rw [if_neg h1]
   by_cases h2 : v.Tag = e.Tag ∧ v.Mac = e.Mac
   ·rw [if_pos h2,List.pairwise_cons]
    refine ⟨fun w hw => ?_,h.2⟩
    have := h.1 w hw
    unfold q7 at this ⊢
    rw [← h2.1,← h2.2]; exact this
   ·rw [if_neg h2,List.pairwise_cons,List.pairwise_cons]
    have hev : q7 e v.Tag v.Mac := by unfold q7 at h1 ⊢; omega
    refine ⟨fun w hw => ?_,h⟩
    rcases List.mem_cons.1 hw with rfl | hw
    ·exact hev
    ·have := h.1 w hw
     unfold q7 at this hev ⊢
     omega
theorem JZ.put {xs : List zB} (hx : JZ xs) (e : zB) (he : zD4 e) (h : xs.length < 12 ∨ ∃ k,∃ hk : k < xs.length,xs[k].Tag = e.Tag ∧ xs[k].Mac = e.Mac) : JZ (YK e xs) := by
 refine ⟨?_,fun v hv => ?_,zGH e xs hx.2.2⟩
 ·rcases h with h | ⟨k,hk,k1,k2⟩
  ·have := zFM e xs; omega
  ·rw [zFN e xs k hk (fun j i hij hj => List.pairwise_iff_getElem.1 hx.2.2 i j (by omega) hj hij) k1 k2,List.length_set]
   exact hx.1
 ·rcases zC4 e xs v hv with rfl | hv
  ·exact he
  ·exact hx.2.1 v hv
theorem JZ.srt {xs : List zB} (hx : JZ xs) : ∀ (j i : Nat) (hij : i < j) (hj : j < xs.length),q7 (xs[i]'(by omega)) xs[j].Tag xs[j].Mac := fun j i hij hj => List.pairwise_iff_getElem.1 hx.2.2 i j (by omega) hj hij
theorem zA8 (n : Nat) (v : zB) : ∃ b,qP n v = some b ∧ (b = true ↔ zD4 v) := by
 obtain ⟨b,hb⟩ := Jm n v
 refine ⟨b,hb,fun h => ?_,fun h => ?_⟩
 ·rw [h] at hb
  have := Jl n v hb
  exact this
 ·have := zBQ n v h
  rw [hb] at this
  exact Option.some.inj this
theorem zDm (n : Nat) (xs : List zB) (t a p : Int) (hx : JZ xs) (hn : 1048577 < n) : ∃ ys,JC n xs t a p = some ys ∧ JZ ys ∧ (zD4 ⟨t,a,p,0,false⟩ → ys = YK ⟨t,a,p,0,false⟩ xs ∨ (ys = xs ∧ ((∃ k,∃ hk : k < xs.length,xs[k].Tag = t ∧ xs[k].Mac = a) ∨ xs.length = 12))) := by
 have h12 := hx.1
 have hcs : qN n xs = some xs := by unfold qN; rw [decide_eq_true (by simp; omega)]; rfl
 have hb := Jv n xs (by omega) hx
 obtain ⟨c,hc,hce⟩ := zA8 n ⟨t,a,p,0,false⟩
 have hp := zA9 n xs ⟨t,a,p,0,false⟩ (by omega) (by omega) hx.srt
 unfold JC
 rcases zBr n xs t a (by omega) (by omega) with ⟨e,hne⟩ | ⟨k,hk,e,k1,k2⟩
 ·rw [e,Option.bind_some,hb,Option.bind_some,hc,Option.bind_some]
  cases c with
  | false => exact ⟨xs,by simp only [Bool.not_true,Bool.not_false,cond_true,cond_false,hcs,Option.bind_some],hx,fun he => absurd (hce.2 he) (by simp)⟩
  | true =>
   simp only [Bool.not_true,cond_false,decide_eq_false (show ¬ (-1 : Int) ≥ 0 by omega),decide_eq_true (show (-1 : Int) < 0 by omega),cond_true,hp,Option.bind_some,hcs]
   by_cases hf : 12 ≤ xs.length
   ·rw [decide_eq_true (show (xs.length : Int) ≥ 12 by omega)]
    exact ⟨xs,rfl,hx,fun _ => .inr ⟨rfl,.inr (by omega)⟩⟩
   ·rw [decide_eq_false (show ¬ (xs.length : Int) ≥ 12 by omega)]
    exact ⟨_,rfl,hx.put _ (hce.1 rfl) (.inl (by omega)),fun _ => .inl rfl⟩
 ·rw [e,Option.bind_some,hb,Option.bind_some,hc,Option.bind_some]
  cases c with
  | false => exact ⟨xs,by simp only [Bool.not_true,Bool.not_false,cond_true,cond_false,hcs,Option.bind_some],hx,fun he => absurd (hce.2 he) (by simp)⟩
  | true =>
   simp only [Bool.not_true,cond_false,decide_eq_true (show ((k : Nat) : Int) ≥ 0 by omega),decide_eq_false (show ¬ ((k : Nat) : Int) < 0 by omega),cond_true,hp,Option.bind_some,hcs,zi hk]
   cases xs[k].Sc with
   | true => exact ⟨xs,rfl,hx,fun _ => .inr ⟨rfl,.inl ⟨k,hk,k1,k2⟩⟩⟩
   | false => exact ⟨_,rfl,hx.put _ (hce.1 rfl) (.inr ⟨k,hk,k1,k2⟩),fun _ => .inl rfl⟩
theorem zCL (n : Nat) (xs : List zB) (t a p : Int) (hx : JZ xs) (hn : 1048577 < n) : ∃ ys b,Qi n xs t a p = some (ys,b) ∧ JZ ys := by
 have h12 := hx.1
 have hcs : qN n xs = some xs := by unfold qN; rw [decide_eq_true (by simp; omega)]; rfl
 have hb := Jv n xs (by omega) hx
 obtain ⟨c,hc,hce⟩ := zA8 n ⟨t,a,p,0,true⟩
 have hp := zA9 n xs ⟨t,a,p,0,true⟩ (by omega) (by omega) hx.srt
 unfold Qi
 rw [hb,Option.bind_some,hc,Option.bind_some]
 cases c with
 | false => exact ⟨xs,false,by simp only [Bool.not_true,Bool.not_false,cond_true,cond_false,hcs,Option.bind_some],hx⟩
 | true =>
  simp only [Bool.not_true,cond_false]
  rcases zBr n xs t a (by omega) (by omega) with ⟨e,hne⟩ | ⟨k,hk,e,k1,k2⟩
  ·rw [e]
   simp only [Option.bind_some,decide_eq_true (show (-1 : Int) < 0 by omega),cond_true,hp,hcs]
   by_cases hf : 12 ≤ xs.length
   ·rw [decide_eq_true (show (xs.length : Int) ≥ 12 by omega)]
    exact ⟨xs,_,rfl,hx⟩
   ·rw [decide_eq_false (show ¬ (xs.length : Int) ≥ 12 by omega)]
    exact ⟨_,_,rfl,hx.put _ (hce.1 rfl) (.inl (by omega))⟩
  ·rw [e]
   simp only [Option.bind_some,decide_eq_false (show ¬ ((k : Nat) : Int) < 0 by omega),cond_false,hp]
   exact ⟨_,_,rfl,hx.put _ (hce.1 rfl) (.inr ⟨k,hk,k1,k2⟩)⟩
theorem zIY : ∀ z < 5,∀ p < 4,((Zv 1048580 ((1 + z : Nat) : Int) ((1 + p : Nat) : Int)).any fun y => decide (y.Id = ((1 + z : Nat) : Int)) && (y.F.isEmpty && (decide (y.Pa = 0) && (decide (y.Wo = 0) && decide (y.Dr = 0))))) = true := by decide +kernel
theorem zBP (n : Nat) (c : Src) (h : c.ok) : ∃ v c',YI n c = some (v,c') ∧ (11 ≤ v ∧ v ≤ 14) ∧ c'.ok := by
 obtain ⟨v,c',e,hv,g⟩ := Zl n c [11,12,13,14] h (by decide)
 simp only [List.mem_cons,List.not_mem_nil,or_false] at hv
 unfold YI
 rw [e]
 exact ⟨v,c',rfl,by omega,g⟩
def DrB (x : zE) : Prop := qQ 1048580 x = some true ∧ x.wf ∧ x.sz ≤ 40 ∧ x.Dr = 0 ∧ JZ x.F ∧ VtG 1048580 x.Ps.length x.V ∧ x.Ps.length ≤ 4
theorem zAJ (p : Nat) (r : Int × Src) (hr : r.1 = p) (hp : p ≤ 3) : ∀ (m k : Nat) (c : Src) (fs : List zB),k < m → k ≤ 1000 → c.ok → JZ fs → ∃ (c' : Src) (zs : List zB),c'.ok ∧ JZ zs ∧ q6 1048580 m r k c.b c.i c.h fs = some (.inl (c'.b,c'.i,c'.h,zs))
 | 0,k,c,fs,h,_,_,_ => by omega
 | m + 1,k,c,fs,h,h',hc,hf => by
  rw [q6]
  by_cases hk : (k : Int) > 0
  ·obtain ⟨v1,c1,e1,a1,b1,g1⟩ := zO 1048580 c 3 hc
   obtain ⟨v2,c2,e2,a2,g2⟩ := zBP 1048580 c1 g1
   obtain ⟨v3,c3,e3,a3,b3,g3⟩ := zO 1048580 c2 (IntKind.wrap .i64 (1 + r.1)) g2
   obtain ⟨ys,e4,f4,_⟩ := zDm 1048580 fs (IntKind.wrap .i64 (1 + v1)) v2 v3 hf (by omega)
   rw [decide_eq_true hk,cond_true,show zL 1048580 ⟨c.b,c.i,c.h⟩ 3 = _ from e1,Option.bind_some,e2,Option.bind_some,e3,Option.bind_some,e4,Option.bind_some,show IntKind.wrap .i64 ((k : Int) - 1) = ((k - 1 : Nat) : Int) from by rw [wrap64 (by omega) (by omega)]; omega]
   exact zAJ p r hr hp m (k - 1) c3 ys (by omega) (by omega) g3 f4
  ·rw [decide_eq_false hk,cond_false]
   exact ⟨c,fs,hc,hf,rfl⟩
theorem zDG (c : Src) (hc : c.ok) : ∃ x c',YD 1048580 c = some (x,c') ∧ DrB x ∧ c'.ok := by
 obtain ⟨v1,c1,e1,a1,b1,g1⟩ := zO 1048580 c 4 hc
 obtain ⟨v2,c2,e2,a2,b2,g2⟩ := zO 1048580 c1 5 g1
 have b1 := b1 (by decide)
 have b2 := b2 (by decide)
 obtain ⟨v1,rfl⟩ := Int.eq_ofNat_of_zero_le a1
 obtain ⟨v2,rfl⟩ := Int.eq_ofNat_of_zero_le a2
 have t1 : IntKind.wrap .i64 (1 + (v1 : Int)) = ((1 + v1 : Nat) : Int) := by rw [wrap64 (by omega) (by omega)]; omega
 have t2 : IntKind.wrap .i64 (1 + (v2 : Int)) = ((1 + v2 : Nat) : Int) := by rw [wrap64 (by omega) (by omega)]; omega
 obtain ⟨y,ey,hy⟩ : ∃ y,Zv 1048580 ((1 + v2 : Nat) : Int) ((1 + v1 : Nat) : Int) = some y ∧ y.Id = ((1 + v2 : Nat) : Int) ∧ y.F = [] ∧ y.Pa = 0 ∧ y.Wo = 0 ∧ y.Dr = 0 := by
  have := zIY v2 (by omega) v1 (by omega)
  cases hb : Zv 1048580 ((1 + v2 : Nat) : Int) ((1 + v1 : Nat) : Int) with
  | none => rw [hb] at this; cases this
  | some y =>
   rw [hb] at this
   simp only [Option.any_some,Bool.and_eq_true,decide_eq_true_eq,List.isEmpty_iff] at this
   exact ⟨y,rfl,this.1,this.2.1,this.2.2.1,this.2.2.2.1,this.2.2.2.2⟩
 obtain ⟨y1,y2,y3,y4,y5⟩ := hy
 obtain ⟨nm,c3,e3,hnm,g3⟩ : ∃ nm c',JF 1048580 c2 [(⟨#[]⟩ : ByteArray),(⟨#[121,97,114,100]⟩ : ByteArray),(⟨#[98,49]⟩ : ByteArray)] = some (nm,c') ∧ nm.size ≤ 4 ∧ c'.ok := by
  obtain ⟨v,c',e,a,b,g⟩ := zO 1048580 c2 (([(⟨#[]⟩ : ByteArray),(⟨#[121,97,114,100]⟩ : ByteArray),(⟨#[98,49]⟩ : ByteArray)].length : Nat) : Int) g2
  have b := b (by decide)
  obtain ⟨v,rfl⟩ := Int.eq_ofNat_of_zero_le a
  have b : v < 3 := by simp only [List.length_cons,List.length_nil] at b; omega
  unfold JF
  rw [e]
  have : v = 0 ∨ v = 1 ∨ v = 2 := by omega
  rcases this with rfl | rfl | rfl
  ·exact ⟨_,c',rfl,by decide,g⟩
  ·exact ⟨_,c',rfl,by decide,g⟩
  ·exact ⟨_,c',rfl,by decide,g⟩
 obtain ⟨ps,c4,e4,l4,g4,w4⟩ := zAI 1048580 (1 + v1) (by omega) 1048580 0 [] c3 (by omega) (by omega) rfl g3 (fun q hq => by cases hq)
 obtain ⟨vt,c5,e5,g5,h5⟩ := zDu (1 + v1) (by omega) (by omega) c4 g4
 obtain ⟨v6,c6,e6,a6,b6,g6⟩ := zO 1048580 c5 6 h5
 have b6 := b6 (by decide)
 obtain ⟨v6,rfl⟩ := Int.eq_ofNat_of_zero_le a6
 obtain ⟨c7,fs,g7,f7,e7⟩ := zAJ v1 ((v1 : Int),c1) rfl (by omega) 1048580 v6 c6 [] (by omega) (by omega) g6 ⟨Nat.zero_le _,(fun v hv => by cases hv),List.Pairwise.nil⟩
 have j2 : ∀ (fs : List zB) (c : Src),JZ fs → c.ok → ∃ x c',ZU 1048580 y (nm,c3) (ps,c4) (vt,c5) c.b c.i c.h fs = some (x,c') ∧ DrB x ∧ c'.ok := fun fs c hf hc => by
  obtain ⟨u1,d1,k1,m1,n1,o1⟩ := zO 1048580 c 5 hc
  have n1 := n1 (by decide)
  obtain ⟨u2,d2,k2,m2,o2⟩ := Zl 1048580 d1 [0,1,5,1000000] o1 (by decide)
  simp only [List.mem_cons,List.not_mem_nil,or_false] at m2
  have hvs := g5.sz
  have h12 := hf.1
  refine ⟨⟨y.Id,nm,ps,fs,vt,u1,y.Pa,y.Wo,y.Dr,u2⟩,d2,?_,⟨?_,?_,?_,y5,hf,by simp only; rw [l4]; exact g5,by simp only; omega⟩,o2⟩
  ·unfold ZU
   rw [show zL 1048580 ⟨c.b,c.i,c.h⟩ 5 = _ from k1,Option.bind_some,k2]
   rfl
  ·refine zCh 1048580 _ (by simp only; omega) (by simp only; omega) (by simp only; omega) (by simp only; omega) (by simp only; omega) (by simp only; omega) (Jv 1048580 fs (by omega) hf) ?_ ⟨m1,by simp only; omega⟩ (by simp only; omega) (by simp only; omega) (by simp only; omega) ?_ (fun j hj => (w4 _ (List.getElem_mem hj)).1)
   ·simp only; rw [l4]; exact g5.2.2.2.1
   ·simp only; omega
  ·have z0 : zm 0 := zp (by omega) (by omega)
   have hm : maxLen = 9223372036854775807 := by decide
   refine ⟨by simp only; rw [y1]; exact zp (by omega) (by omega),by simp only; omega,⟨by simp only; omega,fun q hq => (w4 q hq).2⟩,⟨by simp only; omega,fun v hv => zGV (hf.2.1 v hv)⟩,g5.1.1,g5.1.2.1,zp (z := u1) (by omega) (by omega),by simp only; rw [y3]; exact z0,by simp only; rw [y4]; exact z0,by simp only; rw [y5]; exact z0,zp (z := u2) (by omega) (by omega),trivial⟩
  ·show nm.size + ps.length + fs.length + vt.sz ≤ 40
   omega
 have j1 : ∃ x c',Zz 1048580 ((v1 : Int),c1) y (nm,c3) (ps,c4) (vt,c5) c7.b c7.i c7.h fs = some (x,c') ∧ DrB x ∧ c'.ok := by
  unfold Zz
  obtain ⟨u1,d1,k1,o1⟩ := YW 1048580 c7 3 g7
  rw [show q9 1048580 ⟨c7.b,c7.i,c7.h⟩ 3 = _ from k1,Option.bind_some]
  cases u1 with
  | false => exact j2 fs d1 f7 o1
  | true =>
   obtain ⟨u2,d2,k2,m2,o2⟩ := zBP 1048580 d1 o1
   obtain ⟨u3,d3,k3,m3,n3,o3⟩ := zO 1048580 d2 (IntKind.wrap .i64 (1 + (v1 : Int))) o2
   obtain ⟨ys,b,k4,f4⟩ := zCL 1048580 fs 1 u2 u3 f7 (by omega)
   simp only [cond_true,k2,k3,k4,Option.bind_some]
   exact j2 ys d3 f4 o3
 obtain ⟨x,c8,e8,h8⟩ := j1
 refine ⟨x,c8,?_,h8⟩
 have e4' : YC 1048580 c3 ((1 + v1 : Nat) : Int) = some (ps,c4) := by
  unfold YC
  rw [show qC 1048580 1048580 ((1 + v1 : Nat) : Int) 0 ([] : List Pt) c3.b c3.i c3.h = _ from e4]
  rfl
 unfold YD
 simp only [e1,Option.bind_some,e2,t1,t2,ey,e3,e4',e5,e6,y2]
 rw [show q6 1048580 1048580 ((v1 : Int),c1) v6 c6.b c6.i c6.h [] = _ from e7]
 exact e8
def lx2 (a b : Int × Int) : Prop := a.1 < b.1 ∨ (a.1 = b.1 ∧ a.2 < b.2)
instance (a b : Int × Int) : Decidable (lx2 a b) := inferInstanceAs (Decidable (_ ∨ _))
def le4 (a b : Int × Int × Int × Int) : Prop := a.1 < b.1 ∨ (a.1 = b.1 ∧ (a.2.1 < b.2.1 ∨ (a.2.1 = b.2.1 ∧ (a.2.2.1 < b.2.2.1 ∨ (a.2.2.1 = b.2.2.1 ∧ a.2.2.2 ≤ b.2.2.2)))))
theorem le4.trans {a b c : Int × Int × Int × Int} (h1 : le4 a b) (h2 : le4 b c) : le4 a c := by
 unfold le4 at *
 omega
theorem le4.rfl' (a : Int × Int × Int × Int) : le4 a a := by
 unfold le4
 omega
theorem zDn (n : Nat) (x : zE) (wx : x.wf) (hx : x.sz ≤ 1048576) (hn : 1048577 < n) (hb : qQ n x = some true) : ∃ zs : List zC,Z5 n x = some zs ∧ 1 ≤ zs.length := by
 have hs : x.Name.size + x.Ps.length + x.F.length + x.V.sz = x.sz := rfl
 have hs2 : x.V.Rows.length + x.V.Pv.length = x.V.sz := rfl
 obtain ⟨p1,p2,p3,p4,p5,p6,p7,p8,p9,p10,p11,p12,p13⟩ := Jg n x (by omega) hb
 obtain ⟨f1,f2,f3⟩ := zA6 n x.F (by omega) p6
 obtain ⟨v1,v2⟩ := JT n x.V _ p7
 have hN : zx n [1,1] = some ([1,3,1] ++ [1,1]) := by unfold zx; rfl
 unfold Z5
 rw [hb,Option.bind_some]
 simp only [Bool.not_true,cond_false,hN,Option.bind_some]
 rw [qG n _ [1,2] _ (by simp) (by simp),Option.bind_some,qG n _ [1,3] _ (by simp) (by simp),Option.bind_some,qG n _ [1,4] _ (by simp) (by simp),Option.bind_some,qG n _ [1,5] _ (by simp) (by simp),Option.bind_some]
 simp only [List.cons_append,List.nil_append]
 obtain ⟨z1,a1,a2,a3,a4⟩ := Yl n x p2 (by omega) (by omega) n 4 [⟨[1,3,1,1,1],⟨4,0,x.Name,[]⟩⟩,Zr [1,2] x.Tk,Zr [1,3] x.Pa,Zr [1,4] x.Wo,Zr [1,5] x.Dr] (by omega) (by omega) (by simp) (fun v hv => by
  simp only [List.mem_cons,List.not_mem_nil,or_false] at hv
  rcases hv with rfl | rfl | rfl | rfl | rfl
  ·exact .inl rfl
  all_goals exact .inr ⟨_,_,rfl,by simp⟩)
 rw [show qM n n x 1 _ = _ from a1]
 simp only [Option.bind_some]
 simp only [List.length_cons,List.length_nil] at a3
 obtain ⟨z2,b1,b2,b3,b4⟩ := Yk n x v1 (by omega) n 3 z1 (by omega) (by omega) (by omega) a4
 rw [Zw,show qL n n x 1 z1 = _ from b1]
 simp only [Option.bind_some]
 obtain ⟨z3,c1,c2,c3,c4⟩ := Y3 n x f1 (fun v hv => by
  obtain ⟨j,hj,rfl⟩ := List.getElem_of_mem hv
  exact (Jl n _ (f2 j hj)).2.2.1) n 0 z2 (by omega) (by omega) (by omega)
 rw [Zx,show qj n n x 0 z2 = _ from c1]
 exact ⟨z3,rfl,by omega⟩
theorem zAS (n : Nat) : ∀ (m k : Nat) (ys : List Int) (c : Src),k < m → ys.length + k ≤ 1000 → c.ok → ∃ (zs : List Int) (c' : Src),c'.ok ∧ ZM n m k ys c.b c.i c.h = some (.inl (zs,c'.b,c'.i,c'.h)) ∧ zs.length = ys.length + k ∧ ∀ z ∈ zs,z ∈ ys ∨ z ∈ [(0 : Int),1,2,3,127,128,16384,100000]
 | 0,k,ys,c,h,_,_ => by omega
 | m + 1,k,ys,c,h,h',hc => by
  rw [ZM]
  by_cases hk : (k : Int) > 0
  ·obtain ⟨v,c1,e1,m1,g1⟩ := Zl n c [0,1,2,3,127,128,16384,100000] hc (by decide)
   rw [decide_eq_true hk,cond_true,show qq n ⟨c.b,c.i,c.h⟩ [0,1,2,3,127,128,16384,100000] = _ from e1,Option.bind_some,decide_eq_true (by simp; omega),cond_true,show IntKind.wrap .i64 ((k : Int) - 1) = ((k - 1 : Nat) : Int) from by rw [wrap64 (by omega) (by omega)]; omega]
   obtain ⟨zs,c2,g2,e2,l2,q2⟩ := zAS n m (k - 1) (ys ++ [v]) c1 (by omega) (by simp; omega) g1
   refine ⟨zs,c2,g2,e2,by rw [l2]; simp; omega,fun z hz => ?_⟩
   rcases q2 z hz with h | h
   ·rcases List.mem_append.1 h with h | h
    ·exact .inl h
    ·rw [List.mem_singleton.1 h]; exact .inr m1
   ·exact .inr h
  ·rw [decide_eq_false hk,cond_false]
   exact ⟨ys,c,hc,rfl,by omega,fun z hz => .inl hz⟩
theorem zDs (n : Nat) (hn : 1000 < n) (c : Src) (hc : c.ok) : ∃ (zs : List Int) (c' : Src),Yo n c = some (zs,c') ∧ c'.ok ∧ (1 ≤ zs.length ∧ zs.length ≤ 6) ∧ ∀ z ∈ zs,z ∈ [(0 : Int),1,2,3,127,128,16384,100000] := by
 obtain ⟨v,c1,e1,a1,b1,g1⟩ := zO n c 6 hc
 have b1 := b1 (by decide)
 obtain ⟨v,rfl⟩ := Int.eq_ofNat_of_zero_le a1
 obtain ⟨zs,c2,g2,e2,l2,q2⟩ := zAS n n (1 + v) [] c1 (by omega) (by simp; omega) g1
 refine ⟨zs,c2,?_,g2,by simp at l2; omega,fun z hz => (q2 z hz).resolve_left (by simp)⟩
 unfold Yo
 rw [e1,Option.bind_some,show IntKind.wrap .i64 (1 + (v : Int)) = ((1 + v : Nat) : Int) from by rw [wrap64 (by omega) (by omega)]; omega,show ZM n n ((1 + v : Nat) : Int) ([] : List Int) c1.b c1.i c1.h = _ from e2]
 rfl
theorem zDr (n : Nat) (hn : 1048577 < n) (c : Src) (hc : c.ok) (x : zE) (wx : x.wf) (hx : x.sz ≤ 1048576) : ∃ (o : List Int) (c' : Src),Yn n c x = some (o,c') ∧ c'.ok ∧ o.length ≤ 100 := by
 obtain ⟨zs,h1,_,h3,h4⟩ := zAD n x wx hx hn
 have nm : ∀ o : List Int,o.length ≤ 10 → zx n o = some ([1,3,1] ++ o) := fun o ho => by
  unfold zx
  rw [decide_eq_true (by simp; omega)]
  rfl
 have low : ∀ c : Src,c.ok → ∃ (o : List Int) (c' : Src),ZL n zs false c.b c.i c.h = some (o,c') ∧ c'.ok ∧ o.length ≤ 100 := fun c hc => by
  unfold ZL
  obtain ⟨v,c1,e1,a1,b1,g1⟩ := zO n c 8 hc
  obtain ⟨u,c2,e2,a2,b2,g2⟩ := zO n c1 9 g1
  obtain ⟨ys,c3,e3,g3,l3,_⟩ := zDs n (by omega) c1 g1
  rw [cond_false,show zL n ⟨c.b,c.i,c.h⟩ 8 = _ from e1,Option.bind_some]
  simp only [nm [2,2,9] (by simp),nm [2,2] (by simp),nm [9] (by simp),nm [4,1,2,11] (by simp),nm [3,1,(IntKind.wrap .i64 (1 + u))] (by simp),e2,e3,Option.bind_some]
  cases v == 0 with
  | true => exact ⟨_,_,rfl,g1,by simp⟩
  | false =>
  cases v == 1 with
  | true => exact ⟨_,_,rfl,g1,by simp⟩
  | false =>
  cases v == 2 with
  | true => exact ⟨_,_,rfl,g1,by simp⟩
  | false =>
  cases v == 3 with
  | true => exact ⟨_,_,rfl,g2,by simp⟩
  | false =>
  cases v == 4 with
  | true => exact ⟨_,_,rfl,g1,by simp⟩
  | false =>
  cases v == 5 with
  | true => exact ⟨_,_,rfl,g1,by simp⟩
  | false =>
  cases v == 6 with
  | true => exact ⟨_,_,rfl,g1,by simp⟩
  | false => exact ⟨_,_,rfl,g3,by omega⟩
 unfold Yn
 rw [h1,Option.bind_some]
 by_cases hz : (zs.length : Int) > 0
 ·obtain ⟨v,c1,e1,g1⟩ := YW n c 4 hc
  rw [decide_eq_true hz,cond_true,e1,Option.bind_some]
  cases v with
  | true => exact low c1 g1
  | false =>
   unfold ZL
   obtain ⟨u,c2,e2,a2,b2,g2⟩ := zO n c1 (zs.length : Int) g1
   have b2 := b2 hz
   obtain ⟨u,rfl⟩ := Int.eq_ofNat_of_zero_le a2
   have hu : u < zs.length := by omega
   have := (h4 _ (List.getElem_mem hu)).1
   rw [Bool.not_false,cond_true,show zL n ⟨c1.b,c1.i,c1.h⟩ (zs.length : Int) = _ from e2,Option.bind_some,zi hu,Option.bind_some,decide_eq_true (by simp; omega),cond_true]
   exact ⟨_,_,rfl,g2,by simp; omega⟩
 ·rw [decide_eq_false hz,cond_false]
  exact low c hc
theorem Yb (n : Nat) (xs : List Int) (h : xs.length ≤ 1048580) (hn : xs.length < n) : ZB n xs xs = some true := by
 have loop : ∀ (m k : Nat),k ≤ xs.length → xs.length < m + k → q1 n m xs xs k = some (.inl ()) := fun m => by
  induction m with
  | zero => intro k h1 h2; omega
  | succ m ih =>
   intro k h1 h2
   rw [q1]
   by_cases hk : k < xs.length
   ·rw [ZK hk,cond_true,zi hk,Option.bind_some,Option.bind_some,bne_self_eq_false,cond_false,zz (by omega : k ≤ 1099511627776)]
    exact ih (k + 1) (by omega) (by omega)
   ·obtain rfl : k = xs.length := by omega
    rw [ql]
    rfl
 unfold ZB
 rw [bne_self_eq_false,cond_false,show q1 n n xs xs 0 = _ from loop n 0 (by omega) (by omega)]
 rfl
theorem zCf (n : Nat) (xs ys : List Int) (h : xs.length ≤ 1048600) (hn : xs.length < n) : Tot (QR n xs ys) := by
 have loop : ∀ (m k : Nat),k ≤ xs.length → xs.length < m + k → Tot (qx n m xs ys k) := fun m => by
  induction m with
  | zero => intro k h1 h2; omega
  | succ m ih =>
   intro k h1 h2
   rw [qx]
   refine Tot.step (fun hk => ?_) .of
   have ih := ih (k + 1) (by omega) (by omega)
   rw [zz (by omega : k ≤ 1099511627776)]
   refine Tot.bif (fun hy => ?_) (fun _ => .of)
   have hy' := of_decide_eq_true hy
   exact Tot.bind (zAi hk) fun _ _ => Tot.bind (zAi (by omega)) fun _ _ => Tot.bif (fun _ => Tot.bind (zAi hk) fun _ _ => Tot.bind (zAi (by omega)) fun _ _ => .of) fun _ => ih
 obtain ⟨o,ho⟩ := loop n 0 (by omega) (by omega)
 unfold QR
 rw [show qx n n xs ys 0 = _ from ho]
 cases o <;> exact .of
theorem zAN (n : Nat) (xs : List zC) (o : List Int) (h : xs.length ≤ 60) (hO : ∀ v ∈ xs,v.O.length ≤ 7 ∧ v.V.O = []) (ho : o.length ≤ 100) (hn : 1048577 < n) (x : zE × List Int) (hx : x.2 = o) : ∀ (m m' k : Nat) (ys : List (Option zC)),k ≤ xs.length → xs.length < m + k → xs.length < m' + k → zAX xs k ys →
  (qU n m xs o k ys = some (.inl ()) ∧ ∀ r3,qV n m' x r3 xs k = some (.inl ())) ∨ ∃ v,qU n m xs o k ys = some (.inr v) ∧ qV n m' x v xs k = some (.inr true)
 | 0,_,k,ys,h1,h2,h2',h3 => by omega
 | _,0,k,ys,h1,h2,h2',h3 => by omega
 | m + 1,m' + 1,k,ys,h1,h2,h2',h3 => by
  rw [qU]
  simp only [qV,hx]
  by_cases hk : k < xs.length
  ·obtain ⟨b,b1⟩ := zCf n o xs[k].O (by omega) (by omega)
   have hv := hO _ (List.getElem_mem hk)
   simp only [ZK hk,cond_true,zi hk,h3.get hk,Option.bind_some,b1,zz (by omega : k ≤ 1099511627776)]
   cases b with
   | true =>
    refine .inr ⟨xs[k],rfl,?_⟩
    have e1 := Yb n xs[k].O (by omega) (by omega)
    have e2 := Yb n xs[k].V.O (by rw [hv.2]; simp) (by rw [hv.2]; simp; omega)
    simp only [cond_true,e1,Option.bind_some,Q9,beq_self_eq_true,e2]
   | false => exact zAN n xs o h hO ho hn x hx m m' (k + 1) _ (by omega) (by omega) (by omega) h3.next
  ·have he : k = xs.length := by omega
   subst he
   simp only [ql,cond_false]
   exact .inl ⟨by trivial,fun r3 => by trivial⟩
theorem zB8 (x0 : List Int) (w0 : Zf zFA x0) : ∃ n,JP n x0 = some true := by
 refine ⟨1048580,?_⟩
 simp only [JP,zA2,Option.bind_some]
 by_cases hbig : (x0.length : Int) > 1048576
 ·rw [decide_eq_true hbig]; rfl
 rw [decide_eq_false hbig,cond_false]
 obtain ⟨c,e1,g1⟩ := zEX 1048580 x0 (by omega) (by omega)
 obtain ⟨x,c2,e2,h2,g2⟩ := zDG c g1
 have hsz := h2.2.2.1
 obtain ⟨o,c3,e3,g3,l3⟩ := zDr 1048580 (by omega) c2 g2 x h2.2.1 (by omega)
 have ed : Qf 1048580 x0 = some (x,o) := by
  unfold Qf
  simp only [e1,e2,e3,Option.bind_some]
 obtain ⟨zs,h3,h4,h5,h6⟩ := zAD 1048580 x h2.2.1 (by omega) (by omega)
 obtain ⟨zs',h7,h8⟩ := zDn 1048580 x h2.2.1 (by omega) (by omega) h2.1
 rw [h3] at h7
 obtain rfl := Option.some.inj h7
 rw [ed,Option.bind_some]
 simp only
 have hm := zAN 1048580 zs o h5 (fun v hv => ⟨(h6 v hv).1,(h6 v hv).2.1⟩) l3 (by omega) (x,o) rfl 1048580 1048580 0 _ (by omega) (by omega) (by omega) (zAX.start zs)
 unfold JL
 rw [h4,Option.bind_some]
 rcases hm with ⟨a1,a2⟩ | ⟨v,a1,a2⟩
 ·rw [show qU 1048580 1048580 zs o 0 (zs.map some) = _ from a1]
  simp only [Option.bind_some,Qb,zCg 1048580 o (by omega),show ∀ r3,qV 1048580 1048580 (x,o) r3 zs 0 = some (.inl ()) from a2]
  simp only [Qd,List.nil_append,Yb 1048580 o (by omega) (by omega),Option.bind_some,cond_true,beq_self_eq_true,decide_eq_true (show (zs.length : Int) > 0 by omega)]
 ·rw [show qU 1048580 1048580 zs o 0 (zs.map some) = _ from a1]
  simp only [Option.bind_some]
  rw [show qV 1048580 1048580 (x,o) v zs 0 = _ from a2]
  rfl
end Go.Proofs.Ytajadnlejdpceaa.Tw
