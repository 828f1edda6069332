import Derived.Test.YtajadnlejdpceaaTwFI
import Derived.Test.YtajadnlejdpceaaTlPlain
set_option linter.unusedVariables false
set_option linter.unusedSimpArgs false
set_option maxRecDepth 100000
set_option maxHeartbeats 1000000
namespace Go.Proofs.Ytajadnlejdpceaa.Tw
open Go Go.TL Go.Proofs
theorem Ym (n : Nat) {xs : List Int} {b : Int} (h0 : 0 ≤ b) (h1 : b ≤ 1048576) (hl : xs.length ≤ maxLen) : ∃ r,QC n xs b = some r ∧ Lft b xs.length r := zCe h0 h1 hl
theorem Yn (n : Nat) (xs : List Int) (h : xs.length ≤ 268435456) (hn : xs.length < n) : ZV n xs = some xs := by
 unfold ZV
 rw [decide_eq_true (by omega : (0 : Int) ≤ (xs.length : Int)),decide_eq_true (by omega : (xs.length : Int) ≤ 268435456)]
 have := zA9 (L := qd n) (fun m xs i ys => rfl) xs (by omega) n 0 (List.replicate ((xs.length : Int)).toNat 0) (by omega) (by omega) (by simp) rfl
 simp only [Bool.and_self,cond_true]
 rw [show (qd n n xs 0 (List.replicate ((xs.length : Int)).toNat 0)) = _ from this]
 rfl
theorem YM (n : Nat) (xs : List Int) (h : xs.length ≤ 268435456) (hn : xs.length < n) : ZS n xs xs = some true := by
 unfold ZS
 have := zA0 (L := qc n) (f := fun a b => some (a == b)) (fun m xs ys i => rfl) xs (by omega) (fun v _ => by simp) n 0 (by omega) (by omega)
 simp only [bne_self_eq_false,cond_false]
 rw [show (qc n n xs xs 0) = _ from this]
 rfl
theorem QY (n : Nat) : qp n = qW n := rfl
theorem qf (n : Nat) (a b c : Int) : qW n a b c = some (decide (b ≤ a) && decide (a ≤ c)) := by
 unfold qW
 by_cases h : a ≥ b
 ·rw [decide_eq_true h]; rfl
 ·rw [decide_eq_false h]; rfl
def zC.sz (x : zC) : Nat := x.O.length + x.V.S.size + x.V.O.length
theorem zAS (n : Nat) (v : Val) (h : v.O.length ≤ 268435456) (hn : v.O.length < n) : Qb n v v = some true := by
 simp [Qb,YM n v.O h hn]
theorem J1 (n : Nat) (v : zC) (h : v.sz ≤ 268435456) (hn : v.sz < n) : ZR n v v = some true := by
 have hs : v.O.length + v.V.S.size + v.V.O.length = v.sz := rfl
 simp [ZR,YM n v.O (by omega) (by omega),zAS n v.V (by omega) (by omega)]
theorem Jj (n : Nat) (xs : List zC) (h : xs.length + QU zC.sz xs ≤ 268435456) (hn : xs.length + QU zC.sz xs < n) : Zm n xs xs = some true := by
 unfold Zm
 have := zA0 (L := qE n) (f := ZR n) (fun m xs ys i => by rw [qE]) xs (by omega) (fun v hv => by have := Yp (sz := zC.sz) hv; exact J1 n v (by omega) (by omega)) n 0 (by omega) (by omega)
 rw [show ((xs.length : Int) != (xs.length : Int)) = false from by simp,show qE n n xs xs 0 = _ from this]
 rfl
theorem Jg (n : Nat) (xs : List Int) (h : xs.length ≤ 1048580) (hn : xs.length < n) : qo n xs xs = some true := by
 have loop : ∀ (m k : Nat),k ≤ xs.length → xs.length < m + k → qD n m xs xs k = some (.inl ()) := fun m => by
  induction m with
  | zero => intro k h1 h2; omega
  | succ m ih =>
   intro k h1 h2
   rw [qD]
   by_cases hk : k < xs.length
   ·rw [Qu hk,cond_true,qk hk,Option.bind_some,Option.bind_some,bne_self_eq_false,cond_false,QK (by omega : k ≤ 1099511627776)]
    exact ih (k + 1) (by omega) (by omega)
   ·obtain rfl : k = xs.length := by omega
    rw [QE]
    rfl
 unfold qo
 rw [bne_self_eq_false,cond_false,show qD n n xs xs 0 = _ from loop n 0 (by omega) (by omega)]
 rfl
def Pdu.sz (x : Pdu) : Nat := x.Binds.length + QU zC.sz x.Binds
theorem zA4 (n : Nat) {x : Val} {b : Int} (h0 : 0 ≤ b) (h1 : b ≤ 1048576) (hl : Val.wf x) : ∃ r,Qd n x b = some r ∧ Lft b (x.S.size + x.O.length) r := by
 have hm : maxLen = 9223372036854775807 := by decide
 have hn := hl.2.2.1
 unfold Qd
 rw [wrap64 (by omega) (by omega)]
 by_cases h : b - (x.S.size : Int) < 0
 ·rw [decide_eq_true h]; exact ⟨_,rfl,.inl (by decide)⟩
 ·rw [decide_eq_false h]
  obtain ⟨r1,e1,k1⟩ := Ym n (xs := x.O) (b := b - x.S.size) (by omega) (by omega) hl.2.2.2.1.1
  simp only [cond_false,e1,Option.bind_some]
  rcases k1.neg with ⟨c1,c2⟩ | ⟨c1,c2,c3⟩
  ·rw [c1]; exact ⟨_,rfl,.inl (by decide)⟩
  ·rw [c1]; exact ⟨_,rfl,.inr ⟨c2,by omega⟩⟩
theorem zAn (n : Nat) {x : zC} {b : Int} (h0 : 0 ≤ b) (h1 : b ≤ 1048576) (hl : zC.wf x) : ∃ r,ZT n x b = some r ∧ Lft b x.sz r := by
 obtain ⟨w1,w2,w3,w4,w5,_⟩ := hl
 obtain ⟨r1,e1,k1⟩ := Ym n (xs := x.O) h0 h1 w1.1
 unfold ZT
 simp only [e1,Option.bind_some]
 rcases k1.neg with ⟨c1,c2⟩ | ⟨c1,c2,c3⟩
 ·rw [c1]; exact ⟨_,rfl,.inl (by decide)⟩
 ·rw [c1]
  obtain ⟨r2,e2,k2⟩ := zA4 n (x := x.V) c2 (by omega) ⟨w2,w3,w4,w5,trivial⟩
  simp only [cond_false,e2,Option.bind_some]
  rcases k2.neg with ⟨d1,d2⟩ | ⟨d1,d2,d3⟩
  ·rw [d1]; exact ⟨_,rfl,.inl (by decide)⟩
  ·rw [d1]; exact ⟨_,rfl,.inr ⟨d2,by unfold zC.sz; omega⟩⟩
theorem zA3 (n : Nat) {x : Pdu} {b : Int} (h0 : 0 ≤ b) (h1 : b ≤ 1048576) (hn : 1048576 < n) (hl : Pdu.wf x) : ∃ r,Qc n x b = some r ∧ Lft b x.sz r := by
 have hw := hl.2.2.2.2.1
 have key : ∃ r,Zo n x.Binds b = some r ∧ Lft b x.sz r := by
  obtain ⟨r0,e0,k0⟩ := zCe h0 h1 hw.1
  unfold Zo
  have hm : maxLen = 9223372036854775807 := by decide
  have hlen := hw.1
  rw [wrap64 (by omega) (by omega)] at e0 ⊢
  by_cases h : b - (x.Binds.length : Int) < 0
  ·rw [decide_eq_true h]; exact ⟨_,rfl,.inl (by decide)⟩
  ·rw [decide_eq_false h]
   obtain ⟨o,f1,f2⟩ := zCd (L := fun m xs i b => qS n m xs i b) (g := fun v b => ZT n v b) (sz := zC.sz) (fun m xs i b => rfl) x.Binds (by omega) (fun v hv b h0 h1 => zAn n h0 h1 (hw.2 v hv)) n 0 (b - x.Binds.length) (by omega) (by omega) (by omega) (by omega)
   simp only [cond_false]
   rw [show qS n n x.Binds 0 (b - (x.Binds.length : Int)) = _ from f1]
   rcases f2 with rfl | ⟨r,rfl,f3,f4⟩
   ·exact ⟨_,rfl,.inl (by decide)⟩
   ·exact ⟨_,rfl,.inr ⟨f3,by unfold Pdu.sz; simp only [List.drop_zero] at f4; omega⟩⟩
 obtain ⟨r,e,k⟩ := key
 unfold Qc
 rw [e,Option.bind_some]
 rcases k.neg with ⟨c1,c2⟩ | ⟨c1,c2,c3⟩
 ·rw [c1]; exact ⟨_,rfl,.inl (by decide)⟩
 ·rw [c1]; exact ⟨_,rfl,.inr ⟨c2,c3⟩⟩
theorem zAo (n : Nat) (v : zC) (h : v.sz ≤ 268435456) (hn : v.sz < n) : ZU n v = some v := by
 have hs : v.O.length + v.V.S.size + v.V.O.length = v.sz := rfl
 simp [ZU,YE,Yn n v.O (by omega) (by omega),Yn n v.V.O (by omega) (by omega)]
theorem zA5 (n : Nat) (x : Pdu) (h : x.sz ≤ 1048576) (hn : 1048576 < n) : ZG n x = some x := by
 have hs : x.Binds.length + QU zC.sz x.Binds = x.sz := rfl
 unfold ZG Qn
 rw [decide_eq_true (by omega : (0 : Int) ≤ (x.Binds.length : Int)),decide_eq_true (by omega : (x.Binds.length : Int) ≤ 268435456)]
 have := zAg (L := qT n) (f := ZU n) (fun m xs i ys => rfl) x.Binds (by omega) (fun v hv => by have := Yp (sz := zC.sz) hv; exact zAo n v (by omega) (by omega)) n 0 (List.replicate ((x.Binds.length : Int)).toNat (⟨([] : List Int),(⟨0,0,(⟨#[]⟩ : ByteArray),([] : List Int)⟩ : Val)⟩ : zC)) (by omega) (by omega) (by simp) rfl
 simp only [Bool.and_self,cond_true]
 rw [show (qT n n x.Binds 0 (List.replicate ((x.Binds.length : Int)).toNat (⟨([] : List Int),(⟨0,0,(⟨#[]⟩ : ByteArray),([] : List Int)⟩ : Val)⟩ : zC))) = _ from this]
 rfl
theorem zAR (n : Nat) (x : Pdu) (h : x.sz ≤ 1048576) (hn : 1048576 < n) : Qa n x x = some true := by
 have hs : x.Binds.length + QU zC.sz x.Binds = x.sz := rfl
 simp [Qa,Jj n x.Binds (by omega) (by omega)]
def ZQ (y : Int) : Nat := if -128 ≤ y ∧ y ≤ 127 then 1 else if -128 ≤ y / 256 ∧ y / 256 ≤ 127 then 2 else if -128 ≤ y / 256 / 256 ∧ y / 256 / 256 ≤ 127 then 3 else 4
theorem ZX (y : Int) : 1 ≤ ZQ y ∧ ZQ y ≤ 4 := by
 unfold ZQ
 split
 ·omega
 ·split
  ·omega
  ·split <;> omega
theorem zAN (y : Int) (k : Int) (p : Nat) (h : (2 ^ min k.toNat (IntKind.bits .i64) : Int) = p) : Int.fdiv y (2 ^ min k.toNat (IntKind.bits .i64)) = y / (p : Int) := by
 rw [h,Int.fdiv_eq_ediv_of_nonneg _ (by omega)]
theorem Zh (n m : Nat) (ys : List Int) (y : Int) (hl : ys.length ≤ 100) : z9 n (m + 1) ys y = if -128 ≤ y ∧ y ≤ 127 then some (.inl ys) else z9 n m ([IntKind.wrap .u8 (y / 256)] ++ ys) (y / 256) := by
 have hp : Int.fdiv y (2 ^ min ((8 : Int)).toNat (IntKind.bits .i64)) = y / 256 := zAN y 8 256 (by decide)
 have h8 : decide ((0 : Int) ≤ 8) = true := by decide
 rw [z9]
 simp only [hp,h8,cond_true]
 by_cases h1 : y < -128
 ·rw [decide_eq_true h1,cond_true,decide_eq_true (by simp <;> omega),cond_true,if_neg (by omega)]
 ·rw [decide_eq_false h1,cond_false]
  by_cases h2 : y > 127
  ·rw [decide_eq_true h2,cond_true,decide_eq_true (by simp <;> omega),cond_true,if_neg (by omega)]
  ·rw [decide_eq_false h2,cond_false,if_pos (by omega)]
theorem Zg (n : Nat) (hn : 10 < n) (y : Int) (h0 : -2147483648 ≤ y) (h1 : y ≤ 2147483647) : ∃ zs,qi n y = some zs ∧ zs.length = ZQ y := by
 obtain ⟨m,rfl⟩ : ∃ m,n = m + 4 := ⟨n - 4,by omega⟩
 have hc : z6 (m + 4) y = some y := by
  unfold z6
  rw [decide_eq_false (by omega),decide_eq_false (by omega)]
  rfl
 unfold qi
 rw [hc,Option.bind_some,Zh _ _ _ _ (by simp)]
 unfold ZQ
 by_cases a1 : -128 ≤ y ∧ y ≤ 127
 ·rw [if_pos a1,if_pos a1]
  exact ⟨_,rfl,rfl⟩
 ·rw [if_neg a1,if_neg a1,Zh _ _ _ _ (by simp)]
  by_cases a2 : -128 ≤ y / 256 ∧ y / 256 ≤ 127
  ·rw [if_pos a2,if_pos a2]
   exact ⟨_,rfl,rfl⟩
  ·rw [if_neg a2,if_neg a2,Zh _ _ _ _ (by simp)]
   by_cases a3 : -128 ≤ y / 256 / 256 ∧ y / 256 / 256 ≤ 127
   ·rw [if_pos a3,if_pos a3]
    exact ⟨_,rfl,rfl⟩
   ·rw [if_neg a3,if_neg a3,Zh _ _ _ _ (by simp),if_pos (by omega)]
    exact ⟨_,rfl,rfl⟩
theorem Zd (n : Nat) (hn : 10 < n) (y : Int) (h0 : -2147483648 ≤ y) (h1 : y ≤ 2147483647) : ∃ zs,ZJ n y = some zs ∧ zs.length = ZQ y := by
 have hc : (if (if 2147483647 < y then 2147483647 else y) > (-2147483648) then (if 2147483647 < y then 2147483647 else y) else (-2147483648)) = y := by
  rw [if_neg (show ¬ 2147483647 < y by omega)]
  split
  ·rfl
  ·omega
 have down : ∀ (j m : Nat) (ys : List Int),j < m → ys.length + j ≤ 100 → j ≤ 4 → ∃ zs,qN n m y ((j : Int) - 1) ys = some (.inl zs) ∧ zs.length = ys.length + j := fun j => by
  induction j with
  | zero =>
   intro m ys hm hl _
   obtain ⟨m,rfl⟩ : ∃ m',m = m' + 1 := ⟨m - 1,by omega⟩
   rw [qN,decide_eq_false (by omega)]
   exact ⟨ys,rfl,rfl⟩
  | succ j ih =>
   intro m ys hm hl hj
   obtain ⟨m,rfl⟩ : ∃ m',m = m' + 1 := ⟨m - 1,by omega⟩
   obtain ⟨zs,e,l⟩ := ih m (ys ++ [(IntKind.wrap .u8 (Int.fdiv y (2 ^ min (((IntKind.wrap .i64 (8 * (((j + 1 : Nat) : Int) - 1))) : Int)).toNat (IntKind.bits .i64))))]) (by omega) (by simp <;> omega) (by omega)
   rw [qN,hc,decide_eq_true (by omega),cond_true,decide_eq_true (by rw [wrap64 (by omega) (by omega)]; omega),cond_true,decide_eq_true (by simp <;> omega),cond_true,show IntKind.wrap .i64 (((j + 1 : Nat) : Int) - 1 - 1) = (j : Int) - 1 from by rw [wrap64 (by omega) (by omega)]; omega]
   exact ⟨zs,e,by rw [l]; simp; omega⟩
 have fin : ∀ j : Nat,j ≤ 4 → 1 ≤ j → ∃ zs,qx n y (j : Int) = some zs ∧ zs.length = j := fun j hj hj1 => by
  obtain ⟨zs,e,l⟩ := down j n [] (by omega) (by simp <;> omega) hj
  unfold qx
  rw [show IntKind.wrap .i64 ((j : Int) - 1) = (j : Int) - 1 from wrap64 (by omega) (by omega),e]
  exact ⟨zs,rfl,by rw [l]; simp⟩
 have step : ∀ (k lo hi : Int) (m : Nat),(decide (k < 4)) = true → decide ((0 : Int) ≤ (IntKind.wrap .i64 ((IntKind.wrap .i64 (8 * k)) - 1))) = true → (IntKind.wrap .i64 ((-1) * 2 ^ min (((IntKind.wrap .i64 ((IntKind.wrap .i64 (8 * k)) - 1)) : Int)).toNat (IntKind.bits .i64))) = lo → (IntKind.wrap .i64 ((IntKind.wrap .i64 (1 * 2 ^ min (((IntKind.wrap .i64 ((IntKind.wrap .i64 (8 * k)) - 1)) : Int)).toNat (IntKind.bits .i64))) - 1)) = hi →
   zf n (m + 1) y k = if lo ≤ y ∧ y ≤ hi then some (.inl k) else zf n m y (IntKind.wrap .i64 (k + 1)) := fun k lo hi m g1 g2 g3 g4 => by
  rw [zf,hc,g1,g2,g3,g4]
  simp only [cond_true]
  unfold qp
  by_cases hlo : lo ≤ y
  ·rw [decide_eq_true hlo,cond_true,Option.bind_some]
   by_cases hhi : y ≤ hi
   ·rw [decide_eq_true hhi,if_pos ⟨hlo,hhi⟩]; rfl
   ·rw [decide_eq_false hhi,if_neg (fun h => hhi h.2)]; rfl
  ·rw [decide_eq_false (show ¬ y ≥ lo from hlo),cond_false,Option.bind_some,if_neg (fun h => hlo h.1)]; rfl
 obtain ⟨m,hm⟩ : ∃ m,n = m + 4 := ⟨n - 4,by omega⟩
 have key : zf n n y 1 = some (.inl (ZQ y : Int)) := by
  rw [show zf n n y 1 = zf n (m + 4) y 1 by rw [← hm]]
  rw [step 1 (-128) 127 (m + 3) (by decide) (by decide) (by decide) (by decide),show IntKind.wrap .i64 ((1 : Int) + 1) = 2 by decide,step 2 (-32768) 32767 (m + 2) (by decide) (by decide) (by decide) (by decide),show IntKind.wrap .i64 ((2 : Int) + 1) = 3 by decide,step 3 (-8388608) 8388607 (m + 1) (by decide) (by decide) (by decide) (by decide),show IntKind.wrap .i64 ((3 : Int) + 1) = 4 by decide]
  unfold ZQ
  by_cases a1 : -128 ≤ y ∧ y ≤ 127
  ·rw [if_pos a1,if_pos a1]; rfl
  ·rw [if_neg a1,if_neg a1]
   by_cases a2 : -128 ≤ y / 256 ∧ y / 256 ≤ 127
   ·rw [if_pos (by omega),if_pos a2]; rfl
   ·rw [if_neg (by omega),if_neg a2]
    by_cases a3 : -128 ≤ y / 256 / 256 ∧ y / 256 / 256 ≤ 127
    ·rw [if_pos (by omega),if_pos a3]; rfl
    ·rw [if_neg (by omega),if_neg a3,zf,decide_eq_false (by decide)]; rfl
 obtain ⟨zs,e,l⟩ := fin (ZQ y) (ZX y).2 (ZX y).1
 refine ⟨zs,?_,l⟩
 unfold ZJ
 rw [key]
 exact e
def Zk (v : Int) : Nat := if v ≤ 127 then 1 else if v / 128 ≤ 127 then 2 else 3
theorem J2 (n : Nat) (hn : 10 < n) (v : Int) (h0 : 0 ≤ v) (h1 : v ≤ 100000) : ∃ zs,Zr n v = some zs ∧ zs.length = Zk v := by
 have step : ∀ (m : Nat) (ys : List Int) (y : Int),ys.length ≤ 100 → ∃ c,qF n (m + 1) ys y = if y ≤ 127 then some (.inl ys) else qF n m ([c] ++ ys) (y / 128) := fun m ys y hl => by
  have hp : Int.fdiv y (2 ^ min ((7 : Int)).toNat (IntKind.bits .i64)) = y / 128 := zAN y 7 128 (by decide)
  have h7 : decide ((0 : Int) ≤ 7) = true := by decide
  rw [qF]
  simp only [hp,h7,cond_true]
  by_cases h : y > 127
  ·rw [decide_eq_true h,cond_true,decide_eq_true (by simp <;> omega),cond_true]
   exact ⟨_,by rw [if_neg (by omega)]⟩
  ·rw [decide_eq_false h,cond_false]
   exact ⟨0,by rw [if_pos (by omega)]⟩
 obtain ⟨m,rfl⟩ : ∃ m,n = m + 4 := ⟨n - 4,by omega⟩
 unfold Zr
 generalize (IntKind.wrap .u8 (IntKind.wrap .i64 (BitVec.ofInt (IntKind.bits .i64) v &&& BitVec.ofInt (IntKind.bits .i64) 127).toNat)) = c0
 obtain ⟨c1,e1⟩ := step (m + 3) [c0] v (by simp)
 obtain ⟨c2,e2⟩ := step (m + 2) ([c1] ++ [c0]) (v / 128) (by simp)
 obtain ⟨c3,e3⟩ := step (m + 1) ([c2] ++ ([c1] ++ [c0])) (v / 128 / 128) (by simp)
 unfold Zk
 rw [e1]
 by_cases a1 : v ≤ 127
 ·rw [if_pos a1,if_pos a1]; exact ⟨_,rfl,rfl⟩
 ·rw [if_neg a1,if_neg a1,e2]
  by_cases a2 : v / 128 ≤ 127
  ·rw [if_pos a2,if_pos a2]; exact ⟨_,rfl,rfl⟩
  ·rw [if_neg a2,if_neg a2,e3,if_pos (by omega)]; exact ⟨_,rfl,rfl⟩
theorem zAj (n : Nat) (hn : 10 < n) (v : Int) (h0 : 0 ≤ v) (h1 : v ≤ 100000) : zl n n v 0 = some (.inl ((Zk v : Int) - 1)) := by
 obtain ⟨m,hm⟩ : ∃ m,n = m + 4 := ⟨n - 4,by omega⟩
 have step : ∀ (k : Int) (p : Nat) (m : Nat),decide ((0 : Int) ≤ (IntKind.wrap .i64 (7 * k))) = true → (2 ^ min (((IntKind.wrap .i64 (7 * k)) : Int)).toNat (IntKind.bits .i64) : Int) = p → zl n (m + 1) v k = if v / (p : Int) ≤ 127 then some (.inl k) else zl n m v (IntKind.wrap .i64 (k + 1)) := fun k p m g1 g2 => by
  rw [zl,g1,cond_true,zAN v _ p g2]
  by_cases h : v / (p : Int) > 127
  ·rw [decide_eq_true h,cond_true,if_neg (by omega)]
  ·rw [decide_eq_false h,cond_false,if_pos (by omega)]
 rw [show zl n n v 0 = zl n (m + 4) v 0 by rw [← hm]]
 rw [step 0 1 (m + 3) (by decide) (by decide),show IntKind.wrap .i64 ((0 : Int) + 1) = 1 by decide,step 1 128 (m + 2) (by decide) (by decide),show IntKind.wrap .i64 ((1 : Int) + 1) = 2 by decide,step 2 16384 (m + 1) (by decide) (by decide)]
 unfold Zk
 by_cases a1 : v ≤ 127
 ·rw [if_pos (by omega),if_pos a1]; rfl
 ·rw [if_neg (by omega),if_neg a1]
  by_cases a2 : v / 128 ≤ 127
  ·rw [if_pos (by omega),if_pos a2]; rfl
  ·rw [if_neg (by omega),if_neg a2,if_pos (by omega)]; rfl
def qU : List Int → Nat
 | [] => 0
 | v :: vs => Zk v + qU vs
theorem Jf (v : Int) : 1 ≤ Zk v ∧ Zk v ≤ 3 := by
 unfold Zk
 split
 ·omega
 ·split <;> omega
theorem Qw : ∀ xs : List Int,qU xs ≤ 3 * xs.length
 | [] => by simp [qU]
 | v :: vs => by
  have := Qw vs
  have := (Jf v).2
  simp only [qU,List.length_cons]
  omega
def zAU (o : List Int) : Prop := (∀ v ∈ o,0 ≤ v ∧ v ≤ 100000) ∧ 1 ≤ o.length ∧ o.length ≤ 10
theorem QM (n : Nat) : ZE n = zh n := by
 have hL : qm n = zk n := by
  funext m
  induction m with
  | zero => rfl
  | succ m ih => funext x i; simp only [qm,zk,ih,QY]
 funext o
 unfold ZE zh
 rw [hL]
 rfl
theorem Z5 (n : Nat) (o : List Int) (h : o.length ≤ 1048580) (hn : o.length < n) : ∃ b,zh n o = some b ∧ (b = true → zAU o) := by
 have loop : ∀ (m k : Nat),k ≤ o.length → o.length < m + k → (∀ j (hj : j < o.length),j < k → 0 ≤ o[j] ∧ o[j] ≤ 100000) → zk n m o k = some (.inr false) ∨ (zk n m o k = some (.inl ()) ∧ ∀ j (hj : j < o.length),0 ≤ o[j] ∧ o[j] ≤ 100000) := fun m => by
  induction m with
  | zero => intro k h1 h2; omega
  | succ m ih =>
   intro k h1 h2 hk0
   rw [zk]
   by_cases hk : k < o.length
   ·rw [Qu hk,cond_true,qk hk,Option.bind_some,qf,Option.bind_some,QK (by omega : k ≤ 1099511627776)]
    by_cases hv : 0 ≤ o[k] ∧ o[k] ≤ 100000
    ·rw [decide_eq_true hv.1,decide_eq_true hv.2]
     exact ih (k + 1) (by omega) (by omega) fun j hj hjk => by
      by_cases hjk' : j = k
      ·subst hjk'; exact hv
      ·exact hk0 j hj (by omega)
    ·have : (decide (0 ≤ o[k]) && decide (o[k] ≤ 100000)) = false := by
      simp only [Bool.and_eq_false_iff,decide_eq_false_iff_not]; omega
     rw [this]
     exact .inl rfl
   ·obtain rfl : k = o.length := by omega
    rw [QE]
    exact .inr ⟨rfl,fun j hj => hk0 j hj hj⟩
 unfold zh
 rcases loop n 0 (by omega) (by omega) (fun j hj h0 => by omega) with e | ⟨e,hv⟩
 ·rw [show zk n n o 0 = _ from e]
  exact ⟨false,rfl,fun h => by cases h⟩
 ·rw [show zk n n o 0 = _ from e]
  simp only [Option.bind_some,Zp,qf]
  refine ⟨_,rfl,fun h => ?_⟩
  simp only [Bool.and_eq_true,decide_eq_true_eq] at h
  exact ⟨fun v hv' => by obtain ⟨j,hj,rfl⟩ := List.getElem_of_mem hv'; exact hv j hj,by omega,by omega⟩
theorem zAG {o : List Int} {k : Nat} (hk : k < o.length) : qU (o.drop k) = Zk o[k] + qU (o.drop (k + 1)) := by
 rw [List.drop_eq_getElem_cons hk]
 rfl
theorem Yg (n : Nat) (hn : 100 < n) (o : List Int) (ho : zAU o) (hb : zh n o = some true) : ∃ zs,ZW n o = some zs ∧ zs.length = qU o := by
 have loop : ∀ (m k : Nat) (ys : List Int),k ≤ o.length → o.length < m + k → ys.length ≤ 3 * k → ∃ zs,qP n m o k ys = some (.inl zs) ∧ zs.length = ys.length + qU (o.drop k) := fun m => by
  induction m with
  | zero => intro k ys h1 h2; omega
  | succ m ih =>
   intro k ys h1 h2 hl
   have h10 := ho.2.2
   rw [qP]
   by_cases hk : k < o.length
   ·have hv := ho.1 _ (List.getElem_mem hk)
    obtain ⟨g,e,l⟩ := J2 n (by omega) o[k] hv.1 hv.2
    have := (Jf o[k]).2
    obtain ⟨zs,e2,l2⟩ := ih (k + 1) (ys ++ g) (by omega) (by omega) (by simp <;> omega)
    rw [Qu hk,cond_true,qk hk,Option.bind_some,e,Option.bind_some,decide_eq_true (by omega),cond_true,QK (by omega : k ≤ 1099511627776)]
    exact ⟨zs,e2,by rw [l2,List.length_append,l,zAG hk]; omega⟩
   ·obtain rfl : k = o.length := by omega
    rw [QE]
    exact ⟨ys,rfl,by simp [qU]⟩
 obtain ⟨zs,e,l⟩ := loop n 0 [] (by omega) (by have := ho.2.2; omega) (by simp)
 refine ⟨zs,?_,by rw [l]; simp⟩
 unfold ZW
 rw [hb,Option.bind_some,Bool.not_true,cond_false,show qP n n o 0 [] = _ from e]
 rfl
theorem Yd (n : Nat) (hn : 100 < n) (o : List Int) (ho : zAU o) (hb : zh n o = some true) : ∃ zs,ZK n o = some zs ∧ zs.length = qU o := by
 have bytes : ∀ (j m : Nat) (v : Int) (ys : List Int),j < m → j ≤ 5 → ys.length + j ≤ 1000 → ∃ zs,z8 n m v j ys = some (.inl zs) ∧ zs.length = ys.length + j := fun j => by
  induction j with
  | zero =>
   intro m v ys hm _ _
   obtain ⟨m,rfl⟩ : ∃ m',m = m' + 1 := ⟨m - 1,by omega⟩
   rw [z8,decide_eq_false (by omega)]
   exact ⟨ys,rfl,rfl⟩
  | succ j ih =>
   intro m v ys hm hj hl
   obtain ⟨m,rfl⟩ : ∃ m',m = m' + 1 := ⟨m - 1,by omega⟩
   rw [z8,decide_eq_true (by omega),cond_true,decide_eq_true (by rw [wrap64 (by omega) (by omega)]; omega),cond_true,decide_eq_true (by simp <;> omega),cond_true,show IntKind.wrap .i64 (((j + 1 : Nat) : Int) - 1) = (j : Int) from by rw [wrap64 (by omega) (by omega)]; omega]
   have ih' : ∀ c : Int,∃ zs,z8 n m v (j : Int) (ys ++ [c]) = some (.inl zs) ∧ zs.length = ys.length + (j + 1) := fun c => by
    obtain ⟨zs,e,l⟩ := ih m v (ys ++ [c]) (by omega) (by omega) (by rw [List.length_append,List.length_singleton]; omega)
    exact ⟨zs,e,by rw [l,List.length_append,List.length_singleton]; omega⟩
   exact ih' _
 have loop : ∀ (m k : Nat) (ys : List Int),k ≤ o.length → o.length < m + k → ys.length ≤ 3 * k → ∃ zs,zZ n m o k ys = some (.inl zs) ∧ zs.length = ys.length + qU (o.drop k) := fun m => by
  induction m with
  | zero => intro k ys h1 h2; omega
  | succ m ih =>
   intro k ys h1 h2 hl
   have h10 := ho.2.2
   rw [zZ]
   by_cases hk : k < o.length
   ·have hv := ho.1 _ (List.getElem_mem hk)
    have hg := Jf o[k]
    obtain ⟨g,e,l⟩ := bytes (Zk o[k] - 1) n o[k] ys (by omega) (by omega) (by omega)
    rw [Qu hk,cond_true,qk hk,Option.bind_some,zAj n (by omega) _ hv.1 hv.2,Option.bind_some]
    simp only [ZL]
    rw [show ((Zk o[k] : Int) - 1) = ((Zk o[k] - 1 : Nat) : Int) by omega,e,Option.bind_some]
    simp only [ZM]
    rw [decide_eq_true (by rw [List.length_singleton]; omega),cond_true,QK (by omega : k ≤ 1099511627776)]
    have ih' : ∀ c : Int,∃ zs,zZ n m o ((k + 1 : Nat) : Int) (g ++ [c]) = some (.inl zs) ∧ zs.length = ys.length + qU (o.drop k) := fun c => by
     obtain ⟨zs,e2,l2⟩ := ih (k + 1) (g ++ [c]) (by omega) (by omega) (by rw [List.length_append,List.length_singleton]; omega)
     exact ⟨zs,e2,by rw [l2,List.length_append,List.length_singleton,zAG hk]; omega⟩
    exact ih' _
   ·obtain rfl : k = o.length := by omega
    rw [QE]
    exact ⟨ys,rfl,by simp [qU]⟩
 obtain ⟨zs,e,l⟩ := loop n 0 [] (by omega) (by have := ho.2.2; omega) (by simp)
 refine ⟨zs,?_,by rw [l]; simp⟩
 unfold ZK
 rw [QM,hb,Option.bind_some,Bool.not_true,cond_false,show zZ n n o 0 [] = _ from e]
 rfl
def qX (k : Nat) : Nat := k + 2 + (if 128 ≤ k then 1 else 0)
theorem zc (n : Nat) (b : List Int) (t : Int) (body : List Int) (hb : b.length ≤ 10000) (h0 : 0 ≤ t) (h1 : t ≤ 255) (hl : body.length ≤ 250) : ∃ zs,zb n b t body = some zs ∧ zs.length = b.length + qX body.length := by
 unfold zb qX
 rw [decide_eq_true (by simp <;> omega),cond_true,qf,Option.bind_some,decide_eq_true h0,decide_eq_true h1]
 simp only [Bool.and_self,Bool.not_true,cond_false]
 rw [decide_eq_false (show ¬ (body.length : Int) > 250 by omega),cond_false,decide_eq_true (by simp <;> omega),cond_true]
 by_cases h : 128 ≤ body.length
 ·rw [decide_eq_true (show (body.length : Int) > 127 by omega),cond_true,decide_eq_true (by simp <;> omega),cond_true,if_pos h]
  unfold qe
  rw [decide_eq_true (by simp <;> omega),cond_true,decide_eq_true (by simp <;> omega),cond_true]
  exact ⟨_,rfl,by simp <;> omega⟩
 ·rw [decide_eq_false (show ¬ (body.length : Int) > 127 by omega),cond_false,if_neg h]
  unfold qe
  rw [decide_eq_true (by simp <;> omega),cond_true,decide_eq_true (by simp <;> omega),cond_true]
  exact ⟨_,rfl,by simp <;> omega⟩
theorem Ql (n : Nat) (t : Int) (body : List Int) (h0 : 0 ≤ t) (h1 : t ≤ 255) : (body.length ≤ 250 → ∃ zs,ZB n t body = some (zs,true) ∧ zs.length = qX body.length) ∧ (250 < body.length → ZB n t body = some ([],false)) := by
 unfold ZB qX
 rw [QY,qf,Option.bind_some,decide_eq_true h0,decide_eq_true h1]
 simp only [Bool.and_self,Bool.not_true,cond_false]
 refine ⟨fun hl => ?_,fun hl => by rw [decide_eq_true (by omega)]; rfl⟩
 rw [decide_eq_false (show ¬ (body.length : Int) > 250 by omega),cond_false]
 by_cases h : 128 ≤ body.length
 ·rw [decide_eq_true (show (body.length : Int) ≥ 128 by omega),cond_true,decide_eq_true (by simp),cond_true,if_pos h]
  unfold ZF
  rw [decide_eq_true (by simp),cond_true,decide_eq_true (by simp <;> omega),cond_true]
  exact ⟨_,rfl,by simp <;> omega⟩
 ·rw [decide_eq_false (show ¬ (body.length : Int) ≥ 128 by omega),cond_false,if_neg h]
  unfold ZF
  rw [decide_eq_true (by simp),cond_true,decide_eq_true (by simp <;> omega),cond_true]
  exact ⟨_,rfl,by simp <;> omega⟩
theorem z3 (n : Nat) (b : List Int) (t : Int) (body : List Int) (hb : b.length ≤ 10000) (h0 : 0 ≤ t) (h1 : t ≤ 255) (hl : body.length ≤ 250) : ∃ zs,qI n b t body = some zs ∧ zs.length = b.length + qX body.length := by
 obtain ⟨zs,e,l⟩ := (Ql n t body h0 h1).1 hl
 have ht : qX body.length ≤ 260 := by unfold qX; split <;> omega
 unfold qI ZA
 rw [e,Option.bind_some,decide_eq_true (by simp <;> omega),cond_true,Option.bind_some,List.nil_append,decide_eq_true (by simp only; omega),cond_true]
 exact ⟨_,rfl,by rw [List.length_append]; simp only; omega⟩
def zAZ (v : Val) : Prop := (v.K = 2 ∧ -2147483648 ≤ v.N ∧ v.N ≤ 2147483647) ∨ (v.K = 4 ∧ v.S.size ≤ 20) ∨ (v.K = 6 ∧ zAU v.O) ∨ v.K = 5 ∨ v.K = 128 ∨ v.K = 130
def QJ (v : Val) : Nat := if v.K = 2 then ZQ v.N else if v.K = 4 then v.S.size else if v.K = 6 then qU v.O else 0
theorem zCI (n : Nat) (hn : 10 < n) (o : List Int) : qo n o [] = some ((o.length : Int) == 0) := by
 unfold qo
 cases o with
 | nil =>
  obtain ⟨m,rfl⟩ : ∃ m,n = m + 1 := ⟨n - 1,by omega⟩
  rfl
 | cons v vs =>
  have h1 : (((v :: vs).length : Int) != (([] : List Int).length : Int)) = true := by simp <;> omega
  have h2 : (((v :: vs).length : Int) == 0) = false := by simp <;> omega
  rw [h1,h2]; rfl
theorem zC2 (n : Nat) (hn : 1048577 < n) (v : Val) (h : v.O.length ≤ 1048576) : ∃ b,z7 n v = some b ∧ qJ n v = some b ∧ (b = true → zAZ v) := by
 obtain ⟨K,N,S,O⟩ := v
 simp only at h
 have so := zCI n (by omega) O
 have sr := Jg n O (by omega) (by omega)
 obtain ⟨q,oq,hq⟩ := Z5 n O (by omega) (by omega)
 have clip : z6 n N = some (if N > 2147483647 then 2147483647 else if N < -2147483648 then -2147483648 else N) := by
  unfold z6
  by_cases h1 : N > 2147483647
  ·rw [decide_eq_true h1,if_pos h1]; rfl
  ·rw [decide_eq_false h1,if_neg h1]
   by_cases h2 : N < -2147483648
   ·rw [decide_eq_true h2,if_pos h2]; rfl
   ·rw [decide_eq_false h2,if_neg h2]; rfl
 unfold z7 qJ
 simp only [qa,qK,Zu,QY,qf,QM,oq,clip,so,sr,Option.bind_some]
 generalize (S.toList == (⟨#[]⟩ : ByteArray).toList) = s
 generalize hl : ((O.length : Int) == 0) = l
 by_cases k2 : K = 2
 ·subst k2
  by_cases hN : -2147483648 ≤ N ∧ N ≤ 2147483647
  ·rw [decide_eq_true hN.1,decide_eq_true hN.2,if_neg (by omega),if_neg (by omega)]
   refine ⟨s && l,?_,?_,fun _ => .inl ⟨rfl,hN⟩⟩
   ·cases s <;> simp
   ·cases s <;> simp
  ·have hN' : (decide (-2147483648 ≤ N) && decide (N ≤ 2147483647)) = false := by
    simp only [Bool.and_eq_false_iff,decide_eq_false_iff_not]; omega
   have hc : ((if N > 2147483647 then (2147483647 : Int) else if N < -2147483648 then -2147483648 else N) == N) = false := by
    rw [beq_eq_false_iff_ne]
    split
    ·omega
    ·split <;> omega
   rw [hN',hc]
   exact ⟨false,rfl,rfl,fun h => by cases h⟩
 ·have e2 : (K == 2) = false := by simpa using k2
  by_cases k4 : K = 4
  ·subst k4
   by_cases hS : (S.size : Int) ≤ 20
   ·rw [decide_eq_true hS]
    refine ⟨(N == 0) && l,?_,?_,fun _ => .inr (.inl ⟨rfl,by simp only; omega⟩)⟩
    ·cases (N == 0) <;> simp
    ·cases (N == 0) <;> simp
   ·rw [decide_eq_false hS]
    exact ⟨false,rfl,rfl,fun h => by cases h⟩
  ·have e4 : (K == 4) = false := by simpa using k4
   by_cases k6 : K = 6
   ·subst k6
    cases q with
    | false => exact ⟨false,rfl,rfl,fun h => by cases h⟩
    | true =>
     refine ⟨(N == 0) && s,?_,?_,fun _ => .inr (.inr (.inl ⟨rfl,hq rfl⟩))⟩
     ·cases (N == 0) <;> simp
     ·cases (N == 0) <;> cases s <;> simp
   ·have e6 : (K == 6) = false := by simpa using k6
    rw [e2,e4,e6]
    by_cases k5 : K = 5
    ·subst k5
     refine ⟨(N == 0) && (s && l),?_,?_,fun _ => .inr (.inr (.inr (.inl rfl)))⟩
     ·cases (N == 0) <;> cases s <;> simp
     ·cases (N == 0) <;> cases s <;> simp
    ·have e5 : (K == 5) = false := by simpa using k5
     by_cases k128 : K = 128
     ·subst k128
      refine ⟨(N == 0) && (s && l),?_,?_,fun _ => .inr (.inr (.inr (.inr (.inl rfl))))⟩
      ·cases (N == 0) <;> cases s <;> simp
      ·cases (N == 0) <;> cases s <;> simp
     ·have e128 : (K == 128) = false := by simpa using k128
      by_cases k130 : K = 130
      ·subst k130
       refine ⟨(N == 0) && (s && l),?_,?_,fun _ => .inr (.inr (.inr (.inr (.inr rfl))))⟩
       ·cases (N == 0) <;> cases s <;> simp
       ·cases (N == 0) <;> cases s <;> simp
      ·have e130 : (K == 130) = false := by simpa using k130
       rw [e5,e128,e130]
       exact ⟨false,rfl,rfl,fun h => by cases h⟩
theorem zAX (n : Nat) (hn : 1000 < n) (b : List Int) (v : Val) (hb : b.length ≤ 9000) (hv : zAZ v) (hk : z7 n v = some true) : ∃ zs,QI n b v = some zs ∧ zs.length = b.length + qX (QJ v) := by
 unfold QI QJ
 rw [hk,Option.bind_some,Bool.not_true,cond_false]
 rcases hv with ⟨k,h1,h2⟩ | ⟨k,h1⟩ | ⟨k,h1⟩ | k | k | k
 ·obtain ⟨zs,e,l⟩ := Zg n (by omega) v.N h1 h2
  obtain ⟨us,e2,l2⟩ := zc n b v.K zs (by omega) (by omega) (by omega) (by have := ZX v.N; omega)
  simp only [k,beq_self_eq_true,cond_true,e,Option.bind_some] at e2 ⊢
  rw [e2]
  exact ⟨us,rfl,by rw [l2,l]; rfl⟩
 ·obtain ⟨us,e2,l2⟩ := zc n b v.K (bytesOf v.S) (by omega) (by omega) (by omega) (by rw [bytesOf_length]; omega)
  have e0 : ((4 : Int) == 2) = false := rfl
  simp only [k,e0,beq_self_eq_true,cond_true,cond_false,decide_eq_true (show v.S.size ≤ 268435456 by omega)] at e2 ⊢
  rw [e2]
  exact ⟨us,rfl,by rw [l2,bytesOf_length]; rfl⟩
 ·obtain ⟨q,oq,_⟩ := Z5 n v.O (by have := h1.2.2; omega) (by have := h1.2.2; omega)
  have hq : q = true := by
   unfold z7 at hk
   have e0 : ((6 : Int) == 5) = false := rfl
   have e1 : ((6 : Int) == 128) = false := rfl
   have e2 : ((6 : Int) == 130) = false := rfl
   have e3 : ((6 : Int) == 2) = false := rfl
   have e4 : ((6 : Int) == 4) = false := rfl
   simp only [k,e0,e1,e2,e3,e4,qa,cond_false,beq_self_eq_true,cond_true,oq,Option.bind_some] at hk
   cases q with
   | true => rfl
   | false => cases hk
  subst hq
  obtain ⟨zs,e,l⟩ := Yg n (by omega) v.O h1 oq
  have := Qw v.O
  have := h1.2.2
  obtain ⟨us,e2,l2⟩ := zc n b v.K zs (by omega) (by omega) (by omega) (by omega)
  have e0 : ((6 : Int) == 2) = false := rfl
  have e1 : ((6 : Int) == 4) = false := rfl
  simp only [k,e0,e1,beq_self_eq_true,cond_true,cond_false,e,Option.bind_some] at e2 ⊢
  rw [e2]
  exact ⟨us,rfl,by rw [l2,l]; rfl⟩
 all_goals
  obtain ⟨us,e2,l2⟩ := zc n b v.K [] (by omega) (by omega) (by omega) (by simp)
  have e0 : ∀ z : Int,(v.K == z) = decide (v.K = z) := fun z => by
   by_cases h : v.K = z
   ·simp [h]
   ·simp [h]
  rw [e0 2,e0 4,e0 6,decide_eq_false (show ¬ v.K = 2 by omega),decide_eq_false (show ¬ v.K = 4 by omega),decide_eq_false (show ¬ v.K = 6 by omega)]
  simp only [cond_false,e2,Option.bind_some]
  exact ⟨us,rfl,by rw [l2,if_neg (by omega),if_neg (by omega),if_neg (by omega)]; rfl⟩
theorem zAO (n : Nat) (hn : 1000 < n) (b : List Int) (v : Val) (hb : b.length ≤ 9000) (hv : zAZ v) (hk : qJ n v = some true) : ∃ zs,QB n b v = some zs ∧ zs.length = b.length + qX (QJ v) := by
 unfold QB QJ
 rw [hk,Option.bind_some,Bool.not_true,cond_false]
 rcases hv with ⟨k,h1,h2⟩ | ⟨k,h1⟩ | ⟨k,h1⟩ | k | k | k
 ·obtain ⟨zs,e,l⟩ := Zd n (by omega) v.N h1 h2
  obtain ⟨us,e2,l2⟩ := z3 n b v.K zs (by omega) (by omega) (by omega) (by have := ZX v.N; omega)
  simp only [k,beq_self_eq_true,cond_true,e,Option.bind_some] at e2 ⊢
  rw [e2]
  exact ⟨us,rfl,by rw [l2,l]; rfl⟩
 ·obtain ⟨us,e2,l2⟩ := z3 n b v.K (bytesOf v.S) (by omega) (by omega) (by omega) (by rw [bytesOf_length]; omega)
  have e0 : ((4 : Int) == 2) = false := rfl
  simp only [k,e0,beq_self_eq_true,cond_true,cond_false,decide_eq_true (show v.S.size ≤ 268435456 by omega)] at e2 ⊢
  rw [e2]
  exact ⟨us,rfl,by rw [l2,bytesOf_length]; rfl⟩
 ·obtain ⟨q,oq,_⟩ := Z5 n v.O (by have := h1.2.2; omega) (by have := h1.2.2; omega)
  have hq : q = true := by
   unfold qJ at hk
   have e3 : ((6 : Int) == 2) = false := rfl
   have e4 : ((6 : Int) == 4) = false := rfl
   simp only [k,e3,e4,cond_false,beq_self_eq_true,cond_true,QM,oq,Option.bind_some] at hk
   cases q with
   | true => rfl
   | false => cases hk
  subst hq
  obtain ⟨zs,e,l⟩ := Yd n (by omega) v.O h1 oq
  have := Qw v.O
  have := h1.2.2
  obtain ⟨us,e2,l2⟩ := z3 n b v.K zs (by omega) (by omega) (by omega) (by omega)
  have e0 : ((6 : Int) == 2) = false := rfl
  have e1 : ((6 : Int) == 4) = false := rfl
  simp only [k,e0,e1,beq_self_eq_true,cond_true,cond_false,e,Option.bind_some] at e2 ⊢
  rw [e2]
  exact ⟨us,rfl,by rw [l2,l]; rfl⟩
 all_goals
  obtain ⟨us,e2,l2⟩ := z3 n b v.K [] (by omega) (by omega) (by omega) (by simp)
  have e0 : ∀ z : Int,(v.K == z) = decide (v.K = z) := fun z => by
   by_cases h : v.K = z
   ·simp [h]
   ·simp [h]
  rw [e0 2,e0 4,e0 6,decide_eq_false (show ¬ v.K = 2 by omega),decide_eq_false (show ¬ v.K = 4 by omega),decide_eq_false (show ¬ v.K = 6 by omega)]
  simp only [cond_false,e2,Option.bind_some]
  exact ⟨us,rfl,by rw [l2,if_neg (by omega),if_neg (by omega),if_neg (by omega)]; rfl⟩
def YC (n : Nat) (v : zC) : Bool := (zh n v.O == some true) && (z7 n v.V == some true)
theorem zCN {t : Nat → Bool} : ∀ (d k : Nat),Q9 t d k = true → ∀ j,k ≤ j → j < k + d → t j = true
 | 0,k,h,j,h1,h2 => by omega
 | d + 1,k,h,j,h1,h2 => by
  rw [Q9,Bool.and_eq_true] at h
  by_cases hj : j = k
  ·subst hj; exact h.1
  ·exact zCN d (k + 1) h.2 j (by omega) (by omega)
theorem zBW {t u : Nat → Bool} : ∀ (d k : Nat),(∀ j,k ≤ j → j < k + d → u j = true) → Q9 (fun j => u j && t j) d k = Q9 t d k
 | 0,k,h => rfl
 | d + 1,k,h => by
  rw [Q9,Q9,zBW d (k + 1) (fun j h1 h2 => h j (by omega) (by omega)),h k (by omega) (by omega),Bool.true_and]
theorem zBX {t : Nat → Bool} {m : Nat} : ∀ (d k : Nat),k ≤ m → m < k + d → Q9 (fun j => decide (j < m) && t j) d k = false
 | 0,k,h,h1 => by omega
 | d + 1,k,h,h1 => by
  rw [Q9]
  by_cases hk : k = m
  ·rw [decide_eq_false (by omega)]; rfl
  ·rw [zBX d (k + 1) (by omega) (by omega),Bool.and_false]
def zDd (n : Nat) (x : Pdu) : Prop := (160 ≤ x.Ki ∧ x.Ki ≤ 165) ∧ (-2147483648 ≤ x.Id ∧ x.Id ≤ 2147483647) ∧ (0 ≤ x.A ∧ x.A ≤ 1000) ∧ (0 ≤ x.B ∧ x.B ≤ 1000) ∧ x.Binds.length ≤ 10 ∧ ∀ v ∈ x.Binds,zAU v.O ∧ zh n v.O = some true ∧ zAZ v.V ∧ z7 n v.V = some true ∧ qJ n v.V = some true
theorem zCw (n : Nat) (hn : 1048577 < n) (x : Pdu) (h : x.sz ≤ 1048576) : ∃ b,Qf n x = some b ∧ QX n x = some b ∧ (b = true → zDd n x) := by
 have hs : x.Binds.length + QU zC.sz x.Binds = x.sz := rfl
 have one : ∀ v ∈ x.Binds,∃ a b,zh n v.O = some a ∧ (a = true → zAU v.O) ∧ z7 n v.V = some b ∧ qJ n v.V = some b ∧ (b = true → zAZ v.V) ∧ YC n v = (a && b) := fun v hv => by
  have h1 := Yp (sz := zC.sz) hv
  have h2 : v.O.length + v.V.S.size + v.V.O.length = v.sz := rfl
  obtain ⟨a,a1,a2⟩ := Z5 n v.O (by omega) (by omega)
  obtain ⟨b,b1,b2,b3⟩ := zC2 n hn v.V (by omega)
  refine ⟨a,b,a1,a2,b1,b2,b3,?_⟩
  unfold YC
  rw [a1,b1]
  cases a <;> cases b <;> rfl
 have tk : ∀ (k : Nat) (hk : k < x.Binds.length),(match x.Binds[k]? with | some v => YC n v | none => false) = YC n x.Binds[k] := fun k hk => by rw [List.getElem?_eq_getElem hk]
 have l1 := zAM (L := fun m i => zy n m x i) (t := fun k => match x.Binds[k]? with | some v => YC n v | none => false) (fun m k hk => by
  show zy n (m + 1) x k = _
  obtain ⟨a,b,a1,_,b1,_,_,e⟩ := one _ (List.getElem_mem hk)
  rw [zy,Qu hk,cond_true,qk hk,Option.bind_some,Option.bind_some,a1,b1,Option.bind_some,Option.bind_some,QK (by omega : k ≤ 1099511627776),tk k hk,e]
  cases a <;> cases b <;> rfl) (fun m => by show zy n (m + 1) x _ = _; rw [zy,QE]; rfl) x.Binds.length n 0 (by omega) (by omega)
 have l2 := zAM (L := fun m i => zw n m x i) (t := fun k => decide (k < 10) && (match x.Binds[k]? with | some v => YC n v | none => false)) (fun m k hk => by
  show zw n (m + 1) x k = _
  obtain ⟨a,b,a1,_,_,b1,_,e⟩ := one _ (List.getElem_mem hk)
  rw [zw,Qu hk,cond_true,qk hk,Option.bind_some,QM,a1,b1,Option.bind_some,Option.bind_some,QK (by omega : k ≤ 1099511627776),tk k hk,e]
  by_cases h10 : k < 10
  ·rw [decide_eq_false (show ¬ (k : Int) ≥ 10 by omega),decide_eq_true h10]
   cases a <;> cases b <;> rfl
  ·rw [decide_eq_true (show (k : Int) ≥ 10 by omega),decide_eq_false h10]
   rfl) (fun m => by show zw n (m + 1) x _ = _; rw [zw,QE]; rfl) x.Binds.length n 0 (by omega) (by omega)
 have l1 : zy n n x 0 = _ := l1
 have l2 : zw n n x 0 = _ := l2
 generalize hA : Q9 (fun k => match x.Binds[k]? with | some v => YC n v | none => false) x.Binds.length 0 = A at l1
 have hB : Q9 (fun k => decide (k < 10) && (match x.Binds[k]? with | some v => YC n v | none => false)) x.Binds.length 0 = (decide (x.Binds.length ≤ 10) && A) := by
  by_cases hl : x.Binds.length ≤ 10
  ·rw [zBW (u := fun k => decide (k < 10)) (t := fun k => match x.Binds[k]? with | some v => YC n v | none => false) _ _ (fun j _ hj => decide_eq_true (by omega)),hA,decide_eq_true hl,Bool.true_and]
  ·rw [zBX (t := fun k => match x.Binds[k]? with | some v => YC n v | none => false) _ _ (by omega) (by omega),decide_eq_false hl,Bool.false_and]
 rw [hB] at l2
 have good : A = true → x.Binds.length ≤ 10 → ∀ v ∈ x.Binds,zAU v.O ∧ zh n v.O = some true ∧ zAZ v.V ∧ z7 n v.V = some true ∧ qJ n v.V = some true := fun hAt _ v hv => by
  subst hAt
  obtain ⟨j,hj,rfl⟩ := List.getElem_of_mem hv
  have := zCN _ _ hA j (by omega) (by omega)
  rw [tk j hj] at this
  obtain ⟨a,b,a1,a2,b1,b2,b3,e⟩ := one _ hv
  rw [e,Bool.and_eq_true] at this
  obtain ⟨rfl,rfl⟩ := this
  exact ⟨a2 rfl,a1,b3 rfl,b1,b2⟩
 have clip : z6 n x.Id = some (if x.Id > 2147483647 then 2147483647 else if x.Id < -2147483648 then -2147483648 else x.Id) := by
  unfold z6
  by_cases h1 : x.Id > 2147483647
  ·rw [decide_eq_true h1,if_pos h1]; rfl
  ·rw [decide_eq_false h1,if_neg h1]
   by_cases h2 : x.Id < -2147483648
   ·rw [decide_eq_true h2,if_pos h2]; rfl
   ·rw [decide_eq_false h2,if_neg h2]; rfl
 have hI : ((if x.Id > 2147483647 then (2147483647 : Int) else if x.Id < -2147483648 then -2147483648 else x.Id) == x.Id) = (decide (-2147483648 ≤ x.Id) && decide (x.Id ≤ 2147483647)) := by
  by_cases hI : -2147483648 ≤ x.Id ∧ x.Id ≤ 2147483647
  ·rw [if_neg (by omega),if_neg (by omega),decide_eq_true hI.1,decide_eq_true hI.2,beq_self_eq_true]; rfl
  ·have : (decide (-2147483648 ≤ x.Id) && decide (x.Id ≤ 2147483647)) = false := by
    simp only [Bool.and_eq_false_iff,decide_eq_false_iff_not]; omega
   rw [this,beq_eq_false_iff_ne]
   split
   ·omega
   ·split <;> omega
 have hLl : decide ((x.Binds.length : Int) ≤ 10) = decide (x.Binds.length ≤ 10) := by
  by_cases hl : x.Binds.length ≤ 10
  ·rw [decide_eq_true hl,decide_eq_true (by omega)]
  ·rw [decide_eq_false hl,decide_eq_false (by omega)]
 unfold Qf QX
 simp only [l1,Zq,qq,Q6,clip,hI,qf,Option.bind_some,qn,q8,q7,l2,Zl,Zu,QY,hLl]
 generalize hi : (decide (-2147483648 ≤ x.Id) && decide (x.Id ≤ 2147483647)) = i
 generalize hl : decide (x.Binds.length ≤ 10) = l
 have wrapup : ∀ (a : Bool),(a = true → (0 ≤ x.A ∧ x.A ≤ 1000) ∧ (0 ≤ x.B ∧ x.B ≤ 1000)) → (160 ≤ x.Ki ∧ x.Ki ≤ 165) → (A && (a && (i && l))) = true → zDd n x := fun a ha hK h => by
  simp only [Bool.and_eq_true] at h
  obtain ⟨h1,h2,h3,h4⟩ := h
  rw [h3] at hi
  rw [h4,decide_eq_true_eq] at hl
  simp only [Bool.and_eq_true,decide_eq_true_eq] at hi
  exact ⟨hK,hi,(ha h2).1,(ha h2).2,hl,good h1 hl⟩
 have kA : ∀ K : Int,x.Ki = K → (K = 160 ∨ K = 161 ∨ K = 163) → (160 ≤ x.Ki ∧ x.Ki ≤ 165) := fun K h1 h2 => by omega
 have hz : ((x.A == 0) && (x.B == 0)) = true → (0 ≤ x.A ∧ x.A ≤ 1000) ∧ (0 ≤ x.B ∧ x.B ≤ 1000) := fun h => by
  simp only [Bool.and_eq_true,beq_iff_eq] at h; omega
 have hr : ((decide (0 ≤ x.A) && decide (x.A ≤ 1000)) && (decide (0 ≤ x.B) && decide (x.B ≤ 1000))) = true → (0 ≤ x.A ∧ x.A ≤ 1000) ∧ (0 ≤ x.B ∧ x.B ≤ 1000) := fun h => by
  simp only [Bool.and_eq_true,decide_eq_true_eq] at h; exact h
 have noC : (160 ≤ x.Ki ∧ x.Ki ≤ 165) → x.Ki = 160 ∨ x.Ki = 161 ∨ x.Ki = 163 → ∃ b,b = (A && (((x.A == 0) && (x.B == 0)) && (i && l))) ∧ (b = true → zDd n x) := fun hK _ => ⟨_,rfl,wrapup _ hz hK⟩
 have a0 : x.A = 0 → (decide (0 ≤ x.A) && decide (x.A ≤ 1000)) = true := fun h => by rw [h]; rfl
 have b0 : x.B = 0 → (decide (0 ≤ x.B) && decide (x.B ≤ 1000)) = true := fun h => by rw [h]; rfl
 have bneA : (x.A != 0) = !(x.A == 0) := rfl
 have bneB : (x.B != 0) = !(x.B == 0) := rfl
 have eA : ∀ q : Bool,(x.A == 0) = q → (q = true → x.A = 0) := fun q h hq => by rw [hq] at h; simpa using h
 have eB : ∀ q : Bool,(x.B == 0) = q → (q = true → x.B = 0) := fun q h hq => by rw [hq] at h; simpa using h
 by_cases hk : x.Ki = 160 ∨ x.Ki = 161 ∨ x.Ki = 163
 ·refine ⟨_,?_,?_,wrapup ((x.A == 0) && (x.B == 0)) hz (by omega)⟩
  ·have e1 : (x.Ki != 162) = true := by rw [bne_iff_ne]; omega
   have e2 : (x.Ki != 165) = true := by rw [bne_iff_ne]; omega
   rw [e1,e2,bneA,bneB]
   cases hA0 : (x.A == 0) with
   | false => cases A <;> cases hB0 : (x.B == 0) <;> rcases hk with hk | hk | hk <;> simp [hk]
   | true =>
    cases hB0 : (x.B == 0) with
    | false => cases A <;> rcases hk with hk | hk | hk <;> simp [hk]
    | true =>
     rw [a0 (eA _ hA0 rfl),b0 (eB _ hB0 rfl)]
     cases A <;> cases i <;> cases l <;> rcases hk with hk | hk | hk <;> simp [hk]
  ·rw [bneA,bneB]
   cases hA0 : (x.A == 0) <;> cases hB0 : (x.B == 0) <;> cases A <;> cases i <;> cases l <;> rcases hk with hk | hk | hk <;> simp [hk]
 ·have e160 : (x.Ki == 160) = false := by rw [beq_eq_false_iff_ne]; omega
  have e161 : (x.Ki == 161) = false := by rw [beq_eq_false_iff_ne]; omega
  have e163 : (x.Ki == 163) = false := by rw [beq_eq_false_iff_ne]; omega
  rw [e160,e161,e163]
  by_cases hk2 : x.Ki = 162 ∨ x.Ki = 165
  ·refine ⟨_,?_,?_,wrapup ((decide (0 ≤ x.A) && decide (x.A ≤ 1000)) && (decide (0 ≤ x.B) && decide (x.B ≤ 1000))) hr (by omega)⟩
   ·generalize (decide (0 ≤ x.A) && decide (x.A ≤ 1000)) = a
    generalize (decide (0 ≤ x.B) && decide (x.B ≤ 1000)) = b
    cases A <;> cases a <;> cases b <;> cases i <;> cases l <;> rcases hk2 with hk2 | hk2 <;> simp [hk2]
   ·generalize (decide (0 ≤ x.A) && decide (x.A ≤ 1000)) = a
    generalize (decide (0 ≤ x.B) && decide (x.B ≤ 1000)) = b
    cases A <;> cases a <;> cases b <;> cases i <;> cases l <;> rcases hk2 with hk2 | hk2 <;> simp [hk2]
  ·have e162 : (x.Ki == 162) = false := by rw [beq_eq_false_iff_ne]; omega
   have e165 : (x.Ki == 165) = false := by rw [beq_eq_false_iff_ne]; omega
   have n162 : (x.Ki != 162) = true := by rw [bne_iff_ne]; omega
   have n165 : (x.Ki != 165) = true := by rw [bne_iff_ne]; omega
   rw [e162,e165,n162,n165]
   refine ⟨false,?_,rfl,fun h => by cases h⟩
   rw [bneA,bneB]
   cases A <;> cases (x.A == 0) <;> cases (x.B == 0) <;> rfl
def Jv (v : zC) : Nat := qX (qX (qU v.O) + qX (QJ v.V))
def Qp : List zC → Nat
 | [] => 0
 | v :: vs => Jv v + Qp vs
theorem JX {o : List zC} {k : Nat} (hk : k < o.length) : Qp (o.drop k) = Jv o[k] + Qp (o.drop (k + 1)) := by
 rw [List.drop_eq_getElem_cons hk]
 rfl
theorem qw (k : Nat) : k + 2 ≤ qX k ∧ qX k ≤ k + 3 := by
 unfold qX
 split <;> omega
theorem zBN {v : Val} (h : zAZ v) : QJ v ≤ 30 := by
 unfold QJ
 have := ZX v.N
 rcases h with ⟨k,_⟩ | ⟨k,h1⟩ | ⟨k,h1⟩ | k | k | k
 ·rw [if_pos k]; omega
 ·rw [if_neg (by omega),if_pos k]; omega
 ·have := Qw v.O
  have := h1.2.2
  rw [if_neg (by omega),if_neg (by omega),if_pos k]; omega
 all_goals rw [if_neg (by omega),if_neg (by omega),if_neg (by omega)]; omega
theorem zCG (n : Nat) (hn : 1048577 < n) (x : Pdu) (h : x.sz ≤ 1048576) : ∃ ys zs,QH n x = some ys ∧ QA n x = some zs ∧ ys.length = zs.length := by
 obtain ⟨b,b1,b2,b3⟩ := zCw n hn x h
 unfold QH QA
 rw [b1,b2,Option.bind_some,Option.bind_some]
 cases b with
 | false => exact ⟨_,_,rfl,rfl,rfl⟩
 | true =>
  obtain ⟨hK,hI,hA,hB,h10,hv⟩ := b3 rfl
  have sb : ∀ (m k : Nat) (ys : List Int),k ≤ x.Binds.length → x.Binds.length < m + k → ys.length ≤ 100 * k → ∃ zs,qG n m x.Binds k ys = some (.inl zs) ∧ zs.length = ys.length + Qp (x.Binds.drop k) ∧ zs.length ≤ 1000 := fun m => by
   induction m with
   | zero => intro k ys h1 h2; omega
   | succ m ih =>
    intro k ys h1 h2 hl
    rw [qG]
    by_cases hk : k < x.Binds.length
    ·obtain ⟨o1,o2,v1,v2,v3⟩ := hv _ (List.getElem_mem hk)
     obtain ⟨a,a1,a2⟩ := Yg n (by omega) _ o1 o2
     have hol := Qw x.Binds[k].O
     have hol2 := o1.2.2
     have hvl := zBN v1
     have ht1 := qw (qU x.Binds[k].O)
     have ht2 := qw (QJ x.Binds[k].V)
     have ht3 := qw (qX (qU x.Binds[k].O) + qX (QJ x.Binds[k].V))
     obtain ⟨c,c1,c2⟩ := zc n [] 6 a (by simp) (by omega) (by omega) (by omega)
     simp only [List.length_nil,Nat.zero_add] at c2
     rw [a2] at c2
     obtain ⟨d,d1,d2⟩ := zAX n (by omega) c x.Binds[k].V (by omega) v1 v2
     rw [c2] at d2
     obtain ⟨e,e1,e2⟩ := zc n ys 48 d (by omega) (by omega) (by omega) (by omega)
     rw [d2] at e2
     obtain ⟨zs,f1,f2,f3⟩ := ih (k + 1) e (by omega) (by omega) (by omega)
     rw [Qu hk,cond_true,qk hk,Option.bind_some,a1,Option.bind_some,c1,Option.bind_some,Option.bind_some,d1,Option.bind_some,e1,Option.bind_some,QK (by omega : k ≤ 1099511627776)]
     exact ⟨zs,f1,by rw [f2,e2,JX hk]; unfold Jv; omega,f3⟩
    ·obtain rfl : k = x.Binds.length := by omega
     rw [QE]
     exact ⟨ys,rfl,by simp [Qp],by omega⟩
  have ib : ∀ (m k : Nat) (ys : List Int),k ≤ x.Binds.length → x.Binds.length < m + k → ys.length ≤ 100 * k → ∃ zs,qO n m x k ys = some (.inl zs) ∧ zs.length = ys.length + Qp (x.Binds.drop k) ∧ zs.length ≤ 1000 := fun m => by
   induction m with
   | zero => intro k ys h1 h2; omega
   | succ m ih =>
    intro k ys h1 h2 hl
    rw [qO]
    by_cases hk : k < x.Binds.length
    ·obtain ⟨o1,o2,v1,v2,v3⟩ := hv _ (List.getElem_mem hk)
     obtain ⟨a,a1,a2⟩ := Yd n (by omega) _ o1 o2
     have hol := Qw x.Binds[k].O
     have hol2 := o1.2.2
     have hvl := zBN v1
     have ht1 := qw (qU x.Binds[k].O)
     have ht2 := qw (QJ x.Binds[k].V)
     have ht3 := qw (qX (qU x.Binds[k].O) + qX (QJ x.Binds[k].V))
     obtain ⟨c,c1,c2⟩ := z3 n [] 6 a (by simp) (by omega) (by omega) (by omega)
     simp only [List.length_nil,Nat.zero_add] at c2
     rw [a2] at c2
     obtain ⟨d,d1,d2⟩ := zAO n (by omega) c x.Binds[k].V (by omega) v1 v3
     rw [c2] at d2
     obtain ⟨e,e1,e2⟩ := (Ql n 48 d (by omega) (by omega)).1 (by omega)
     rw [d2] at e2
     obtain ⟨zs,f1,f2,f3⟩ := ih (k + 1) (ys ++ e) (by omega) (by omega) (by rw [List.length_append]; omega)
     rw [Qu hk,cond_true,qk hk,Option.bind_some,a1,Option.bind_some,c1,Option.bind_some,d1,Option.bind_some,e1,Option.bind_some]
     simp only [Bool.not_true,cond_false]
     rw [decide_eq_true (by omega),cond_true,QK (by omega : k ≤ 1099511627776)]
     exact ⟨zs,f1,by rw [f2,List.length_append,e2,JX hk]; unfold Jv; omega,f3⟩
    ·obtain rfl : k = x.Binds.length := by omega
     rw [QE]
     exact ⟨ys,rfl,by simp [Qp],by omega⟩
  obtain ⟨r,r1,r2,r3⟩ := sb n 0 [] (by omega) (by omega) (by simp)
  obtain ⟨s,s1,s2,s3⟩ := ib n 0 [] (by omega) (by omega) (by simp)
  simp only [List.length_nil,Nat.zero_add,List.drop_zero] at r2 s2
  have sl : Zs n x.Binds = some r := by
   unfold Zs
   rw [show qG n n x.Binds 0 [] = _ from r1]
   rfl
  rw [show qO n n x 0 [] = _ from s1]
  unfold Q5
  simp only [Bool.not_true,cond_false,sl,Option.bind_some,ZN]
  have tl := Ql n 48 s (by omega) (by omega)
  by_cases hbig : 250 < r.length
  ·rw [decide_eq_true (show (r.length : Int) > 250 by omega),cond_true,Option.bind_some,tl.2 (by omega),Option.bind_some]
   exact ⟨_,_,rfl,rfl,rfl⟩
  ·obtain ⟨t,t1,t2⟩ := tl.1 (by omega)
   rw [decide_eq_false (show ¬ (r.length : Int) > 250 by omega),cond_false,t1,Option.bind_some]
   have i1 := ZX x.Id
   have i2 := ZX x.A
   have i3 := ZX x.B
   have j1 := qw (ZQ x.Id)
   have j2 := qw (ZQ x.A)
   have j3 := qw (ZQ x.B)
   have j4 := qw r.length
   obtain ⟨a1,A1,B1⟩ := Zg n (by omega) x.Id hI.1 hI.2
   obtain ⟨a2,A2,B2⟩ := zc n [] 2 a1 (by simp) (by omega) (by omega) (by omega)
   obtain ⟨a3,A3,B3⟩ := Zg n (by omega) x.A (by omega) (by omega)
   simp only [List.length_nil,Nat.zero_add] at B2
   rw [B1] at B2
   obtain ⟨a4,A4,B4⟩ := zc n a2 2 a3 (by omega) (by omega) (by omega) (by omega)
   rw [B2,B3] at B4
   obtain ⟨a5,A5,B5⟩ := Zg n (by omega) x.B (by omega) (by omega)
   obtain ⟨a6,A6,B6⟩ := zc n a4 2 a5 (by omega) (by omega) (by omega) (by omega)
   rw [B4,B5] at B6
   obtain ⟨a7,A7,B7⟩ := zc n a6 48 r (by omega) (by omega) (by omega) (by omega)
   rw [B6] at B7
   obtain ⟨c1,C1,D1⟩ := Zd n (by omega) x.Id hI.1 hI.2
   obtain ⟨c2,C2,D2⟩ := z3 n [] 2 c1 (by simp) (by omega) (by omega) (by omega)
   obtain ⟨c3,C3,D3⟩ := Zd n (by omega) x.A (by omega) (by omega)
   simp only [List.length_nil,Nat.zero_add] at D2
   rw [D1] at D2
   obtain ⟨c4,C4,D4⟩ := z3 n c2 2 c3 (by omega) (by omega) (by omega) (by omega)
   rw [D2,D3] at D4
   obtain ⟨c5,C5,D5⟩ := Zd n (by omega) x.B (by omega) (by omega)
   obtain ⟨c6,C6,D6⟩ := z3 n c4 2 c5 (by omega) (by omega) (by omega) (by omega)
   rw [D4,D5] at D6
   have hrs : r.length = s.length := by omega
   have hE : a7.length = (c6 ++ t).length := by rw [B7,List.length_append,D6,t2,hrs]
   have fin := Ql n x.Ki (c6 ++ t) (by omega) (by omega)
   simp only [A1,A2,A3,A4,A5,A6,A7,ZP,C1,C2,C3,C4,C5,C6,Option.bind_some,Bool.not_true,cond_false]
   have hsum : c6.length + t.length ≤ 268435456 := by rw [← List.length_append,← hE]; omega
   rw [decide_eq_true hsum,cond_true]
   by_cases hb : a7.length ≤ 250
   ·obtain ⟨f,f1,f2⟩ := fin.1 (by omega)
    obtain ⟨g,g1,g2⟩ := zc n [] x.Ki a7 (by simp) (by omega) (by omega) hb
    rw [decide_eq_true (show (a7.length : Int) ≤ 250 by omega),f1]
    simp only [Bool.not_true,cond_false,g1,Option.bind_some]
    exact ⟨_,_,rfl,rfl,by rw [g2,f2,hE]; simp⟩
   ·rw [decide_eq_false (show ¬ (a7.length : Int) ≤ 250 by omega),fin.2 (by omega)]
    exact ⟨_,_,rfl,rfl,rfl⟩
theorem Yu (x0 : Pdu) (w0 : x0.wf) : ∃ n,ZI n x0 = some true := by
 refine ⟨1048800,?_⟩
 obtain ⟨r,e,k⟩ := zA3 1048800 (x := x0) (b := 1048576) (by decide) (by decide) (by decide) w0
 simp only [ZI,e,Option.bind_some]
 rcases k.neg with ⟨c1,_⟩ | ⟨c1,c2,c3⟩
 ·rw [c1]; rfl
 ·obtain ⟨ys,zs,h1,h2,h3⟩ := zCG 1048800 (by decide) x0 (by omega)
  simp only [c1,cond_false,zA5 1048800 x0 (by omega) (by omega),Option.bind_some,YV,YQ,h1,h2,QY,qf,h3,beq_self_eq_true,zAR 1048800 x0 (by omega) (by omega),Bool.not_true]
end Go.Proofs.Ytajadnlejdpceaa.Tw
